/- What each function of the program answers: one step of the plain machine, by the kernel. -/
import Derived.Test.YtjgpacfhokpfdaaEFnExactWordPack
set_option linter.unusedVariables false
set_option maxRecDepth 1000000
set_option maxHeartbeats 0
namespace Go.Proofs.Ytjgpacfhokpfdaa.SFnExactWordPack
open Go Go.Sx Go.Proofs
noncomputable def laws_szIntS (k : Nat) (a0 : V_sl_int) (a1 : V_int) : Option V_int := evalT E k 98 t_int [inp t_sl_int a0, inp t_int a1] []
theorem laws_szIntS_eq (k : Nat) (a0 : V_sl_int) (a1 : V_int) : laws_szIntS (k + 1) a0 a1 = 
 cond (decide (IntKind.i64.wrap (a1 - (↑(List.length a0) : Int)) < 0)) (some (-1)) (some (IntKind.i64.wrap (a1 - (↑(List.length a0) : Int)))) := by kernel_rfl

noncomputable def laws_szEventS (k : Nat) (a0 : V_sl_laws_Event) (a1 : V_int) : Option V_int := evalT E k 21 t_int [inp t_sl_laws_Event a0, inp t_int a1] []
theorem laws_szEventS_eq (k : Nat) (a0 : V_sl_laws_Event) (a1 : V_int) : laws_szEventS (k + 1) a0 a1 = 
 cond (decide (IntKind.i64.wrap (a1 - (↑(List.length a0) : Int)) < 0)) (some (-1)) (some (IntKind.i64.wrap (a1 - (↑(List.length a0) : Int)))) := by kernel_rfl

noncomputable def laws_szOutS (k : Nat) (a0 : V_sl_laws_Out) (a1 : V_int) : Option V_int := evalT E k 99 t_int [inp t_sl_laws_Out a0, inp t_int a1] []
theorem laws_szOutS_eq (k : Nat) (a0 : V_sl_laws_Out) (a1 : V_int) : laws_szOutS (k + 1) a0 a1 = 
 cond (decide (IntKind.i64.wrap (a1 - (↑(List.length a0) : Int)) < 0)) (some (-1)) (some (IntKind.i64.wrap (a1 - (↑(List.length a0) : Int)))) := by kernel_rfl

noncomputable def laws_szWord (k : Nat) (a0 : V_laws_Word) (a1 : V_int) : Option V_int := evalT E k 41 t_int [inp t_laws_Word a0, inp t_int a1] []
theorem laws_szWord_eq (k : Nat) (a0 : V_laws_Word) (a1 : V_int) : laws_szWord (k + 1) a0 a1 = 
 (laws_szIntS k a0.2.2.2.2.2.2.2.1 a1).bind fun x0 => 
  cond (decide (x0 < 0)) (some (-1)) (
   (laws_szIntS k a0.2.2.2.2.2.2.2.2.1 x0).bind fun x1 => 
    cond (decide (x1 < 0)) (some (-1)) (
     (laws_szEventS k a0.2.2.2.2.2.2.2.2.2.1 x1).bind fun x2 => 
      cond (decide (x2 < 0)) (some (-1)) (
       (laws_szOutS k a0.2.2.2.2.2.2.2.2.2.2 x2).bind fun x3 => 
        cond (decide (x3 < 0)) (some (-1)) (some x3)))) := by kernel_rfl

noncomputable def laws_toIntS (k : Nat) (a0 : V_sl_int) : Option (List V_int) := evalT E k 100 (.ow 3 t_int) [inp t_sl_int a0] []
noncomputable def laws_toIntS_3 (k : Nat) (j : Nat) (y0 : List V_int) (y1 : Int) (y2 : List V_int) : Option (List V_int) := loopAt E 100 (.ow 3 t_int) [true, true, false, true, false] [] [] k [] j (mkS 22 [(0, .c (.sl 3 t_int y0)), (3, .c (.o 0)), (4, .c (.int .i64 y1))]) [some (.own 3 t_int y2)]
theorem laws_toIntS_eq (k : Nat) (a0 : V_sl_int) : laws_toIntS (k + 1) a0 = 
 cond (decide ((↑(List.length a0) : Int) ≤ (↑(List.length a0) : Int))) (
  cond (decide ((↑(List.length a0) : Int).toNat * 8 ≤ 140737488351232)) (laws_toIntS_3 k k a0 0 (List.replicate (↑(List.length a0) : Int).toNat (dflt t_int))) (none)) (none) := by kernel_rfl
theorem laws_toIntS_3_eq (k : Nat) (j : Nat) (y0 : List V_int) (y1 : Int) (y2 : List V_int) : laws_toIntS_3 k (j + 1) y0 y1 y2 = 
 cond (decide (y1 < (↑y0.length : Int))) (
  cond (decide (0 ≤ y1)) (
   cond (decide (y1 < (↑y0.length : Int))) (
    cond (decide (0 ≤ y1)) (
     cond (decide (y1 < (↑y2.length : Int))) (
      cond (decide (y1.toNat < y2.length)) (laws_toIntS_3 k j y0 (IntKind.i64.wrap (y1 + 1)) (y2.set y1.toNat (y0.getD y1.toNat (dflt t_int)))) (none)) (none)) (none)) (none)) (none)) (some y2) := by kernel_rfl

noncomputable def laws_toEvent (k : Nat) (a0 : V_laws_Event) : Option ((V_int × (V_int × (V_int × (V_int × (V_int × (V_int × V_int))))))) := evalT E k 74 (.pair t_int (.pair t_int (.pair t_int (.pair t_int (.pair t_int (.pair t_int t_int)))))) [inp t_laws_Event a0] []
theorem laws_toEvent_eq (k : Nat) (a0 : V_laws_Event) : laws_toEvent (k + 1) a0 = some (a0.1, a0.2.1, a0.2.2.1, a0.2.2.2.1, a0.2.2.2.2.1, a0.2.2.2.2.2.1,
  a0.2.2.2.2.2.2) := by kernel_rfl

noncomputable def laws_toEventS (k : Nat) (a0 : V_sl_laws_Event) : Option (List V_impl_Event) := evalT E k 23 (.ow 41 t_impl_Event) [inp t_sl_laws_Event a0] []
noncomputable def laws_toEventS_3 (k : Nat) (j : Nat) (y0 : List V_laws_Event) (y1 : Int) (y2 : List V_impl_Event) : Option (List V_impl_Event) := loopAt E 23 (.ow 41 t_impl_Event) [true, true, false, true, false] [] [] k [] j (mkS 23 [(0, .c (.sl 103 t_laws_Event y0)), (3, .c (.o 0)), (4, .c (.int .i64 y1))]) [some (.own 41 t_impl_Event y2)]
theorem laws_toEventS_eq (k : Nat) (a0 : V_sl_laws_Event) : laws_toEventS (k + 1) a0 = 
 cond (decide ((↑(List.length a0) : Int) ≤ (↑(List.length a0) : Int))) (
  cond (decide ((↑(List.length a0) : Int).toNat * 56 ≤ 140737488351232)) (laws_toEventS_3 k k a0 0 (List.replicate (↑(List.length a0) : Int).toNat (dflt t_impl_Event))) (none)) (none) := by kernel_rfl
theorem laws_toEventS_3_eq (k : Nat) (j : Nat) (y0 : List V_laws_Event) (y1 : Int) (y2 : List V_impl_Event) : laws_toEventS_3 k (j + 1) y0 y1 y2 = 
 cond (decide (y1 < (↑y0.length : Int))) (
  cond (decide (0 ≤ y1)) (
   cond (decide (y1 < (↑y0.length : Int))) (
    (laws_toEvent k (y0.getD y1.toNat (dflt t_laws_Event))).bind fun x0 => 
     cond (decide (0 ≤ y1)) (
      cond (decide (y1 < (↑y2.length : Int))) (
       cond (decide (y1.toNat < y2.length)) (laws_toEventS_3 k j y0 (IntKind.i64.wrap (y1 + 1)) (y2.set y1.toNat
  (x0.1, x0.2.1, x0.2.2.1, x0.2.2.2.1, x0.2.2.2.2.1, x0.2.2.2.2.2.1,
    x0.2.2.2.2.2.2))) (none)) (none)) (none)) (none)) (none)) (some y2) := by kernel_rfl

noncomputable def laws_toOut (k : Nat) (a0 : V_laws_Out) : Option ((V_int × (V_int × (V_int × (V_int × V_int))))) := evalT E k 149 (.pair t_int (.pair t_int (.pair t_int (.pair t_int t_int)))) [inp t_laws_Out a0] []
theorem laws_toOut_eq (k : Nat) (a0 : V_laws_Out) : laws_toOut (k + 1) a0 = some (a0.1, a0.2.1, a0.2.2.1, a0.2.2.2.1, a0.2.2.2.2) := by kernel_rfl

noncomputable def laws_toOutS (k : Nat) (a0 : V_sl_laws_Out) : Option (List V_impl_Out) := evalT E k 101 (.ow 111 t_impl_Out) [inp t_sl_laws_Out a0] []
noncomputable def laws_toOutS_3 (k : Nat) (j : Nat) (y0 : List V_laws_Out) (y1 : Int) (y2 : List V_impl_Out) : Option (List V_impl_Out) := loopAt E 101 (.ow 111 t_impl_Out) [true, true, false, true, false] [] [] k [] j (mkS 23 [(0, .c (.sl 172 t_laws_Out y0)), (3, .c (.o 0)), (4, .c (.int .i64 y1))]) [some (.own 111 t_impl_Out y2)]
theorem laws_toOutS_eq (k : Nat) (a0 : V_sl_laws_Out) : laws_toOutS (k + 1) a0 = 
 cond (decide ((↑(List.length a0) : Int) ≤ (↑(List.length a0) : Int))) (
  cond (decide ((↑(List.length a0) : Int).toNat * 40 ≤ 140737488351232)) (laws_toOutS_3 k k a0 0 (List.replicate (↑(List.length a0) : Int).toNat (dflt t_impl_Out))) (none)) (none) := by kernel_rfl
theorem laws_toOutS_3_eq (k : Nat) (j : Nat) (y0 : List V_laws_Out) (y1 : Int) (y2 : List V_impl_Out) : laws_toOutS_3 k (j + 1) y0 y1 y2 = 
 cond (decide (y1 < (↑y0.length : Int))) (
  cond (decide (0 ≤ y1)) (
   cond (decide (y1 < (↑y0.length : Int))) (
    (laws_toOut k (y0.getD y1.toNat (dflt t_laws_Out))).bind fun x0 => 
     cond (decide (0 ≤ y1)) (
      cond (decide (y1 < (↑y2.length : Int))) (
       cond (decide (y1.toNat < y2.length)) (laws_toOutS_3 k j y0 (IntKind.i64.wrap (y1 + 1)) (y2.set y1.toNat (x0.1, x0.2.1, x0.2.2.1, x0.2.2.2.1, x0.2.2.2.2))) (none)) (none)) (none)) (none)) (none)) (some y2) := by kernel_rfl

noncomputable def laws_toWord (k : Nat) (a0 : V_laws_Word) : Option ((V_int × (V_int × (V_int × (V_int × (V_int × (V_int × (V_int × (List V_int × (List V_int × (List V_impl_Event × List V_impl_Out))))))))))) := evalT E k 42 (.pair t_int (.pair t_int (.pair t_int (.pair t_int (.pair t_int (.pair t_int (.pair t_int (.pair (.ow 3 t_int) (.pair (.ow 3 t_int) (.pair (.ow 41 t_impl_Event) (.ow 111 t_impl_Out))))))))))) [inp t_laws_Word a0] []
theorem laws_toWord_eq (k : Nat) (a0 : V_laws_Word) : laws_toWord (k + 1) a0 = 
 (laws_toIntS k a0.2.2.2.2.2.2.2.1).bind fun x0 => 
  (laws_toIntS k a0.2.2.2.2.2.2.2.2.1).bind fun x1 => 
   (laws_toEventS k a0.2.2.2.2.2.2.2.2.2.1).bind fun x2 => 
    (laws_toOutS k a0.2.2.2.2.2.2.2.2.2.2).bind fun x3 => some (a0.1, a0.2.1, a0.2.2.1, a0.2.2.2.1, a0.2.2.2.2.1, a0.2.2.2.2.2.1,
  a0.2.2.2.2.2.2.1, x0, x1, x2, x3) := by kernel_rfl

noncomputable def spec_l6In (k : Nat) (a0 : V_int) (a1 : V_int) (a2 : V_int) : Option V_bool := evalT E k 88 t_bool [inp t_int a0, inp t_int a1, inp t_int a2] []
theorem spec_l6In_eq (k : Nat) (a0 : V_int) (a1 : V_int) (a2 : V_int) : spec_l6In (k + 1) a0 a1 a2 = 
 cond (decide (a0 ≥ a1)) (some (decide (a0 ≤ a2))) (some false) := by kernel_rfl

noncomputable def spec_l22Max (k : Nat) : Option V_int := evalT E k 89 t_int [] []
theorem spec_l22Max_eq (k : Nat) : spec_l22Max (k + 1) = some 9999 := by kernel_rfl

noncomputable def spec_l23List (k : Nat) (a0 : V_sl_int) : Option V_bool := evalT E k 90 t_bool [inp t_sl_int a0] []
noncomputable def spec_l23List_4 (k : Nat) (j : Nat) (y0 : List V_int) (y1 : Int) : Option V_bool := loopAt E 90 t_bool [true, true, false, true, false] [] [] k [] j (mkS 25 [(0, .c (.sl 3 t_int y0)), (3, .c (.int .i64 y1))]) []
theorem spec_l23List_eq (k : Nat) (a0 : V_sl_int) : spec_l23List (k + 1) a0 = 
 cond ((↑(List.length a0) : Int) != 0) (
  cond ((↑(List.length a0) : Int) != 3) (some false) (spec_l23List_4 k k a0 0)) (spec_l23List_4 k k a0 0) := by kernel_rfl
theorem spec_l23List_4_eq (k : Nat) (j : Nat) (y0 : List V_int) (y1 : Int) : spec_l23List_4 k (j + 1) y0 y1 = 
 cond (decide (y1 < (↑y0.length : Int))) (
  cond (decide (0 ≤ y1)) (
   cond (decide (y1 < (↑y0.length : Int))) (
    (spec_l22Max k ).bind fun x0 => 
     (spec_l6In k (y0.getD y1.toNat (dflt t_int)) 0 x0).bind fun x1 => 
      cond (!x1) (some false) (spec_l23List_4 k j y0 (IntKind.i64.wrap (y1 + 1)))) (none)) (none)) (some true) := by kernel_rfl

noncomputable def spec_l2Most (k : Nat) : Option V_int := evalT E k 61 t_int [] []
theorem spec_l2Most_eq (k : Nat) : spec_l2Most (k + 1) = some 100 := by kernel_rfl

noncomputable def spec_l1Proc (k : Nat) (a0 : V_int) : Option V_bool := evalT E k 59 t_bool [inp t_int a0] []
theorem spec_l1Proc_eq (k : Nat) (a0 : V_int) : spec_l1Proc (k + 1) a0 = 
 (spec_l6In k a0 0 3).bind fun x0 => some x0 := by kernel_rfl

noncomputable def spec_l1Num (k : Nat) (a0 : V_int) : Option V_bool := evalT E k 128 t_bool [inp t_int a0] []
theorem spec_l1Num_eq (k : Nat) (a0 : V_int) : spec_l1Num (k + 1) a0 = 
 (spec_l6In k a0 0 999).bind fun x0 => some x0 := by kernel_rfl

noncomputable def spec_l1EventOk (k : Nat) (a0 : V_impl_Event) : Option V_bool := evalT E k 129 t_bool [inp t_impl_Event a0] []
theorem spec_l1EventOk_eq (k : Nat) (a0 : V_impl_Event) : spec_l1EventOk (k + 1) a0 = 
 (spec_l6In k a0.1 0 40).bind fun x0 => 
  cond (x0) (
   (spec_l1Proc k a0.2.1).bind fun x1 => 
    cond (x1) (
     (spec_l6In k a0.2.2.1 (-1) 3).bind fun x2 => 
      cond (x2) (
       (spec_l6In k a0.2.2.2.1 0 12).bind fun x3 => 
        cond (x3) (
         (spec_l6In k a0.2.2.2.2.1 0 3).bind fun x4 => 
          cond (x4) (
           (spec_l6In k a0.2.2.2.2.2.1 0 3).bind fun x5 => 
            cond (x5) (
             (spec_l1Num k a0.2.2.2.2.2.2).bind fun x6 => some x6) (some false)) (some false)) (some false)) (some false)) (some false)) (some false) := by kernel_rfl

noncomputable def spec_EventLess (k : Nat) (a0 : V_impl_Event) (a1 : V_impl_Event) : Option V_bool := evalT E k 63 t_bool [inp t_impl_Event a0, inp t_impl_Event a1] []
theorem spec_EventLess_eq (k : Nat) (a0 : V_impl_Event) (a1 : V_impl_Event) : spec_EventLess (k + 1) a0 a1 = 
 cond (a0.1 != a1.1) (some (decide (a0.1 < a1.1))) (
  cond (a0.2.1 != a1.2.1) (some (decide (a0.2.1 < a1.2.1))) (
   cond (a0.2.2.1 != a1.2.2.1) (some (decide (a0.2.2.1 < a1.2.2.1))) (
    cond (a0.2.2.2.1 != a1.2.2.2.1) (some (decide (a0.2.2.2.1 < a1.2.2.2.1))) (
     cond (a0.2.2.2.2.1 != a1.2.2.2.2.1) (some (decide (a0.2.2.2.2.1 < a1.2.2.2.2.1))) (
      cond (a0.2.2.2.2.2.1 != a1.2.2.2.2.2.1) (some (decide (a0.2.2.2.2.2.1 < a1.2.2.2.2.2.1))) (some (decide (a0.2.2.2.2.2.2 < a1.2.2.2.2.2.2)))))))) := by kernel_rfl

noncomputable def spec_l2Events (k : Nat) (a0 : V_sl_impl_Event) (a1 : V_int) : Option V_bool := evalT E k 91 t_bool [inp t_sl_impl_Event a0, inp t_int a1] []
noncomputable def spec_l2Events_4 (k : Nat) (j : Nat) (y0 : List V_impl_Event) (y1 : Int) : Option V_bool := loopAt E 91 t_bool [true, true, false, true, false] [] [] k [] j (mkS 39 [(0, .c (.sl 41 t_impl_Event y0)), (5, .c (.int .i64 y1))]) []
theorem spec_l2Events_eq (k : Nat) (a0 : V_sl_impl_Event) (a1 : V_int) : spec_l2Events (k + 1) a0 a1 = 
 cond (decide ((↑(List.length a0) : Int) > a1)) (some false) (spec_l2Events_4 k k a0 0) := by kernel_rfl
theorem spec_l2Events_4_eq (k : Nat) (j : Nat) (y0 : List V_impl_Event) (y1 : Int) : spec_l2Events_4 k (j + 1) y0 y1 = 
 cond (decide (y1 < (↑y0.length : Int))) (
  cond (decide (0 ≤ y1)) (
   cond (decide (y1 < (↑y0.length : Int))) (
    (spec_l1EventOk k (y0.getD y1.toNat (dflt t_impl_Event))).bind fun x0 => 
     cond (!x0) (some false) (
      cond (decide (y1 > 0)) (
       cond (decide (0 ≤ IntKind.i64.wrap (y1 - 1))) (
        cond (decide (IntKind.i64.wrap (y1 - 1) < (↑y0.length : Int))) (
         cond (decide (0 ≤ y1)) (
          cond (decide (y1 < (↑y0.length : Int))) (
           (spec_EventLess k (y0.getD (IntKind.i64.wrap (y1 - 1)).toNat (dflt t_impl_Event)) (y0.getD y1.toNat (dflt t_impl_Event))).bind fun x1 => 
            cond (!x1) (some false) (spec_l2Events_4 k j y0 (IntKind.i64.wrap (y1 + 1)))) (none)) (none)) (none)) (none)) (spec_l2Events_4 k j y0 (IntKind.i64.wrap (y1 + 1))))) (none)) (none)) (some true) := by kernel_rfl

noncomputable def spec_OutLess (k : Nat) (a0 : V_impl_Out) (a1 : V_impl_Out) : Option V_bool := evalT E k 142 t_bool [inp t_impl_Out a0, inp t_impl_Out a1] []
theorem spec_OutLess_eq (k : Nat) (a0 : V_impl_Out) (a1 : V_impl_Out) : spec_OutLess (k + 1) a0 a1 = 
 cond (a0.1 != a1.1) (some (decide (a0.1 < a1.1))) (
  cond (a0.2.1 != a1.2.1) (some (decide (a0.2.1 < a1.2.1))) (
   cond (a0.2.2.1 != a1.2.2.1) (some (decide (a0.2.2.1 < a1.2.2.1))) (
    cond (a0.2.2.2.1 != a1.2.2.2.1) (some (decide (a0.2.2.2.1 < a1.2.2.2.1))) (some (decide (a0.2.2.2.2 < a1.2.2.2.2)))))) := by kernel_rfl

noncomputable def spec_l2Outs (k : Nat) (a0 : V_sl_impl_Out) (a1 : V_int) : Option V_bool := evalT E k 92 t_bool [inp t_sl_impl_Out a0, inp t_int a1] []
noncomputable def spec_l2Outs_4 (k : Nat) (j : Nat) (y0 : List V_impl_Out) (y1 : Int) : Option V_bool := loopAt E 92 t_bool [true, true, false, true, false] [] [] k [] j (mkS 63 [(0, .c (.sl 111 t_impl_Out y0)), (5, .c (.int .i64 y1))]) []
theorem spec_l2Outs_eq (k : Nat) (a0 : V_sl_impl_Out) (a1 : V_int) : spec_l2Outs (k + 1) a0 a1 = 
 cond (decide ((↑(List.length a0) : Int) > a1)) (some false) (spec_l2Outs_4 k k a0 0) := by kernel_rfl
theorem spec_l2Outs_4_eq (k : Nat) (j : Nat) (y0 : List V_impl_Out) (y1 : Int) : spec_l2Outs_4 k (j + 1) y0 y1 = 
 cond (decide (y1 < (↑y0.length : Int))) (
  cond (decide (0 ≤ y1)) (
   cond (decide (y1 < (↑y0.length : Int))) (
    (spec_l6In k ((y0.getD y1.toNat (dflt t_impl_Out)).1) 0 40).bind fun x0 => 
     cond (!x0) (some false) (
      (spec_l1Proc k ((y0.getD y1.toNat (dflt t_impl_Out)).2.1)).bind fun x1 => 
       cond (!x1) (some false) (
        (spec_l6In k ((y0.getD y1.toNat (dflt t_impl_Out)).2.2.1) 0 11).bind fun x2 => 
         cond (!x2) (some false) (
          (spec_l6In k ((y0.getD y1.toNat (dflt t_impl_Out)).2.2.2.1) 0 1).bind fun x3 => 
           cond (!x3) (some false) (
            (spec_l1Num k ((y0.getD y1.toNat (dflt t_impl_Out)).2.2.2.2)).bind fun x4 => 
             cond (!x4) (some false) (
              cond (decide (y1 > 0)) (
               cond (decide (0 ≤ IntKind.i64.wrap (y1 - 1))) (
                cond (decide (IntKind.i64.wrap (y1 - 1) < (↑y0.length : Int))) (
                 (spec_OutLess k (y0.getD (IntKind.i64.wrap (y1 - 1)).toNat (dflt t_impl_Out)) (y0.getD y1.toNat (dflt t_impl_Out))).bind fun x5 => 
                  cond (!x5) (some false) (spec_l2Outs_4 k j y0 (IntKind.i64.wrap (y1 + 1)))) (none)) (none)) (spec_l2Outs_4 k j y0 (IntKind.i64.wrap (y1 + 1))))))))) (none)) (none)) (some true) := by kernel_rfl

noncomputable def spec_WordOk (k : Nat) (a0 : V_impl_Word) : Option V_bool := evalT E k 39 t_bool [inp t_impl_Word a0] []
theorem spec_WordOk_eq (k : Nat) (a0 : V_impl_Word) : spec_WordOk (k + 1) a0 = 
 (spec_l6In k a0.1 1 7).bind fun x0 => 
  cond (x0) (
   (spec_l6In k a0.2.1 0 2).bind fun x1 => 
    cond (x1) (
     (spec_l6In k a0.2.2.1 0 2).bind fun x2 => 
      cond (x2) (
       (spec_l22Max k ).bind fun x3 => 
        (spec_l6In k a0.2.2.2.1 0 x3).bind fun x4 => 
         cond (x4) (
          (spec_l22Max k ).bind fun x5 => 
           (spec_l6In k a0.2.2.2.2.1 0 x5).bind fun x6 => 
            cond (x6) (
             (spec_l22Max k ).bind fun x7 => 
              (spec_l6In k a0.2.2.2.2.2.1 0 x7).bind fun x8 => 
               cond (x8) (
                (spec_l6In k a0.2.2.2.2.2.2.1 0 41).bind fun x9 => 
                 cond (x9) (
                  (spec_l23List k a0.2.2.2.2.2.2.2.1).bind fun x10 => 
                   cond (x10) (
                    (spec_l23List k a0.2.2.2.2.2.2.2.2.1).bind fun x11 => 
                     cond (x11) (
                      (spec_l2Most k ).bind fun x12 => 
                       (spec_l2Events k a0.2.2.2.2.2.2.2.2.2.1 x12).bind fun x13 => 
                        cond (x13) (
                         (spec_l2Outs k a0.2.2.2.2.2.2.2.2.2.2 96).bind fun x14 => some x14) (some false)) (some false)) (some false)) (some false)) (some false)) (some false)) (some false)) (some false)) (some false)) (some false) := by kernel_rfl

noncomputable def spec_l26Num_h0 (k : Nat) (y0 : V_int) (y1 : List V_uint8) : Option (List V_uint8) := evalT E k 103 (.ow 5 t_uint8) [.c (.o 0), inp t_int y0] [some (.own 5 t_uint8 y1)]
noncomputable def spec_l26Num_h0_2 (k : Nat) (j : Nat) (y0 : Int) (y1 : List V_uint8) : Option (List V_uint8) := loopAt E 103 (.ow 5 t_uint8) [true, true, false, false] [none] [] k [] j (mkS 23 [(0, .c (.o 0)), (1, .c (.int .i64 y0))]) [some (.own 5 t_uint8 y1)]
theorem spec_l26Num_h0_eq (k : Nat) (y0 : V_int) (y1 : List V_uint8) : spec_l26Num_h0 (k + 1) y0 y1 = spec_l26Num_h0_2 k k (IntKind.i64.wrap (y0 + 1)) y1 := by kernel_rfl
theorem spec_l26Num_h0_2_eq (k : Nat) (j : Nat) (y0 : Int) (y1 : List V_uint8) : spec_l26Num_h0_2 k (j + 1) y0 y1 = 
 cond (decide (y0 > 127)) (
  cond (decide ((y1.length + [IntKind.u8.wrap (IntKind.i64.wrap (128 + y0.tmod 128))].length) * 1 ≤ 140737488351232)) (spec_l26Num_h0_2 k j (IntKind.i64.wrap (y0.tdiv 128)) (y1 ++ [IntKind.u8.wrap (IntKind.i64.wrap (128 + y0.tmod 128))])) (none)) (
  cond (decide ((y1.length + [IntKind.u8.wrap y0].length) * 1 ≤ 140737488351232)) (some (y1 ++ [IntKind.u8.wrap y0])) (none)) := by kernel_rfl

noncomputable def spec_l26Nums_h0 (k : Nat) (y0 : V_sl_int) (y1 : List V_uint8) : Option (List V_uint8) := evalT E k 104 (.ow 5 t_uint8) [.c (.o 0), inp t_sl_int y0] [some (.own 5 t_uint8 y1)]
noncomputable def spec_l26Nums_h0_3 (k : Nat) (j : Nat) (y0 : List V_int) (y1 : Int) (y2 : List V_uint8) : Option (List V_uint8) := loopAt E 104 (.ow 5 t_uint8) [true, true, false, true, false] [none] [] k [] j (mkS 23 [(0, .c (.o 0)), (1, .c (.sl 3 t_int y0)), (5, .c (.int .i64 y1))]) [some (.own 5 t_uint8 y2)]
theorem spec_l26Nums_h0_eq (k : Nat) (y0 : V_sl_int) (y1 : List V_uint8) : spec_l26Nums_h0 (k + 1) y0 y1 = 
 (spec_l26Num_h0 k ((↑(List.length y0) : Int)) y1).bind fun x0 => spec_l26Nums_h0_3 k k y0 0 x0 := by kernel_rfl
theorem spec_l26Nums_h0_3_eq (k : Nat) (j : Nat) (y0 : List V_int) (y1 : Int) (y2 : List V_uint8) : spec_l26Nums_h0_3 k (j + 1) y0 y1 y2 = 
 cond (decide (y1 < (↑y0.length : Int))) (
  cond (decide (0 ≤ y1)) (
   cond (decide (y1 < (↑y0.length : Int))) (
    (spec_l26Num_h0 k (y0.getD y1.toNat (dflt t_int)) y2).bind fun x0 => spec_l26Nums_h0_3 k j y0 (IntKind.i64.wrap (y1 + 1)) x0) (none)) (none)) (some y2) := by kernel_rfl

noncomputable def spec_l26Event (k : Nat) (a0 : V_impl_Event) : Option (List V_int) := evalT E k 105 (.ow 3 t_int) [inp t_impl_Event a0] []
theorem spec_l26Event_eq (k : Nat) (a0 : V_impl_Event) : spec_l26Event (k + 1) a0 = some [a0.1, a0.2.1, a0.2.2.1, a0.2.2.2.1, a0.2.2.2.2.1, a0.2.2.2.2.2.1,
  a0.2.2.2.2.2.2] := by kernel_rfl

noncomputable def spec_l26Out (k : Nat) (a0 : V_impl_Out) : Option (List V_int) := evalT E k 106 (.ow 3 t_int) [inp t_impl_Out a0] []
theorem spec_l26Out_eq (k : Nat) (a0 : V_impl_Out) : spec_l26Out (k + 1) a0 = some [a0.1, a0.2.1, a0.2.2.1, a0.2.2.2.1, a0.2.2.2.2] := by kernel_rfl

noncomputable def spec_WordPack (k : Nat) (a0 : V_impl_Word) : Option (List V_uint8) := evalT E k 44 (.ow 5 t_uint8) [inp t_impl_Word a0] []
noncomputable def spec_WordPack_6 (k : Nat) (j : Nat) (y0 : Int) (y1 : V_impl_Word) (y2 : List V_uint8) (y3 : List V_int) : Option (List V_uint8) := loopAt E 44 (.ow 5 t_uint8) [true, true, true, true, false, true, false] [] [] k [] j (mkS 112 [(1, .c (.p 0 0)), (3, .c (.o 1)), (4, .c (.o 2)), (5, .c (.int .i64 y0))]) [some (.box 62 (cells t_impl_Word y1)), some (.own 5 t_uint8 y2), some (.own 3 t_int y3)]
noncomputable def spec_WordPack_12 (k : Nat) (j : Nat) (y0 : Int) (y1 : V_impl_Word) (y2 : List V_uint8) : Option (List V_uint8) := loopAt E 44 (.ow 5 t_uint8) [true, true, true, true, true, true, true, false, true, false] [] [] k [] j (mkS 112 [(1, .c (.p 0 0)), (3, .c (.o 1)), (6, .c (.int .i64 y0))]) [some (.box 62 (cells t_impl_Word y1)), some (.own 5 t_uint8 y2)]
noncomputable def spec_WordPack_16 (k : Nat) (j0 : Nat) (j : Nat) (y0 : Int) (y1 : Int) (y2 : V_impl_Word) (y3 : List V_uint8) (y4 : List V_int) : Option (List V_uint8) := loopAt E 44 (.ow 5 t_uint8) [true, true, true, true, true, true, true, false, true, false, false, true, false, false, true, true, false] [] [] k [j0] j (mkS 112 [(1, .c (.p 0 0)), (3, .c (.o 1)), (6, .c (.int .i64 y0)), (7, .c (.o 2)), (8, .c (.int .i64 y1))]) [some (.box 62 (cells t_impl_Word y2)), some (.own 5 t_uint8 y3), some (.own 3 t_int y4)]
noncomputable def spec_WordPack_21 (k : Nat) (j : Nat) (y0 : Int) (y1 : V_impl_Word) (y2 : List V_uint8) : Option (List V_uint8) := loopAt E 44 (.ow 5 t_uint8) [true, true, true, true, true, true, true, true, true, false, true, false] [] [] k [] j (mkS 112 [(1, .c (.p 0 0)), (3, .c (.o 1)), (9, .c (.int .i64 y0))]) [some (.box 62 (cells t_impl_Word y1)), some (.own 5 t_uint8 y2)]
noncomputable def spec_WordPack_25 (k : Nat) (j0 : Nat) (j : Nat) (y0 : Int) (y1 : Int) (y2 : V_impl_Word) (y3 : List V_uint8) (y4 : List V_int) : Option (List V_uint8) := loopAt E 44 (.ow 5 t_uint8) [true, true, true, true, true, true, true, true, true, false, true, false, false, true, false, false, true, true, false] [] [] k [j0] j (mkS 112 [(1, .c (.p 0 0)), (3, .c (.o 1)), (9, .c (.int .i64 y0)), (10, .c (.o 2)), (11, .c (.int .i64 y1))]) [some (.box 62 (cells t_impl_Word y2)), some (.own 5 t_uint8 y3), some (.own 3 t_int y4)]
theorem spec_WordPack_eq (k : Nat) (a0 : V_impl_Word) : spec_WordPack (k + 1) a0 = 
 (spec_WordOk k a0).bind fun x0 => 
  cond (!x0) (some []) (spec_WordPack_6 k k 0 a0 [] [a0.1, a0.2.1, a0.2.2.1, a0.2.2.2.1, a0.2.2.2.2.1, a0.2.2.2.2.2.1,
  a0.2.2.2.2.2.2.1]) := by kernel_rfl
theorem spec_WordPack_6_eq (k : Nat) (j : Nat) (y0 : Int) (y1 : V_impl_Word) (y2 : List V_uint8) (y3 : List V_int) : spec_WordPack_6 k (j + 1) y0 y1 y2 y3 = 
 cond (decide (y0 < (↑y3.length : Int))) (
  cond (decide (0 ≤ y0)) (
   cond (decide (y0 < (↑y3.length : Int))) (
    cond (decide (y0.toNat < y3.length)) (
     (spec_l26Num_h0 k (y3.getD y0.toNat (dflt t_int)) y2).bind fun x0 => spec_WordPack_6 k j (IntKind.i64.wrap (y0 + 1)) y1 x0 y3) (none)) (none)) (none)) (
  (spec_l26Nums_h0 k y1.2.2.2.2.2.2.2.1 y2).bind fun x1 => 
   (spec_l26Nums_h0 k y1.2.2.2.2.2.2.2.2.1 x1).bind fun x2 => 
    (spec_l26Num_h0 k ((↑(List.length y1.2.2.2.2.2.2.2.2.2.1) : Int)) x2).bind fun x3 => spec_WordPack_12 k k 0 y1 x3) := by kernel_rfl
theorem spec_WordPack_12_eq (k : Nat) (j : Nat) (y0 : Int) (y1 : V_impl_Word) (y2 : List V_uint8) : spec_WordPack_12 k (j + 1) y0 y1 y2 = 
 cond (decide (y0 < (↑(List.length y1.2.2.2.2.2.2.2.2.2.1) : Int))) (
  cond (decide (0 ≤ y0)) (
   cond (decide (y0 < (↑(List.length y1.2.2.2.2.2.2.2.2.2.1) : Int))) (
    (spec_l26Event k (List.getD y1.2.2.2.2.2.2.2.2.2.1 y0.toNat (dflt t_impl_Event))).bind fun x0 => spec_WordPack_16 k j k y0 0 y1 y2 x0) (none)) (none)) (
  (spec_l26Num_h0 k ((↑(List.length y1.2.2.2.2.2.2.2.2.2.2) : Int)) y2).bind fun x1 => spec_WordPack_21 k k 0 y1 x1) := by kernel_rfl
theorem spec_WordPack_16_eq (k : Nat) (j0 : Nat) (j : Nat) (y0 : Int) (y1 : Int) (y2 : V_impl_Word) (y3 : List V_uint8) (y4 : List V_int) : spec_WordPack_16 k j0 (j + 1) y0 y1 y2 y3 y4 = 
 cond (decide (y1 < (↑y4.length : Int))) (
  cond (decide (0 ≤ y1)) (
   cond (decide (y1 < (↑y4.length : Int))) (
    cond (decide (y1.toNat < y4.length)) (
     (spec_l26Num_h0 k (y4.getD y1.toNat (dflt t_int)) y3).bind fun x0 => spec_WordPack_16 k j0 j y0 (IntKind.i64.wrap (y1 + 1)) y2 x0 y4) (none)) (none)) (none)) (spec_WordPack_12 k j0 (IntKind.i64.wrap (y0 + 1)) y2 y3) := by kernel_rfl
theorem spec_WordPack_21_eq (k : Nat) (j : Nat) (y0 : Int) (y1 : V_impl_Word) (y2 : List V_uint8) : spec_WordPack_21 k (j + 1) y0 y1 y2 = 
 cond (decide (y0 < (↑(List.length y1.2.2.2.2.2.2.2.2.2.2) : Int))) (
  cond (decide (0 ≤ y0)) (
   cond (decide (y0 < (↑(List.length y1.2.2.2.2.2.2.2.2.2.2) : Int))) (
    (spec_l26Out k (List.getD y1.2.2.2.2.2.2.2.2.2.2 y0.toNat (dflt t_impl_Out))).bind fun x0 => spec_WordPack_25 k j k y0 0 y1 y2 x0) (none)) (none)) (some y2) := by kernel_rfl
theorem spec_WordPack_25_eq (k : Nat) (j0 : Nat) (j : Nat) (y0 : Int) (y1 : Int) (y2 : V_impl_Word) (y3 : List V_uint8) (y4 : List V_int) : spec_WordPack_25 k j0 (j + 1) y0 y1 y2 y3 y4 = 
 cond (decide (y1 < (↑y4.length : Int))) (
  cond (decide (0 ≤ y1)) (
   cond (decide (y1 < (↑y4.length : Int))) (
    cond (decide (y1.toNat < y4.length)) (
     (spec_l26Num_h0 k (y4.getD y1.toNat (dflt t_int)) y3).bind fun x0 => spec_WordPack_25 k j0 j y0 (IntKind.i64.wrap (y1 + 1)) y2 x0 y4) (none)) (none)) (none)) (spec_WordPack_21 k j0 (IntKind.i64.wrap (y0 + 1)) y2 y3) := by kernel_rfl

noncomputable def impl_within (k : Nat) (a0 : V_int) (a1 : V_int) (a2 : V_int) : Option V_bool := evalT E k 93 t_bool [inp t_int a0, inp t_int a1, inp t_int a2] []
theorem impl_within_eq (k : Nat) (a0 : V_int) (a1 : V_int) (a2 : V_int) : impl_within (k + 1) a0 a1 a2 = 
 cond (decide (a0 ≥ a1)) (some (decide (a0 ≤ a2))) (some false) := by kernel_rfl

noncomputable def impl_isNode (k : Nat) (a0 : V_int) : Option V_bool := evalT E k 94 t_bool [inp t_int a0] []
theorem impl_isNode_eq (k : Nat) (a0 : V_int) : impl_isNode (k + 1) a0 = 
 (impl_within k a0 0 2).bind fun x0 => some x0 := by kernel_rfl

noncomputable def impl_countsOk (k : Nat) (a0 : V_sl_int) : Option V_bool := evalT E k 95 t_bool [inp t_sl_int a0] []
noncomputable def impl_countsOk_2 (k : Nat) (j : Nat) (y0 : List V_int) (y1 : List V_int) (y2 : Int) (y3 : Int) : Option V_bool := loopAt E 95 t_bool [true, false, true, false] [] [] k [] j (mkS 23 [(0, .c (.sl 3 t_int y0)), (5, .c (.sl 3 t_int y1)), (6, .c (.int .i64 y2)), (7, .c (.int .i64 y3))]) []
theorem impl_countsOk_eq (k : Nat) (a0 : V_sl_int) : impl_countsOk (k + 1) a0 = impl_countsOk_2 k k a0 a0 ((↑(List.length a0) : Int)) 0 := by kernel_rfl
theorem impl_countsOk_2_eq (k : Nat) (j : Nat) (y0 : List V_int) (y1 : List V_int) (y2 : Int) (y3 : Int) : impl_countsOk_2 k (j + 1) y0 y1 y2 y3 = 
 cond (decide (y3 < y2)) (
  cond (decide (0 ≤ y3)) (
   cond (decide (y3 < (↑y1.length : Int))) (
    (impl_within k (y1.getD y3.toNat (dflt t_int)) 0 9999).bind fun x0 => 
     cond (!x0) (some false) (impl_countsOk_2 k j y0 y1 y2 (IntKind.i64.wrap (y3 + 1)))) (none)) (none)) (
  cond ((↑y0.length : Int) == 0) (some true) (some ((↑y0.length : Int) == 3))) := by kernel_rfl

noncomputable def impl_isProc (k : Nat) (a0 : V_int) : Option V_bool := evalT E k 66 t_bool [inp t_int a0] []
theorem impl_isProc_eq (k : Nat) (a0 : V_int) : impl_isProc (k + 1) a0 = 
 (impl_within k a0 0 3).bind fun x0 => some x0 := by kernel_rfl

noncomputable def impl_isKind (k : Nat) (a0 : V_int) : Option V_bool := evalT E k 155 t_bool [inp t_int a0] []
theorem impl_isKind_eq (k : Nat) (a0 : V_int) : impl_isKind (k + 1) a0 = 
 (impl_within k a0 0 3).bind fun x0 => some x0 := by kernel_rfl

noncomputable def impl_isNum (k : Nat) (a0 : V_int) : Option V_bool := evalT E k 131 t_bool [inp t_int a0] []
theorem impl_isNum_eq (k : Nat) (a0 : V_int) : impl_isNum (k + 1) a0 = 
 (impl_within k a0 0 999).bind fun x0 => some x0 := by kernel_rfl

noncomputable def impl_eventOk (k : Nat) (a0 : V_impl_Event) : Option V_bool := evalT E k 132 t_bool [inp t_impl_Event a0] []
theorem impl_eventOk_eq (k : Nat) (a0 : V_impl_Event) : impl_eventOk (k + 1) a0 = 
 (impl_within k a0.1 0 40).bind fun x0 => 
  cond (x0) (
   (impl_isProc k a0.2.1).bind fun x1 => 
    cond (x1) (
     (impl_within k a0.2.2.1 (-1) 3).bind fun x2 => 
      cond (x2) (
       (impl_within k a0.2.2.2.1 0 12).bind fun x3 => 
        cond (x3) (
         (impl_within k a0.2.2.2.2.1 0 3).bind fun x4 => 
          cond (x4) (
           (impl_isKind k a0.2.2.2.2.2.1).bind fun x5 => 
            cond (x5) (
             (impl_isNum k a0.2.2.2.2.2.2).bind fun x6 => some x6) (some false)) (some false)) (some false)) (some false)) (some false)) (some false) := by kernel_rfl

noncomputable def impl_keyOf (k : Nat) (a0 : V_impl_Event) : Option ((V_int × (V_int × (V_int × (V_int × (V_int × (V_int × V_int))))))) := evalT E k 134 (.pair t_int (.pair t_int (.pair t_int (.pair t_int (.pair t_int (.pair t_int t_int)))))) [inp t_impl_Event a0] []
theorem impl_keyOf_eq (k : Nat) (a0 : V_impl_Event) : impl_keyOf (k + 1) a0 = some (a0.1, a0.2.1, a0.2.2.1, a0.2.2.2.1, a0.2.2.2.2.1, a0.2.2.2.2.2.1,
  a0.2.2.2.2.2.2) := by kernel_rfl

noncomputable def cmp_isNaN_int (k : Nat) (a0 : V_int) : Option V_bool := evalT E k 169 t_bool [inp t_int a0] []
theorem cmp_isNaN_int_eq (k : Nat) (a0 : V_int) : cmp_isNaN_int (k + 1) a0 = some (a0 != a0) := by kernel_rfl

noncomputable def cmp_Compare_int (k : Nat) (a0 : V_int) (a1 : V_int) : Option V_int := evalT E k 166 t_int [inp t_int a0, inp t_int a1] []
theorem cmp_Compare_int_eq (k : Nat) (a0 : V_int) (a1 : V_int) : cmp_Compare_int (k + 1) a0 a1 = 
 (cmp_isNaN_int k a0).bind fun x0 => 
  (cmp_isNaN_int k a1).bind fun x1 => 
   cond (x0) (
    cond (x1) (some 0) (some (-1))) (
    cond (x1) (some 1) (
     cond (decide (a0 < a1)) (some (-1)) (
      cond (decide (a0 > a1)) (some 1) (some 0)))) := by kernel_rfl

noncomputable def slices_Compare_int_int (k : Nat) (a0 : V_sl_int) (a1 : V_sl_int) : Option V_int := evalT E k 156 t_int [inp t_sl_int a0, inp t_sl_int a1] []
noncomputable def slices_Compare_int_int_2 (k : Nat) (j : Nat) (y0 : List V_int) (y1 : List V_int) (y2 : List V_int) (y3 : Int) (y4 : Int) : Option V_int := loopAt E 156 t_int [true, false, true, false] [] [] k [] j (mkS 36 [(0, .c (.sl 3 t_int y0)), (1, .c (.sl 3 t_int y1)), (9, .c (.sl 3 t_int y2)), (10, .c (.int .i64 y3)), (11, .c (.int .i64 y4))]) []
theorem slices_Compare_int_int_eq (k : Nat) (a0 : V_sl_int) (a1 : V_sl_int) : slices_Compare_int_int (k + 1) a0 a1 = slices_Compare_int_int_2 k k a0 a1 a0 ((↑(List.length a0) : Int)) 0 := by kernel_rfl
theorem slices_Compare_int_int_2_eq (k : Nat) (j : Nat) (y0 : List V_int) (y1 : List V_int) (y2 : List V_int) (y3 : Int) (y4 : Int) : slices_Compare_int_int_2 k (j + 1) y0 y1 y2 y3 y4 = 
 cond (decide (y4 < y3)) (
  cond (decide (0 ≤ y4)) (
   cond (decide (y4 < (↑y2.length : Int))) (
    cond (decide (y4 ≥ (↑y1.length : Int))) (some 1) (
     cond (decide (0 ≤ y4)) (
      cond (decide (y4 < (↑y1.length : Int))) (
       (cmp_Compare_int k (y2.getD y4.toNat (dflt t_int)) (y1.getD y4.toNat (dflt t_int))).bind fun x0 => 
        cond (x0 != 0) (some x0) (slices_Compare_int_int_2 k j y0 y1 y2 y3 (IntKind.i64.wrap (y4 + 1)))) (none)) (none))) (none)) (none)) (
  cond (decide ((↑y0.length : Int) < (↑y1.length : Int))) (some (-1)) (some 0)) := by kernel_rfl

noncomputable def impl_keyLess (k : Nat) (a0 : V_impl_eventKey) (a1 : V_impl_eventKey) : Option V_bool := evalT E k 133 t_bool [inp t_impl_eventKey a0, inp t_impl_eventKey a1] []
theorem impl_keyLess_eq (k : Nat) (a0 : V_impl_eventKey) (a1 : V_impl_eventKey) : impl_keyLess (k + 1) a0 a1 = 
 (slices_Compare_int_int k [a0.1, a0.2.1, a0.2.2.1, a0.2.2.2.1, a0.2.2.2.2.1, a0.2.2.2.2.2.1,
  a0.2.2.2.2.2.2] [a1.1, a1.2.1, a1.2.2.1, a1.2.2.2.1, a1.2.2.2.2.1, a1.2.2.2.2.2.1,
  a1.2.2.2.2.2.2]).bind fun x0 => some (decide (x0 < 0)) := by kernel_rfl

noncomputable def impl_EventLess (k : Nat) (a0 : V_impl_Event) (a1 : V_impl_Event) : Option V_bool := evalT E k 69 t_bool [inp t_impl_Event a0, inp t_impl_Event a1] []
theorem impl_EventLess_eq (k : Nat) (a0 : V_impl_Event) (a1 : V_impl_Event) : impl_EventLess (k + 1) a0 a1 = 
 (impl_keyOf k a0).bind fun x0 => 
  (impl_keyOf k a1).bind fun x1 => 
   (impl_keyLess k x0 x1).bind fun x2 => some x2 := by kernel_rfl

noncomputable def impl_eventsOk (k : Nat) (a0 : V_sl_impl_Event) (a1 : V_int) : Option V_bool := evalT E k 96 t_bool [inp t_sl_impl_Event a0, inp t_int a1] []
noncomputable def impl_eventsOk_4 (k : Nat) (j : Nat) (y0 : List V_impl_Event) (y1 : List V_impl_Event) (y2 : Int) (y3 : Int) : Option V_bool := loopAt E 96 t_bool [true, true, false, true, false] [] [] k [] j (mkS 36 [(0, .c (.sl 41 t_impl_Event y0)), (11, .c (.sl 41 t_impl_Event y1)), (12, .c (.int .i64 y2)), (13, .c (.int .i64 y3))]) []
theorem impl_eventsOk_eq (k : Nat) (a0 : V_sl_impl_Event) (a1 : V_int) : impl_eventsOk (k + 1) a0 a1 = 
 cond (decide ((↑(List.length a0) : Int) > a1)) (some false) (impl_eventsOk_4 k k a0 a0 ((↑(List.length a0) : Int)) 0) := by kernel_rfl
theorem impl_eventsOk_4_eq (k : Nat) (j : Nat) (y0 : List V_impl_Event) (y1 : List V_impl_Event) (y2 : Int) (y3 : Int) : impl_eventsOk_4 k (j + 1) y0 y1 y2 y3 = 
 cond (decide (y3 < y2)) (
  cond (decide (0 ≤ y3)) (
   cond (decide (y3 < (↑y1.length : Int))) (
    (impl_eventOk k (y1.getD y3.toNat (dflt t_impl_Event))).bind fun x0 => 
     cond (!x0) (some false) (
      cond (decide (y3 > 0)) (
       cond (decide (0 ≤ IntKind.i64.wrap (y3 - 1))) (
        cond (decide (IntKind.i64.wrap (y3 - 1) < (↑y0.length : Int))) (
         (impl_EventLess k (y0.getD (IntKind.i64.wrap (y3 - 1)).toNat (dflt t_impl_Event)) (y1.getD y3.toNat (dflt t_impl_Event))).bind fun x1 => 
          cond (!x1) (some false) (impl_eventsOk_4 k j y0 y1 y2 (IntKind.i64.wrap (y3 + 1)))) (none)) (none)) (impl_eventsOk_4 k j y0 y1 y2 (IntKind.i64.wrap (y3 + 1))))) (none)) (none)) (some true) := by kernel_rfl

noncomputable def impl_OutLess (k : Nat) (a0 : V_impl_Out) (a1 : V_impl_Out) : Option V_bool := evalT E k 148 t_bool [inp t_impl_Out a0, inp t_impl_Out a1] []
theorem impl_OutLess_eq (k : Nat) (a0 : V_impl_Out) (a1 : V_impl_Out) : impl_OutLess (k + 1) a0 a1 = 
 (slices_Compare_int_int k [a0.1, a0.2.1, a0.2.2.1, a0.2.2.2.1, a0.2.2.2.2] [a1.1, a1.2.1, a1.2.2.1, a1.2.2.2.1, a1.2.2.2.2]).bind fun x0 => some (decide (x0 < 0)) := by kernel_rfl

noncomputable def impl_outsOk (k : Nat) (a0 : V_sl_impl_Out) (a1 : V_int) : Option V_bool := evalT E k 97 t_bool [inp t_sl_impl_Out a0, inp t_int a1] []
noncomputable def impl_outsOk_4 (k : Nat) (j : Nat) (y0 : List V_impl_Out) (y1 : List V_impl_Out) (y2 : Int) (y3 : Int) : Option V_bool := loopAt E 97 t_bool [true, true, false, true, false] [] [] k [] j (mkS 59 [(0, .c (.sl 111 t_impl_Out y0)), (12, .c (.sl 111 t_impl_Out y1)), (13, .c (.int .i64 y2)), (14, .c (.int .i64 y3))]) []
theorem impl_outsOk_eq (k : Nat) (a0 : V_sl_impl_Out) (a1 : V_int) : impl_outsOk (k + 1) a0 a1 = 
 cond (decide ((↑(List.length a0) : Int) > a1)) (some false) (impl_outsOk_4 k k a0 a0 ((↑(List.length a0) : Int)) 0) := by kernel_rfl
theorem impl_outsOk_4_eq (k : Nat) (j : Nat) (y0 : List V_impl_Out) (y1 : List V_impl_Out) (y2 : Int) (y3 : Int) : impl_outsOk_4 k (j + 1) y0 y1 y2 y3 = 
 cond (decide (y3 < y2)) (
  cond (decide (0 ≤ y3)) (
   cond (decide (y3 < (↑y1.length : Int))) (
    (impl_within k ((y1.getD y3.toNat (dflt t_impl_Out)).1) 0 40).bind fun x0 => 
     cond (x0) (
      (impl_isProc k ((y1.getD y3.toNat (dflt t_impl_Out)).2.1)).bind fun x1 => 
       cond (x1) (
        (impl_within k ((y1.getD y3.toNat (dflt t_impl_Out)).2.2.1) 0 11).bind fun x2 => 
         cond (x2) (
          (impl_within k ((y1.getD y3.toNat (dflt t_impl_Out)).2.2.2.1) 0 1).bind fun x3 => 
           cond (x3) (
            (impl_isNum k ((y1.getD y3.toNat (dflt t_impl_Out)).2.2.2.2)).bind fun x4 => 
             cond (!x4) (some false) (
              cond (decide (y3 > 0)) (
               cond (decide (0 ≤ IntKind.i64.wrap (y3 - 1))) (
                cond (decide (IntKind.i64.wrap (y3 - 1) < (↑y0.length : Int))) (
                 (impl_OutLess k (y0.getD (IntKind.i64.wrap (y3 - 1)).toNat (dflt t_impl_Out)) (y1.getD y3.toNat (dflt t_impl_Out))).bind fun x5 => 
                  cond (!x5) (some false) (impl_outsOk_4 k j y0 y1 y2 (IntKind.i64.wrap (y3 + 1)))) (none)) (none)) (impl_outsOk_4 k j y0 y1 y2 (IntKind.i64.wrap (y3 + 1))))) (some false)) (some false)) (some false)) (some false)) (none)) (none)) (some true) := by kernel_rfl

noncomputable def impl_WordOk (k : Nat) (a0 : V_impl_Word) : Option V_bool := evalT E k 40 t_bool [inp t_impl_Word a0] []
theorem impl_WordOk_eq (k : Nat) (a0 : V_impl_Word) : impl_WordOk (k + 1) a0 = 
 (impl_within k a0.1 1 7).bind fun x0 => 
  cond (x0) (
   (impl_isNode k a0.2.1).bind fun x1 => 
    cond (x1) (
     (impl_isNode k a0.2.2.1).bind fun x2 => 
      cond (x2) (
       (impl_within k a0.2.2.2.1 0 9999).bind fun x3 => 
        cond (x3) (
         (impl_within k a0.2.2.2.2.1 0 9999).bind fun x4 => 
          cond (x4) (
           (impl_within k a0.2.2.2.2.2.1 0 9999).bind fun x5 => 
            cond (x5) (
             (impl_within k a0.2.2.2.2.2.2.1 0 41).bind fun x6 => 
              cond (x6) (
               (impl_countsOk k a0.2.2.2.2.2.2.2.1).bind fun x7 => 
                cond (x7) (
                 (impl_countsOk k a0.2.2.2.2.2.2.2.2.1).bind fun x8 => 
                  cond (x8) (
                   (impl_eventsOk k a0.2.2.2.2.2.2.2.2.2.1 100).bind fun x9 => 
                    cond (x9) (
                     (impl_outsOk k a0.2.2.2.2.2.2.2.2.2.2 96).bind fun x10 => some x10) (some false)) (some false)) (some false)) (some false)) (some false)) (some false)) (some false)) (some false)) (some false)) (some false) := by kernel_rfl

noncomputable def impl_packer_num_h0 (k : Nat) (y0 : V_int) (y1 : List V_uint8) : Option ((Unit × ((List V_uint8 × Unit) × Unit))) := evalT E k 108 (.pair .unit (.pair (.pair (.ow 5 t_uint8) .unit) .unit)) [.c (.p 0 0), inp t_int y0] [some (.box 128 [.o 1]), some (.own 5 t_uint8 y1)]
noncomputable def impl_packer_num_h0_1 (k : Nat) (j : Nat) (y0 : Int) (y1 : List V_uint8) : Option ((Unit × ((List V_uint8 × Unit) × Unit))) := loopAt E 108 (.pair .unit (.pair (.pair (.ow 5 t_uint8) .unit) .unit)) [true, false, false] [some (.box 128 [.undef]), none] [] k [] j (mkS 32 [(0, .c (.p 0 0)), (4, .c (.int .u64 y0))]) [some (.box 128 [.o 1]), some (.own 5 t_uint8 y1)]
theorem impl_packer_num_h0_eq (k : Nat) (y0 : V_int) (y1 : List V_uint8) : impl_packer_num_h0 (k + 1) y0 y1 = impl_packer_num_h0_1 k k (IntKind.u64.wrap (IntKind.i64.wrap (y0 + 1))) y1 := by kernel_rfl
theorem impl_packer_num_h0_1_eq (k : Nat) (j : Nat) (y0 : Int) (y1 : List V_uint8) : impl_packer_num_h0_1 k (j + 1) y0 y1 = 
 cond (decide (y0 ≥ 128)) (
  cond (decide
  ((y1.length +
        [IntKind.u8.wrap
              (↑(BitVec.ofInt IntKind.u8.bits
                        (IntKind.u8.wrap
                          (IntKind.u64.wrap
                            (↑(BitVec.ofInt IntKind.u64.bits y0 &&& BitVec.ofInt IntKind.u64.bits 127).toNat :
                              Int))) |||
                      BitVec.ofInt IntKind.u8.bits 128).toNat :
                Int)].length) *
      1 ≤
    140737488351232)) (impl_packer_num_h0_1 k j (y0.fdiv (2 ^ min (Int.toNat 7) IntKind.u64.bits)) (y1 ++
  [IntKind.u8.wrap
      (↑(BitVec.ofInt IntKind.u8.bits
                (IntKind.u8.wrap
                  (IntKind.u64.wrap
                    (↑(BitVec.ofInt IntKind.u64.bits y0 &&& BitVec.ofInt IntKind.u64.bits 127).toNat : Int))) |||
              BitVec.ofInt IntKind.u8.bits 128).toNat :
        Int)])) (none)) (
  cond (decide ((y1.length + [IntKind.u8.wrap y0].length) * 1 ≤ 140737488351232)) (some (((), (y1 ++ [IntKind.u8.wrap y0], ()), ()))) (none)) := by kernel_rfl

noncomputable def impl_packer_nums_h0 (k : Nat) (y0 : V_sl_int) : Option ((Unit × ((List V_uint8 × Unit) × Unit))) := evalT E k 107 (.pair .unit (.pair (.pair (.ow 5 t_uint8) .unit) .unit)) [.c (.p 0 0), inp t_sl_int y0] [some (.box 128 [.nilsl])]
noncomputable def impl_packer_nums_h0_1 (k : Nat) (j : Nat) (y0 : List V_int) (y1 : Int) (y2 : Int) (y3 : List V_uint8) : Option ((Unit × ((List V_uint8 × Unit) × Unit))) := loopAt E 107 (.pair .unit (.pair (.pair (.ow 5 t_uint8) .unit) .unit)) [true, false] [some (.box 128 [.undef])] [] k [] j (mkS 16 [(0, .c (.p 0 0)), (6, .c (.sl 3 t_int y0)), (7, .c (.int .i64 y1)), (8, .c (.int .i64 y2))]) [some (.box 128 [.o 1]), some (.own 5 t_uint8 y3)]
theorem impl_packer_nums_h0_eq (k : Nat) (y0 : V_sl_int) : impl_packer_nums_h0 (k + 1) y0 = impl_packer_nums_h0_1 k k y0 ((↑(List.length y0) : Int)) 0 [] := by kernel_rfl
theorem impl_packer_nums_h0_1_eq (k : Nat) (j : Nat) (y0 : List V_int) (y1 : Int) (y2 : Int) (y3 : List V_uint8) : impl_packer_nums_h0_1 k (j + 1) y0 y1 y2 y3 = 
 cond (decide (y2 < y1)) (
  cond (decide (0 ≤ y2)) (
   cond (decide (y2 < (↑y0.length : Int))) (
    (impl_packer_num_h0 k (y0.getD y2.toNat (dflt t_int)) y3).bind fun x0 => impl_packer_nums_h0_1 k j y0 y1 (IntKind.i64.wrap (y2 + 1)) x0.2.1.1) (none)) (none)) (some (((), (y3, ()), ()))) := by kernel_rfl

noncomputable def impl_packer_nums_h1 (k : Nat) (y0 : V_sl_int) (y1 : List V_uint8) : Option ((Unit × ((List V_uint8 × Unit) × Unit))) := evalT E k 107 (.pair .unit (.pair (.pair (.ow 5 t_uint8) .unit) .unit)) [.c (.p 0 0), inp t_sl_int y0] [some (.box 128 [.o 1]), some (.own 5 t_uint8 y1)]
noncomputable def impl_packer_nums_h1_1 (k : Nat) (j : Nat) (y0 : List V_int) (y1 : Int) (y2 : Int) (y3 : List V_uint8) : Option ((Unit × ((List V_uint8 × Unit) × Unit))) := loopAt E 107 (.pair .unit (.pair (.pair (.ow 5 t_uint8) .unit) .unit)) [true, false] [some (.box 128 [.undef]), none] [] k [] j (mkS 16 [(0, .c (.p 0 0)), (6, .c (.sl 3 t_int y0)), (7, .c (.int .i64 y1)), (8, .c (.int .i64 y2))]) [some (.box 128 [.o 1]), some (.own 5 t_uint8 y3)]
theorem impl_packer_nums_h1_eq (k : Nat) (y0 : V_sl_int) (y1 : List V_uint8) : impl_packer_nums_h1 (k + 1) y0 y1 = impl_packer_nums_h1_1 k k y0 ((↑(List.length y0) : Int)) 0 y1 := by kernel_rfl
theorem impl_packer_nums_h1_1_eq (k : Nat) (j : Nat) (y0 : List V_int) (y1 : Int) (y2 : Int) (y3 : List V_uint8) : impl_packer_nums_h1_1 k (j + 1) y0 y1 y2 y3 = 
 cond (decide (y2 < y1)) (
  cond (decide (0 ≤ y2)) (
   cond (decide (y2 < (↑y0.length : Int))) (
    (impl_packer_num_h0 k (y0.getD y2.toNat (dflt t_int)) y3).bind fun x0 => impl_packer_nums_h1_1 k j y0 y1 (IntKind.i64.wrap (y2 + 1)) x0.2.1.1) (none)) (none)) (some (((), (y3, ()), ()))) := by kernel_rfl

noncomputable def impl_packer_events_h0 (k : Nat) (y0 : V_sl_impl_Event) (y1 : List V_uint8) : Option ((Unit × ((List V_uint8 × Unit) × Unit))) := evalT E k 109 (.pair .unit (.pair (.pair (.ow 5 t_uint8) .unit) .unit)) [.c (.p 0 0), inp t_sl_impl_Event y0] [some (.box 128 [.o 1]), some (.own 5 t_uint8 y1)]
noncomputable def impl_packer_events_h0_2 (k : Nat) (j : Nat) (y0 : List V_impl_Event) (y1 : Int) (y2 : Int) (y3 : List V_uint8) : Option ((Unit × ((List V_uint8 × Unit) × Unit))) := loopAt E 109 (.pair .unit (.pair (.pair (.ow 5 t_uint8) .unit) .unit)) [true, true, false] [some (.box 128 [.undef]), none] [] k [] j (mkS 37 [(0, .c (.p 0 0)), (11, .c (.sl 41 t_impl_Event y0)), (12, .c (.int .i64 y1)), (13, .c (.int .i64 y2))]) [some (.box 128 [.o 1]), some (.own 5 t_uint8 y3)]
theorem impl_packer_events_h0_eq (k : Nat) (y0 : V_sl_impl_Event) (y1 : List V_uint8) : impl_packer_events_h0 (k + 1) y0 y1 = 
 (impl_packer_num_h0 k ((↑(List.length y0) : Int)) y1).bind fun x0 => impl_packer_events_h0_2 k k y0 ((↑(List.length y0) : Int)) 0 x0.2.1.1 := by kernel_rfl
theorem impl_packer_events_h0_2_eq (k : Nat) (j : Nat) (y0 : List V_impl_Event) (y1 : Int) (y2 : Int) (y3 : List V_uint8) : impl_packer_events_h0_2 k (j + 1) y0 y1 y2 y3 = 
 cond (decide (y2 < y1)) (
  cond (decide (0 ≤ y2)) (
   cond (decide (y2 < (↑y0.length : Int))) (
    (impl_keyOf k (y0.getD y2.toNat (dflt t_impl_Event))).bind fun x0 => 
     (impl_packer_nums_h1 k [x0.1, x0.2.1, x0.2.2.1, x0.2.2.2.1, x0.2.2.2.2.1, x0.2.2.2.2.2.1,
  x0.2.2.2.2.2.2] y3).bind fun x1 => impl_packer_events_h0_2 k j y0 y1 (IntKind.i64.wrap (y2 + 1)) x1.2.1.1) (none)) (none)) (some (((), (y3, ()), ()))) := by kernel_rfl

noncomputable def impl_packer_outs_h0 (k : Nat) (y0 : V_sl_impl_Out) (y1 : List V_uint8) : Option ((Unit × ((List V_uint8 × Unit) × Unit))) := evalT E k 110 (.pair .unit (.pair (.pair (.ow 5 t_uint8) .unit) .unit)) [.c (.p 0 0), inp t_sl_impl_Out y0] [some (.box 128 [.o 1]), some (.own 5 t_uint8 y1)]
noncomputable def impl_packer_outs_h0_2 (k : Nat) (j : Nat) (y0 : List V_impl_Out) (y1 : Int) (y2 : Int) (y3 : List V_uint8) : Option ((Unit × ((List V_uint8 × Unit) × Unit))) := loopAt E 110 (.pair .unit (.pair (.pair (.ow 5 t_uint8) .unit) .unit)) [true, true, false] [some (.box 128 [.undef]), none] [] k [] j (mkS 30 [(0, .c (.p 0 0)), (10, .c (.sl 111 t_impl_Out y0)), (11, .c (.int .i64 y1)), (12, .c (.int .i64 y2))]) [some (.box 128 [.o 1]), some (.own 5 t_uint8 y3)]
theorem impl_packer_outs_h0_eq (k : Nat) (y0 : V_sl_impl_Out) (y1 : List V_uint8) : impl_packer_outs_h0 (k + 1) y0 y1 = 
 (impl_packer_num_h0 k ((↑(List.length y0) : Int)) y1).bind fun x0 => impl_packer_outs_h0_2 k k y0 ((↑(List.length y0) : Int)) 0 x0.2.1.1 := by kernel_rfl
theorem impl_packer_outs_h0_2_eq (k : Nat) (j : Nat) (y0 : List V_impl_Out) (y1 : Int) (y2 : Int) (y3 : List V_uint8) : impl_packer_outs_h0_2 k (j + 1) y0 y1 y2 y3 = 
 cond (decide (y2 < y1)) (
  cond (decide (0 ≤ y2)) (
   cond (decide (y2 < (↑y0.length : Int))) (
    (impl_packer_nums_h1 k [(y0.getD y2.toNat (dflt t_impl_Out)).1, (y0.getD y2.toNat (dflt t_impl_Out)).2.1, (y0.getD y2.toNat (dflt t_impl_Out)).2.2.1,
  (y0.getD y2.toNat (dflt t_impl_Out)).2.2.2.1, (y0.getD y2.toNat (dflt t_impl_Out)).2.2.2.2] y3).bind fun x0 => impl_packer_outs_h0_2 k j y0 y1 (IntKind.i64.wrap (y2 + 1)) x0.2.1.1) (none)) (none)) (some (((), (y3, ()), ()))) := by kernel_rfl

noncomputable def impl_WordPack (k : Nat) (a0 : V_impl_Word) : Option (List V_uint8) := evalT E k 45 (.ow 5 t_uint8) [inp t_impl_Word a0] []
theorem impl_WordPack_eq (k : Nat) (a0 : V_impl_Word) : impl_WordPack (k + 1) a0 = 
 (impl_WordOk k a0).bind fun x0 => 
  cond (!x0) (some []) (
   (impl_packer_nums_h0 k [a0.1, a0.2.1, a0.2.2.1, a0.2.2.2.1, a0.2.2.2.2.1, a0.2.2.2.2.2.1,
  a0.2.2.2.2.2.2.1]).bind fun x1 => 
    (impl_packer_num_h0 k ((↑(List.length a0.2.2.2.2.2.2.2.1) : Int)) x1.2.1.1).bind fun x2 => 
     (impl_packer_nums_h1 k a0.2.2.2.2.2.2.2.1 x2.2.1.1).bind fun x3 => 
      (impl_packer_num_h0 k ((↑(List.length a0.2.2.2.2.2.2.2.2.1) : Int)) x3.2.1.1).bind fun x4 => 
       (impl_packer_nums_h1 k a0.2.2.2.2.2.2.2.2.1 x4.2.1.1).bind fun x5 => 
        (impl_packer_events_h0 k a0.2.2.2.2.2.2.2.2.2.1 x5.2.1.1).bind fun x6 => 
         (impl_packer_outs_h0 k a0.2.2.2.2.2.2.2.2.2.2 x6.2.1.1).bind fun x7 => some x7.2.1.1) := by kernel_rfl

noncomputable def laws_eqByteS (k : Nat) (a0 : V_sl_uint8) (a1 : V_sl_uint8) : Option V_bool := evalT E k 46 t_bool [inp t_sl_uint8 a0, inp t_sl_uint8 a1] []
noncomputable def laws_eqByteS_4 (k : Nat) (j : Nat) (y0 : List V_uint8) (y1 : List V_uint8) (y2 : Int) : Option V_bool := loopAt E 46 t_bool [true, true, false, true, false] [] [] k [] j (mkS 26 [(0, .c (.sl 5 t_uint8 y0)), (1, .c (.sl 5 t_uint8 y1)), (5, .c (.int .i64 y2))]) []
theorem laws_eqByteS_eq (k : Nat) (a0 : V_sl_uint8) (a1 : V_sl_uint8) : laws_eqByteS (k + 1) a0 a1 = 
 cond ((↑(List.length a0) : Int) != (↑(List.length a1) : Int)) (some false) (laws_eqByteS_4 k k a0 a1 0) := by kernel_rfl
theorem laws_eqByteS_4_eq (k : Nat) (j : Nat) (y0 : List V_uint8) (y1 : List V_uint8) (y2 : Int) : laws_eqByteS_4 k (j + 1) y0 y1 y2 = 
 cond (decide (y2 < (↑y0.length : Int))) (
  cond (decide (0 ≤ y2)) (
   cond (decide (y2 < (↑y0.length : Int))) (
    cond (decide (0 ≤ y2)) (
     cond (decide (y2 < (↑y1.length : Int))) (
      cond (y0.getD y2.toNat (dflt t_uint8) != y1.getD y2.toNat (dflt t_uint8)) (some false) (laws_eqByteS_4 k j y0 y1 (IntKind.i64.wrap (y2 + 1)))) (none)) (none)) (none)) (none)) (some true) := by kernel_rfl

noncomputable def laws_eqIntS (k : Nat) (a0 : V_sl_int) (a1 : V_sl_int) : Option V_bool := evalT E k 102 t_bool [inp t_sl_int a0, inp t_sl_int a1] []
noncomputable def laws_eqIntS_4 (k : Nat) (j : Nat) (y0 : List V_int) (y1 : List V_int) (y2 : Int) : Option V_bool := loopAt E 102 t_bool [true, true, false, true, false] [] [] k [] j (mkS 26 [(0, .c (.sl 3 t_int y0)), (1, .c (.sl 3 t_int y1)), (5, .c (.int .i64 y2))]) []
theorem laws_eqIntS_eq (k : Nat) (a0 : V_sl_int) (a1 : V_sl_int) : laws_eqIntS (k + 1) a0 a1 = 
 cond ((↑(List.length a0) : Int) != (↑(List.length a1) : Int)) (some false) (laws_eqIntS_4 k k a0 a1 0) := by kernel_rfl
theorem laws_eqIntS_4_eq (k : Nat) (j : Nat) (y0 : List V_int) (y1 : List V_int) (y2 : Int) : laws_eqIntS_4 k (j + 1) y0 y1 y2 = 
 cond (decide (y2 < (↑y0.length : Int))) (
  cond (decide (0 ≤ y2)) (
   cond (decide (y2 < (↑y0.length : Int))) (
    cond (decide (0 ≤ y2)) (
     cond (decide (y2 < (↑y1.length : Int))) (
      cond (y0.getD y2.toNat (dflt t_int) != y1.getD y2.toNat (dflt t_int)) (some false) (laws_eqIntS_4 k j y0 y1 (IntKind.i64.wrap (y2 + 1)))) (none)) (none)) (none)) (none)) (some true) := by kernel_rfl

noncomputable def laws_eqEvent (k : Nat) (a0 : V_impl_Event) (a1 : V_impl_Event) : Option V_bool := evalT E k 25 t_bool [inp t_impl_Event a0, inp t_impl_Event a1] []
theorem laws_eqEvent_eq (k : Nat) (a0 : V_impl_Event) (a1 : V_impl_Event) : laws_eqEvent (k + 1) a0 a1 = 
 cond (a0.1 != a1.1) (some false) (
  cond (a0.2.1 != a1.2.1) (some false) (
   cond (a0.2.2.1 != a1.2.2.1) (some false) (
    cond (a0.2.2.2.1 != a1.2.2.2.1) (some false) (
     cond (a0.2.2.2.2.1 != a1.2.2.2.2.1) (some false) (
      cond (a0.2.2.2.2.2.1 != a1.2.2.2.2.2.1) (some false) (
       cond (a0.2.2.2.2.2.2 != a1.2.2.2.2.2.2) (some false) (some true))))))) := by kernel_rfl

noncomputable def laws_eqEventS (k : Nat) (a0 : V_sl_impl_Event) (a1 : V_sl_impl_Event) : Option V_bool := evalT E k 26 t_bool [inp t_sl_impl_Event a0, inp t_sl_impl_Event a1] []
noncomputable def laws_eqEventS_4 (k : Nat) (j : Nat) (y0 : List V_impl_Event) (y1 : List V_impl_Event) (y2 : Int) : Option V_bool := loopAt E 26 t_bool [true, true, false, true, false] [] [] k [] j (mkS 27 [(0, .c (.sl 41 t_impl_Event y0)), (1, .c (.sl 41 t_impl_Event y1)), (5, .c (.int .i64 y2))]) []
theorem laws_eqEventS_eq (k : Nat) (a0 : V_sl_impl_Event) (a1 : V_sl_impl_Event) : laws_eqEventS (k + 1) a0 a1 = 
 cond ((↑(List.length a0) : Int) != (↑(List.length a1) : Int)) (some false) (laws_eqEventS_4 k k a0 a1 0) := by kernel_rfl
theorem laws_eqEventS_4_eq (k : Nat) (j : Nat) (y0 : List V_impl_Event) (y1 : List V_impl_Event) (y2 : Int) : laws_eqEventS_4 k (j + 1) y0 y1 y2 = 
 cond (decide (y2 < (↑y0.length : Int))) (
  cond (decide (0 ≤ y2)) (
   cond (decide (y2 < (↑y0.length : Int))) (
    cond (decide (0 ≤ y2)) (
     cond (decide (y2 < (↑y1.length : Int))) (
      (laws_eqEvent k (y0.getD y2.toNat (dflt t_impl_Event)) (y1.getD y2.toNat (dflt t_impl_Event))).bind fun x0 => 
       cond (!x0) (some false) (laws_eqEventS_4 k j y0 y1 (IntKind.i64.wrap (y2 + 1)))) (none)) (none)) (none)) (none)) (some true) := by kernel_rfl

noncomputable def laws_eqOut (k : Nat) (a0 : V_impl_Out) (a1 : V_impl_Out) : Option V_bool := evalT E k 85 t_bool [inp t_impl_Out a0, inp t_impl_Out a1] []
theorem laws_eqOut_eq (k : Nat) (a0 : V_impl_Out) (a1 : V_impl_Out) : laws_eqOut (k + 1) a0 a1 = 
 cond (a0.1 != a1.1) (some false) (
  cond (a0.2.1 != a1.2.1) (some false) (
   cond (a0.2.2.1 != a1.2.2.1) (some false) (
    cond (a0.2.2.2.1 != a1.2.2.2.1) (some false) (
     cond (a0.2.2.2.2 != a1.2.2.2.2) (some false) (some true))))) := by kernel_rfl

noncomputable def laws_eqOutS (k : Nat) (a0 : V_sl_impl_Out) (a1 : V_sl_impl_Out) : Option V_bool := evalT E k 34 t_bool [inp t_sl_impl_Out a0, inp t_sl_impl_Out a1] []
noncomputable def laws_eqOutS_4 (k : Nat) (j : Nat) (y0 : List V_impl_Out) (y1 : List V_impl_Out) (y2 : Int) : Option V_bool := loopAt E 34 t_bool [true, true, false, true, false] [] [] k [] j (mkS 27 [(0, .c (.sl 111 t_impl_Out y0)), (1, .c (.sl 111 t_impl_Out y1)), (5, .c (.int .i64 y2))]) []
theorem laws_eqOutS_eq (k : Nat) (a0 : V_sl_impl_Out) (a1 : V_sl_impl_Out) : laws_eqOutS (k + 1) a0 a1 = 
 cond ((↑(List.length a0) : Int) != (↑(List.length a1) : Int)) (some false) (laws_eqOutS_4 k k a0 a1 0) := by kernel_rfl
theorem laws_eqOutS_4_eq (k : Nat) (j : Nat) (y0 : List V_impl_Out) (y1 : List V_impl_Out) (y2 : Int) : laws_eqOutS_4 k (j + 1) y0 y1 y2 = 
 cond (decide (y2 < (↑y0.length : Int))) (
  cond (decide (0 ≤ y2)) (
   cond (decide (y2 < (↑y0.length : Int))) (
    cond (decide (0 ≤ y2)) (
     cond (decide (y2 < (↑y1.length : Int))) (
      (laws_eqOut k (y0.getD y2.toNat (dflt t_impl_Out)) (y1.getD y2.toNat (dflt t_impl_Out))).bind fun x0 => 
       cond (!x0) (some false) (laws_eqOutS_4 k j y0 y1 (IntKind.i64.wrap (y2 + 1)))) (none)) (none)) (none)) (none)) (some true) := by kernel_rfl

noncomputable def laws_eqWord (k : Nat) (a0 : V_impl_Word) (a1 : V_impl_Word) : Option V_bool := evalT E k 43 t_bool [inp t_impl_Word a0, inp t_impl_Word a1] []
theorem laws_eqWord_eq (k : Nat) (a0 : V_impl_Word) (a1 : V_impl_Word) : laws_eqWord (k + 1) a0 a1 = 
 cond (a0.1 != a1.1) (some false) (
  cond (a0.2.1 != a1.2.1) (some false) (
   cond (a0.2.2.1 != a1.2.2.1) (some false) (
    cond (a0.2.2.2.1 != a1.2.2.2.1) (some false) (
     cond (a0.2.2.2.2.1 != a1.2.2.2.2.1) (some false) (
      cond (a0.2.2.2.2.2.1 != a1.2.2.2.2.2.1) (some false) (
       cond (a0.2.2.2.2.2.2.1 != a1.2.2.2.2.2.2.1) (some false) (
        (laws_eqIntS k a0.2.2.2.2.2.2.2.1 a1.2.2.2.2.2.2.2.1).bind fun x0 => 
         cond (!x0) (some false) (
          (laws_eqIntS k a0.2.2.2.2.2.2.2.2.1 a1.2.2.2.2.2.2.2.2.1).bind fun x1 => 
           cond (!x1) (some false) (
            (laws_eqEventS k a0.2.2.2.2.2.2.2.2.2.1 a1.2.2.2.2.2.2.2.2.2.1).bind fun x2 => 
             cond (!x2) (some false) (
              (laws_eqOutS k a0.2.2.2.2.2.2.2.2.2.2 a1.2.2.2.2.2.2.2.2.2.2).bind fun x3 => 
               cond (!x3) (some false) (some true))))))))))) := by kernel_rfl

noncomputable def laws_markIntS_h0 (k : Nat) (y0 : V_int) (y1 : List V_int) : Option ((V_int × (List V_int × Unit))) := evalT E k 111 (.pair t_int (.pair (.ow 3 t_int) .unit)) [.c (.o 0), inp t_int y0] [some (.own 3 t_int y1)]
noncomputable def laws_markIntS_h0_2 (k : Nat) (j : Nat) (y0 : Int) (y1 : Int) (y2 : List V_int) : Option ((V_int × (List V_int × Unit))) := loopAt E 111 (.pair t_int (.pair (.ow 3 t_int) .unit)) [true, false, true, false] [none] [0] k [] j (mkS 19 [(0, .c (.o 0)), (1, .c (.int .i64 y0)), (5, .c (.int .i64 y1))]) [some (.own 3 t_int y2)]
theorem laws_markIntS_h0_eq (k : Nat) (y0 : V_int) (y1 : List V_int) : laws_markIntS_h0 (k + 1) y0 y1 = laws_markIntS_h0_2 k k y0 0 y1 := by kernel_rfl
theorem laws_markIntS_h0_2_eq (k : Nat) (j : Nat) (y0 : Int) (y1 : Int) (y2 : List V_int) : laws_markIntS_h0_2 k (j + 1) y0 y1 y2 = 
 cond (decide (y1 < (↑y2.length : Int))) (
  cond (decide (0 ≤ y1)) (
   cond (decide (y1 < (↑y2.length : Int))) (
    cond (decide (y1.toNat < y2.length)) (laws_markIntS_h0_2 k j (IntKind.i64.wrap (y0 + 1)) (IntKind.i64.wrap (y1 + 1)) (y2.set y1.toNat y0)) (none)) (none)) (none)) (some ((y0, y2, ()))) := by kernel_rfl

noncomputable def laws_markEventS_h0 (k : Nat) (y0 : V_int) (y1 : List V_impl_Event) : Option ((V_int × (List V_impl_Event × Unit))) := evalT E k 30 (.pair t_int (.pair (.ow 41 t_impl_Event) .unit)) [.c (.o 0), inp t_int y0] [some (.own 41 t_impl_Event y1)]
noncomputable def laws_markEventS_h0_2 (k : Nat) (j : Nat) (y0 : Int) (y1 : Int) (y2 : List V_impl_Event) : Option ((V_int × (List V_impl_Event × Unit))) := loopAt E 30 (.pair t_int (.pair (.ow 41 t_impl_Event) .unit)) [true, false, true, false] [none] [0] k [] j (mkS 62 [(0, .c (.o 0)), (1, .c (.int .i64 y0)), (5, .c (.int .i64 y1))]) [some (.own 41 t_impl_Event y2)]
theorem laws_markEventS_h0_eq (k : Nat) (y0 : V_int) (y1 : List V_impl_Event) : laws_markEventS_h0 (k + 1) y0 y1 = laws_markEventS_h0_2 k k y0 0 y1 := by kernel_rfl
theorem laws_markEventS_h0_2_eq (k : Nat) (j : Nat) (y0 : Int) (y1 : Int) (y2 : List V_impl_Event) : laws_markEventS_h0_2 k (j + 1) y0 y1 y2 = 
 cond (decide (y1 < (↑y2.length : Int))) (
  cond (decide (0 ≤ y1)) (
   cond (decide (y1 < (↑y2.length : Int))) (
    cond (decide (y1.toNat < y2.length)) (
     cond (decide (0 ≤ y1)) (
      cond (decide
  (y1 <
    (↑(y2.modify y1.toNat fun x =>
            (y0, x.2.1, x.2.2.1, x.2.2.2.1, x.2.2.2.2.1, x.2.2.2.2.2.1,
              x.2.2.2.2.2.2)).length :
      Int))) (
       cond (decide
  (y1.toNat <
    (y2.modify y1.toNat fun x =>
        (y0, x.2.1, x.2.2.1, x.2.2.2.1, x.2.2.2.2.1, x.2.2.2.2.2.1,
          x.2.2.2.2.2.2)).length)) (
        cond (decide (0 ≤ y1)) (
         cond (decide
  (y1 <
    (↑((y2.modify y1.toNat fun x =>
                (y0, x.2.1, x.2.2.1, x.2.2.2.1, x.2.2.2.2.1, x.2.2.2.2.2.1,
                  x.2.2.2.2.2.2)).modify
            y1.toNat fun x =>
            (x.1, IntKind.i64.wrap (y0 + 1), x.2.2.1, x.2.2.2.1, x.2.2.2.2.1,
              x.2.2.2.2.2.1, x.2.2.2.2.2.2)).length :
      Int))) (
          cond (decide
  (y1.toNat <
    ((y2.modify y1.toNat fun x =>
            (y0, x.2.1, x.2.2.1, x.2.2.2.1, x.2.2.2.2.1, x.2.2.2.2.2.1,
              x.2.2.2.2.2.2)).modify
        y1.toNat fun x =>
        (x.1, IntKind.i64.wrap (y0 + 1), x.2.2.1, x.2.2.2.1, x.2.2.2.2.1,
          x.2.2.2.2.2.1, x.2.2.2.2.2.2)).length)) (
           cond (decide (0 ≤ y1)) (
            cond (decide
  (y1 <
    (↑(((y2.modify y1.toNat fun x =>
                    (y0, x.2.1, x.2.2.1, x.2.2.2.1, x.2.2.2.2.1, x.2.2.2.2.2.1,
                      x.2.2.2.2.2.2)).modify
                y1.toNat fun x =>
                (x.1, IntKind.i64.wrap (y0 + 1), x.2.2.1, x.2.2.2.1, x.2.2.2.2.1,
                  x.2.2.2.2.2.1, x.2.2.2.2.2.2)).modify
            y1.toNat fun x =>
            (x.1, x.2.1, IntKind.i64.wrap (IntKind.i64.wrap (y0 + 1) + 1), x.2.2.2.1,
              x.2.2.2.2.1, x.2.2.2.2.2.1, x.2.2.2.2.2.2)).length :
      Int))) (
             cond (decide
  (y1.toNat <
    (((y2.modify y1.toNat fun x =>
                (y0, x.2.1, x.2.2.1, x.2.2.2.1, x.2.2.2.2.1, x.2.2.2.2.2.1,
                  x.2.2.2.2.2.2)).modify
            y1.toNat fun x =>
            (x.1, IntKind.i64.wrap (y0 + 1), x.2.2.1, x.2.2.2.1, x.2.2.2.2.1,
              x.2.2.2.2.2.1, x.2.2.2.2.2.2)).modify
        y1.toNat fun x =>
        (x.1, x.2.1, IntKind.i64.wrap (IntKind.i64.wrap (y0 + 1) + 1), x.2.2.2.1, x.2.2.2.2.1,
          x.2.2.2.2.2.1, x.2.2.2.2.2.2)).length)) (
              cond (decide (0 ≤ y1)) (
               cond (decide
  (y1 <
    (↑((((y2.modify y1.toNat fun x =>
                        (y0, x.2.1, x.2.2.1, x.2.2.2.1, x.2.2.2.2.1,
                          x.2.2.2.2.2.1, x.2.2.2.2.2.2)).modify
                    y1.toNat fun x =>
                    (x.1, IntKind.i64.wrap (y0 + 1), x.2.2.1, x.2.2.2.1, x.2.2.2.2.1,
                      x.2.2.2.2.2.1, x.2.2.2.2.2.2)).modify
                y1.toNat fun x =>
                (x.1, x.2.1, IntKind.i64.wrap (IntKind.i64.wrap (y0 + 1) + 1), x.2.2.2.1,
                  x.2.2.2.2.1, x.2.2.2.2.2.1, x.2.2.2.2.2.2)).modify
            y1.toNat fun x =>
            (x.1, x.2.1, x.2.2.1, IntKind.i64.wrap (IntKind.i64.wrap (IntKind.i64.wrap (y0 + 1) + 1) + 1),
              x.2.2.2.2.1, x.2.2.2.2.2.1, x.2.2.2.2.2.2)).length :
      Int))) (
                cond (decide
  (y1.toNat <
    ((((y2.modify y1.toNat fun x =>
                    (y0, x.2.1, x.2.2.1, x.2.2.2.1, x.2.2.2.2.1, x.2.2.2.2.2.1,
                      x.2.2.2.2.2.2)).modify
                y1.toNat fun x =>
                (x.1, IntKind.i64.wrap (y0 + 1), x.2.2.1, x.2.2.2.1, x.2.2.2.2.1,
                  x.2.2.2.2.2.1, x.2.2.2.2.2.2)).modify
            y1.toNat fun x =>
            (x.1, x.2.1, IntKind.i64.wrap (IntKind.i64.wrap (y0 + 1) + 1), x.2.2.2.1,
              x.2.2.2.2.1, x.2.2.2.2.2.1, x.2.2.2.2.2.2)).modify
        y1.toNat fun x =>
        (x.1, x.2.1, x.2.2.1, IntKind.i64.wrap (IntKind.i64.wrap (IntKind.i64.wrap (y0 + 1) + 1) + 1),
          x.2.2.2.2.1, x.2.2.2.2.2.1, x.2.2.2.2.2.2)).length)) (
                 cond (decide (0 ≤ y1)) (
                  cond (decide
  (y1 <
    (↑(((((y2.modify y1.toNat fun x =>
                            (y0, x.2.1, x.2.2.1, x.2.2.2.1, x.2.2.2.2.1,
                              x.2.2.2.2.2.1, x.2.2.2.2.2.2)).modify
                        y1.toNat fun x =>
                        (x.1, IntKind.i64.wrap (y0 + 1), x.2.2.1, x.2.2.2.1, x.2.2.2.2.1,
                          x.2.2.2.2.2.1, x.2.2.2.2.2.2)).modify
                    y1.toNat fun x =>
                    (x.1, x.2.1, IntKind.i64.wrap (IntKind.i64.wrap (y0 + 1) + 1), x.2.2.2.1,
                      x.2.2.2.2.1, x.2.2.2.2.2.1, x.2.2.2.2.2.2)).modify
                y1.toNat fun x =>
                (x.1, x.2.1, x.2.2.1,
                  IntKind.i64.wrap (IntKind.i64.wrap (IntKind.i64.wrap (y0 + 1) + 1) + 1), x.2.2.2.2.1,
                  x.2.2.2.2.2.1, x.2.2.2.2.2.2)).modify
            y1.toNat fun x =>
            (x.1, x.2.1, x.2.2.1, x.2.2.2.1,
              IntKind.i64.wrap (IntKind.i64.wrap (IntKind.i64.wrap (IntKind.i64.wrap (y0 + 1) + 1) + 1) + 1),
              x.2.2.2.2.2.1, x.2.2.2.2.2.2)).length :
      Int))) (
                   cond (decide
  (y1.toNat <
    (((((y2.modify y1.toNat fun x =>
                        (y0, x.2.1, x.2.2.1, x.2.2.2.1, x.2.2.2.2.1,
                          x.2.2.2.2.2.1, x.2.2.2.2.2.2)).modify
                    y1.toNat fun x =>
                    (x.1, IntKind.i64.wrap (y0 + 1), x.2.2.1, x.2.2.2.1, x.2.2.2.2.1,
                      x.2.2.2.2.2.1, x.2.2.2.2.2.2)).modify
                y1.toNat fun x =>
                (x.1, x.2.1, IntKind.i64.wrap (IntKind.i64.wrap (y0 + 1) + 1), x.2.2.2.1,
                  x.2.2.2.2.1, x.2.2.2.2.2.1, x.2.2.2.2.2.2)).modify
            y1.toNat fun x =>
            (x.1, x.2.1, x.2.2.1, IntKind.i64.wrap (IntKind.i64.wrap (IntKind.i64.wrap (y0 + 1) + 1) + 1),
              x.2.2.2.2.1, x.2.2.2.2.2.1, x.2.2.2.2.2.2)).modify
        y1.toNat fun x =>
        (x.1, x.2.1, x.2.2.1, x.2.2.2.1,
          IntKind.i64.wrap (IntKind.i64.wrap (IntKind.i64.wrap (IntKind.i64.wrap (y0 + 1) + 1) + 1) + 1),
          x.2.2.2.2.2.1, x.2.2.2.2.2.2)).length)) (
                    cond (decide (0 ≤ y1)) (
                     cond (decide
  (y1 <
    (↑((((((y2.modify y1.toNat fun x =>
                                (y0, x.2.1, x.2.2.1, x.2.2.2.1, x.2.2.2.2.1,
                                  x.2.2.2.2.2.1, x.2.2.2.2.2.2)).modify
                            y1.toNat fun x =>
                            (x.1, IntKind.i64.wrap (y0 + 1), x.2.2.1, x.2.2.2.1, x.2.2.2.2.1,
                              x.2.2.2.2.2.1, x.2.2.2.2.2.2)).modify
                        y1.toNat fun x =>
                        (x.1, x.2.1, IntKind.i64.wrap (IntKind.i64.wrap (y0 + 1) + 1), x.2.2.2.1,
                          x.2.2.2.2.1, x.2.2.2.2.2.1, x.2.2.2.2.2.2)).modify
                    y1.toNat fun x =>
                    (x.1, x.2.1, x.2.2.1,
                      IntKind.i64.wrap (IntKind.i64.wrap (IntKind.i64.wrap (y0 + 1) + 1) + 1), x.2.2.2.2.1,
                      x.2.2.2.2.2.1, x.2.2.2.2.2.2)).modify
                y1.toNat fun x =>
                (x.1, x.2.1, x.2.2.1, x.2.2.2.1,
                  IntKind.i64.wrap (IntKind.i64.wrap (IntKind.i64.wrap (IntKind.i64.wrap (y0 + 1) + 1) + 1) + 1),
                  x.2.2.2.2.2.1, x.2.2.2.2.2.2)).modify
            y1.toNat fun x =>
            (x.1, x.2.1, x.2.2.1, x.2.2.2.1, x.2.2.2.2.1,
              IntKind.i64.wrap
                (IntKind.i64.wrap (IntKind.i64.wrap (IntKind.i64.wrap (IntKind.i64.wrap (y0 + 1) + 1) + 1) + 1) + 1),
              x.2.2.2.2.2.2)).length :
      Int))) (
                      cond (decide
  (y1.toNat <
    ((((((y2.modify y1.toNat fun x =>
                            (y0, x.2.1, x.2.2.1, x.2.2.2.1, x.2.2.2.2.1,
                              x.2.2.2.2.2.1, x.2.2.2.2.2.2)).modify
                        y1.toNat fun x =>
                        (x.1, IntKind.i64.wrap (y0 + 1), x.2.2.1, x.2.2.2.1, x.2.2.2.2.1,
                          x.2.2.2.2.2.1, x.2.2.2.2.2.2)).modify
                    y1.toNat fun x =>
                    (x.1, x.2.1, IntKind.i64.wrap (IntKind.i64.wrap (y0 + 1) + 1), x.2.2.2.1,
                      x.2.2.2.2.1, x.2.2.2.2.2.1, x.2.2.2.2.2.2)).modify
                y1.toNat fun x =>
                (x.1, x.2.1, x.2.2.1,
                  IntKind.i64.wrap (IntKind.i64.wrap (IntKind.i64.wrap (y0 + 1) + 1) + 1), x.2.2.2.2.1,
                  x.2.2.2.2.2.1, x.2.2.2.2.2.2)).modify
            y1.toNat fun x =>
            (x.1, x.2.1, x.2.2.1, x.2.2.2.1,
              IntKind.i64.wrap (IntKind.i64.wrap (IntKind.i64.wrap (IntKind.i64.wrap (y0 + 1) + 1) + 1) + 1),
              x.2.2.2.2.2.1, x.2.2.2.2.2.2)).modify
        y1.toNat fun x =>
        (x.1, x.2.1, x.2.2.1, x.2.2.2.1, x.2.2.2.2.1,
          IntKind.i64.wrap
            (IntKind.i64.wrap (IntKind.i64.wrap (IntKind.i64.wrap (IntKind.i64.wrap (y0 + 1) + 1) + 1) + 1) + 1),
          x.2.2.2.2.2.2)).length)) (laws_markEventS_h0_2 k j (IntKind.i64.wrap
  (IntKind.i64.wrap
      (IntKind.i64.wrap
          (IntKind.i64.wrap (IntKind.i64.wrap (IntKind.i64.wrap (IntKind.i64.wrap (y0 + 1) + 1) + 1) + 1) + 1) +
        1) +
    1)) (IntKind.i64.wrap (y1 + 1)) (((((((y2.modify y1.toNat fun x =>
                          (y0, x.2.1, x.2.2.1, x.2.2.2.1, x.2.2.2.2.1,
                            x.2.2.2.2.2.1, x.2.2.2.2.2.2)).modify
                      y1.toNat fun x =>
                      (x.1, IntKind.i64.wrap (y0 + 1), x.2.2.1, x.2.2.2.1, x.2.2.2.2.1,
                        x.2.2.2.2.2.1, x.2.2.2.2.2.2)).modify
                  y1.toNat fun x =>
                  (x.1, x.2.1, IntKind.i64.wrap (IntKind.i64.wrap (y0 + 1) + 1), x.2.2.2.1,
                    x.2.2.2.2.1, x.2.2.2.2.2.1, x.2.2.2.2.2.2)).modify
              y1.toNat fun x =>
              (x.1, x.2.1, x.2.2.1, IntKind.i64.wrap (IntKind.i64.wrap (IntKind.i64.wrap (y0 + 1) + 1) + 1),
                x.2.2.2.2.1, x.2.2.2.2.2.1, x.2.2.2.2.2.2)).modify
          y1.toNat fun x =>
          (x.1, x.2.1, x.2.2.1, x.2.2.2.1,
            IntKind.i64.wrap (IntKind.i64.wrap (IntKind.i64.wrap (IntKind.i64.wrap (y0 + 1) + 1) + 1) + 1),
            x.2.2.2.2.2.1, x.2.2.2.2.2.2)).modify
      y1.toNat fun x =>
      (x.1, x.2.1, x.2.2.1, x.2.2.2.1, x.2.2.2.2.1,
        IntKind.i64.wrap
          (IntKind.i64.wrap (IntKind.i64.wrap (IntKind.i64.wrap (IntKind.i64.wrap (y0 + 1) + 1) + 1) + 1) + 1),
        x.2.2.2.2.2.2)).modify
  y1.toNat fun x =>
  (x.1, x.2.1, x.2.2.1, x.2.2.2.1, x.2.2.2.2.1, x.2.2.2.2.2.1,
    IntKind.i64.wrap
      (IntKind.i64.wrap
          (IntKind.i64.wrap (IntKind.i64.wrap (IntKind.i64.wrap (IntKind.i64.wrap (y0 + 1) + 1) + 1) + 1) + 1) +
        1)))) (none)) (none)) (none)) (none)) (none)) (none)) (none)) (none)) (none)) (none)) (none)) (none)) (none)) (none)) (none)) (none)) (none)) (none)) (none)) (none)) (none)) (some ((y0, y2, ()))) := by kernel_rfl

noncomputable def laws_markOutS_h0 (k : Nat) (y0 : V_int) (y1 : List V_impl_Out) : Option ((V_int × (List V_impl_Out × Unit))) := evalT E k 35 (.pair t_int (.pair (.ow 111 t_impl_Out) .unit)) [.c (.o 0), inp t_int y0] [some (.own 111 t_impl_Out y1)]
noncomputable def laws_markOutS_h0_2 (k : Nat) (j : Nat) (y0 : Int) (y1 : Int) (y2 : List V_impl_Out) : Option ((V_int × (List V_impl_Out × Unit))) := loopAt E 35 (.pair t_int (.pair (.ow 111 t_impl_Out) .unit)) [true, false, true, false] [none] [0] k [] j (mkS 48 [(0, .c (.o 0)), (1, .c (.int .i64 y0)), (5, .c (.int .i64 y1))]) [some (.own 111 t_impl_Out y2)]
theorem laws_markOutS_h0_eq (k : Nat) (y0 : V_int) (y1 : List V_impl_Out) : laws_markOutS_h0 (k + 1) y0 y1 = laws_markOutS_h0_2 k k y0 0 y1 := by kernel_rfl
theorem laws_markOutS_h0_2_eq (k : Nat) (j : Nat) (y0 : Int) (y1 : Int) (y2 : List V_impl_Out) : laws_markOutS_h0_2 k (j + 1) y0 y1 y2 = 
 cond (decide (y1 < (↑y2.length : Int))) (
  cond (decide (0 ≤ y1)) (
   cond (decide (y1 < (↑y2.length : Int))) (
    cond (decide (y1.toNat < y2.length)) (
     cond (decide (0 ≤ y1)) (
      cond (decide
  (y1 <
    (↑(y2.modify y1.toNat fun x => (y0, x.2.1, x.2.2.1, x.2.2.2.1, x.2.2.2.2)).length : Int))) (
       cond (decide
  (y1.toNat < (y2.modify y1.toNat fun x => (y0, x.2.1, x.2.2.1, x.2.2.2.1, x.2.2.2.2)).length)) (
        cond (decide (0 ≤ y1)) (
         cond (decide
  (y1 <
    (↑((y2.modify y1.toNat fun x => (y0, x.2.1, x.2.2.1, x.2.2.2.1, x.2.2.2.2)).modify
            y1.toNat fun x =>
            (x.1, IntKind.i64.wrap (y0 + 1), x.2.2.1, x.2.2.2.1, x.2.2.2.2)).length :
      Int))) (
          cond (decide
  (y1.toNat <
    ((y2.modify y1.toNat fun x => (y0, x.2.1, x.2.2.1, x.2.2.2.1, x.2.2.2.2)).modify y1.toNat
        fun x => (x.1, IntKind.i64.wrap (y0 + 1), x.2.2.1, x.2.2.2.1, x.2.2.2.2)).length)) (
           cond (decide (0 ≤ y1)) (
            cond (decide
  (y1 <
    (↑(((y2.modify y1.toNat fun x => (y0, x.2.1, x.2.2.1, x.2.2.2.1, x.2.2.2.2)).modify
                y1.toNat fun x =>
                (x.1, IntKind.i64.wrap (y0 + 1), x.2.2.1, x.2.2.2.1, x.2.2.2.2)).modify
            y1.toNat fun x =>
            (x.1, x.2.1, IntKind.i64.wrap (IntKind.i64.wrap (y0 + 1) + 1), x.2.2.2.1,
              x.2.2.2.2)).length :
      Int))) (
             cond (decide
  (y1.toNat <
    (((y2.modify y1.toNat fun x => (y0, x.2.1, x.2.2.1, x.2.2.2.1, x.2.2.2.2)).modify y1.toNat
            fun x => (x.1, IntKind.i64.wrap (y0 + 1), x.2.2.1, x.2.2.2.1, x.2.2.2.2)).modify
        y1.toNat fun x =>
        (x.1, x.2.1, IntKind.i64.wrap (IntKind.i64.wrap (y0 + 1) + 1), x.2.2.2.1,
          x.2.2.2.2)).length)) (
              cond (decide (0 ≤ y1)) (
               cond (decide
  (y1 <
    (↑((((y2.modify y1.toNat fun x => (y0, x.2.1, x.2.2.1, x.2.2.2.1, x.2.2.2.2)).modify
                    y1.toNat fun x =>
                    (x.1, IntKind.i64.wrap (y0 + 1), x.2.2.1, x.2.2.2.1, x.2.2.2.2)).modify
                y1.toNat fun x =>
                (x.1, x.2.1, IntKind.i64.wrap (IntKind.i64.wrap (y0 + 1) + 1), x.2.2.2.1,
                  x.2.2.2.2)).modify
            y1.toNat fun x =>
            (x.1, x.2.1, x.2.2.1, IntKind.i64.wrap (IntKind.i64.wrap (IntKind.i64.wrap (y0 + 1) + 1) + 1),
              x.2.2.2.2)).length :
      Int))) (
                cond (decide
  (y1.toNat <
    ((((y2.modify y1.toNat fun x => (y0, x.2.1, x.2.2.1, x.2.2.2.1, x.2.2.2.2)).modify
                y1.toNat fun x =>
                (x.1, IntKind.i64.wrap (y0 + 1), x.2.2.1, x.2.2.2.1, x.2.2.2.2)).modify
            y1.toNat fun x =>
            (x.1, x.2.1, IntKind.i64.wrap (IntKind.i64.wrap (y0 + 1) + 1), x.2.2.2.1,
              x.2.2.2.2)).modify
        y1.toNat fun x =>
        (x.1, x.2.1, x.2.2.1, IntKind.i64.wrap (IntKind.i64.wrap (IntKind.i64.wrap (y0 + 1) + 1) + 1),
          x.2.2.2.2)).length)) (laws_markOutS_h0_2 k j (IntKind.i64.wrap (IntKind.i64.wrap (IntKind.i64.wrap (IntKind.i64.wrap (IntKind.i64.wrap (y0 + 1) + 1) + 1) + 1) + 1)) (IntKind.i64.wrap (y1 + 1)) (((((y2.modify y1.toNat fun x => (y0, x.2.1, x.2.2.1, x.2.2.2.1, x.2.2.2.2)).modify y1.toNat
              fun x => (x.1, IntKind.i64.wrap (y0 + 1), x.2.2.1, x.2.2.2.1, x.2.2.2.2)).modify
          y1.toNat fun x =>
          (x.1, x.2.1, IntKind.i64.wrap (IntKind.i64.wrap (y0 + 1) + 1), x.2.2.2.1,
            x.2.2.2.2)).modify
      y1.toNat fun x =>
      (x.1, x.2.1, x.2.2.1, IntKind.i64.wrap (IntKind.i64.wrap (IntKind.i64.wrap (y0 + 1) + 1) + 1),
        x.2.2.2.2)).modify
  y1.toNat fun x =>
  (x.1, x.2.1, x.2.2.1, x.2.2.2.1,
    IntKind.i64.wrap (IntKind.i64.wrap (IntKind.i64.wrap (IntKind.i64.wrap (y0 + 1) + 1) + 1) + 1)))) (none)) (none)) (none)) (none)) (none)) (none)) (none)) (none)) (none)) (none)) (none)) (none)) (none)) (none)) (none)) (some ((y0, y2, ()))) := by kernel_rfl

noncomputable def laws_markWord_h0 (k : Nat) (y0 : Int) (y1 : Int) (y2 : Int) (y3 : Int) (y4 : Int) (y5 : Int) (y6 : Int) (y7 : V_int) (y8 : List V_int) (y9 : List V_int) (y10 : List V_impl_Event) (y11 : List V_impl_Out) : Option ((V_int × (List V_int × (List V_int × (List V_impl_Event × (List V_impl_Out × Unit)))))) := evalT E k 47 (.pair t_int (.pair (.ow 3 t_int) (.pair (.ow 3 t_int) (.pair (.ow 41 t_impl_Event) (.pair (.ow 111 t_impl_Out) .unit))))) [.v (.agg [.int .i64 y0, .int .i64 y1, .int .i64 y2, .int .i64 y3, .int .i64 y4, .int .i64 y5, .int .i64 y6, .o 0, .o 1, .o 2, .o 3]), inp t_int y7] [some (.own 3 t_int y8), some (.own 3 t_int y9), some (.own 41 t_impl_Event y10), some (.own 111 t_impl_Out y11)]
theorem laws_markWord_h0_eq (k : Nat) (y0 : Int) (y1 : Int) (y2 : Int) (y3 : Int) (y4 : Int) (y5 : Int) (y6 : Int) (y7 : V_int) (y8 : List V_int) (y9 : List V_int) (y10 : List V_impl_Event) (y11 : List V_impl_Out) : laws_markWord_h0 (k + 1) y0 y1 y2 y3 y4 y5 y6 y7 y8 y9 y10 y11 = 
 (laws_markIntS_h0 k y7 y8).bind fun x0 => 
  (laws_markIntS_h0 k x0.1 y9).bind fun x1 => 
   (laws_markEventS_h0 k x1.1 y10).bind fun x2 => 
    (laws_markOutS_h0 k x2.1 y11).bind fun x3 => some ((x3.1, x0.2.1, x1.2.1, x2.2.1, x3.2.1, ())) := by kernel_rfl

noncomputable def laws_markByteS_h0 (k : Nat) (y0 : V_int) (y1 : List V_uint8) : Option ((V_int × (List V_uint8 × Unit))) := evalT E k 48 (.pair t_int (.pair (.ow 5 t_uint8) .unit)) [.c (.o 0), inp t_int y0] [some (.own 5 t_uint8 y1)]
noncomputable def laws_markByteS_h0_2 (k : Nat) (j : Nat) (y0 : Int) (y1 : Int) (y2 : List V_uint8) : Option ((V_int × (List V_uint8 × Unit))) := loopAt E 48 (.pair t_int (.pair (.ow 5 t_uint8) .unit)) [true, false, true, false] [none] [0] k [] j (mkS 20 [(0, .c (.o 0)), (1, .c (.int .i64 y0)), (5, .c (.int .i64 y1))]) [some (.own 5 t_uint8 y2)]
theorem laws_markByteS_h0_eq (k : Nat) (y0 : V_int) (y1 : List V_uint8) : laws_markByteS_h0 (k + 1) y0 y1 = laws_markByteS_h0_2 k k y0 0 y1 := by kernel_rfl
theorem laws_markByteS_h0_2_eq (k : Nat) (j : Nat) (y0 : Int) (y1 : Int) (y2 : List V_uint8) : laws_markByteS_h0_2 k (j + 1) y0 y1 y2 = 
 cond (decide (y1 < (↑y2.length : Int))) (
  cond (decide (0 ≤ y1)) (
   cond (decide (y1 < (↑y2.length : Int))) (
    cond (decide (y1.toNat < y2.length)) (laws_markByteS_h0_2 k j (IntKind.i64.wrap (y0 + 1)) (IntKind.i64.wrap (y1 + 1)) (y2.set y1.toNat (IntKind.u8.wrap y0))) (none)) (none)) (none)) (some ((y0, y2, ()))) := by kernel_rfl

noncomputable def laws_heldByteS (k : Nat) (a0 : V_sl_uint8) (a1 : V_int) : Option V_int := evalT E k 49 t_int [inp t_sl_uint8 a0, inp t_int a1] []
noncomputable def laws_heldByteS_2 (k : Nat) (j : Nat) (y0 : List V_uint8) (y1 : Int) (y2 : Int) : Option V_int := loopAt E 49 t_int [true, false, true, false] [] [] k [] j (mkS 22 [(0, .c (.sl 5 t_uint8 y0)), (1, .c (.int .i64 y1)), (5, .c (.int .i64 y2))]) []
theorem laws_heldByteS_eq (k : Nat) (a0 : V_sl_uint8) (a1 : V_int) : laws_heldByteS (k + 1) a0 a1 = laws_heldByteS_2 k k a0 a1 0 := by kernel_rfl
theorem laws_heldByteS_2_eq (k : Nat) (j : Nat) (y0 : List V_uint8) (y1 : Int) (y2 : Int) : laws_heldByteS_2 k (j + 1) y0 y1 y2 = 
 cond (decide (y2 < (↑y0.length : Int))) (
  cond (decide (0 ≤ y2)) (
   cond (decide (y2 < (↑y0.length : Int))) (
    cond (y0.getD y2.toNat (dflt t_uint8) != IntKind.u8.wrap y1) (some (-1)) (laws_heldByteS_2 k j y0 (IntKind.i64.wrap (y1 + 1)) (IntKind.i64.wrap (y2 + 1)))) (none)) (none)) (some y1) := by kernel_rfl

noncomputable def laws_FnExactWordPack (k : Nat) (a0 : V_laws_Word) : Option V_bool := evalT E k 10 t_bool [inp t_laws_Word a0] []
theorem laws_FnExactWordPack_eq (k : Nat) (a0 : V_laws_Word) : laws_FnExactWordPack (k + 1) a0 = 
 (laws_szWord k a0 1048576).bind fun x0 => 
  cond (decide (x0 < 0)) (some true) (
   (laws_toWord k a0).bind fun x1 => 
    (spec_WordPack k x1).bind fun x2 => 
     (laws_toWord k a0).bind fun x3 => 
      (impl_WordPack k x3).bind fun x4 => 
       (laws_eqByteS k x4 x2).bind fun x5 => 
        cond (!x5) (some false) (
         (laws_toWord k a0).bind fun x6 => 
          (laws_eqWord k x3 x6).bind fun x7 => 
           cond (!x7) (some false) (
            (laws_markWord_h0 k x3.1 x3.2.1 x3.2.2.1 x3.2.2.2.1 x3.2.2.2.2.1 x3.2.2.2.2.2.1 x3.2.2.2.2.2.2.1 1 x3.2.2.2.2.2.2.2.1 x3.2.2.2.2.2.2.2.2.1 x3.2.2.2.2.2.2.2.2.2.1 x3.2.2.2.2.2.2.2.2.2.2).bind fun x8 => 
             cond (decide (x8.1 < 0)) (some false) (
              (laws_eqByteS k x4 x2).bind fun x9 => 
               cond (!x9) (some false) (
                (laws_markByteS_h0 k 1 x4).bind fun x10 => 
                 (laws_heldByteS k x10.2.1 1).bind fun x11 => 
                  cond (decide (x11 < 0)) (some false) (
                   cond (x11 != x10.1) (some false) (
                    (laws_toWord k a0).bind fun x12 => 
                     (impl_WordPack k x12).bind fun x13 => 
                      (laws_eqByteS k x13 x2).bind fun x14 => 
                       cond (!x14) (some false) (
                        (laws_heldByteS k x10.2.1 1).bind fun x15 => 
                         cond (decide (x15 < 0)) (some false) (
                          cond (x15 != x10.1) (some false) (some true)))))))))) := by kernel_rfl
def Goal : Prop := ∀ (a0 : V_laws_Word), Go.Sx.Good t_laws_Word a0 → ∃ k, laws_FnExactWordPack k a0 = some true
end Go.Proofs.Ytjgpacfhokpfdaa.SFnExactWordPack
