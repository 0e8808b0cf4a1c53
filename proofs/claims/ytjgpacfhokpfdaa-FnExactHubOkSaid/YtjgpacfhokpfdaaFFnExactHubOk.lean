/- What each function of the program answers: one step of the plain machine, by the kernel. -/
import Derived.Test.YtjgpacfhokpfdaaEFnExactHubOk
set_option linter.unusedVariables false
set_option maxRecDepth 1000000
set_option maxHeartbeats 0
namespace Go.Proofs.Ytjgpacfhokpfdaa.SFnExactHubOk
open Go Go.Sx Go.Proofs
noncomputable def laws_szIntS (k : Nat) (a0 : V_sl_int) (a1 : V_int) : Option V_int := evalT E k 98 t_int [inp t_sl_int a0, inp t_int a1] []
theorem laws_szIntS_eq (k : Nat) (a0 : V_sl_int) (a1 : V_int) : laws_szIntS (k + 1) a0 a1 = 
 cond (decide (IntKind.i64.wrap (a1 - (↑(List.length a0) : Int)) < 0)) (some (-1)) (some (IntKind.i64.wrap (a1 - (↑(List.length a0) : Int)))) := by kernel_rfl

noncomputable def laws_szEventS (k : Nat) (a0 : V_sl_laws_Event) (a1 : V_int) : Option V_int := evalT E k 21 t_int [inp t_sl_laws_Event a0, inp t_int a1] []
theorem laws_szEventS_eq (k : Nat) (a0 : V_sl_laws_Event) (a1 : V_int) : laws_szEventS (k + 1) a0 a1 = 
 cond (decide (IntKind.i64.wrap (a1 - (↑(List.length a0) : Int)) < 0)) (some (-1)) (some (IntKind.i64.wrap (a1 - (↑(List.length a0) : Int)))) := by kernel_rfl

noncomputable def laws_szOutS (k : Nat) (a0 : V_sl_laws_Out) (a1 : V_int) : Option V_int := evalT E k 99 t_int [inp t_sl_laws_Out a0, inp t_int a1] []
theorem laws_szOutS_eq (k : Nat) (a0 : V_sl_laws_Out) (a1 : V_int) : laws_szOutS (k + 1) a0 a1 = 
 cond (decide (IntKind.i64.wrap (a1 - (↑(List.length a0) : Int)) < 0)) (some (-1)) (some (IntKind.i64.wrap (a1 - (↑(List.length a0) : Int)))) := by kernel_rfl

noncomputable def laws_szWord (k : Nat) (a0 : V_laws_Word) (a1 : V_int) : Option V_int := evalT E k 41 t_int [inp t_laws_Word a0, inp t_int a1] []
theorem laws_szWord_eq (k : Nat) (a0 : V_laws_Word) (a1 : V_int) : laws_szWord (k + 1) a0 a1 = 
 (laws_szIntS k a0.2.2.2.2.2.2.2.1 a1).bind fun x0 => 
  cond (decide (x0 < 0)) (some (-1)) (
   (laws_szIntS k a0.2.2.2.2.2.2.2.2.1 x0).bind fun x1 => 
    cond (decide (x1 < 0)) (some (-1)) (
     (laws_szEventS k a0.2.2.2.2.2.2.2.2.2.1 x1).bind fun x2 => 
      cond (decide (x2 < 0)) (some (-1)) (
       (laws_szOutS k a0.2.2.2.2.2.2.2.2.2.2 x2).bind fun x3 => 
        cond (decide (x3 < 0)) (some (-1)) (some x3)))) := by kernel_rfl

noncomputable def laws_szWordS (k : Nat) (a0 : V_sl_laws_Word) (a1 : V_int) : Option V_int := evalT E k 121 t_int [inp t_sl_laws_Word a0, inp t_int a1] []
noncomputable def laws_szWordS_5 (k : Nat) (j : Nat) (y0 : List V_laws_Word) (y1 : Int) (y2 : Int) : Option V_int := loopAt E 121 t_int [true, true, true, false, true, false] [] k [] j (mkS 27 [(0, .c (.sl 68 t_laws_Word y0)), (1, .c (.int .i64 y1)), (5, .c (.int .i64 y2))]) []
theorem laws_szWordS_eq (k : Nat) (a0 : V_sl_laws_Word) (a1 : V_int) : laws_szWordS (k + 1) a0 a1 = 
 cond (decide (IntKind.i64.wrap (a1 - (↑(List.length a0) : Int)) < 0)) (some (-1)) (laws_szWordS_5 k k a0 (IntKind.i64.wrap (a1 - (↑(List.length a0) : Int))) 0) := by kernel_rfl
theorem laws_szWordS_5_eq (k : Nat) (j : Nat) (y0 : List V_laws_Word) (y1 : Int) (y2 : Int) : laws_szWordS_5 k (j + 1) y0 y1 y2 = 
 cond (decide (y2 < (↑y0.length : Int))) (
  cond (decide (0 ≤ y2)) (
   cond (decide (y2 < (↑y0.length : Int))) (
    (laws_szWord k (y0.getD y2.toNat (dflt t_laws_Word)) y1).bind fun x0 => 
     cond (decide (x0 < 0)) (some (-1)) (laws_szWordS_5 k j y0 x0 (IntKind.i64.wrap (y2 + 1)))) (none)) (none)) (some y1) := by kernel_rfl

noncomputable def laws_szHub (k : Nat) (a0 : V_laws_Hub) (a1 : V_int) : Option V_int := evalT E k 53 t_int [inp t_laws_Hub a0, inp t_int a1] []
theorem laws_szHub_eq (k : Nat) (a0 : V_laws_Hub) (a1 : V_int) : laws_szHub (k + 1) a0 a1 = 
 (laws_szWordS k a0.2.1 a1).bind fun x0 => 
  cond (decide (x0 < 0)) (some (-1)) (
   (laws_szWordS k a0.2.2.1 x0).bind fun x1 => 
    cond (decide (x1 < 0)) (some (-1)) (
     (laws_szWordS k a0.2.2.2 x1).bind fun x2 => 
      cond (decide (x2 < 0)) (some (-1)) (some x2))) := by kernel_rfl

noncomputable def laws_toIntS (k : Nat) (a0 : V_sl_int) : Option V_sl_int := evalT E k 100 t_sl_int [inp t_sl_int a0] []
noncomputable def laws_toIntS_3 (k : Nat) (j : Nat) (y0 : List V_int) (y1 : Int) (y2 : List V_int) : Option V_sl_int := loopAt E 100 t_sl_int [true, true, false, true, false] [] k [] j (mkS 22 [(0, .c (.sl 3 t_int y0)), (3, .c (.o 0)), (4, .c (.int .i64 y1))]) [some (.own 3 t_int y2)]
theorem laws_toIntS_eq (k : Nat) (a0 : V_sl_int) : laws_toIntS (k + 1) a0 = 
 cond (decide ((↑(List.length a0) : Int) = (↑(List.length a0) : Int))) (
  cond (decide ((↑(List.length a0) : Int).toNat * 8 ≤ 140737488351232)) (laws_toIntS_3 k k a0 0 (List.replicate (↑(List.length a0) : Int).toNat (dflt t_int))) (none)) (none) := by kernel_rfl
theorem laws_toIntS_3_eq (k : Nat) (j : Nat) (y0 : List V_int) (y1 : Int) (y2 : List V_int) : laws_toIntS_3 k (j + 1) y0 y1 y2 = 
 cond (decide (y1 < (↑y0.length : Int))) (
  cond (decide (0 ≤ y1)) (
   cond (decide (y1 < (↑y0.length : Int))) (
    cond (decide (0 ≤ y1)) (
     cond (decide (y1 < (↑y2.length : Int))) (
      cond (decide (y1.toNat < y2.length)) (laws_toIntS_3 k j y0 (IntKind.i64.wrap (y1 + 1)) (y2.set y1.toNat (y0.getD y1.toNat (dflt t_int)))) (none)) (none)) (none)) (none)) (none)) (some y2) := by kernel_rfl

noncomputable def laws_toEvent (k : Nat) (a0 : V_laws_Event) : Option V_impl_Event := evalT E k 74 t_impl_Event [inp t_laws_Event a0] []
theorem laws_toEvent_eq (k : Nat) (a0 : V_laws_Event) : laws_toEvent (k + 1) a0 = some (a0.1, a0.2.1, a0.2.2.1, a0.2.2.2.1, a0.2.2.2.2.1, a0.2.2.2.2.2.1,
  a0.2.2.2.2.2.2) := by kernel_rfl

noncomputable def laws_toEventS (k : Nat) (a0 : V_sl_laws_Event) : Option V_sl_impl_Event := evalT E k 23 t_sl_impl_Event [inp t_sl_laws_Event a0] []
noncomputable def laws_toEventS_3 (k : Nat) (j : Nat) (y0 : List V_laws_Event) (y1 : Int) (y2 : List V_impl_Event) : Option V_sl_impl_Event := loopAt E 23 t_sl_impl_Event [true, true, false, true, false] [] k [] j (mkS 23 [(0, .c (.sl 103 t_laws_Event y0)), (3, .c (.o 0)), (4, .c (.int .i64 y1))]) [some (.own 41 t_impl_Event y2)]
theorem laws_toEventS_eq (k : Nat) (a0 : V_sl_laws_Event) : laws_toEventS (k + 1) a0 = 
 cond (decide ((↑(List.length a0) : Int) = (↑(List.length a0) : Int))) (
  cond (decide ((↑(List.length a0) : Int).toNat * 56 ≤ 140737488351232)) (laws_toEventS_3 k k a0 0 (List.replicate (↑(List.length a0) : Int).toNat (dflt t_impl_Event))) (none)) (none) := by kernel_rfl
theorem laws_toEventS_3_eq (k : Nat) (j : Nat) (y0 : List V_laws_Event) (y1 : Int) (y2 : List V_impl_Event) : laws_toEventS_3 k (j + 1) y0 y1 y2 = 
 cond (decide (y1 < (↑y0.length : Int))) (
  cond (decide (0 ≤ y1)) (
   cond (decide (y1 < (↑y0.length : Int))) (
    (laws_toEvent k (y0.getD y1.toNat (dflt t_laws_Event))).bind fun x0 => 
     cond (decide (0 ≤ y1)) (
      cond (decide (y1 < (↑y2.length : Int))) (
       cond (decide (y1.toNat < y2.length)) (laws_toEventS_3 k j y0 (IntKind.i64.wrap (y1 + 1)) (y2.set y1.toNat
  (x0.1, x0.2.1, x0.2.2.1, x0.2.2.2.1, x0.2.2.2.2.1, x0.2.2.2.2.2.1,
    x0.2.2.2.2.2.2))) (none)) (none)) (none)) (none)) (none)) (some y2) := by kernel_rfl

noncomputable def laws_toOut (k : Nat) (a0 : V_laws_Out) : Option V_impl_Out := evalT E k 149 t_impl_Out [inp t_laws_Out a0] []
theorem laws_toOut_eq (k : Nat) (a0 : V_laws_Out) : laws_toOut (k + 1) a0 = some (a0.1, a0.2.1, a0.2.2.1, a0.2.2.2.1, a0.2.2.2.2) := by kernel_rfl

noncomputable def laws_toOutS (k : Nat) (a0 : V_sl_laws_Out) : Option V_sl_impl_Out := evalT E k 101 t_sl_impl_Out [inp t_sl_laws_Out a0] []
noncomputable def laws_toOutS_3 (k : Nat) (j : Nat) (y0 : List V_laws_Out) (y1 : Int) (y2 : List V_impl_Out) : Option V_sl_impl_Out := loopAt E 101 t_sl_impl_Out [true, true, false, true, false] [] k [] j (mkS 23 [(0, .c (.sl 172 t_laws_Out y0)), (3, .c (.o 0)), (4, .c (.int .i64 y1))]) [some (.own 111 t_impl_Out y2)]
theorem laws_toOutS_eq (k : Nat) (a0 : V_sl_laws_Out) : laws_toOutS (k + 1) a0 = 
 cond (decide ((↑(List.length a0) : Int) = (↑(List.length a0) : Int))) (
  cond (decide ((↑(List.length a0) : Int).toNat * 40 ≤ 140737488351232)) (laws_toOutS_3 k k a0 0 (List.replicate (↑(List.length a0) : Int).toNat (dflt t_impl_Out))) (none)) (none) := by kernel_rfl
theorem laws_toOutS_3_eq (k : Nat) (j : Nat) (y0 : List V_laws_Out) (y1 : Int) (y2 : List V_impl_Out) : laws_toOutS_3 k (j + 1) y0 y1 y2 = 
 cond (decide (y1 < (↑y0.length : Int))) (
  cond (decide (0 ≤ y1)) (
   cond (decide (y1 < (↑y0.length : Int))) (
    (laws_toOut k (y0.getD y1.toNat (dflt t_laws_Out))).bind fun x0 => 
     cond (decide (0 ≤ y1)) (
      cond (decide (y1 < (↑y2.length : Int))) (
       cond (decide (y1.toNat < y2.length)) (laws_toOutS_3 k j y0 (IntKind.i64.wrap (y1 + 1)) (y2.set y1.toNat (x0.1, x0.2.1, x0.2.2.1, x0.2.2.2.1, x0.2.2.2.2))) (none)) (none)) (none)) (none)) (none)) (some y2) := by kernel_rfl

noncomputable def laws_toWord (k : Nat) (a0 : V_laws_Word) : Option V_impl_Word := evalT E k 42 t_impl_Word [inp t_laws_Word a0] []
theorem laws_toWord_eq (k : Nat) (a0 : V_laws_Word) : laws_toWord (k + 1) a0 = 
 (laws_toIntS k a0.2.2.2.2.2.2.2.1).bind fun x0 => 
  (laws_toIntS k a0.2.2.2.2.2.2.2.2.1).bind fun x1 => 
   (laws_toEventS k a0.2.2.2.2.2.2.2.2.2.1).bind fun x2 => 
    (laws_toOutS k a0.2.2.2.2.2.2.2.2.2.2).bind fun x3 => some (a0.1, a0.2.1, a0.2.2.1, a0.2.2.2.1, a0.2.2.2.2.1, a0.2.2.2.2.2.1,
  a0.2.2.2.2.2.2.1, x0, x1, x2, x3) := by kernel_rfl

noncomputable def laws_toWordS (k : Nat) (a0 : V_sl_laws_Word) : Option V_sl_impl_Word := evalT E k 123 t_sl_impl_Word [inp t_sl_laws_Word a0] []
noncomputable def laws_toWordS_3 (k : Nat) (j : Nat) (y0 : List V_laws_Word) (y1 : Int) (y2 : List V_impl_Word) : Option V_sl_impl_Word := loopAt E 123 t_sl_impl_Word [true, true, false, true, false] [] k [] j (mkS 23 [(0, .c (.sl 68 t_laws_Word y0)), (3, .c (.o 0)), (4, .c (.int .i64 y1))]) [some (.own 62 t_impl_Word y2)]
theorem laws_toWordS_eq (k : Nat) (a0 : V_sl_laws_Word) : laws_toWordS (k + 1) a0 = 
 cond (decide ((↑(List.length a0) : Int) = (↑(List.length a0) : Int))) (
  cond (decide ((↑(List.length a0) : Int).toNat * 152 ≤ 140737488351232)) (laws_toWordS_3 k k a0 0 (List.replicate (↑(List.length a0) : Int).toNat (dflt t_impl_Word))) (none)) (none) := by kernel_rfl
theorem laws_toWordS_3_eq (k : Nat) (j : Nat) (y0 : List V_laws_Word) (y1 : Int) (y2 : List V_impl_Word) : laws_toWordS_3 k (j + 1) y0 y1 y2 = 
 cond (decide (y1 < (↑y0.length : Int))) (
  cond (decide (0 ≤ y1)) (
   cond (decide (y1 < (↑y0.length : Int))) (
    (laws_toWord k (y0.getD y1.toNat (dflt t_laws_Word))).bind fun x0 => 
     cond (decide (0 ≤ y1)) (
      cond (decide (y1 < (↑y2.length : Int))) (
       cond (decide (y1.toNat < y2.length)) (laws_toWordS_3 k j y0 (IntKind.i64.wrap (y1 + 1)) (y2.set y1.toNat
  (x0.1, x0.2.1, x0.2.2.1, x0.2.2.2.1, x0.2.2.2.2.1, x0.2.2.2.2.2.1,
    x0.2.2.2.2.2.2.1, x0.2.2.2.2.2.2.2.1, x0.2.2.2.2.2.2.2.2.1,
    x0.2.2.2.2.2.2.2.2.2.1, x0.2.2.2.2.2.2.2.2.2.2))) (none)) (none)) (none)) (none)) (none)) (some y2) := by kernel_rfl

noncomputable def laws_toHub (k : Nat) (a0 : V_laws_Hub) : Option V_impl_Hub := evalT E k 55 t_impl_Hub [inp t_laws_Hub a0] []
theorem laws_toHub_eq (k : Nat) (a0 : V_laws_Hub) : laws_toHub (k + 1) a0 = 
 (laws_toWordS k a0.2.1).bind fun x0 => 
  (laws_toWordS k a0.2.2.1).bind fun x1 => 
   (laws_toWordS k a0.2.2.2).bind fun x2 => some (a0.1, x0, x1, x2) := by kernel_rfl

noncomputable def spec_l22Max (k : Nat) : Option V_int := evalT E k 89 t_int [] []
theorem spec_l22Max_eq (k : Nat) : spec_l22Max (k + 1) = some 9999 := by kernel_rfl

noncomputable def spec_l6In (k : Nat) (a0 : V_int) (a1 : V_int) (a2 : V_int) : Option V_bool := evalT E k 88 t_bool [inp t_int a0, inp t_int a1, inp t_int a2] []
theorem spec_l6In_eq (k : Nat) (a0 : V_int) (a1 : V_int) (a2 : V_int) : spec_l6In (k + 1) a0 a1 a2 = 
 cond (decide (a0 ≥ a1)) (some (decide (a0 ≤ a2))) (some false) := by kernel_rfl

noncomputable def spec_l23List (k : Nat) (a0 : V_sl_int) : Option V_bool := evalT E k 90 t_bool [inp t_sl_int a0] []
noncomputable def spec_l23List_4 (k : Nat) (j : Nat) (y0 : List V_int) (y1 : Int) : Option V_bool := loopAt E 90 t_bool [true, true, false, true, false] [] k [] j (mkS 25 [(0, .c (.sl 3 t_int y0)), (3, .c (.int .i64 y1))]) []
theorem spec_l23List_eq (k : Nat) (a0 : V_sl_int) : spec_l23List (k + 1) a0 = 
 cond ((↑(List.length a0) : Int) != 0) (
  cond ((↑(List.length a0) : Int) != 3) (some false) (spec_l23List_4 k k a0 0)) (spec_l23List_4 k k a0 0) := by kernel_rfl
theorem spec_l23List_4_eq (k : Nat) (j : Nat) (y0 : List V_int) (y1 : Int) : spec_l23List_4 k (j + 1) y0 y1 = 
 cond (decide (y1 < (↑y0.length : Int))) (
  cond (decide (0 ≤ y1)) (
   cond (decide (y1 < (↑y0.length : Int))) (
    (spec_l22Max k ).bind fun x0 => 
     (spec_l6In k (y0.getD y1.toNat (dflt t_int)) 0 x0).bind fun x1 => 
      cond (!x1) (some false) (spec_l23List_4 k j y0 (IntKind.i64.wrap (y1 + 1)))) (none)) (none)) (some true) := by kernel_rfl

noncomputable def spec_l2Most (k : Nat) : Option V_int := evalT E k 61 t_int [] []
theorem spec_l2Most_eq (k : Nat) : spec_l2Most (k + 1) = some 100 := by kernel_rfl

noncomputable def spec_l1Proc (k : Nat) (a0 : V_int) : Option V_bool := evalT E k 59 t_bool [inp t_int a0] []
theorem spec_l1Proc_eq (k : Nat) (a0 : V_int) : spec_l1Proc (k + 1) a0 = 
 (spec_l6In k a0 0 3).bind fun x0 => some x0 := by kernel_rfl

noncomputable def spec_l1Num (k : Nat) (a0 : V_int) : Option V_bool := evalT E k 128 t_bool [inp t_int a0] []
theorem spec_l1Num_eq (k : Nat) (a0 : V_int) : spec_l1Num (k + 1) a0 = 
 (spec_l6In k a0 0 999).bind fun x0 => some x0 := by kernel_rfl

noncomputable def spec_l1EventOk (k : Nat) (a0 : V_impl_Event) : Option V_bool := evalT E k 129 t_bool [inp t_impl_Event a0] []
theorem spec_l1EventOk_eq (k : Nat) (a0 : V_impl_Event) : spec_l1EventOk (k + 1) a0 = 
 (spec_l6In k a0.1 0 40).bind fun x0 => 
  cond (x0) (
   (spec_l1Proc k a0.2.1).bind fun x1 => 
    cond (x1) (
     (spec_l6In k a0.2.2.1 (-1) 3).bind fun x2 => 
      cond (x2) (
       (spec_l6In k a0.2.2.2.1 0 12).bind fun x3 => 
        cond (x3) (
         (spec_l6In k a0.2.2.2.2.1 0 3).bind fun x4 => 
          cond (x4) (
           (spec_l6In k a0.2.2.2.2.2.1 0 3).bind fun x5 => 
            cond (x5) (
             (spec_l1Num k a0.2.2.2.2.2.2).bind fun x6 => some x6) (some false)) (some false)) (some false)) (some false)) (some false)) (some false) := by kernel_rfl

noncomputable def spec_EventLess (k : Nat) (a0 : V_impl_Event) (a1 : V_impl_Event) : Option V_bool := evalT E k 63 t_bool [inp t_impl_Event a0, inp t_impl_Event a1] []
theorem spec_EventLess_eq (k : Nat) (a0 : V_impl_Event) (a1 : V_impl_Event) : spec_EventLess (k + 1) a0 a1 = 
 cond (a0.1 != a1.1) (some (decide (a0.1 < a1.1))) (
  cond (a0.2.1 != a1.2.1) (some (decide (a0.2.1 < a1.2.1))) (
   cond (a0.2.2.1 != a1.2.2.1) (some (decide (a0.2.2.1 < a1.2.2.1))) (
    cond (a0.2.2.2.1 != a1.2.2.2.1) (some (decide (a0.2.2.2.1 < a1.2.2.2.1))) (
     cond (a0.2.2.2.2.1 != a1.2.2.2.2.1) (some (decide (a0.2.2.2.2.1 < a1.2.2.2.2.1))) (
      cond (a0.2.2.2.2.2.1 != a1.2.2.2.2.2.1) (some (decide (a0.2.2.2.2.2.1 < a1.2.2.2.2.2.1))) (some (decide (a0.2.2.2.2.2.2 < a1.2.2.2.2.2.2)))))))) := by kernel_rfl

noncomputable def spec_l2Events (k : Nat) (a0 : V_sl_impl_Event) (a1 : V_int) : Option V_bool := evalT E k 91 t_bool [inp t_sl_impl_Event a0, inp t_int a1] []
noncomputable def spec_l2Events_4 (k : Nat) (j : Nat) (y0 : List V_impl_Event) (y1 : Int) : Option V_bool := loopAt E 91 t_bool [true, true, false, true, false] [] k [] j (mkS 39 [(0, .c (.sl 41 t_impl_Event y0)), (5, .c (.int .i64 y1))]) []
theorem spec_l2Events_eq (k : Nat) (a0 : V_sl_impl_Event) (a1 : V_int) : spec_l2Events (k + 1) a0 a1 = 
 cond (decide ((↑(List.length a0) : Int) > a1)) (some false) (spec_l2Events_4 k k a0 0) := by kernel_rfl
theorem spec_l2Events_4_eq (k : Nat) (j : Nat) (y0 : List V_impl_Event) (y1 : Int) : spec_l2Events_4 k (j + 1) y0 y1 = 
 cond (decide (y1 < (↑y0.length : Int))) (
  cond (decide (0 ≤ y1)) (
   cond (decide (y1 < (↑y0.length : Int))) (
    (spec_l1EventOk k (y0.getD y1.toNat (dflt t_impl_Event))).bind fun x0 => 
     cond (!x0) (some false) (
      cond (decide (y1 > 0)) (
       cond (decide (0 ≤ IntKind.i64.wrap (y1 - 1))) (
        cond (decide (IntKind.i64.wrap (y1 - 1) < (↑y0.length : Int))) (
         cond (decide (0 ≤ y1)) (
          cond (decide (y1 < (↑y0.length : Int))) (
           (spec_EventLess k (y0.getD (IntKind.i64.wrap (y1 - 1)).toNat (dflt t_impl_Event)) (y0.getD y1.toNat (dflt t_impl_Event))).bind fun x1 => 
            cond (!x1) (some false) (spec_l2Events_4 k j y0 (IntKind.i64.wrap (y1 + 1)))) (none)) (none)) (none)) (none)) (spec_l2Events_4 k j y0 (IntKind.i64.wrap (y1 + 1))))) (none)) (none)) (some true) := by kernel_rfl

noncomputable def spec_OutLess (k : Nat) (a0 : V_impl_Out) (a1 : V_impl_Out) : Option V_bool := evalT E k 142 t_bool [inp t_impl_Out a0, inp t_impl_Out a1] []
theorem spec_OutLess_eq (k : Nat) (a0 : V_impl_Out) (a1 : V_impl_Out) : spec_OutLess (k + 1) a0 a1 = 
 cond (a0.1 != a1.1) (some (decide (a0.1 < a1.1))) (
  cond (a0.2.1 != a1.2.1) (some (decide (a0.2.1 < a1.2.1))) (
   cond (a0.2.2.1 != a1.2.2.1) (some (decide (a0.2.2.1 < a1.2.2.1))) (
    cond (a0.2.2.2.1 != a1.2.2.2.1) (some (decide (a0.2.2.2.1 < a1.2.2.2.1))) (some (decide (a0.2.2.2.2 < a1.2.2.2.2)))))) := by kernel_rfl

noncomputable def spec_l2Outs (k : Nat) (a0 : V_sl_impl_Out) (a1 : V_int) : Option V_bool := evalT E k 92 t_bool [inp t_sl_impl_Out a0, inp t_int a1] []
noncomputable def spec_l2Outs_4 (k : Nat) (j : Nat) (y0 : List V_impl_Out) (y1 : Int) : Option V_bool := loopAt E 92 t_bool [true, true, false, true, false] [] k [] j (mkS 63 [(0, .c (.sl 111 t_impl_Out y0)), (5, .c (.int .i64 y1))]) []
theorem spec_l2Outs_eq (k : Nat) (a0 : V_sl_impl_Out) (a1 : V_int) : spec_l2Outs (k + 1) a0 a1 = 
 cond (decide ((↑(List.length a0) : Int) > a1)) (some false) (spec_l2Outs_4 k k a0 0) := by kernel_rfl
theorem spec_l2Outs_4_eq (k : Nat) (j : Nat) (y0 : List V_impl_Out) (y1 : Int) : spec_l2Outs_4 k (j + 1) y0 y1 = 
 cond (decide (y1 < (↑y0.length : Int))) (
  cond (decide (0 ≤ y1)) (
   cond (decide (y1 < (↑y0.length : Int))) (
    (spec_l6In k ((y0.getD y1.toNat (dflt t_impl_Out)).1) 0 40).bind fun x0 => 
     cond (!x0) (some false) (
      (spec_l1Proc k ((y0.getD y1.toNat (dflt t_impl_Out)).2.1)).bind fun x1 => 
       cond (!x1) (some false) (
        (spec_l6In k ((y0.getD y1.toNat (dflt t_impl_Out)).2.2.1) 0 11).bind fun x2 => 
         cond (!x2) (some false) (
          (spec_l6In k ((y0.getD y1.toNat (dflt t_impl_Out)).2.2.2.1) 0 1).bind fun x3 => 
           cond (!x3) (some false) (
            (spec_l1Num k ((y0.getD y1.toNat (dflt t_impl_Out)).2.2.2.2)).bind fun x4 => 
             cond (!x4) (some false) (
              cond (decide (y1 > 0)) (
               cond (decide (0 ≤ IntKind.i64.wrap (y1 - 1))) (
                cond (decide (IntKind.i64.wrap (y1 - 1) < (↑y0.length : Int))) (
                 (spec_OutLess k (y0.getD (IntKind.i64.wrap (y1 - 1)).toNat (dflt t_impl_Out)) (y0.getD y1.toNat (dflt t_impl_Out))).bind fun x5 => 
                  cond (!x5) (some false) (spec_l2Outs_4 k j y0 (IntKind.i64.wrap (y1 + 1)))) (none)) (none)) (spec_l2Outs_4 k j y0 (IntKind.i64.wrap (y1 + 1))))))))) (none)) (none)) (some true) := by kernel_rfl

noncomputable def spec_WordOk (k : Nat) (a0 : V_impl_Word) : Option V_bool := evalT E k 39 t_bool [inp t_impl_Word a0] []
theorem spec_WordOk_eq (k : Nat) (a0 : V_impl_Word) : spec_WordOk (k + 1) a0 = 
 (spec_l6In k a0.1 1 7).bind fun x0 => 
  cond (x0) (
   (spec_l6In k a0.2.1 0 2).bind fun x1 => 
    cond (x1) (
     (spec_l6In k a0.2.2.1 0 2).bind fun x2 => 
      cond (x2) (
       (spec_l22Max k ).bind fun x3 => 
        (spec_l6In k a0.2.2.2.1 0 x3).bind fun x4 => 
         cond (x4) (
          (spec_l22Max k ).bind fun x5 => 
           (spec_l6In k a0.2.2.2.2.1 0 x5).bind fun x6 => 
            cond (x6) (
             (spec_l22Max k ).bind fun x7 => 
              (spec_l6In k a0.2.2.2.2.2.1 0 x7).bind fun x8 => 
               cond (x8) (
                (spec_l6In k a0.2.2.2.2.2.2.1 0 41).bind fun x9 => 
                 cond (x9) (
                  (spec_l23List k a0.2.2.2.2.2.2.2.1).bind fun x10 => 
                   cond (x10) (
                    (spec_l23List k a0.2.2.2.2.2.2.2.2.1).bind fun x11 => 
                     cond (x11) (
                      (spec_l2Most k ).bind fun x12 => 
                       (spec_l2Events k a0.2.2.2.2.2.2.2.2.2.1 x12).bind fun x13 => 
                        cond (x13) (
                         (spec_l2Outs k a0.2.2.2.2.2.2.2.2.2.2 96).bind fun x14 => some x14) (some false)) (some false)) (some false)) (some false)) (some false)) (some false)) (some false)) (some false)) (some false)) (some false) := by kernel_rfl

noncomputable def spec_l24Kept (k : Nat) (a0 : V_sl_impl_Word) (a1 : V_int) : Option V_bool := evalT E k 122 t_bool [inp t_sl_impl_Word a0, inp t_int a1] []
noncomputable def spec_l24Kept_2 (k : Nat) (j : Nat) (y0 : List V_impl_Word) (y1 : Int) (y2 : Int) : Option V_bool := loopAt E 122 t_bool [true, false, true, false] [] k [] j (mkS 65 [(0, .c (.sl 62 t_impl_Word y0)), (1, .c (.int .i64 y1)), (5, .c (.int .i64 y2))]) []
theorem spec_l24Kept_eq (k : Nat) (a0 : V_sl_impl_Word) (a1 : V_int) : spec_l24Kept (k + 1) a0 a1 = spec_l24Kept_2 k k a0 a1 0 := by kernel_rfl
theorem spec_l24Kept_2_eq (k : Nat) (j : Nat) (y0 : List V_impl_Word) (y1 : Int) (y2 : Int) : spec_l24Kept_2 k (j + 1) y0 y1 y2 = 
 cond (decide (y2 < (↑y0.length : Int))) (
  cond (decide (0 ≤ y2)) (
   cond (decide (y2 < (↑y0.length : Int))) (
    (spec_WordOk k (y0.getD y2.toNat (dflt t_impl_Word))).bind fun x0 => 
     cond (!x0) (some false) (
      cond (decide (0 ≤ y2)) (
       cond (decide (y2 < (↑y0.length : Int))) (
        cond ((y0.getD y2.toNat (dflt t_impl_Word)).1 != y1) (some false) (
         cond (decide (y2 > 0)) (
          cond (decide (0 ≤ IntKind.i64.wrap (y2 - 1))) (
           cond (decide (IntKind.i64.wrap (y2 - 1) < (↑y0.length : Int))) (
            cond (decide (0 ≤ y2)) (
             cond (decide (y2 < (↑y0.length : Int))) (
              cond (decide ((y0.getD (IntKind.i64.wrap (y2 - 1)).toNat (dflt t_impl_Word)).2.1 ≥ (y0.getD y2.toNat (dflt t_impl_Word)).2.1)) (some false) (
               cond (y1 == 3) (
                cond (decide (0 ≤ y2)) (
                 cond (decide (y2 < (↑y0.length : Int))) (
                  cond ((↑(List.length (y0.getD y2.toNat (dflt t_impl_Word)).2.2.2.2.2.2.2.1) : Int) != 3) (some false) (
                   cond (decide (0 ≤ y2)) (
                    cond (decide (y2 < (↑y0.length : Int))) (
                     cond ((↑(List.length (y0.getD y2.toNat (dflt t_impl_Word)).2.2.2.2.2.2.2.2.1) : Int) != 3) (some false) (spec_l24Kept_2 k j y0 y1 (IntKind.i64.wrap (y2 + 1)))) (none)) (none))) (none)) (none)) (spec_l24Kept_2 k j y0 y1 (IntKind.i64.wrap (y2 + 1))))) (none)) (none)) (none)) (none)) (
          cond (y1 == 3) (
           cond (decide (0 ≤ y2)) (
            cond (decide (y2 < (↑y0.length : Int))) (
             cond ((↑(List.length (y0.getD y2.toNat (dflt t_impl_Word)).2.2.2.2.2.2.2.1) : Int) != 3) (some false) (
              cond (decide (0 ≤ y2)) (
               cond (decide (y2 < (↑y0.length : Int))) (
                cond ((↑(List.length (y0.getD y2.toNat (dflt t_impl_Word)).2.2.2.2.2.2.2.2.1) : Int) != 3) (some false) (spec_l24Kept_2 k j y0 y1 (IntKind.i64.wrap (y2 + 1)))) (none)) (none))) (none)) (none)) (spec_l24Kept_2 k j y0 y1 (IntKind.i64.wrap (y2 + 1)))))) (none)) (none))) (none)) (none)) (some true) := by kernel_rfl

noncomputable def spec_HubOk (k : Nat) (a0 : V_impl_Hub) : Option V_bool := evalT E k 54 t_bool [inp t_impl_Hub a0] []
theorem spec_HubOk_eq (k : Nat) (a0 : V_impl_Hub) : spec_HubOk (k + 1) a0 = 
 (spec_l22Max k ).bind fun x0 => 
  (spec_l6In k a0.1 0 x0).bind fun x1 => 
   cond (x1) (
    (spec_l24Kept k a0.2.1 3).bind fun x2 => 
     cond (x2) (
      (spec_l24Kept k a0.2.2.1 5).bind fun x3 => 
       cond (x3) (
        (spec_l24Kept k a0.2.2.2 7).bind fun x4 => some x4) (some false)) (some false)) (some false) := by kernel_rfl

noncomputable def impl_within (k : Nat) (a0 : V_int) (a1 : V_int) (a2 : V_int) : Option V_bool := evalT E k 93 t_bool [inp t_int a0, inp t_int a1, inp t_int a2] []
theorem impl_within_eq (k : Nat) (a0 : V_int) (a1 : V_int) (a2 : V_int) : impl_within (k + 1) a0 a1 a2 = 
 cond (decide (a0 ≥ a1)) (some (decide (a0 ≤ a2))) (some false) := by kernel_rfl

noncomputable def impl_isNode (k : Nat) (a0 : V_int) : Option V_bool := evalT E k 94 t_bool [inp t_int a0] []
theorem impl_isNode_eq (k : Nat) (a0 : V_int) : impl_isNode (k + 1) a0 = 
 (impl_within k a0 0 2).bind fun x0 => some x0 := by kernel_rfl

noncomputable def impl_countsOk (k : Nat) (a0 : V_sl_int) : Option V_bool := evalT E k 95 t_bool [inp t_sl_int a0] []
noncomputable def impl_countsOk_2 (k : Nat) (j : Nat) (y0 : List V_int) (y1 : List V_int) (y2 : Int) (y3 : Int) : Option V_bool := loopAt E 95 t_bool [true, false, true, false] [] k [] j (mkS 23 [(0, .c (.sl 3 t_int y0)), (5, .c (.sl 3 t_int y1)), (6, .c (.int .i64 y2)), (7, .c (.int .i64 y3))]) []
theorem impl_countsOk_eq (k : Nat) (a0 : V_sl_int) : impl_countsOk (k + 1) a0 = impl_countsOk_2 k k a0 a0 ((↑(List.length a0) : Int)) 0 := by kernel_rfl
theorem impl_countsOk_2_eq (k : Nat) (j : Nat) (y0 : List V_int) (y1 : List V_int) (y2 : Int) (y3 : Int) : impl_countsOk_2 k (j + 1) y0 y1 y2 y3 = 
 cond (decide (y3 < y2)) (
  cond (decide (0 ≤ y3)) (
   cond (decide (y3 < (↑y1.length : Int))) (
    (impl_within k (y1.getD y3.toNat (dflt t_int)) 0 9999).bind fun x0 => 
     cond (!x0) (some false) (impl_countsOk_2 k j y0 y1 y2 (IntKind.i64.wrap (y3 + 1)))) (none)) (none)) (
  cond ((↑y0.length : Int) == 0) (some true) (some ((↑y0.length : Int) == 3))) := by kernel_rfl

noncomputable def impl_isProc (k : Nat) (a0 : V_int) : Option V_bool := evalT E k 66 t_bool [inp t_int a0] []
theorem impl_isProc_eq (k : Nat) (a0 : V_int) : impl_isProc (k + 1) a0 = 
 (impl_within k a0 0 3).bind fun x0 => some x0 := by kernel_rfl

noncomputable def impl_isKind (k : Nat) (a0 : V_int) : Option V_bool := evalT E k 155 t_bool [inp t_int a0] []
theorem impl_isKind_eq (k : Nat) (a0 : V_int) : impl_isKind (k + 1) a0 = 
 (impl_within k a0 0 3).bind fun x0 => some x0 := by kernel_rfl

noncomputable def impl_isNum (k : Nat) (a0 : V_int) : Option V_bool := evalT E k 131 t_bool [inp t_int a0] []
theorem impl_isNum_eq (k : Nat) (a0 : V_int) : impl_isNum (k + 1) a0 = 
 (impl_within k a0 0 999).bind fun x0 => some x0 := by kernel_rfl

noncomputable def impl_eventOk (k : Nat) (a0 : V_impl_Event) : Option V_bool := evalT E k 132 t_bool [inp t_impl_Event a0] []
theorem impl_eventOk_eq (k : Nat) (a0 : V_impl_Event) : impl_eventOk (k + 1) a0 = 
 (impl_within k a0.1 0 40).bind fun x0 => 
  cond (x0) (
   (impl_isProc k a0.2.1).bind fun x1 => 
    cond (x1) (
     (impl_within k a0.2.2.1 (-1) 3).bind fun x2 => 
      cond (x2) (
       (impl_within k a0.2.2.2.1 0 12).bind fun x3 => 
        cond (x3) (
         (impl_within k a0.2.2.2.2.1 0 3).bind fun x4 => 
          cond (x4) (
           (impl_isKind k a0.2.2.2.2.2.1).bind fun x5 => 
            cond (x5) (
             (impl_isNum k a0.2.2.2.2.2.2).bind fun x6 => some x6) (some false)) (some false)) (some false)) (some false)) (some false)) (some false) := by kernel_rfl

noncomputable def impl_keyOf (k : Nat) (a0 : V_impl_Event) : Option V_impl_eventKey := evalT E k 134 t_impl_eventKey [inp t_impl_Event a0] []
theorem impl_keyOf_eq (k : Nat) (a0 : V_impl_Event) : impl_keyOf (k + 1) a0 = some (a0.1, a0.2.1, a0.2.2.1, a0.2.2.2.1, a0.2.2.2.2.1, a0.2.2.2.2.2.1,
  a0.2.2.2.2.2.2) := by kernel_rfl

noncomputable def cmp_isNaN_int (k : Nat) (a0 : V_int) : Option V_bool := evalT E k 169 t_bool [inp t_int a0] []
theorem cmp_isNaN_int_eq (k : Nat) (a0 : V_int) : cmp_isNaN_int (k + 1) a0 = some (a0 != a0) := by kernel_rfl

noncomputable def cmp_Compare_int (k : Nat) (a0 : V_int) (a1 : V_int) : Option V_int := evalT E k 166 t_int [inp t_int a0, inp t_int a1] []
theorem cmp_Compare_int_eq (k : Nat) (a0 : V_int) (a1 : V_int) : cmp_Compare_int (k + 1) a0 a1 = 
 (cmp_isNaN_int k a0).bind fun x0 => 
  (cmp_isNaN_int k a1).bind fun x1 => 
   cond (x0) (
    cond (x1) (some 0) (some (-1))) (
    cond (x1) (some 1) (
     cond (decide (a0 < a1)) (some (-1)) (
      cond (decide (a0 > a1)) (some 1) (some 0)))) := by kernel_rfl

noncomputable def slices_Compare_int_int (k : Nat) (a0 : V_sl_int) (a1 : V_sl_int) : Option V_int := evalT E k 156 t_int [inp t_sl_int a0, inp t_sl_int a1] []
noncomputable def slices_Compare_int_int_2 (k : Nat) (j : Nat) (y0 : List V_int) (y1 : List V_int) (y2 : List V_int) (y3 : Int) (y4 : Int) : Option V_int := loopAt E 156 t_int [true, false, true, false] [] k [] j (mkS 36 [(0, .c (.sl 3 t_int y0)), (1, .c (.sl 3 t_int y1)), (9, .c (.sl 3 t_int y2)), (10, .c (.int .i64 y3)), (11, .c (.int .i64 y4))]) []
theorem slices_Compare_int_int_eq (k : Nat) (a0 : V_sl_int) (a1 : V_sl_int) : slices_Compare_int_int (k + 1) a0 a1 = slices_Compare_int_int_2 k k a0 a1 a0 ((↑(List.length a0) : Int)) 0 := by kernel_rfl
theorem slices_Compare_int_int_2_eq (k : Nat) (j : Nat) (y0 : List V_int) (y1 : List V_int) (y2 : List V_int) (y3 : Int) (y4 : Int) : slices_Compare_int_int_2 k (j + 1) y0 y1 y2 y3 y4 = 
 cond (decide (y4 < y3)) (
  cond (decide (0 ≤ y4)) (
   cond (decide (y4 < (↑y2.length : Int))) (
    cond (decide (y4 ≥ (↑y1.length : Int))) (some 1) (
     cond (decide (0 ≤ y4)) (
      cond (decide (y4 < (↑y1.length : Int))) (
       (cmp_Compare_int k (y2.getD y4.toNat (dflt t_int)) (y1.getD y4.toNat (dflt t_int))).bind fun x0 => 
        cond (x0 != 0) (some x0) (slices_Compare_int_int_2 k j y0 y1 y2 y3 (IntKind.i64.wrap (y4 + 1)))) (none)) (none))) (none)) (none)) (
  cond (decide ((↑y0.length : Int) < (↑y1.length : Int))) (some (-1)) (some 0)) := by kernel_rfl

noncomputable def impl_keyLess (k : Nat) (a0 : V_impl_eventKey) (a1 : V_impl_eventKey) : Option V_bool := evalT E k 133 t_bool [inp t_impl_eventKey a0, inp t_impl_eventKey a1] []
theorem impl_keyLess_eq (k : Nat) (a0 : V_impl_eventKey) (a1 : V_impl_eventKey) : impl_keyLess (k + 1) a0 a1 = 
 (slices_Compare_int_int k [a0.1, a0.2.1, a0.2.2.1, a0.2.2.2.1, a0.2.2.2.2.1, a0.2.2.2.2.2.1,
  a0.2.2.2.2.2.2] [a1.1, a1.2.1, a1.2.2.1, a1.2.2.2.1, a1.2.2.2.2.1, a1.2.2.2.2.2.1,
  a1.2.2.2.2.2.2]).bind fun x0 => some (decide (x0 < 0)) := by kernel_rfl

noncomputable def impl_EventLess (k : Nat) (a0 : V_impl_Event) (a1 : V_impl_Event) : Option V_bool := evalT E k 69 t_bool [inp t_impl_Event a0, inp t_impl_Event a1] []
theorem impl_EventLess_eq (k : Nat) (a0 : V_impl_Event) (a1 : V_impl_Event) : impl_EventLess (k + 1) a0 a1 = 
 (impl_keyOf k a0).bind fun x0 => 
  (impl_keyOf k a1).bind fun x1 => 
   (impl_keyLess k x0 x1).bind fun x2 => some x2 := by kernel_rfl

noncomputable def impl_eventsOk (k : Nat) (a0 : V_sl_impl_Event) (a1 : V_int) : Option V_bool := evalT E k 96 t_bool [inp t_sl_impl_Event a0, inp t_int a1] []
noncomputable def impl_eventsOk_4 (k : Nat) (j : Nat) (y0 : List V_impl_Event) (y1 : List V_impl_Event) (y2 : Int) (y3 : Int) : Option V_bool := loopAt E 96 t_bool [true, true, false, true, false] [] k [] j (mkS 36 [(0, .c (.sl 41 t_impl_Event y0)), (11, .c (.sl 41 t_impl_Event y1)), (12, .c (.int .i64 y2)), (13, .c (.int .i64 y3))]) []
theorem impl_eventsOk_eq (k : Nat) (a0 : V_sl_impl_Event) (a1 : V_int) : impl_eventsOk (k + 1) a0 a1 = 
 cond (decide ((↑(List.length a0) : Int) > a1)) (some false) (impl_eventsOk_4 k k a0 a0 ((↑(List.length a0) : Int)) 0) := by kernel_rfl
theorem impl_eventsOk_4_eq (k : Nat) (j : Nat) (y0 : List V_impl_Event) (y1 : List V_impl_Event) (y2 : Int) (y3 : Int) : impl_eventsOk_4 k (j + 1) y0 y1 y2 y3 = 
 cond (decide (y3 < y2)) (
  cond (decide (0 ≤ y3)) (
   cond (decide (y3 < (↑y1.length : Int))) (
    (impl_eventOk k (y1.getD y3.toNat (dflt t_impl_Event))).bind fun x0 => 
     cond (!x0) (some false) (
      cond (decide (y3 > 0)) (
       cond (decide (0 ≤ IntKind.i64.wrap (y3 - 1))) (
        cond (decide (IntKind.i64.wrap (y3 - 1) < (↑y0.length : Int))) (
         (impl_EventLess k (y0.getD (IntKind.i64.wrap (y3 - 1)).toNat (dflt t_impl_Event)) (y1.getD y3.toNat (dflt t_impl_Event))).bind fun x1 => 
          cond (!x1) (some false) (impl_eventsOk_4 k j y0 y1 y2 (IntKind.i64.wrap (y3 + 1)))) (none)) (none)) (impl_eventsOk_4 k j y0 y1 y2 (IntKind.i64.wrap (y3 + 1))))) (none)) (none)) (some true) := by kernel_rfl

noncomputable def impl_OutLess (k : Nat) (a0 : V_impl_Out) (a1 : V_impl_Out) : Option V_bool := evalT E k 148 t_bool [inp t_impl_Out a0, inp t_impl_Out a1] []
theorem impl_OutLess_eq (k : Nat) (a0 : V_impl_Out) (a1 : V_impl_Out) : impl_OutLess (k + 1) a0 a1 = 
 (slices_Compare_int_int k [a0.1, a0.2.1, a0.2.2.1, a0.2.2.2.1, a0.2.2.2.2] [a1.1, a1.2.1, a1.2.2.1, a1.2.2.2.1, a1.2.2.2.2]).bind fun x0 => some (decide (x0 < 0)) := by kernel_rfl

noncomputable def impl_outsOk (k : Nat) (a0 : V_sl_impl_Out) (a1 : V_int) : Option V_bool := evalT E k 97 t_bool [inp t_sl_impl_Out a0, inp t_int a1] []
noncomputable def impl_outsOk_4 (k : Nat) (j : Nat) (y0 : List V_impl_Out) (y1 : List V_impl_Out) (y2 : Int) (y3 : Int) : Option V_bool := loopAt E 97 t_bool [true, true, false, true, false] [] k [] j (mkS 59 [(0, .c (.sl 111 t_impl_Out y0)), (12, .c (.sl 111 t_impl_Out y1)), (13, .c (.int .i64 y2)), (14, .c (.int .i64 y3))]) []
theorem impl_outsOk_eq (k : Nat) (a0 : V_sl_impl_Out) (a1 : V_int) : impl_outsOk (k + 1) a0 a1 = 
 cond (decide ((↑(List.length a0) : Int) > a1)) (some false) (impl_outsOk_4 k k a0 a0 ((↑(List.length a0) : Int)) 0) := by kernel_rfl
theorem impl_outsOk_4_eq (k : Nat) (j : Nat) (y0 : List V_impl_Out) (y1 : List V_impl_Out) (y2 : Int) (y3 : Int) : impl_outsOk_4 k (j + 1) y0 y1 y2 y3 = 
 cond (decide (y3 < y2)) (
  cond (decide (0 ≤ y3)) (
   cond (decide (y3 < (↑y1.length : Int))) (
    (impl_within k ((y1.getD y3.toNat (dflt t_impl_Out)).1) 0 40).bind fun x0 => 
     cond (x0) (
      (impl_isProc k ((y1.getD y3.toNat (dflt t_impl_Out)).2.1)).bind fun x1 => 
       cond (x1) (
        (impl_within k ((y1.getD y3.toNat (dflt t_impl_Out)).2.2.1) 0 11).bind fun x2 => 
         cond (x2) (
          (impl_within k ((y1.getD y3.toNat (dflt t_impl_Out)).2.2.2.1) 0 1).bind fun x3 => 
           cond (x3) (
            (impl_isNum k ((y1.getD y3.toNat (dflt t_impl_Out)).2.2.2.2)).bind fun x4 => 
             cond (!x4) (some false) (
              cond (decide (y3 > 0)) (
               cond (decide (0 ≤ IntKind.i64.wrap (y3 - 1))) (
                cond (decide (IntKind.i64.wrap (y3 - 1) < (↑y0.length : Int))) (
                 (impl_OutLess k (y0.getD (IntKind.i64.wrap (y3 - 1)).toNat (dflt t_impl_Out)) (y1.getD y3.toNat (dflt t_impl_Out))).bind fun x5 => 
                  cond (!x5) (some false) (impl_outsOk_4 k j y0 y1 y2 (IntKind.i64.wrap (y3 + 1)))) (none)) (none)) (impl_outsOk_4 k j y0 y1 y2 (IntKind.i64.wrap (y3 + 1))))) (some false)) (some false)) (some false)) (some false)) (none)) (none)) (some true) := by kernel_rfl

noncomputable def impl_WordOk (k : Nat) (a0 : V_impl_Word) : Option V_bool := evalT E k 40 t_bool [inp t_impl_Word a0] []
theorem impl_WordOk_eq (k : Nat) (a0 : V_impl_Word) : impl_WordOk (k + 1) a0 = 
 (impl_within k a0.1 1 7).bind fun x0 => 
  cond (x0) (
   (impl_isNode k a0.2.1).bind fun x1 => 
    cond (x1) (
     (impl_isNode k a0.2.2.1).bind fun x2 => 
      cond (x2) (
       (impl_within k a0.2.2.2.1 0 9999).bind fun x3 => 
        cond (x3) (
         (impl_within k a0.2.2.2.2.1 0 9999).bind fun x4 => 
          cond (x4) (
           (impl_within k a0.2.2.2.2.2.1 0 9999).bind fun x5 => 
            cond (x5) (
             (impl_within k a0.2.2.2.2.2.2.1 0 41).bind fun x6 => 
              cond (x6) (
               (impl_countsOk k a0.2.2.2.2.2.2.2.1).bind fun x7 => 
                cond (x7) (
                 (impl_countsOk k a0.2.2.2.2.2.2.2.2.1).bind fun x8 => 
                  cond (x8) (
                   (impl_eventsOk k a0.2.2.2.2.2.2.2.2.2.1 100).bind fun x9 => 
                    cond (x9) (
                     (impl_outsOk k a0.2.2.2.2.2.2.2.2.2.2 96).bind fun x10 => some x10) (some false)) (some false)) (some false)) (some false)) (some false)) (some false)) (some false)) (some false)) (some false)) (some false) := by kernel_rfl

noncomputable def impl_wordsOk (k : Nat) (a0 : V_sl_impl_Word) (a1 : V_int) : Option V_bool := evalT E k 124 t_bool [inp t_sl_impl_Word a0, inp t_int a1] []
noncomputable def impl_wordsOk_2 (k : Nat) (j : Nat) (y0 : List V_impl_Word) (y1 : Int) (y2 : List V_impl_Word) (y3 : Int) (y4 : Int) : Option V_bool := loopAt E 124 t_bool [true, false, true, false] [] k [] j (mkS 39 [(0, .c (.sl 62 t_impl_Word y0)), (1, .c (.int .i64 y1)), (7, .c (.sl 62 t_impl_Word y2)), (8, .c (.int .i64 y3)), (9, .c (.int .i64 y4))]) []
theorem impl_wordsOk_eq (k : Nat) (a0 : V_sl_impl_Word) (a1 : V_int) : impl_wordsOk (k + 1) a0 a1 = impl_wordsOk_2 k k a0 a1 a0 ((↑(List.length a0) : Int)) 0 := by kernel_rfl
theorem impl_wordsOk_2_eq (k : Nat) (j : Nat) (y0 : List V_impl_Word) (y1 : Int) (y2 : List V_impl_Word) (y3 : Int) (y4 : Int) : impl_wordsOk_2 k (j + 1) y0 y1 y2 y3 y4 = 
 cond (decide (y4 < y3)) (
  cond (decide (0 ≤ y4)) (
   cond (decide (y4 < (↑y2.length : Int))) (
    cond ((y2.getD y4.toNat (dflt t_impl_Word)).1 != y1) (some false) (
     (impl_WordOk k (y2.getD y4.toNat (dflt t_impl_Word))).bind fun x0 => 
      cond (!x0) (some false) (
       cond (decide (y4 > 0)) (
        cond (decide (0 ≤ IntKind.i64.wrap (y4 - 1))) (
         cond (decide (IntKind.i64.wrap (y4 - 1) < (↑y0.length : Int))) (
          cond (decide ((y0.getD (IntKind.i64.wrap (y4 - 1)).toNat (dflt t_impl_Word)).2.1 ≥ (y2.getD y4.toNat (dflt t_impl_Word)).2.1)) (some false) (impl_wordsOk_2 k j y0 y1 y2 y3 (IntKind.i64.wrap (y4 + 1)))) (none)) (none)) (impl_wordsOk_2 k j y0 y1 y2 y3 (IntKind.i64.wrap (y4 + 1)))))) (none)) (none)) (some true) := by kernel_rfl

noncomputable def impl_fullOne (k : Nat) (a0 : V_impl_Word) : Option V_bool := evalT E k 125 t_bool [inp t_impl_Word a0] []
theorem impl_fullOne_eq (k : Nat) (a0 : V_impl_Word) : impl_fullOne (k + 1) a0 = 
 cond ((↑(List.length a0.2.2.2.2.2.2.2.1) : Int) == 3) (some ((↑(List.length a0.2.2.2.2.2.2.2.2.1) : Int) == 3)) (some false) := by kernel_rfl

noncomputable def impl_HubOk (k : Nat) (a0 : V_impl_Hub) : Option V_bool := evalT E k 56 t_bool [inp t_impl_Hub a0] []
noncomputable def impl_HubOk_6 (k : Nat) (j : Nat) (y0 : List V_impl_Word) (y1 : Int) (y2 : Int) : Option V_bool := loopAt E 56 t_bool [true, true, true, false, true, false] [] k [] j (mkS 36 [(26, .c (.sl 62 t_impl_Word y0)), (27, .c (.int .i64 y1)), (28, .c (.int .i64 y2))]) []
theorem impl_HubOk_eq (k : Nat) (a0 : V_impl_Hub) : impl_HubOk (k + 1) a0 = 
 (impl_within k a0.1 0 9999).bind fun x0 => 
  cond (!x0) (some false) (
   (impl_wordsOk k a0.2.1 3).bind fun x1 => 
    cond (!x1) (some false) (
     (impl_wordsOk k a0.2.2.1 5).bind fun x2 => 
      cond (!x2) (some false) (
       (impl_wordsOk k a0.2.2.2 7).bind fun x3 => 
        cond (!x3) (some false) (impl_HubOk_6 k k a0.2.1 ((↑(List.length a0.2.1) : Int)) 0)))) := by kernel_rfl
theorem impl_HubOk_6_eq (k : Nat) (j : Nat) (y0 : List V_impl_Word) (y1 : Int) (y2 : Int) : impl_HubOk_6 k (j + 1) y0 y1 y2 = 
 cond (decide (y2 < y1)) (
  cond (decide (0 ≤ y2)) (
   cond (decide (y2 < (↑y0.length : Int))) (
    (impl_fullOne k (y0.getD y2.toNat (dflt t_impl_Word))).bind fun x0 => 
     cond (!x0) (some false) (impl_HubOk_6 k j y0 y1 (IntKind.i64.wrap (y2 + 1)))) (none)) (none)) (some true) := by kernel_rfl

noncomputable def laws_eqIntS (k : Nat) (a0 : V_sl_int) (a1 : V_sl_int) : Option V_bool := evalT E k 102 t_bool [inp t_sl_int a0, inp t_sl_int a1] []
noncomputable def laws_eqIntS_4 (k : Nat) (j : Nat) (y0 : List V_int) (y1 : List V_int) (y2 : Int) : Option V_bool := loopAt E 102 t_bool [true, true, false, true, false] [] k [] j (mkS 26 [(0, .c (.sl 3 t_int y0)), (1, .c (.sl 3 t_int y1)), (5, .c (.int .i64 y2))]) []
theorem laws_eqIntS_eq (k : Nat) (a0 : V_sl_int) (a1 : V_sl_int) : laws_eqIntS (k + 1) a0 a1 = 
 cond ((↑(List.length a0) : Int) != (↑(List.length a1) : Int)) (some false) (laws_eqIntS_4 k k a0 a1 0) := by kernel_rfl
theorem laws_eqIntS_4_eq (k : Nat) (j : Nat) (y0 : List V_int) (y1 : List V_int) (y2 : Int) : laws_eqIntS_4 k (j + 1) y0 y1 y2 = 
 cond (decide (y2 < (↑y0.length : Int))) (
  cond (decide (0 ≤ y2)) (
   cond (decide (y2 < (↑y0.length : Int))) (
    cond (decide (0 ≤ y2)) (
     cond (decide (y2 < (↑y1.length : Int))) (
      cond (y0.getD y2.toNat (dflt t_int) != y1.getD y2.toNat (dflt t_int)) (some false) (laws_eqIntS_4 k j y0 y1 (IntKind.i64.wrap (y2 + 1)))) (none)) (none)) (none)) (none)) (some true) := by kernel_rfl

noncomputable def laws_eqEvent (k : Nat) (a0 : V_impl_Event) (a1 : V_impl_Event) : Option V_bool := evalT E k 25 t_bool [inp t_impl_Event a0, inp t_impl_Event a1] []
theorem laws_eqEvent_eq (k : Nat) (a0 : V_impl_Event) (a1 : V_impl_Event) : laws_eqEvent (k + 1) a0 a1 = 
 cond (a0.1 != a1.1) (some false) (
  cond (a0.2.1 != a1.2.1) (some false) (
   cond (a0.2.2.1 != a1.2.2.1) (some false) (
    cond (a0.2.2.2.1 != a1.2.2.2.1) (some false) (
     cond (a0.2.2.2.2.1 != a1.2.2.2.2.1) (some false) (
      cond (a0.2.2.2.2.2.1 != a1.2.2.2.2.2.1) (some false) (
       cond (a0.2.2.2.2.2.2 != a1.2.2.2.2.2.2) (some false) (some true))))))) := by kernel_rfl

noncomputable def laws_eqEventS (k : Nat) (a0 : V_sl_impl_Event) (a1 : V_sl_impl_Event) : Option V_bool := evalT E k 26 t_bool [inp t_sl_impl_Event a0, inp t_sl_impl_Event a1] []
noncomputable def laws_eqEventS_4 (k : Nat) (j : Nat) (y0 : List V_impl_Event) (y1 : List V_impl_Event) (y2 : Int) : Option V_bool := loopAt E 26 t_bool [true, true, false, true, false] [] k [] j (mkS 27 [(0, .c (.sl 41 t_impl_Event y0)), (1, .c (.sl 41 t_impl_Event y1)), (5, .c (.int .i64 y2))]) []
theorem laws_eqEventS_eq (k : Nat) (a0 : V_sl_impl_Event) (a1 : V_sl_impl_Event) : laws_eqEventS (k + 1) a0 a1 = 
 cond ((↑(List.length a0) : Int) != (↑(List.length a1) : Int)) (some false) (laws_eqEventS_4 k k a0 a1 0) := by kernel_rfl
theorem laws_eqEventS_4_eq (k : Nat) (j : Nat) (y0 : List V_impl_Event) (y1 : List V_impl_Event) (y2 : Int) : laws_eqEventS_4 k (j + 1) y0 y1 y2 = 
 cond (decide (y2 < (↑y0.length : Int))) (
  cond (decide (0 ≤ y2)) (
   cond (decide (y2 < (↑y0.length : Int))) (
    cond (decide (0 ≤ y2)) (
     cond (decide (y2 < (↑y1.length : Int))) (
      (laws_eqEvent k (y0.getD y2.toNat (dflt t_impl_Event)) (y1.getD y2.toNat (dflt t_impl_Event))).bind fun x0 => 
       cond (!x0) (some false) (laws_eqEventS_4 k j y0 y1 (IntKind.i64.wrap (y2 + 1)))) (none)) (none)) (none)) (none)) (some true) := by kernel_rfl

noncomputable def laws_eqOut (k : Nat) (a0 : V_impl_Out) (a1 : V_impl_Out) : Option V_bool := evalT E k 85 t_bool [inp t_impl_Out a0, inp t_impl_Out a1] []
theorem laws_eqOut_eq (k : Nat) (a0 : V_impl_Out) (a1 : V_impl_Out) : laws_eqOut (k + 1) a0 a1 = 
 cond (a0.1 != a1.1) (some false) (
  cond (a0.2.1 != a1.2.1) (some false) (
   cond (a0.2.2.1 != a1.2.2.1) (some false) (
    cond (a0.2.2.2.1 != a1.2.2.2.1) (some false) (
     cond (a0.2.2.2.2 != a1.2.2.2.2) (some false) (some true))))) := by kernel_rfl

noncomputable def laws_eqOutS (k : Nat) (a0 : V_sl_impl_Out) (a1 : V_sl_impl_Out) : Option V_bool := evalT E k 34 t_bool [inp t_sl_impl_Out a0, inp t_sl_impl_Out a1] []
noncomputable def laws_eqOutS_4 (k : Nat) (j : Nat) (y0 : List V_impl_Out) (y1 : List V_impl_Out) (y2 : Int) : Option V_bool := loopAt E 34 t_bool [true, true, false, true, false] [] k [] j (mkS 27 [(0, .c (.sl 111 t_impl_Out y0)), (1, .c (.sl 111 t_impl_Out y1)), (5, .c (.int .i64 y2))]) []
theorem laws_eqOutS_eq (k : Nat) (a0 : V_sl_impl_Out) (a1 : V_sl_impl_Out) : laws_eqOutS (k + 1) a0 a1 = 
 cond ((↑(List.length a0) : Int) != (↑(List.length a1) : Int)) (some false) (laws_eqOutS_4 k k a0 a1 0) := by kernel_rfl
theorem laws_eqOutS_4_eq (k : Nat) (j : Nat) (y0 : List V_impl_Out) (y1 : List V_impl_Out) (y2 : Int) : laws_eqOutS_4 k (j + 1) y0 y1 y2 = 
 cond (decide (y2 < (↑y0.length : Int))) (
  cond (decide (0 ≤ y2)) (
   cond (decide (y2 < (↑y0.length : Int))) (
    cond (decide (0 ≤ y2)) (
     cond (decide (y2 < (↑y1.length : Int))) (
      (laws_eqOut k (y0.getD y2.toNat (dflt t_impl_Out)) (y1.getD y2.toNat (dflt t_impl_Out))).bind fun x0 => 
       cond (!x0) (some false) (laws_eqOutS_4 k j y0 y1 (IntKind.i64.wrap (y2 + 1)))) (none)) (none)) (none)) (none)) (some true) := by kernel_rfl

noncomputable def laws_eqWord (k : Nat) (a0 : V_impl_Word) (a1 : V_impl_Word) : Option V_bool := evalT E k 43 t_bool [inp t_impl_Word a0, inp t_impl_Word a1] []
theorem laws_eqWord_eq (k : Nat) (a0 : V_impl_Word) (a1 : V_impl_Word) : laws_eqWord (k + 1) a0 a1 = 
 cond (a0.1 != a1.1) (some false) (
  cond (a0.2.1 != a1.2.1) (some false) (
   cond (a0.2.2.1 != a1.2.2.1) (some false) (
    cond (a0.2.2.2.1 != a1.2.2.2.1) (some false) (
     cond (a0.2.2.2.2.1 != a1.2.2.2.2.1) (some false) (
      cond (a0.2.2.2.2.2.1 != a1.2.2.2.2.2.1) (some false) (
       cond (a0.2.2.2.2.2.2.1 != a1.2.2.2.2.2.2.1) (some false) (
        (laws_eqIntS k a0.2.2.2.2.2.2.2.1 a1.2.2.2.2.2.2.2.1).bind fun x0 => 
         cond (!x0) (some false) (
          (laws_eqIntS k a0.2.2.2.2.2.2.2.2.1 a1.2.2.2.2.2.2.2.2.1).bind fun x1 => 
           cond (!x1) (some false) (
            (laws_eqEventS k a0.2.2.2.2.2.2.2.2.2.1 a1.2.2.2.2.2.2.2.2.2.1).bind fun x2 => 
             cond (!x2) (some false) (
              (laws_eqOutS k a0.2.2.2.2.2.2.2.2.2.2 a1.2.2.2.2.2.2.2.2.2.2).bind fun x3 => 
               cond (!x3) (some false) (some true))))))))))) := by kernel_rfl

noncomputable def laws_eqWordS (k : Nat) (a0 : V_sl_impl_Word) (a1 : V_sl_impl_Word) : Option V_bool := evalT E k 126 t_bool [inp t_sl_impl_Word a0, inp t_sl_impl_Word a1] []
noncomputable def laws_eqWordS_4 (k : Nat) (j : Nat) (y0 : List V_impl_Word) (y1 : List V_impl_Word) (y2 : Int) : Option V_bool := loopAt E 126 t_bool [true, true, false, true, false] [] k [] j (mkS 27 [(0, .c (.sl 62 t_impl_Word y0)), (1, .c (.sl 62 t_impl_Word y1)), (5, .c (.int .i64 y2))]) []
theorem laws_eqWordS_eq (k : Nat) (a0 : V_sl_impl_Word) (a1 : V_sl_impl_Word) : laws_eqWordS (k + 1) a0 a1 = 
 cond ((↑(List.length a0) : Int) != (↑(List.length a1) : Int)) (some false) (laws_eqWordS_4 k k a0 a1 0) := by kernel_rfl
theorem laws_eqWordS_4_eq (k : Nat) (j : Nat) (y0 : List V_impl_Word) (y1 : List V_impl_Word) (y2 : Int) : laws_eqWordS_4 k (j + 1) y0 y1 y2 = 
 cond (decide (y2 < (↑y0.length : Int))) (
  cond (decide (0 ≤ y2)) (
   cond (decide (y2 < (↑y0.length : Int))) (
    cond (decide (0 ≤ y2)) (
     cond (decide (y2 < (↑y1.length : Int))) (
      (laws_eqWord k (y0.getD y2.toNat (dflt t_impl_Word)) (y1.getD y2.toNat (dflt t_impl_Word))).bind fun x0 => 
       cond (!x0) (some false) (laws_eqWordS_4 k j y0 y1 (IntKind.i64.wrap (y2 + 1)))) (none)) (none)) (none)) (none)) (some true) := by kernel_rfl

noncomputable def laws_eqHub (k : Nat) (a0 : V_impl_Hub) (a1 : V_impl_Hub) : Option V_bool := evalT E k 57 t_bool [inp t_impl_Hub a0, inp t_impl_Hub a1] []
theorem laws_eqHub_eq (k : Nat) (a0 : V_impl_Hub) (a1 : V_impl_Hub) : laws_eqHub (k + 1) a0 a1 = 
 cond (a0.1 != a1.1) (some false) (
  (laws_eqWordS k a0.2.1 a1.2.1).bind fun x0 => 
   cond (!x0) (some false) (
    (laws_eqWordS k a0.2.2.1 a1.2.2.1).bind fun x1 => 
     cond (!x1) (some false) (
      (laws_eqWordS k a0.2.2.2 a1.2.2.2).bind fun x2 => 
       cond (!x2) (some false) (some true)))) := by kernel_rfl

noncomputable def laws_FnExactHubOk (k : Nat) (a0 : V_laws_Hub) : Option V_bool := evalT E k 12 t_bool [inp t_laws_Hub a0] []
theorem laws_FnExactHubOk_eq (k : Nat) (a0 : V_laws_Hub) : laws_FnExactHubOk (k + 1) a0 = 
 (laws_szHub k a0 1048576).bind fun x0 => 
  cond (decide (x0 < 0)) (some true) (
   (laws_toHub k a0).bind fun x1 => 
    (spec_HubOk k x1).bind fun x2 => 
     (laws_toHub k a0).bind fun x3 => 
      (impl_HubOk k x3).bind fun x4 => 
       cond (!x4 == x2) (some false) (
        (laws_toHub k a0).bind fun x5 => 
         (laws_eqHub k x3 x5).bind fun x6 => 
          cond (!x6) (some false) (some true))) := by kernel_rfl
def Goal : Prop := ∀ (a0 : V_laws_Hub), Go.Sx.Good t_laws_Hub a0 → ∃ k, laws_FnExactHubOk k a0 = some true
end Go.Proofs.Ytjgpacfhokpfdaa.SFnExactHubOk
