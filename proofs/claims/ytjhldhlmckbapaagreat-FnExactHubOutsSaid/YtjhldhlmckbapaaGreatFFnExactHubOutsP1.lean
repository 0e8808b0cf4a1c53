/- What each function of the program answers: one step of the plain machine, by the kernel. -/
import Derived.Test.YtjhldhlmckbapaaGreatEFnExactHubOuts
set_option linter.unusedVariables false
set_option maxRecDepth 1000000
set_option maxHeartbeats 0
namespace Go.Proofs.YtjhldhlmckbapaaGreat.SFnExactHubOuts
open Go Go.Sx Go.Proofs
noncomputable def laws_szIntS (k : Nat) (a0 : V_sl_int) (a1 : V_int) : Option V_int := evalT E k 22 t_int [inp t_sl_int a0, inp t_int a1] []
theorem laws_szIntS_eq (k : Nat) (a0 : V_sl_int) (a1 : V_int) : laws_szIntS (k + 1) a0 a1 = 
 cond (decide (IntKind.i64.wrap (a1 - (↑(List.length a0) : Int)) < 0)) (some (-1)) (some (IntKind.i64.wrap (a1 - (↑(List.length a0) : Int)))) := by kernel_rfl

noncomputable def laws_szEventS (k : Nat) (a0 : V_sl_laws_Event) (a1 : V_int) : Option V_int := evalT E k 19 t_int [inp t_sl_laws_Event a0, inp t_int a1] []
theorem laws_szEventS_eq (k : Nat) (a0 : V_sl_laws_Event) (a1 : V_int) : laws_szEventS (k + 1) a0 a1 = 
 cond (decide (IntKind.i64.wrap (a1 - (↑(List.length a0) : Int)) < 0)) (some (-1)) (some (IntKind.i64.wrap (a1 - (↑(List.length a0) : Int)))) := by kernel_rfl

noncomputable def laws_szOutS (k : Nat) (a0 : V_sl_laws_Out) (a1 : V_int) : Option V_int := evalT E k 20 t_int [inp t_sl_laws_Out a0, inp t_int a1] []
theorem laws_szOutS_eq (k : Nat) (a0 : V_sl_laws_Out) (a1 : V_int) : laws_szOutS (k + 1) a0 a1 = 
 cond (decide (IntKind.i64.wrap (a1 - (↑(List.length a0) : Int)) < 0)) (some (-1)) (some (IntKind.i64.wrap (a1 - (↑(List.length a0) : Int)))) := by kernel_rfl

noncomputable def laws_szWord (k : Nat) (a0 : V_laws_Word) (a1 : V_int) : Option V_int := evalT E k 49 t_int [inp t_laws_Word a0, inp t_int a1] []
theorem laws_szWord_eq (k : Nat) (a0 : V_laws_Word) (a1 : V_int) : laws_szWord (k + 1) a0 a1 = 
 (laws_szIntS k a0.2.2.2.2.2.2.2.1 a1).bind fun x0 => 
  cond (decide (x0 < 0)) (some (-1)) (
   (laws_szIntS k a0.2.2.2.2.2.2.2.2.1 x0).bind fun x1 => 
    cond (decide (x1 < 0)) (some (-1)) (
     (laws_szEventS k a0.2.2.2.2.2.2.2.2.2.1 x1).bind fun x2 => 
      cond (decide (x2 < 0)) (some (-1)) (
       (laws_szOutS k a0.2.2.2.2.2.2.2.2.2.2 x2).bind fun x3 => 
        cond (decide (x3 < 0)) (some (-1)) (some x3)))) := by kernel_rfl

noncomputable def laws_szWordS (k : Nat) (a0 : V_sl_laws_Word) (a1 : V_int) : Option V_int := evalT E k 17 t_int [inp t_sl_laws_Word a0, inp t_int a1] []
noncomputable def laws_szWordS_5 (k : Nat) (j : Nat) (y0 : List V_laws_Word) (y1 : Int) (y2 : Int) : Option V_int := loopAt E 17 t_int [true, true, true, false, true, false] [] [] k [] j (mkS 27 [(0, .c (.sl 86 t_laws_Word y0)), (1, .c (.int .i64 y1)), (5, .c (.int .i64 y2))]) []
theorem laws_szWordS_eq (k : Nat) (a0 : V_sl_laws_Word) (a1 : V_int) : laws_szWordS (k + 1) a0 a1 = 
 cond (decide (IntKind.i64.wrap (a1 - (↑(List.length a0) : Int)) < 0)) (some (-1)) (laws_szWordS_5 k k a0 (IntKind.i64.wrap (a1 - (↑(List.length a0) : Int))) 0) := by kernel_rfl
theorem laws_szWordS_5_eq (k : Nat) (j : Nat) (y0 : List V_laws_Word) (y1 : Int) (y2 : Int) : laws_szWordS_5 k (j + 1) y0 y1 y2 = 
 cond (decide (y2 < (↑y0.length : Int))) (
  cond (decide (0 ≤ y2)) (
   cond (decide (y2 < (↑y0.length : Int))) (
    (laws_szWord k (y0.getD y2.toNat (dflt t_laws_Word)) y1).bind fun x0 => 
     cond (decide (x0 < 0)) (some (-1)) (laws_szWordS_5 k j y0 x0 (IntKind.i64.wrap (y2 + 1)))) (none)) (none)) (some y1) := by kernel_rfl

noncomputable def laws_szHub (k : Nat) (a0 : V_laws_Hub) (a1 : V_int) : Option V_int := evalT E k 4 t_int [inp t_laws_Hub a0, inp t_int a1] []
theorem laws_szHub_eq (k : Nat) (a0 : V_laws_Hub) (a1 : V_int) : laws_szHub (k + 1) a0 a1 = 
 (laws_szWordS k a0.2.1 a1).bind fun x0 => 
  cond (decide (x0 < 0)) (some (-1)) (
   (laws_szWordS k a0.2.2.1 x0).bind fun x1 => 
    cond (decide (x1 < 0)) (some (-1)) (
     (laws_szWordS k a0.2.2.2 x1).bind fun x2 => 
      cond (decide (x2 < 0)) (some (-1)) (some x2))) := by kernel_rfl

noncomputable def laws_szPast (k : Nat) (a0 : V_laws_Past) (a1 : V_int) : Option V_int := evalT E k 117 t_int [inp t_laws_Past a0, inp t_int a1] []
theorem laws_szPast_eq (k : Nat) (a0 : V_laws_Past) (a1 : V_int) : laws_szPast (k + 1) a0 a1 = 
 (laws_szEventS k a0.2.2.1 a1).bind fun x0 => 
  cond (decide (x0 < 0)) (some (-1)) (
   (laws_szOutS k a0.2.2.2 x0).bind fun x1 => 
    cond (decide (x1 < 0)) (some (-1)) (some x1)) := by kernel_rfl

noncomputable def laws_szPastS (k : Nat) (a0 : V_sl_laws_Past) (a1 : V_int) : Option V_int := evalT E k 86 t_int [inp t_sl_laws_Past a0, inp t_int a1] []
noncomputable def laws_szPastS_5 (k : Nat) (j : Nat) (y0 : List V_laws_Past) (y1 : Int) (y2 : Int) : Option V_int := loopAt E 86 t_int [true, true, true, false, true, false] [] [] k [] j (mkS 27 [(0, .c (.sl 175 t_laws_Past y0)), (1, .c (.int .i64 y1)), (5, .c (.int .i64 y2))]) []
theorem laws_szPastS_eq (k : Nat) (a0 : V_sl_laws_Past) (a1 : V_int) : laws_szPastS (k + 1) a0 a1 = 
 cond (decide (IntKind.i64.wrap (a1 - (↑(List.length a0) : Int)) < 0)) (some (-1)) (laws_szPastS_5 k k a0 (IntKind.i64.wrap (a1 - (↑(List.length a0) : Int))) 0) := by kernel_rfl
theorem laws_szPastS_5_eq (k : Nat) (j : Nat) (y0 : List V_laws_Past) (y1 : Int) (y2 : Int) : laws_szPastS_5 k (j + 1) y0 y1 y2 = 
 cond (decide (y2 < (↑y0.length : Int))) (
  cond (decide (0 ≤ y2)) (
   cond (decide (y2 < (↑y0.length : Int))) (
    (laws_szPast k (y0.getD y2.toNat (dflt t_laws_Past)) y1).bind fun x0 => 
     cond (decide (x0 < 0)) (some (-1)) (laws_szPastS_5 k j y0 x0 (IntKind.i64.wrap (y2 + 1)))) (none)) (none)) (some y1) := by kernel_rfl

noncomputable def laws_szLane (k : Nat) (a0 : V_laws_Lane) (a1 : V_int) : Option V_int := evalT E k 50 t_int [inp t_laws_Lane a0, inp t_int a1] []
theorem laws_szLane_eq (k : Nat) (a0 : V_laws_Lane) (a1 : V_int) : laws_szLane (k + 1) a0 a1 = 
 (laws_szPastS k a0.2.2 a1).bind fun x0 => 
  cond (decide (x0 < 0)) (some (-1)) (some x0) := by kernel_rfl

noncomputable def laws_szLaneS (k : Nat) (a0 : V_sl_laws_Lane) (a1 : V_int) : Option V_int := evalT E k 18 t_int [inp t_sl_laws_Lane a0, inp t_int a1] []
noncomputable def laws_szLaneS_5 (k : Nat) (j : Nat) (y0 : List V_laws_Lane) (y1 : Int) (y2 : Int) : Option V_int := loopAt E 18 t_int [true, true, true, false, true, false] [] [] k [] j (mkS 27 [(0, .c (.sl 92 t_laws_Lane y0)), (1, .c (.int .i64 y1)), (5, .c (.int .i64 y2))]) []
theorem laws_szLaneS_eq (k : Nat) (a0 : V_sl_laws_Lane) (a1 : V_int) : laws_szLaneS (k + 1) a0 a1 = 
 cond (decide (IntKind.i64.wrap (a1 - (↑(List.length a0) : Int)) < 0)) (some (-1)) (laws_szLaneS_5 k k a0 (IntKind.i64.wrap (a1 - (↑(List.length a0) : Int))) 0) := by kernel_rfl
theorem laws_szLaneS_5_eq (k : Nat) (j : Nat) (y0 : List V_laws_Lane) (y1 : Int) (y2 : Int) : laws_szLaneS_5 k (j + 1) y0 y1 y2 = 
 cond (decide (y2 < (↑y0.length : Int))) (
  cond (decide (0 ≤ y2)) (
   cond (decide (y2 < (↑y0.length : Int))) (
    (laws_szLane k (y0.getD y2.toNat (dflt t_laws_Lane)) y1).bind fun x0 => 
     cond (decide (x0 < 0)) (some (-1)) (laws_szLaneS_5 k j y0 x0 (IntKind.i64.wrap (y2 + 1)))) (none)) (none)) (some y1) := by kernel_rfl

noncomputable def laws_szView (k : Nat) (a0 : V_laws_View) (a1 : V_int) : Option V_int := evalT E k 51 t_int [inp t_laws_View a0, inp t_int a1] []
theorem laws_szView_eq (k : Nat) (a0 : V_laws_View) (a1 : V_int) : laws_szView (k + 1) a0 a1 = 
 (laws_szEventS k a0.2.2 a1).bind fun x0 => 
  cond (decide (x0 < 0)) (some (-1)) (some x0) := by kernel_rfl

noncomputable def laws_szViewS (k : Nat) (a0 : V_sl_laws_View) (a1 : V_int) : Option V_int := evalT E k 21 t_int [inp t_sl_laws_View a0, inp t_int a1] []
noncomputable def laws_szViewS_5 (k : Nat) (j : Nat) (y0 : List V_laws_View) (y1 : Int) (y2 : Int) : Option V_int := loopAt E 21 t_int [true, true, true, false, true, false] [] [] k [] j (mkS 27 [(0, .c (.sl 95 t_laws_View y0)), (1, .c (.int .i64 y1)), (5, .c (.int .i64 y2))]) []
theorem laws_szViewS_eq (k : Nat) (a0 : V_sl_laws_View) (a1 : V_int) : laws_szViewS (k + 1) a0 a1 = 
 cond (decide (IntKind.i64.wrap (a1 - (↑(List.length a0) : Int)) < 0)) (some (-1)) (laws_szViewS_5 k k a0 (IntKind.i64.wrap (a1 - (↑(List.length a0) : Int))) 0) := by kernel_rfl
theorem laws_szViewS_5_eq (k : Nat) (j : Nat) (y0 : List V_laws_View) (y1 : Int) (y2 : Int) : laws_szViewS_5 k (j + 1) y0 y1 y2 = 
 cond (decide (y2 < (↑y0.length : Int))) (
  cond (decide (0 ≤ y2)) (
   cond (decide (y2 < (↑y0.length : Int))) (
    (laws_szView k (y0.getD y2.toNat (dflt t_laws_View)) y1).bind fun x0 => 
     cond (decide (x0 < 0)) (some (-1)) (laws_szViewS_5 k j y0 x0 (IntKind.i64.wrap (y2 + 1)))) (none)) (none)) (some y1) := by kernel_rfl

noncomputable def laws_szNode (k : Nat) (a0 : V_laws_Node) (a1 : V_int) : Option V_int := evalT E k 5 t_int [inp t_laws_Node a0, inp t_int a1] []
theorem laws_szNode_eq (k : Nat) (a0 : V_laws_Node) (a1 : V_int) : laws_szNode (k + 1) a0 a1 = 
 (laws_szLaneS k a0.2.2.2.2.1 a1).bind fun x0 => 
  cond (decide (x0 < 0)) (some (-1)) (
   (laws_szEventS k a0.2.2.2.2.2.1 x0).bind fun x1 => 
    cond (decide (x1 < 0)) (some (-1)) (
     (laws_szOutS k a0.2.2.2.2.2.2.1 x1).bind fun x2 => 
      cond (decide (x2 < 0)) (some (-1)) (
       (laws_szViewS k a0.2.2.2.2.2.2.2.2.2.1 x2).bind fun x3 => 
        cond (decide (x3 < 0)) (some (-1)) (
         (laws_szIntS k a0.2.2.2.2.2.2.2.2.2.2.1 x3).bind fun x4 => 
          cond (decide (x4 < 0)) (some (-1)) (some x4))))) := by kernel_rfl

noncomputable def laws_toIntS (k : Nat) (a0 : V_sl_int) : Option (List V_int) := evalT E k 31 (.ow 3 t_int) [inp t_sl_int a0] []
noncomputable def laws_toIntS_3 (k : Nat) (j : Nat) (y0 : List V_int) (y1 : Int) (y2 : List V_int) : Option (List V_int) := loopAt E 31 (.ow 3 t_int) [true, true, false, true, false] [] [] k [] j (mkS 22 [(0, .c (.sl 3 t_int y0)), (3, .c (.o 0)), (4, .c (.int .i64 y1))]) [some (.own 3 t_int y2)]
theorem laws_toIntS_eq (k : Nat) (a0 : V_sl_int) : laws_toIntS (k + 1) a0 = 
 cond (decide ((↑(List.length a0) : Int) ≤ (↑(List.length a0) : Int))) (
  cond (decide ((↑(List.length a0) : Int).toNat * 8 ≤ 140737488351232)) (laws_toIntS_3 k k a0 0 (List.replicate (↑(List.length a0) : Int).toNat (dflt t_int))) (none)) (none) := by kernel_rfl
theorem laws_toIntS_3_eq (k : Nat) (j : Nat) (y0 : List V_int) (y1 : Int) (y2 : List V_int) : laws_toIntS_3 k (j + 1) y0 y1 y2 = 
 cond (decide (y1 < (↑y0.length : Int))) (
  cond (decide (0 ≤ y1)) (
   cond (decide (y1 < (↑y0.length : Int))) (
    cond (decide (0 ≤ y1)) (
     cond (decide (y1 < (↑y2.length : Int))) (
      cond (decide (y1.toNat < y2.length)) (laws_toIntS_3 k j y0 (IntKind.i64.wrap (y1 + 1)) (y2.set y1.toNat (y0.getD y1.toNat (dflt t_int)))) (none)) (none)) (none)) (none)) (none)) (some y2) := by kernel_rfl

noncomputable def laws_toEvent (k : Nat) (a0 : V_laws_Event) : Option ((V_int × (V_int × (V_int × (V_int × (V_int × (V_int × V_int))))))) := evalT E k 66 (.pair t_int (.pair t_int (.pair t_int (.pair t_int (.pair t_int (.pair t_int t_int)))))) [inp t_laws_Event a0] []
theorem laws_toEvent_eq (k : Nat) (a0 : V_laws_Event) : laws_toEvent (k + 1) a0 = some (a0.1, a0.2.1, a0.2.2.1, a0.2.2.2.1, a0.2.2.2.2.1, a0.2.2.2.2.2.1,
  a0.2.2.2.2.2.2) := by kernel_rfl

noncomputable def laws_toEventS (k : Nat) (a0 : V_sl_laws_Event) : Option (List V_impl_Event) := evalT E k 28 (.ow 112 t_impl_Event) [inp t_sl_laws_Event a0] []
noncomputable def laws_toEventS_3 (k : Nat) (j : Nat) (y0 : List V_laws_Event) (y1 : Int) (y2 : List V_impl_Event) : Option (List V_impl_Event) := loopAt E 28 (.ow 112 t_impl_Event) [true, true, false, true, false] [] [] k [] j (mkS 23 [(0, .c (.sl 114 t_laws_Event y0)), (3, .c (.o 0)), (4, .c (.int .i64 y1))]) [some (.own 112 t_impl_Event y2)]
theorem laws_toEventS_eq (k : Nat) (a0 : V_sl_laws_Event) : laws_toEventS (k + 1) a0 = 
 cond (decide ((↑(List.length a0) : Int) ≤ (↑(List.length a0) : Int))) (
  cond (decide ((↑(List.length a0) : Int).toNat * 56 ≤ 140737488351232)) (laws_toEventS_3 k k a0 0 (List.replicate (↑(List.length a0) : Int).toNat (dflt t_impl_Event))) (none)) (none) := by kernel_rfl
theorem laws_toEventS_3_eq (k : Nat) (j : Nat) (y0 : List V_laws_Event) (y1 : Int) (y2 : List V_impl_Event) : laws_toEventS_3 k (j + 1) y0 y1 y2 = 
 cond (decide (y1 < (↑y0.length : Int))) (
  cond (decide (0 ≤ y1)) (
   cond (decide (y1 < (↑y0.length : Int))) (
    (laws_toEvent k (y0.getD y1.toNat (dflt t_laws_Event))).bind fun x0 => 
     cond (decide (0 ≤ y1)) (
      cond (decide (y1 < (↑y2.length : Int))) (
       cond (decide (y1.toNat < y2.length)) (laws_toEventS_3 k j y0 (IntKind.i64.wrap (y1 + 1)) (y2.set y1.toNat
  (x0.1, x0.2.1, x0.2.2.1, x0.2.2.2.1, x0.2.2.2.2.1, x0.2.2.2.2.2.1,
    x0.2.2.2.2.2.2))) (none)) (none)) (none)) (none)) (none)) (some y2) := by kernel_rfl

noncomputable def laws_toOut (k : Nat) (a0 : V_laws_Out) : Option ((V_int × (V_int × (V_int × (V_int × V_int))))) := evalT E k 67 (.pair t_int (.pair t_int (.pair t_int (.pair t_int t_int)))) [inp t_laws_Out a0] []
theorem laws_toOut_eq (k : Nat) (a0 : V_laws_Out) : laws_toOut (k + 1) a0 = some (a0.1, a0.2.1, a0.2.2.1, a0.2.2.2.1, a0.2.2.2.2) := by kernel_rfl

noncomputable def laws_toOutS (k : Nat) (a0 : V_sl_laws_Out) : Option (List V_impl_Out) := evalT E k 29 (.ow 64 t_impl_Out) [inp t_sl_laws_Out a0] []
noncomputable def laws_toOutS_3 (k : Nat) (j : Nat) (y0 : List V_laws_Out) (y1 : Int) (y2 : List V_impl_Out) : Option (List V_impl_Out) := loopAt E 29 (.ow 64 t_impl_Out) [true, true, false, true, false] [] [] k [] j (mkS 23 [(0, .c (.sl 116 t_laws_Out y0)), (3, .c (.o 0)), (4, .c (.int .i64 y1))]) [some (.own 64 t_impl_Out y2)]
theorem laws_toOutS_eq (k : Nat) (a0 : V_sl_laws_Out) : laws_toOutS (k + 1) a0 = 
 cond (decide ((↑(List.length a0) : Int) ≤ (↑(List.length a0) : Int))) (
  cond (decide ((↑(List.length a0) : Int).toNat * 40 ≤ 140737488351232)) (laws_toOutS_3 k k a0 0 (List.replicate (↑(List.length a0) : Int).toNat (dflt t_impl_Out))) (none)) (none) := by kernel_rfl
theorem laws_toOutS_3_eq (k : Nat) (j : Nat) (y0 : List V_laws_Out) (y1 : Int) (y2 : List V_impl_Out) : laws_toOutS_3 k (j + 1) y0 y1 y2 = 
 cond (decide (y1 < (↑y0.length : Int))) (
  cond (decide (0 ≤ y1)) (
   cond (decide (y1 < (↑y0.length : Int))) (
    (laws_toOut k (y0.getD y1.toNat (dflt t_laws_Out))).bind fun x0 => 
     cond (decide (0 ≤ y1)) (
      cond (decide (y1 < (↑y2.length : Int))) (
       cond (decide (y1.toNat < y2.length)) (laws_toOutS_3 k j y0 (IntKind.i64.wrap (y1 + 1)) (y2.set y1.toNat (x0.1, x0.2.1, x0.2.2.1, x0.2.2.2.1, x0.2.2.2.2))) (none)) (none)) (none)) (none)) (none)) (some y2) := by kernel_rfl

noncomputable def laws_toWord (k : Nat) (a0 : V_laws_Word) : Option ((V_int × (V_int × (V_int × (V_int × (V_int × (V_int × (V_int × (List V_int × (List V_int × (List V_impl_Event × List V_impl_Out))))))))))) := evalT E k 64 (.pair t_int (.pair t_int (.pair t_int (.pair t_int (.pair t_int (.pair t_int (.pair t_int (.pair (.ow 3 t_int) (.pair (.ow 3 t_int) (.pair (.ow 112 t_impl_Event) (.ow 64 t_impl_Out))))))))))) [inp t_laws_Word a0] []
theorem laws_toWord_eq (k : Nat) (a0 : V_laws_Word) : laws_toWord (k + 1) a0 = 
 (laws_toIntS k a0.2.2.2.2.2.2.2.1).bind fun x0 => 
  (laws_toIntS k a0.2.2.2.2.2.2.2.2.1).bind fun x1 => 
   (laws_toEventS k a0.2.2.2.2.2.2.2.2.2.1).bind fun x2 => 
    (laws_toOutS k a0.2.2.2.2.2.2.2.2.2.2).bind fun x3 => some (a0.1, a0.2.1, a0.2.2.1, a0.2.2.2.1, a0.2.2.2.2.1, a0.2.2.2.2.2.1,
  a0.2.2.2.2.2.2.1, x0, x1, x2, x3) := by kernel_rfl

noncomputable def laws_toWordS (k : Nat) (a0 : V_sl_laws_Word) : Option (List V_impl_Word) := evalT E k 26 (.dw 62 t_impl_Word) [inp t_sl_laws_Word a0] []
noncomputable def laws_toWordS_3 (k : Nat) (j : Nat) (y0 : List V_laws_Word) (y1 : Int) (y2 : List V_impl_Word) : Option (List V_impl_Word) := loopAt E 26 (.dw 62 t_impl_Word) [true, true, false, true, false] [] [] k [] j (mkS 23 [(0, .c (.sl 86 t_laws_Word y0)), (3, .c (.o 0)), (4, .c (.int .i64 y1))]) [some (.dp 62 t_impl_Word y2)]
theorem laws_toWordS_eq (k : Nat) (a0 : V_sl_laws_Word) : laws_toWordS (k + 1) a0 = 
 cond (decide ((↑(List.length a0) : Int) ≤ (↑(List.length a0) : Int))) (
  cond (decide ((↑(List.length a0) : Int).toNat * 152 ≤ 140737488351232)) (laws_toWordS_3 k k a0 0 (List.replicate (↑(List.length a0) : Int).toNat (dflt t_impl_Word))) (none)) (none) := by kernel_rfl
theorem laws_toWordS_3_eq (k : Nat) (j : Nat) (y0 : List V_laws_Word) (y1 : Int) (y2 : List V_impl_Word) : laws_toWordS_3 k (j + 1) y0 y1 y2 = 
 cond (decide (y1 < (↑y0.length : Int))) (
  cond (decide (0 ≤ y1)) (
   cond (decide (y1 < (↑y0.length : Int))) (
    (laws_toWord k (y0.getD y1.toNat (dflt t_laws_Word))).bind fun x0 => 
     cond (decide (0 ≤ y1)) (
      cond (decide (y1 < (↑y2.length : Int))) (
       cond (decide (y1.toNat < y2.length)) (laws_toWordS_3 k j y0 (IntKind.i64.wrap (y1 + 1)) (y2.set y1.toNat
  (x0.1, x0.2.1, x0.2.2.1, x0.2.2.2.1, x0.2.2.2.2.1, x0.2.2.2.2.2.1,
    x0.2.2.2.2.2.2.1, x0.2.2.2.2.2.2.2.1, x0.2.2.2.2.2.2.2.2.1,
    x0.2.2.2.2.2.2.2.2.2.1, x0.2.2.2.2.2.2.2.2.2.2))) (none)) (none)) (none)) (none)) (none)) (some y2) := by kernel_rfl

noncomputable def laws_toHub (k : Nat) (a0 : V_laws_Hub) : Option ((V_int × (List V_impl_Word × (List V_impl_Word × List V_impl_Word)))) := evalT E k 7 (.pair t_int (.pair (.dw 62 t_impl_Word) (.pair (.dw 62 t_impl_Word) (.dw 62 t_impl_Word)))) [inp t_laws_Hub a0] []
theorem laws_toHub_eq (k : Nat) (a0 : V_laws_Hub) : laws_toHub (k + 1) a0 = 
 (laws_toWordS k a0.2.1).bind fun x0 => 
  (laws_toWordS k a0.2.2.1).bind fun x1 => 
   (laws_toWordS k a0.2.2.2).bind fun x2 => some (a0.1, x0, x1, x2) := by kernel_rfl

noncomputable def laws_toState (k : Nat) (a0 : V_laws_State) : Option ((V_int × (V_int × V_int))) := evalT E k 98 (.pair t_int (.pair t_int t_int)) [inp t_laws_State a0] []
theorem laws_toState_eq (k : Nat) (a0 : V_laws_State) : laws_toState (k + 1) a0 = some (a0.1, a0.2.1, a0.2.2) := by kernel_rfl

noncomputable def laws_toPast (k : Nat) (a0 : V_laws_Past) : Option (((V_int × (V_int × (V_int × (V_int × (V_int × (V_int × V_int)))))) × ((V_int × (V_int × V_int)) × (List V_impl_Event × List V_impl_Out)))) := evalT E k 119 (.pair (.pair t_int (.pair t_int (.pair t_int (.pair t_int (.pair t_int (.pair t_int t_int)))))) (.pair (.pair t_int (.pair t_int t_int)) (.pair (.ow 112 t_impl_Event) (.ow 64 t_impl_Out)))) [inp t_laws_Past a0] []
theorem laws_toPast_eq (k : Nat) (a0 : V_laws_Past) : laws_toPast (k + 1) a0 = 
 (laws_toEvent k a0.1).bind fun x0 => 
  (laws_toState k a0.2.1).bind fun x1 => 
   (laws_toEventS k a0.2.2.1).bind fun x2 => 
    (laws_toOutS k a0.2.2.2).bind fun x3 => some (((x0.1, x0.2.1, x0.2.2.1, x0.2.2.2.1, x0.2.2.2.2.1, x0.2.2.2.2.2.1,
    x0.2.2.2.2.2.2),
  (x1.1, x1.2.1, x1.2.2), x2, x3)) := by kernel_rfl

noncomputable def laws_toPastS (k : Nat) (a0 : V_sl_laws_Past) : Option (List V_impl_Past) := evalT E k 99 (.dw 152 t_impl_Past) [inp t_sl_laws_Past a0] []
noncomputable def laws_toPastS_3 (k : Nat) (j : Nat) (y0 : List V_laws_Past) (y1 : Int) (y2 : List V_impl_Past) : Option (List V_impl_Past) := loopAt E 99 (.dw 152 t_impl_Past) [true, true, false, true, false] [] [] k [] j (mkS 23 [(0, .c (.sl 175 t_laws_Past y0)), (3, .c (.o 0)), (4, .c (.int .i64 y1))]) [some (.dp 152 t_impl_Past y2)]
theorem laws_toPastS_eq (k : Nat) (a0 : V_sl_laws_Past) : laws_toPastS (k + 1) a0 = 
 cond (decide ((↑(List.length a0) : Int) ≤ (↑(List.length a0) : Int))) (
  cond (decide ((↑(List.length a0) : Int).toNat * 128 ≤ 140737488351232)) (laws_toPastS_3 k k a0 0 (List.replicate (↑(List.length a0) : Int).toNat (dflt t_impl_Past))) (none)) (none) := by kernel_rfl
theorem laws_toPastS_3_eq (k : Nat) (j : Nat) (y0 : List V_laws_Past) (y1 : Int) (y2 : List V_impl_Past) : laws_toPastS_3 k (j + 1) y0 y1 y2 = 
 cond (decide (y1 < (↑y0.length : Int))) (
  cond (decide (0 ≤ y1)) (
   cond (decide (y1 < (↑y0.length : Int))) (
    (laws_toPast k (y0.getD y1.toNat (dflt t_laws_Past))).bind fun x0 => 
     cond (decide (0 ≤ y1)) (
      cond (decide (y1 < (↑y2.length : Int))) (
       cond (decide (y1.toNat < y2.length)) (laws_toPastS_3 k j y0 (IntKind.i64.wrap (y1 + 1)) (y2.set y1.toNat
  ((x0.1.1, x0.1.2.1, x0.1.2.2.1, x0.1.2.2.2.1, x0.1.2.2.2.2.1,
      x0.1.2.2.2.2.2.1, x0.1.2.2.2.2.2.2),
    (x0.2.1.1, x0.2.1.2.1, x0.2.1.2.2), x0.2.2.1, x0.2.2.2))) (none)) (none)) (none)) (none)) (none)) (some y2) := by kernel_rfl

noncomputable def laws_toLane (k : Nat) (a0 : V_laws_Lane) : Option ((V_int × (V_impl_State × List V_impl_Past))) := evalT E k 65 (.pair t_int (.pair t_impl_State (.dw 152 t_impl_Past))) [inp t_laws_Lane a0] []
theorem laws_toLane_eq (k : Nat) (a0 : V_laws_Lane) : laws_toLane (k + 1) a0 = 
 (laws_toState k a0.2.1).bind fun x0 => 
  (laws_toPastS k a0.2.2).bind fun x1 => some ((a0.1, (x0.1, x0.2.1, x0.2.2), x1)) := by kernel_rfl

noncomputable def laws_toLaneS (k : Nat) (a0 : V_sl_laws_Lane) : Option (List V_impl_Lane) := evalT E k 27 (.dw 106 t_impl_Lane) [inp t_sl_laws_Lane a0] []
noncomputable def laws_toLaneS_3 (k : Nat) (j : Nat) (y0 : List V_laws_Lane) (y1 : Int) (y2 : List V_impl_Lane) : Option (List V_impl_Lane) := loopAt E 27 (.dw 106 t_impl_Lane) [true, true, false, true, false] [] [] k [] j (mkS 23 [(0, .c (.sl 92 t_laws_Lane y0)), (3, .c (.o 0)), (4, .c (.int .i64 y1))]) [some (.dp 106 t_impl_Lane y2)]
theorem laws_toLaneS_eq (k : Nat) (a0 : V_sl_laws_Lane) : laws_toLaneS (k + 1) a0 = 
 cond (decide ((↑(List.length a0) : Int) ≤ (↑(List.length a0) : Int))) (
  cond (decide ((↑(List.length a0) : Int).toNat * 56 ≤ 140737488351232)) (laws_toLaneS_3 k k a0 0 (List.replicate (↑(List.length a0) : Int).toNat (dflt t_impl_Lane))) (none)) (none) := by kernel_rfl
theorem laws_toLaneS_3_eq (k : Nat) (j : Nat) (y0 : List V_laws_Lane) (y1 : Int) (y2 : List V_impl_Lane) : laws_toLaneS_3 k (j + 1) y0 y1 y2 = 
 cond (decide (y1 < (↑y0.length : Int))) (
  cond (decide (0 ≤ y1)) (
   cond (decide (y1 < (↑y0.length : Int))) (
    (laws_toLane k (y0.getD y1.toNat (dflt t_laws_Lane))).bind fun x0 => 
     cond (decide (0 ≤ y1)) (
      cond (decide (y1 < (↑y2.length : Int))) (
       cond (decide (y1.toNat < y2.length)) (laws_toLaneS_3 k j y0 (IntKind.i64.wrap (y1 + 1)) (y2.set y1.toNat (x0.1, (x0.2.1.1, x0.2.1.2.1, x0.2.1.2.2), x0.2.2))) (none)) (none)) (none)) (none)) (none)) (some y2) := by kernel_rfl

noncomputable def laws_toView (k : Nat) (a0 : V_laws_View) : Option ((V_int × (V_int × List V_impl_Event))) := evalT E k 68 (.pair t_int (.pair t_int (.ow 112 t_impl_Event))) [inp t_laws_View a0] []
theorem laws_toView_eq (k : Nat) (a0 : V_laws_View) : laws_toView (k + 1) a0 = 
 (laws_toEventS k a0.2.2).bind fun x0 => some (a0.1, a0.2.1, x0) := by kernel_rfl

noncomputable def laws_toViewS (k : Nat) (a0 : V_sl_laws_View) : Option (List V_impl_View) := evalT E k 30 (.dw 118 t_impl_View) [inp t_sl_laws_View a0] []
noncomputable def laws_toViewS_3 (k : Nat) (j : Nat) (y0 : List V_laws_View) (y1 : Int) (y2 : List V_impl_View) : Option (List V_impl_View) := loopAt E 30 (.dw 118 t_impl_View) [true, true, false, true, false] [] [] k [] j (mkS 23 [(0, .c (.sl 95 t_laws_View y0)), (3, .c (.o 0)), (4, .c (.int .i64 y1))]) [some (.dp 118 t_impl_View y2)]
theorem laws_toViewS_eq (k : Nat) (a0 : V_sl_laws_View) : laws_toViewS (k + 1) a0 = 
 cond (decide ((↑(List.length a0) : Int) ≤ (↑(List.length a0) : Int))) (
  cond (decide ((↑(List.length a0) : Int).toNat * 40 ≤ 140737488351232)) (laws_toViewS_3 k k a0 0 (List.replicate (↑(List.length a0) : Int).toNat (dflt t_impl_View))) (none)) (none) := by kernel_rfl
theorem laws_toViewS_3_eq (k : Nat) (j : Nat) (y0 : List V_laws_View) (y1 : Int) (y2 : List V_impl_View) : laws_toViewS_3 k (j + 1) y0 y1 y2 = 
 cond (decide (y1 < (↑y0.length : Int))) (
  cond (decide (0 ≤ y1)) (
   cond (decide (y1 < (↑y0.length : Int))) (
    (laws_toView k (y0.getD y1.toNat (dflt t_laws_View))).bind fun x0 => 
     cond (decide (0 ≤ y1)) (
      cond (decide (y1 < (↑y2.length : Int))) (
       cond (decide (y1.toNat < y2.length)) (laws_toViewS_3 k j y0 (IntKind.i64.wrap (y1 + 1)) (y2.set y1.toNat (x0.1, x0.2.1, x0.2.2))) (none)) (none)) (none)) (none)) (none)) (some y2) := by kernel_rfl

noncomputable def laws_toNode (k : Nat) (a0 : V_laws_Node) : Option ((V_int × (V_bool × (V_int × (V_int × (List V_impl_Lane × (List V_impl_Event × (List V_impl_Out × (V_int × (V_int × (List V_impl_View × (List V_int × (V_int × V_int))))))))))))) := evalT E k 8 (.pair t_int (.pair t_bool (.pair t_int (.pair t_int (.pair (.dw 106 t_impl_Lane) (.pair (.ow 112 t_impl_Event) (.pair (.ow 64 t_impl_Out) (.pair t_int (.pair t_int (.pair (.dw 118 t_impl_View) (.pair (.ow 3 t_int) (.pair t_int t_int)))))))))))) [inp t_laws_Node a0] []
theorem laws_toNode_eq (k : Nat) (a0 : V_laws_Node) : laws_toNode (k + 1) a0 = 
 (laws_toLaneS k a0.2.2.2.2.1).bind fun x0 => 
  (laws_toEventS k a0.2.2.2.2.2.1).bind fun x1 => 
   (laws_toOutS k a0.2.2.2.2.2.2.1).bind fun x2 => 
    (laws_toViewS k a0.2.2.2.2.2.2.2.2.2.1).bind fun x3 => 
     (laws_toIntS k a0.2.2.2.2.2.2.2.2.2.2.1).bind fun x4 => some (a0.1, a0.2.1, a0.2.2.1, a0.2.2.2.1, x0, x1, x2, a0.2.2.2.2.2.2.2.1,
  a0.2.2.2.2.2.2.2.2.1, x3, x4, a0.2.2.2.2.2.2.2.2.2.2.2.1,
  a0.2.2.2.2.2.2.2.2.2.2.2.2) := by kernel_rfl

noncomputable def spec_l22Max (k : Nat) : Option V_int := evalT E k 53 t_int [] []
theorem spec_l22Max_eq (k : Nat) : spec_l22Max (k + 1) = some 9999 := by kernel_rfl

noncomputable def spec_l6In (k : Nat) (a0 : V_int) (a1 : V_int) (a2 : V_int) : Option V_bool := evalT E k 52 t_bool [inp t_int a0, inp t_int a1, inp t_int a2] []
theorem spec_l6In_eq (k : Nat) (a0 : V_int) (a1 : V_int) (a2 : V_int) : spec_l6In (k + 1) a0 a1 a2 = 
 cond (decide (a0 ≥ a1)) (some (decide (a0 ≤ a2))) (some false) := by kernel_rfl

noncomputable def spec_l23List (k : Nat) (a0 : V_sl_int) : Option V_bool := evalT E k 118 t_bool [inp t_sl_int a0] []
noncomputable def spec_l23List_4 (k : Nat) (j : Nat) (y0 : List V_int) (y1 : Int) : Option V_bool := loopAt E 118 t_bool [true, true, false, true, false] [] [] k [] j (mkS 25 [(0, .c (.sl 3 t_int y0)), (3, .c (.int .i64 y1))]) []
theorem spec_l23List_eq (k : Nat) (a0 : V_sl_int) : spec_l23List (k + 1) a0 = 
 cond ((↑(List.length a0) : Int) != 0) (
  cond ((↑(List.length a0) : Int) != 3) (some false) (spec_l23List_4 k k a0 0)) (spec_l23List_4 k k a0 0) := by kernel_rfl
theorem spec_l23List_4_eq (k : Nat) (j : Nat) (y0 : List V_int) (y1 : Int) : spec_l23List_4 k (j + 1) y0 y1 = 
 cond (decide (y1 < (↑y0.length : Int))) (
  cond (decide (0 ≤ y1)) (
   cond (decide (y1 < (↑y0.length : Int))) (
    (spec_l22Max k ).bind fun x0 => 
     (spec_l6In k (y0.getD y1.toNat (dflt t_int)) 0 x0).bind fun x1 => 
      cond (!x1) (some false) (spec_l23List_4 k j y0 (IntKind.i64.wrap (y1 + 1)))) (none)) (none)) (some true) := by kernel_rfl

noncomputable def spec_l2Most (k : Nat) : Option V_int := evalT E k 56 t_int [] []
theorem spec_l2Most_eq (k : Nat) : spec_l2Most (k + 1) = some 100 := by kernel_rfl

noncomputable def spec_l1Proc (k : Nat) (a0 : V_int) : Option V_bool := evalT E k 90 t_bool [inp t_int a0] []
theorem spec_l1Proc_eq (k : Nat) (a0 : V_int) : spec_l1Proc (k + 1) a0 = 
 (spec_l6In k a0 0 3).bind fun x0 => some x0 := by kernel_rfl

noncomputable def spec_l1Num (k : Nat) (a0 : V_int) : Option V_bool := evalT E k 91 t_bool [inp t_int a0] []
theorem spec_l1Num_eq (k : Nat) (a0 : V_int) : spec_l1Num (k + 1) a0 = 
 (spec_l6In k a0 0 999).bind fun x0 => some x0 := by kernel_rfl

noncomputable def spec_l1EventOk (k : Nat) (a0 : V_impl_Event) : Option V_bool := evalT E k 88 t_bool [inp t_impl_Event a0] []
theorem spec_l1EventOk_eq (k : Nat) (a0 : V_impl_Event) : spec_l1EventOk (k + 1) a0 = 
 (spec_l6In k a0.1 0 40).bind fun x0 => 
  cond (x0) (
   (spec_l1Proc k a0.2.1).bind fun x1 => 
    cond (x1) (
     (spec_l6In k a0.2.2.1 (-1) 3).bind fun x2 => 
      cond (x2) (
       (spec_l6In k a0.2.2.2.1 0 12).bind fun x3 => 
        cond (x3) (
         (spec_l6In k a0.2.2.2.2.1 0 3).bind fun x4 => 
          cond (x4) (
           (spec_l6In k a0.2.2.2.2.2.1 0 3).bind fun x5 => 
            cond (x5) (
             (spec_l1Num k a0.2.2.2.2.2.2).bind fun x6 => some x6) (some false)) (some false)) (some false)) (some false)) (some false)) (some false) := by kernel_rfl

noncomputable def spec_EventLess (k : Nat) (a0 : V_impl_Event) (a1 : V_impl_Event) : Option V_bool := evalT E k 89 t_bool [inp t_impl_Event a0, inp t_impl_Event a1] []
theorem spec_EventLess_eq (k : Nat) (a0 : V_impl_Event) (a1 : V_impl_Event) : spec_EventLess (k + 1) a0 a1 = 
 cond (a0.1 != a1.1) (some (decide (a0.1 < a1.1))) (
  cond (a0.2.1 != a1.2.1) (some (decide (a0.2.1 < a1.2.1))) (
   cond (a0.2.2.1 != a1.2.2.1) (some (decide (a0.2.2.1 < a1.2.2.1))) (
    cond (a0.2.2.2.1 != a1.2.2.2.1) (some (decide (a0.2.2.2.1 < a1.2.2.2.1))) (
     cond (a0.2.2.2.2.1 != a1.2.2.2.2.1) (some (decide (a0.2.2.2.2.1 < a1.2.2.2.2.1))) (
      cond (a0.2.2.2.2.2.1 != a1.2.2.2.2.2.1) (some (decide (a0.2.2.2.2.2.1 < a1.2.2.2.2.2.1))) (some (decide (a0.2.2.2.2.2.2 < a1.2.2.2.2.2.2)))))))) := by kernel_rfl

noncomputable def spec_l2Events (k : Nat) (a0 : V_sl_impl_Event) (a1 : V_int) : Option V_bool := evalT E k 55 t_bool [inp t_sl_impl_Event a0, inp t_int a1] []
noncomputable def spec_l2Events_4 (k : Nat) (j : Nat) (y0 : List V_impl_Event) (y1 : Int) : Option V_bool := loopAt E 55 t_bool [true, true, false, true, false] [] [] k [] j (mkS 39 [(0, .c (.sl 112 t_impl_Event y0)), (5, .c (.int .i64 y1))]) []
theorem spec_l2Events_eq (k : Nat) (a0 : V_sl_impl_Event) (a1 : V_int) : spec_l2Events (k + 1) a0 a1 = 
 cond (decide ((↑(List.length a0) : Int) > a1)) (some false) (spec_l2Events_4 k k a0 0) := by kernel_rfl
theorem spec_l2Events_4_eq (k : Nat) (j : Nat) (y0 : List V_impl_Event) (y1 : Int) : spec_l2Events_4 k (j + 1) y0 y1 = 
 cond (decide (y1 < (↑y0.length : Int))) (
  cond (decide (0 ≤ y1)) (
   cond (decide (y1 < (↑y0.length : Int))) (
    (spec_l1EventOk k (y0.getD y1.toNat (dflt t_impl_Event))).bind fun x0 => 
     cond (!x0) (some false) (
      cond (decide (y1 > 0)) (
       cond (decide (0 ≤ IntKind.i64.wrap (y1 - 1))) (
        cond (decide (IntKind.i64.wrap (y1 - 1) < (↑y0.length : Int))) (
         cond (decide (0 ≤ y1)) (
          cond (decide (y1 < (↑y0.length : Int))) (
           (spec_EventLess k (y0.getD (IntKind.i64.wrap (y1 - 1)).toNat (dflt t_impl_Event)) (y0.getD y1.toNat (dflt t_impl_Event))).bind fun x1 => 
            cond (!x1) (some false) (spec_l2Events_4 k j y0 (IntKind.i64.wrap (y1 + 1)))) (none)) (none)) (none)) (none)) (spec_l2Events_4 k j y0 (IntKind.i64.wrap (y1 + 1))))) (none)) (none)) (some true) := by kernel_rfl

noncomputable def spec_OutLess (k : Nat) (a0 : V_impl_Out) (a1 : V_impl_Out) : Option V_bool := evalT E k 63 t_bool [inp t_impl_Out a0, inp t_impl_Out a1] []
theorem spec_OutLess_eq (k : Nat) (a0 : V_impl_Out) (a1 : V_impl_Out) : spec_OutLess (k + 1) a0 a1 = 
 cond (a0.1 != a1.1) (some (decide (a0.1 < a1.1))) (
  cond (a0.2.1 != a1.2.1) (some (decide (a0.2.1 < a1.2.1))) (
   cond (a0.2.2.1 != a1.2.2.1) (some (decide (a0.2.2.1 < a1.2.2.1))) (
    cond (a0.2.2.2.1 != a1.2.2.2.1) (some (decide (a0.2.2.2.1 < a1.2.2.2.1))) (some (decide (a0.2.2.2.2 < a1.2.2.2.2)))))) := by kernel_rfl

noncomputable def spec_l2Outs (k : Nat) (a0 : V_sl_impl_Out) (a1 : V_int) : Option V_bool := evalT E k 57 t_bool [inp t_sl_impl_Out a0, inp t_int a1] []
noncomputable def spec_l2Outs_4 (k : Nat) (j : Nat) (y0 : List V_impl_Out) (y1 : Int) : Option V_bool := loopAt E 57 t_bool [true, true, false, true, false] [] [] k [] j (mkS 63 [(0, .c (.sl 64 t_impl_Out y0)), (5, .c (.int .i64 y1))]) []
theorem spec_l2Outs_eq (k : Nat) (a0 : V_sl_impl_Out) (a1 : V_int) : spec_l2Outs (k + 1) a0 a1 = 
 cond (decide ((↑(List.length a0) : Int) > a1)) (some false) (spec_l2Outs_4 k k a0 0) := by kernel_rfl
theorem spec_l2Outs_4_eq (k : Nat) (j : Nat) (y0 : List V_impl_Out) (y1 : Int) : spec_l2Outs_4 k (j + 1) y0 y1 = 
 cond (decide (y1 < (↑y0.length : Int))) (
  cond (decide (0 ≤ y1)) (
   cond (decide (y1 < (↑y0.length : Int))) (
    (spec_l6In k ((y0.getD y1.toNat (dflt t_impl_Out)).1) 0 40).bind fun x0 => 
     cond (!x0) (some false) (
      (spec_l1Proc k ((y0.getD y1.toNat (dflt t_impl_Out)).2.1)).bind fun x1 => 
       cond (!x1) (some false) (
        (spec_l6In k ((y0.getD y1.toNat (dflt t_impl_Out)).2.2.1) 0 11).bind fun x2 => 
         cond (!x2) (some false) (
          (spec_l6In k ((y0.getD y1.toNat (dflt t_impl_Out)).2.2.2.1) 0 1).bind fun x3 => 
           cond (!x3) (some false) (
            (spec_l1Num k ((y0.getD y1.toNat (dflt t_impl_Out)).2.2.2.2)).bind fun x4 => 
             cond (!x4) (some false) (
              cond (decide (y1 > 0)) (
               cond (decide (0 ≤ IntKind.i64.wrap (y1 - 1))) (
                cond (decide (IntKind.i64.wrap (y1 - 1) < (↑y0.length : Int))) (
                 (spec_OutLess k (y0.getD (IntKind.i64.wrap (y1 - 1)).toNat (dflt t_impl_Out)) (y0.getD y1.toNat (dflt t_impl_Out))).bind fun x5 => 
                  cond (!x5) (some false) (spec_l2Outs_4 k j y0 (IntKind.i64.wrap (y1 + 1)))) (none)) (none)) (spec_l2Outs_4 k j y0 (IntKind.i64.wrap (y1 + 1))))))))) (none)) (none)) (some true) := by kernel_rfl

noncomputable def spec_WordOk (k : Nat) (a0 : V_impl_Word) : Option V_bool := evalT E k 87 t_bool [inp t_impl_Word a0] []
theorem spec_WordOk_eq (k : Nat) (a0 : V_impl_Word) : spec_WordOk (k + 1) a0 = 
 (spec_l6In k a0.1 1 7).bind fun x0 => 
  cond (x0) (
   (spec_l6In k a0.2.1 0 2).bind fun x1 => 
    cond (x1) (
     (spec_l6In k a0.2.2.1 0 2).bind fun x2 => 
      cond (x2) (
       (spec_l22Max k ).bind fun x3 => 
        (spec_l6In k a0.2.2.2.1 0 x3).bind fun x4 => 
         cond (x4) (
          (spec_l22Max k ).bind fun x5 => 
           (spec_l6In k a0.2.2.2.2.1 0 x5).bind fun x6 => 
            cond (x6) (
             (spec_l22Max k ).bind fun x7 => 
              (spec_l6In k a0.2.2.2.2.2.1 0 x7).bind fun x8 => 
               cond (x8) (
                (spec_l6In k a0.2.2.2.2.2.2.1 0 41).bind fun x9 => 
                 cond (x9) (
                  (spec_l23List k a0.2.2.2.2.2.2.2.1).bind fun x10 => 
                   cond (x10) (
                    (spec_l23List k a0.2.2.2.2.2.2.2.2.1).bind fun x11 => 
                     cond (x11) (
                      (spec_l2Most k ).bind fun x12 => 
                       (spec_l2Events k a0.2.2.2.2.2.2.2.2.2.1 x12).bind fun x13 => 
                        cond (x13) (
                         (spec_l2Outs k a0.2.2.2.2.2.2.2.2.2.2 96).bind fun x14 => some x14) (some false)) (some false)) (some false)) (some false)) (some false)) (some false)) (some false)) (some false)) (some false)) (some false) := by kernel_rfl

noncomputable def spec_l24Kept (k : Nat) (a0 : V_sl_impl_Word) (a1 : V_int) : Option V_bool := evalT E k 54 t_bool [inp t_sl_impl_Word a0, inp t_int a1] []
noncomputable def spec_l24Kept_2 (k : Nat) (j : Nat) (y0 : List V_impl_Word) (y1 : Int) (y2 : Int) : Option V_bool := loopAt E 54 t_bool [true, false, true, false] [] [] k [] j (mkS 65 [(0, .c (.sl 62 t_impl_Word y0)), (1, .c (.int .i64 y1)), (5, .c (.int .i64 y2))]) []
theorem spec_l24Kept_eq (k : Nat) (a0 : V_sl_impl_Word) (a1 : V_int) : spec_l24Kept (k + 1) a0 a1 = spec_l24Kept_2 k k a0 a1 0 := by kernel_rfl
theorem spec_l24Kept_2_eq (k : Nat) (j : Nat) (y0 : List V_impl_Word) (y1 : Int) (y2 : Int) : spec_l24Kept_2 k (j + 1) y0 y1 y2 = 
 cond (decide (y2 < (↑y0.length : Int))) (
  cond (decide (0 ≤ y2)) (
   cond (decide (y2 < (↑y0.length : Int))) (
    (spec_WordOk k (y0.getD y2.toNat (dflt t_impl_Word))).bind fun x0 => 
     cond (!x0) (some false) (
      cond (decide (0 ≤ y2)) (
       cond (decide (y2 < (↑y0.length : Int))) (
        cond ((y0.getD y2.toNat (dflt t_impl_Word)).1 != y1) (some false) (
         cond (decide (y2 > 0)) (
          cond (decide (0 ≤ IntKind.i64.wrap (y2 - 1))) (
           cond (decide (IntKind.i64.wrap (y2 - 1) < (↑y0.length : Int))) (
            cond (decide (0 ≤ y2)) (
             cond (decide (y2 < (↑y0.length : Int))) (
              cond (decide ((y0.getD (IntKind.i64.wrap (y2 - 1)).toNat (dflt t_impl_Word)).2.1 ≥ (y0.getD y2.toNat (dflt t_impl_Word)).2.1)) (some false) (
               cond (y1 == 3) (
                cond (decide (0 ≤ y2)) (
                 cond (decide (y2 < (↑y0.length : Int))) (
                  cond ((↑(List.length (y0.getD y2.toNat (dflt t_impl_Word)).2.2.2.2.2.2.2.1) : Int) != 3) (some false) (
                   cond (decide (0 ≤ y2)) (
                    cond (decide (y2 < (↑y0.length : Int))) (
                     cond ((↑(List.length (y0.getD y2.toNat (dflt t_impl_Word)).2.2.2.2.2.2.2.2.1) : Int) != 3) (some false) (spec_l24Kept_2 k j y0 y1 (IntKind.i64.wrap (y2 + 1)))) (none)) (none))) (none)) (none)) (spec_l24Kept_2 k j y0 y1 (IntKind.i64.wrap (y2 + 1))))) (none)) (none)) (none)) (none)) (
          cond (y1 == 3) (
           cond (decide (0 ≤ y2)) (
            cond (decide (y2 < (↑y0.length : Int))) (
             cond ((↑(List.length (y0.getD y2.toNat (dflt t_impl_Word)).2.2.2.2.2.2.2.1) : Int) != 3) (some false) (
              cond (decide (0 ≤ y2)) (
               cond (decide (y2 < (↑y0.length : Int))) (
                cond ((↑(List.length (y0.getD y2.toNat (dflt t_impl_Word)).2.2.2.2.2.2.2.2.1) : Int) != 3) (some false) (spec_l24Kept_2 k j y0 y1 (IntKind.i64.wrap (y2 + 1)))) (none)) (none))) (none)) (none)) (spec_l24Kept_2 k j y0 y1 (IntKind.i64.wrap (y2 + 1)))))) (none)) (none))) (none)) (none)) (some true) := by kernel_rfl

noncomputable def spec_HubOk (k : Nat) (a0 : V_impl_Hub) : Option V_bool := evalT E k 23 t_bool [inp t_impl_Hub a0] []
theorem spec_HubOk_eq (k : Nat) (a0 : V_impl_Hub) : spec_HubOk (k + 1) a0 = 
 (spec_l22Max k ).bind fun x0 => 
  (spec_l6In k a0.1 0 x0).bind fun x1 => 
   cond (x1) (
    (spec_l24Kept k a0.2.1 3).bind fun x2 => 
     cond (x2) (
      (spec_l24Kept k a0.2.2.1 5).bind fun x3 => 
       cond (x3) (
        (spec_l24Kept k a0.2.2.2 7).bind fun x4 => some x4) (some false)) (some false)) (some false) := by kernel_rfl

noncomputable def spec_l22ViewOk (k : Nat) (a0 : V_impl_View) : Option V_bool := evalT E k 92 t_bool [inp t_impl_View a0] []
theorem spec_l22ViewOk_eq (k : Nat) (a0 : V_impl_View) : spec_l22ViewOk (k + 1) a0 = 
 (spec_l22Max k ).bind fun x0 => 
  (spec_l6In k a0.1 0 x0).bind fun x1 => 
   cond (x1) (
    (spec_l22Max k ).bind fun x2 => 
     (spec_l6In k a0.2.1 0 x2).bind fun x3 => 
      cond (x3) (
       (spec_l2Most k ).bind fun x4 => 
        (spec_l2Events k a0.2.2 x4).bind fun x5 => some x5) (some false)) (some false) := by kernel_rfl

noncomputable def spec_l22Forms (k : Nat) (a0 : V_impl_Node) : Option V_bool := evalT E k 58 t_bool [inp t_impl_Node a0] []
noncomputable def spec_l22Forms_4 (k : Nat) (j : Nat) (y0 : Int) (y1 : V_impl_Node) : Option V_bool := loopAt E 58 t_bool [true, true, false, true, false] [] [] k [] j (mkS 54 [(1, .c (.p 0 0)), (3, .c (.int .i64 y0))]) [some (.box 44 (cells t_impl_Node y1))]
theorem spec_l22Forms_eq (k : Nat) (a0 : V_impl_Node) : spec_l22Forms (k + 1) a0 = 
 cond ((↑(List.length a0.2.2.2.2.2.2.2.2.2.1) : Int) != 3) (some false) (
  cond ((↑(List.length a0.2.2.2.2.2.2.2.2.2.2.1) : Int) != 3) (some false) (
   (spec_l22Max k ).bind fun x0 => 
    (spec_l6In k a0.2.2.2.2.2.2.2.2.1 0 x0).bind fun x1 => 
     cond (!x1) (some false) (
      (spec_l22Max k ).bind fun x2 => 
       (spec_l6In k a0.2.2.2.2.2.2.2.2.2.2.2.1 0 x2).bind fun x3 => 
        cond (!x3) (some false) (
         (spec_l6In k a0.2.2.2.2.2.2.2.2.2.2.2.2 0 41).bind fun x4 => 
          cond (!x4) (some false) (spec_l22Forms_4 k k 0 a0))))) := by kernel_rfl
theorem spec_l22Forms_4_eq (k : Nat) (j : Nat) (y0 : Int) (y1 : V_impl_Node) : spec_l22Forms_4 k (j + 1) y0 y1 = 
 cond (decide (y0 < 3)) (
  cond (decide (0 ≤ y0)) (
   cond (decide (y0 < (↑(List.length y1.2.2.2.2.2.2.2.2.2.1) : Int))) (
    (spec_l22ViewOk k (List.getD y1.2.2.2.2.2.2.2.2.2.1 y0.toNat (dflt t_impl_View))).bind fun x0 => 
     cond (!x0) (some false) (
      cond (decide (0 ≤ y0)) (
       cond (decide (y0 < (↑(List.length y1.2.2.2.2.2.2.2.2.2.2.1) : Int))) (
        (spec_l6In k (List.getD y1.2.2.2.2.2.2.2.2.2.2.1 y0.toNat (dflt t_int)) 0 41).bind fun x1 => 
         cond (!x1) (some false) (spec_l22Forms_4 k j (IntKind.i64.wrap (y0 + 1)) y1)) (none)) (none))) (none)) (none)) (some true) := by kernel_rfl

noncomputable def spec_NodeOf (k : Nat) (a0 : V_int) : Option V_int := evalT E k 93 t_int [inp t_int a0] []
theorem spec_NodeOf_eq (k : Nat) (a0 : V_int) : spec_NodeOf (k + 1) a0 = 
 (spec_l1Proc k a0).bind fun x0 => 
  cond (!x0) (some (-1)) (some (Int.tmod a0 3)) := by kernel_rfl

noncomputable def spec_l22Lanes (k : Nat) (a0 : V_int) : Option (List V_impl_Lane) := evalT E k 59 (.ow 106 t_impl_Lane) [inp t_int a0] []
noncomputable def spec_l22Lanes_3 (k : Nat) (j : Nat) (y0 : Int) (y1 : Int) (y2 : List V_impl_Lane) : Option (List V_impl_Lane) := loopAt E 59 (.ow 106 t_impl_Lane) [true, true, false, true, false] [] [] k [] j (mkS 20 [(0, .c (.int .i64 y0)), (3, .c (.o 0)), (4, .c (.int .i64 y1))]) [some (.own 106 t_impl_Lane y2)]
theorem spec_l22Lanes_eq (k : Nat) (a0 : V_int) : spec_l22Lanes (k + 1) a0 = spec_l22Lanes_3 k k a0 0 [] := by kernel_rfl
theorem spec_l22Lanes_3_eq (k : Nat) (j : Nat) (y0 : Int) (y1 : Int) (y2 : List V_impl_Lane) : spec_l22Lanes_3 k (j + 1) y0 y1 y2 = 
 cond (decide (y1 < 4)) (
  (spec_NodeOf k y1).bind fun x0 => 
   cond (x0 == y0) (
    cond (decide ((y2.length + 1) * 56 ≤ 140737488351232)) (spec_l22Lanes_3 k j y0 (IntKind.i64.wrap (y1 + 1)) (y2 ++ [(y1, (0, 0, 0), [])])) (none)) (spec_l22Lanes_3 k j y0 (IntKind.i64.wrap (y1 + 1)) y2)) (some y2) := by kernel_rfl

noncomputable def spec_l1StateOk (k : Nat) (a0 : V_impl_State) : Option V_bool := evalT E k 94 t_bool [inp t_impl_State a0] []
theorem spec_l1StateOk_eq (k : Nat) (a0 : V_impl_State) : spec_l1StateOk (k + 1) a0 = 
 (spec_l1Num k a0.1).bind fun x0 => 
  cond (x0) (
   (spec_l1Num k a0.2.1).bind fun x1 => 
    cond (x1) (
     (spec_l6In k a0.2.2 0 12).bind fun x2 => some x2) (some false)) (some false) := by kernel_rfl

noncomputable def spec_l21PastOk (k : Nat) (a0 : V_impl_Past) (a1 : V_int) : Option V_bool := evalT E k 95 t_bool [inp t_impl_Past a0, inp t_int a1] []
theorem spec_l21PastOk_eq (k : Nat) (a0 : V_impl_Past) (a1 : V_int) : spec_l21PastOk (k + 1) a0 a1 = 
 (spec_l1EventOk k a0.1).bind fun x0 => 
  cond (x0) (
   cond (a0.1.2.1 == a1) (
    (spec_l1StateOk k a0.2.1).bind fun x1 => 
     cond (x1) (
      (spec_l2Events k a0.2.2.1 2).bind fun x2 => 
       cond (x2) (
        (spec_l2Outs k a0.2.2.2 2).bind fun x3 => some x3) (some false)) (some false)) (some false)) (some false) := by kernel_rfl

noncomputable def spec_LaneOk (k : Nat) (a0 : V_impl_Lane) : Option V_bool := evalT E k 60 t_bool [inp t_impl_Lane a0] []
noncomputable def spec_LaneOk_4 (k : Nat) (j : Nat) (y0 : Int) (y1 : V_impl_Lane) : Option V_bool := loopAt E 60 t_bool [true, true, false, true, false] [] [] k [] j (mkS 58 [(1, .c (.p 0 0)), (3, .c (.int .i64 y0))]) [some (.box 106 (cells t_impl_Lane y1))]
theorem spec_LaneOk_eq (k : Nat) (a0 : V_impl_Lane) : spec_LaneOk (k + 1) a0 = 
 (spec_l1Proc k a0.1).bind fun x0 => 
  cond (!x0) (some false) (
   (spec_l1StateOk k a0.2.1).bind fun x1 => 
    cond (!x1) (some false) (
     (spec_l2Most k ).bind fun x2 => 
      cond (decide ((↑(List.length a0.2.2) : Int) > x2)) (some false) (spec_LaneOk_4 k k 0 a0))) := by kernel_rfl
theorem spec_LaneOk_4_eq (k : Nat) (j : Nat) (y0 : Int) (y1 : V_impl_Lane) : spec_LaneOk_4 k (j + 1) y0 y1 = 
 cond (decide (y0 < (↑(List.length y1.2.2) : Int))) (
  cond (decide (0 ≤ y0)) (
   cond (decide (y0 < (↑(List.length y1.2.2) : Int))) (
    (spec_l21PastOk k (List.getD y1.2.2 y0.toNat (dflt t_impl_Past)) y1.1).bind fun x0 => 
     cond (!x0) (some false) (
      cond (decide (y0 > 0)) (
       cond (decide (0 ≤ IntKind.i64.wrap (y0 - 1))) (
        cond (decide (IntKind.i64.wrap (y0 - 1) < (↑(List.length y1.2.2) : Int))) (
         cond (decide (0 ≤ y0)) (
          cond (decide (y0 < (↑(List.length y1.2.2) : Int))) (
           (spec_EventLess k ((List.getD y1.2.2 (IntKind.i64.wrap (y0 - 1)).toNat (dflt t_impl_Past)).1) ((List.getD y1.2.2 y0.toNat (dflt t_impl_Past)).1)).bind fun x1 => 
            cond (!x1) (some false) (spec_LaneOk_4 k j (IntKind.i64.wrap (y0 + 1)) y1)) (none)) (none)) (none)) (none)) (spec_LaneOk_4 k j (IntKind.i64.wrap (y0 + 1)) y1))) (none)) (none)) (some true) := by kernel_rfl

noncomputable def spec_l22Sent (k : Nat) (a0 : V_impl_Node) : Option (List V_impl_Event) := evalT E k 96 (.ow 112 t_impl_Event) [inp t_impl_Node a0] []
noncomputable def spec_l22Sent_3 (k : Nat) (j : Nat) (y0 : Int) (y1 : V_impl_Node) (y2 : List V_impl_Event) : Option (List V_impl_Event) := loopAt E 96 (.ow 112 t_impl_Event) [true, true, false, true, false] [] [] k [] j (mkS 41 [(1, .c (.p 0 0)), (3, .c (.o 1)), (4, .c (.int .i64 y0))]) [some (.box 44 (cells t_impl_Node y1)), some (.own 112 t_impl_Event y2)]
noncomputable def spec_l22Sent_6 (k : Nat) (j0 : Nat) (j : Nat) (y0 : Int) (y1 : Int) (y2 : V_impl_Node) (y3 : List V_impl_Event) : Option (List V_impl_Event) := loopAt E 96 (.ow 112 t_impl_Event) [true, true, false, true, false, false, true, false, false, true, false] [] [] k [j0] j (mkS 41 [(1, .c (.p 0 0)), (3, .c (.o 1)), (4, .c (.int .i64 y0)), (5, .c (.int .i64 y1))]) [some (.box 44 (cells t_impl_Node y2)), some (.own 112 t_impl_Event y3)]
theorem spec_l22Sent_eq (k : Nat) (a0 : V_impl_Node) : spec_l22Sent (k + 1) a0 = 
 cond (decide ((0 + List.length a0.2.2.2.2.2.1) * 56 ≤ 140737488351232)) (spec_l22Sent_3 k k 0 a0 ([] ++ a0.2.2.2.2.2.1)) (none) := by kernel_rfl
theorem spec_l22Sent_3_eq (k : Nat) (j : Nat) (y0 : Int) (y1 : V_impl_Node) (y2 : List V_impl_Event) : spec_l22Sent_3 k (j + 1) y0 y1 y2 = 
 cond (decide (y0 < (↑(List.length y1.2.2.2.2.1) : Int))) (spec_l22Sent_6 k j k y0 0 y1 y2) (some y2) := by kernel_rfl
theorem spec_l22Sent_6_eq (k : Nat) (j0 : Nat) (j : Nat) (y0 : Int) (y1 : Int) (y2 : V_impl_Node) (y3 : List V_impl_Event) : spec_l22Sent_6 k j0 (j + 1) y0 y1 y2 y3 = 
 cond (decide (0 ≤ y0)) (
  cond (decide (y0 < (↑(List.length y2.2.2.2.2.1) : Int))) (
   cond (decide (y1 < (↑(List.length (List.getD y2.2.2.2.2.1 y0.toNat (dflt t_impl_Lane)).2.2) : Int))) (
    cond (decide (0 ≤ y0)) (
     cond (decide (y0 < (↑(List.length y2.2.2.2.2.1) : Int))) (
      cond (decide (0 ≤ y1)) (
       cond (decide (y1 < (↑(List.length (List.getD y2.2.2.2.2.1 y0.toNat (dflt t_impl_Lane)).2.2) : Int))) (
        cond (decide
  ((y3.length +
        List.length
          (List.getD (List.getD y2.2.2.2.2.1 y0.toNat (dflt t_impl_Lane)).2.2 y1.toNat
                  (dflt t_impl_Past)).2.2.1) *
      56 ≤
    140737488351232)) (spec_l22Sent_6 k j0 j y0 (IntKind.i64.wrap (y1 + 1)) y2 (y3 ++ (List.getD (List.getD y2.2.2.2.2.1 y0.toNat (dflt t_impl_Lane)).2.2 y1.toNat (dflt t_impl_Past)).2.2.1)) (none)) (none)) (none)) (none)) (none)) (spec_l22Sent_3 k j0 (IntKind.i64.wrap (y0 + 1)) y2 y3)) (none)) (none) := by kernel_rfl

noncomputable def spec_EventSort (k : Nat) (a0 : V_sl_impl_Event) : Option (List V_impl_Event) := evalT E k 97 (.ow 112 t_impl_Event) [inp t_sl_impl_Event a0] []
noncomputable def spec_EventSort_3 (k : Nat) (j : Nat) (y0 : List V_impl_Event) (y1 : Int) (y2 : List V_impl_Event) : Option (List V_impl_Event) := loopAt E 97 (.ow 112 t_impl_Event) [true, true, false, true, false] [] [] k [] j (mkS 77 [(0, .c (.sl 112 t_impl_Event y0)), (3, .c (.o 0)), (4, .c (.int .i64 y1))]) [some (.own 112 t_impl_Event y2)]
noncomputable def spec_EventSort_6 (k : Nat) (j0 : Nat) (j : Nat) (y0 : List V_impl_Event) (y1 : Int) (y2 : Int) (y3 : List V_impl_Event) : Option (List V_impl_Event) := loopAt E 97 (.ow 112 t_impl_Event) [true, true, false, true, false, false, true, false, false, true, false, false] [] [] k [j0] j (mkS 77 [(0, .c (.sl 112 t_impl_Event y0)), (3, .c (.o 0)), (4, .c (.int .i64 y1)), (5, .c (.int .i64 y2))]) [some (.own 112 t_impl_Event y3)]
noncomputable def spec_EventSort_11 (k : Nat) (j0 : Nat) (j : Nat) (y0 : List V_impl_Event) (y1 : Int) (y2 : Int) (y3 : Int) (y4 : List V_impl_Event) : Option (List V_impl_Event) := loopAt E 97 (.ow 112 t_impl_Event) [true, true, false, true, false, false, true, false, false, true, true, true, true, false, true, false] [] [] k [j0] j (mkS 77 [(0, .c (.sl 112 t_impl_Event y0)), (3, .c (.o 0)), (4, .c (.int .i64 y1)), (5, .c (.int .i64 y2)), (6, .c (.int .i64 y3))]) [some (.own 112 t_impl_Event y4)]
theorem spec_EventSort_eq (k : Nat) (a0 : V_sl_impl_Event) : spec_EventSort (k + 1) a0 = spec_EventSort_3 k k a0 0 [] := by kernel_rfl
theorem spec_EventSort_3_eq (k : Nat) (j : Nat) (y0 : List V_impl_Event) (y1 : Int) (y2 : List V_impl_Event) : spec_EventSort_3 k (j + 1) y0 y1 y2 = 
 cond (decide (y1 < (↑y0.length : Int))) (spec_EventSort_6 k j k y0 y1 (↑y2.length : Int) y2) (some y2) := by kernel_rfl
theorem spec_EventSort_6_eq (k : Nat) (j0 : Nat) (j : Nat) (y0 : List V_impl_Event) (y1 : Int) (y2 : Int) (y3 : List V_impl_Event) : spec_EventSort_6 k j0 (j + 1) y0 y1 y2 y3 = 
 cond (decide (y2 > 0)) (
  cond (decide (0 ≤ y1)) (
   cond (decide (y1 < (↑y0.length : Int))) (
    cond (decide (0 ≤ IntKind.i64.wrap (y2 - 1))) (
     cond (decide (IntKind.i64.wrap (y2 - 1) < (↑y3.length : Int))) (
      cond (decide ((IntKind.i64.wrap (y2 - 1)).toNat < y3.length)) (
       (spec_EventLess k (y0.getD y1.toNat (dflt t_impl_Event)) (y3.getD (IntKind.i64.wrap (y2 - 1)).toNat (dflt t_impl_Event))).bind fun x0 => 
        cond (x0) (spec_EventSort_6 k j0 j y0 y1 (IntKind.i64.wrap (y2 - 1)) y3) (
         cond (decide (y2 > 0)) (
          cond (decide (0 ≤ IntKind.i64.wrap (y2 - 1))) (
           cond (decide (IntKind.i64.wrap (y2 - 1) < (↑y3.length : Int))) (
            cond (decide ((IntKind.i64.wrap (y2 - 1)).toNat < y3.length)) (
             cond (decide (0 ≤ y1)) (
              cond (decide (y1 < (↑y0.length : Int))) (
               cond ((y3.getD (IntKind.i64.wrap (y2 - 1)).toNat (dflt t_impl_Event)).1 == (y0.getD y1.toNat (dflt t_impl_Event)).1 &&
  ((y3.getD (IntKind.i64.wrap (y2 - 1)).toNat (dflt t_impl_Event)).2.1 == (y0.getD y1.toNat (dflt t_impl_Event)).2.1 &&
    ((y3.getD (IntKind.i64.wrap (y2 - 1)).toNat (dflt t_impl_Event)).2.2.1 ==
        (y0.getD y1.toNat (dflt t_impl_Event)).2.2.1 &&
      ((y3.getD (IntKind.i64.wrap (y2 - 1)).toNat (dflt t_impl_Event)).2.2.2.1 ==
          (y0.getD y1.toNat (dflt t_impl_Event)).2.2.2.1 &&
        ((y3.getD (IntKind.i64.wrap (y2 - 1)).toNat (dflt t_impl_Event)).2.2.2.2.1 ==
            (y0.getD y1.toNat (dflt t_impl_Event)).2.2.2.2.1 &&
          ((y3.getD (IntKind.i64.wrap (y2 - 1)).toNat (dflt t_impl_Event)).2.2.2.2.2.1 ==
              (y0.getD y1.toNat (dflt t_impl_Event)).2.2.2.2.2.1 &&
            ((y3.getD (IntKind.i64.wrap (y2 - 1)).toNat (dflt t_impl_Event)).2.2.2.2.2.2 ==
                (y0.getD y1.toNat (dflt t_impl_Event)).2.2.2.2.2.2 &&
              true))))))) (spec_EventSort_3 k j0 y0 (IntKind.i64.wrap (y1 + 1)) y3) (
                cond (decide (0 ≤ y1)) (
                 cond (decide (y1 < (↑y0.length : Int))) (
                  cond (decide
  ((y3.length +
        [((y0.getD y1.toNat (dflt t_impl_Event)).1, (y0.getD y1.toNat (dflt t_impl_Event)).2.1,
              (y0.getD y1.toNat (dflt t_impl_Event)).2.2.1, (y0.getD y1.toNat (dflt t_impl_Event)).2.2.2.1,
              (y0.getD y1.toNat (dflt t_impl_Event)).2.2.2.2.1,
              (y0.getD y1.toNat (dflt t_impl_Event)).2.2.2.2.2.1,
              (y0.getD y1.toNat (dflt t_impl_Event)).2.2.2.2.2.2)].length) *
      56 ≤
    140737488351232)) (spec_EventSort_11 k j0 k y0 y1 y2 (IntKind.i64.wrap
  ((↑(y3 ++
            [((y0.getD y1.toNat (dflt t_impl_Event)).1, (y0.getD y1.toNat (dflt t_impl_Event)).2.1,
                (y0.getD y1.toNat (dflt t_impl_Event)).2.2.1, (y0.getD y1.toNat (dflt t_impl_Event)).2.2.2.1,
                (y0.getD y1.toNat (dflt t_impl_Event)).2.2.2.2.1,
                (y0.getD y1.toNat (dflt t_impl_Event)).2.2.2.2.2.1,
                (y0.getD y1.toNat (dflt t_impl_Event)).2.2.2.2.2.2)]).length :
      Int) -
    1)) (y3 ++
  [((y0.getD y1.toNat (dflt t_impl_Event)).1, (y0.getD y1.toNat (dflt t_impl_Event)).2.1,
      (y0.getD y1.toNat (dflt t_impl_Event)).2.2.1, (y0.getD y1.toNat (dflt t_impl_Event)).2.2.2.1,
      (y0.getD y1.toNat (dflt t_impl_Event)).2.2.2.2.1, (y0.getD y1.toNat (dflt t_impl_Event)).2.2.2.2.2.1,
      (y0.getD y1.toNat (dflt t_impl_Event)).2.2.2.2.2.2)])) (none)) (none)) (none))) (none)) (none)) (none)) (none)) (none)) (
          cond (decide (0 ≤ y1)) (
           cond (decide (y1 < (↑y0.length : Int))) (
            cond (decide
  ((y3.length +
        [((y0.getD y1.toNat (dflt t_impl_Event)).1, (y0.getD y1.toNat (dflt t_impl_Event)).2.1,
              (y0.getD y1.toNat (dflt t_impl_Event)).2.2.1, (y0.getD y1.toNat (dflt t_impl_Event)).2.2.2.1,
              (y0.getD y1.toNat (dflt t_impl_Event)).2.2.2.2.1,
              (y0.getD y1.toNat (dflt t_impl_Event)).2.2.2.2.2.1,
              (y0.getD y1.toNat (dflt t_impl_Event)).2.2.2.2.2.2)].length) *
      56 ≤
    140737488351232)) (spec_EventSort_11 k j0 k y0 y1 y2 (IntKind.i64.wrap
  ((↑(y3 ++
            [((y0.getD y1.toNat (dflt t_impl_Event)).1, (y0.getD y1.toNat (dflt t_impl_Event)).2.1,
                (y0.getD y1.toNat (dflt t_impl_Event)).2.2.1, (y0.getD y1.toNat (dflt t_impl_Event)).2.2.2.1,
                (y0.getD y1.toNat (dflt t_impl_Event)).2.2.2.2.1,
                (y0.getD y1.toNat (dflt t_impl_Event)).2.2.2.2.2.1,
                (y0.getD y1.toNat (dflt t_impl_Event)).2.2.2.2.2.2)]).length :
      Int) -
    1)) (y3 ++
  [((y0.getD y1.toNat (dflt t_impl_Event)).1, (y0.getD y1.toNat (dflt t_impl_Event)).2.1,
      (y0.getD y1.toNat (dflt t_impl_Event)).2.2.1, (y0.getD y1.toNat (dflt t_impl_Event)).2.2.2.1,
      (y0.getD y1.toNat (dflt t_impl_Event)).2.2.2.2.1, (y0.getD y1.toNat (dflt t_impl_Event)).2.2.2.2.2.1,
      (y0.getD y1.toNat (dflt t_impl_Event)).2.2.2.2.2.2)])) (none)) (none)) (none)))) (none)) (none)) (none)) (none)) (none)) (
  cond (decide (y2 > 0)) (
   cond (decide (0 ≤ IntKind.i64.wrap (y2 - 1))) (
    cond (decide (IntKind.i64.wrap (y2 - 1) < (↑y3.length : Int))) (
     cond (decide ((IntKind.i64.wrap (y2 - 1)).toNat < y3.length)) (
      cond (decide (0 ≤ y1)) (
       cond (decide (y1 < (↑y0.length : Int))) (
        cond ((y3.getD (IntKind.i64.wrap (y2 - 1)).toNat (dflt t_impl_Event)).1 == (y0.getD y1.toNat (dflt t_impl_Event)).1 &&
  ((y3.getD (IntKind.i64.wrap (y2 - 1)).toNat (dflt t_impl_Event)).2.1 == (y0.getD y1.toNat (dflt t_impl_Event)).2.1 &&
    ((y3.getD (IntKind.i64.wrap (y2 - 1)).toNat (dflt t_impl_Event)).2.2.1 ==
        (y0.getD y1.toNat (dflt t_impl_Event)).2.2.1 &&
      ((y3.getD (IntKind.i64.wrap (y2 - 1)).toNat (dflt t_impl_Event)).2.2.2.1 ==
          (y0.getD y1.toNat (dflt t_impl_Event)).2.2.2.1 &&
        ((y3.getD (IntKind.i64.wrap (y2 - 1)).toNat (dflt t_impl_Event)).2.2.2.2.1 ==
            (y0.getD y1.toNat (dflt t_impl_Event)).2.2.2.2.1 &&
          ((y3.getD (IntKind.i64.wrap (y2 - 1)).toNat (dflt t_impl_Event)).2.2.2.2.2.1 ==
              (y0.getD y1.toNat (dflt t_impl_Event)).2.2.2.2.2.1 &&
            ((y3.getD (IntKind.i64.wrap (y2 - 1)).toNat (dflt t_impl_Event)).2.2.2.2.2.2 ==
                (y0.getD y1.toNat (dflt t_impl_Event)).2.2.2.2.2.2 &&
              true))))))) (spec_EventSort_3 k j0 y0 (IntKind.i64.wrap (y1 + 1)) y3) (
         cond (decide (0 ≤ y1)) (
          cond (decide (y1 < (↑y0.length : Int))) (
           cond (decide
  ((y3.length +
        [((y0.getD y1.toNat (dflt t_impl_Event)).1, (y0.getD y1.toNat (dflt t_impl_Event)).2.1,
              (y0.getD y1.toNat (dflt t_impl_Event)).2.2.1, (y0.getD y1.toNat (dflt t_impl_Event)).2.2.2.1,
              (y0.getD y1.toNat (dflt t_impl_Event)).2.2.2.2.1,
              (y0.getD y1.toNat (dflt t_impl_Event)).2.2.2.2.2.1,
              (y0.getD y1.toNat (dflt t_impl_Event)).2.2.2.2.2.2)].length) *
      56 ≤
    140737488351232)) (spec_EventSort_11 k j0 k y0 y1 y2 (IntKind.i64.wrap
  ((↑(y3 ++
            [((y0.getD y1.toNat (dflt t_impl_Event)).1, (y0.getD y1.toNat (dflt t_impl_Event)).2.1,
                (y0.getD y1.toNat (dflt t_impl_Event)).2.2.1, (y0.getD y1.toNat (dflt t_impl_Event)).2.2.2.1,
                (y0.getD y1.toNat (dflt t_impl_Event)).2.2.2.2.1,
                (y0.getD y1.toNat (dflt t_impl_Event)).2.2.2.2.2.1,
                (y0.getD y1.toNat (dflt t_impl_Event)).2.2.2.2.2.2)]).length :
      Int) -
    1)) (y3 ++
  [((y0.getD y1.toNat (dflt t_impl_Event)).1, (y0.getD y1.toNat (dflt t_impl_Event)).2.1,
      (y0.getD y1.toNat (dflt t_impl_Event)).2.2.1, (y0.getD y1.toNat (dflt t_impl_Event)).2.2.2.1,
      (y0.getD y1.toNat (dflt t_impl_Event)).2.2.2.2.1, (y0.getD y1.toNat (dflt t_impl_Event)).2.2.2.2.2.1,
      (y0.getD y1.toNat (dflt t_impl_Event)).2.2.2.2.2.2)])) (none)) (none)) (none))) (none)) (none)) (none)) (none)) (none)) (
   cond (decide (0 ≤ y1)) (
    cond (decide (y1 < (↑y0.length : Int))) (
     cond (decide
  ((y3.length +
        [((y0.getD y1.toNat (dflt t_impl_Event)).1, (y0.getD y1.toNat (dflt t_impl_Event)).2.1,
              (y0.getD y1.toNat (dflt t_impl_Event)).2.2.1, (y0.getD y1.toNat (dflt t_impl_Event)).2.2.2.1,
              (y0.getD y1.toNat (dflt t_impl_Event)).2.2.2.2.1,
              (y0.getD y1.toNat (dflt t_impl_Event)).2.2.2.2.2.1,
              (y0.getD y1.toNat (dflt t_impl_Event)).2.2.2.2.2.2)].length) *
      56 ≤
    140737488351232)) (spec_EventSort_11 k j0 k y0 y1 y2 (IntKind.i64.wrap
  ((↑(y3 ++
            [((y0.getD y1.toNat (dflt t_impl_Event)).1, (y0.getD y1.toNat (dflt t_impl_Event)).2.1,
                (y0.getD y1.toNat (dflt t_impl_Event)).2.2.1, (y0.getD y1.toNat (dflt t_impl_Event)).2.2.2.1,
                (y0.getD y1.toNat (dflt t_impl_Event)).2.2.2.2.1,
                (y0.getD y1.toNat (dflt t_impl_Event)).2.2.2.2.2.1,
                (y0.getD y1.toNat (dflt t_impl_Event)).2.2.2.2.2.2)]).length :
      Int) -
    1)) (y3 ++
  [((y0.getD y1.toNat (dflt t_impl_Event)).1, (y0.getD y1.toNat (dflt t_impl_Event)).2.1,
      (y0.getD y1.toNat (dflt t_impl_Event)).2.2.1, (y0.getD y1.toNat (dflt t_impl_Event)).2.2.2.1,
      (y0.getD y1.toNat (dflt t_impl_Event)).2.2.2.2.1, (y0.getD y1.toNat (dflt t_impl_Event)).2.2.2.2.2.1,
      (y0.getD y1.toNat (dflt t_impl_Event)).2.2.2.2.2.2)])) (none)) (none)) (none))) := by kernel_rfl
theorem spec_EventSort_11_eq (k : Nat) (j0 : Nat) (j : Nat) (y0 : List V_impl_Event) (y1 : Int) (y2 : Int) (y3 : Int) (y4 : List V_impl_Event) : spec_EventSort_11 k j0 (j + 1) y0 y1 y2 y3 y4 = 
 cond (decide (y3 > y2)) (
  cond (decide (0 ≤ IntKind.i64.wrap (y3 - 1))) (
   cond (decide (IntKind.i64.wrap (y3 - 1) < (↑y4.length : Int))) (
    cond (decide ((IntKind.i64.wrap (y3 - 1)).toNat < y4.length)) (
     cond (decide (0 ≤ y3)) (
      cond (decide (y3 < (↑y4.length : Int))) (
       cond (decide (y3.toNat < y4.length)) (spec_EventSort_11 k j0 j y0 y1 y2 (IntKind.i64.wrap (y3 - 1)) (y4.set y3.toNat
  ((y4.getD (IntKind.i64.wrap (y3 - 1)).toNat (dflt t_impl_Event)).1,
    (y4.getD (IntKind.i64.wrap (y3 - 1)).toNat (dflt t_impl_Event)).2.1,
    (y4.getD (IntKind.i64.wrap (y3 - 1)).toNat (dflt t_impl_Event)).2.2.1,
    (y4.getD (IntKind.i64.wrap (y3 - 1)).toNat (dflt t_impl_Event)).2.2.2.1,
    (y4.getD (IntKind.i64.wrap (y3 - 1)).toNat (dflt t_impl_Event)).2.2.2.2.1,
    (y4.getD (IntKind.i64.wrap (y3 - 1)).toNat (dflt t_impl_Event)).2.2.2.2.2.1,
    (y4.getD (IntKind.i64.wrap (y3 - 1)).toNat (dflt t_impl_Event)).2.2.2.2.2.2))) (none)) (none)) (none)) (none)) (none)) (none)) (
  cond (decide (0 ≤ y1)) (
   cond (decide (y1 < (↑y0.length : Int))) (
    cond (decide (0 ≤ y2)) (
     cond (decide (y2 < (↑y4.length : Int))) (
      cond (decide (y2.toNat < y4.length)) (spec_EventSort_3 k j0 y0 (IntKind.i64.wrap (y1 + 1)) (y4.set y2.toNat
  ((y0.getD y1.toNat (dflt t_impl_Event)).1, (y0.getD y1.toNat (dflt t_impl_Event)).2.1,
    (y0.getD y1.toNat (dflt t_impl_Event)).2.2.1, (y0.getD y1.toNat (dflt t_impl_Event)).2.2.2.1,
    (y0.getD y1.toNat (dflt t_impl_Event)).2.2.2.2.1, (y0.getD y1.toNat (dflt t_impl_Event)).2.2.2.2.2.1,
    (y0.getD y1.toNat (dflt t_impl_Event)).2.2.2.2.2.2))) (none)) (none)) (none)) (none)) (none)) := by kernel_rfl

noncomputable def spec_l22Came (k : Nat) (a0 : V_impl_Node) (a1 : V_int) : Option (List V_impl_Event) := evalT E k 62 (.ow 112 t_impl_Event) [inp t_impl_Node a0, inp t_int a1] []
noncomputable def spec_l22Came_3 (k : Nat) (j : Nat) (y0 : Int) (y1 : Int) (y2 : V_impl_Node) (y3 : List V_impl_Event) : Option (List V_impl_Event) := loopAt E 62 (.ow 112 t_impl_Event) [true, true, false, true, false] [] [] k [] j (mkS 63 [(1, .c (.int .i64 y0)), (2, .c (.p 0 0)), (5, .c (.o 1)), (6, .c (.int .i64 y1))]) [some (.box 44 (cells t_impl_Node y2)), some (.own 112 t_impl_Event y3)]
noncomputable def spec_l22Came_9 (k : Nat) (j : Nat) (y0 : Int) (y1 : Int) (y2 : V_impl_Node) (y3 : List V_impl_Event) (y4 : List V_impl_Event) : Option (List V_impl_Event) := loopAt E 62 (.ow 112 t_impl_Event) [true, true, true, true, false, true, false] [] [] k [] j (mkS 63 [(1, .c (.int .i64 y0)), (2, .c (.p 0 0)), (5, .c (.o 1)), (7, .c (.o 2)), (8, .c (.int .i64 y1))]) [some (.box 44 (cells t_impl_Node y2)), some (.own 112 t_impl_Event y3), some (.own 112 t_impl_Event y4)]
theorem spec_l22Came_eq (k : Nat) (a0 : V_impl_Node) (a1 : V_int) : spec_l22Came (k + 1) a0 a1 = 
 (spec_l22Sent k a0).bind fun x0 => spec_l22Came_3 k k a1 0 a0 x0 := by kernel_rfl
theorem spec_l22Came_3_eq (k : Nat) (j : Nat) (y0 : Int) (y1 : Int) (y2 : V_impl_Node) (y3 : List V_impl_Event) : spec_l22Came_3 k (j + 1) y0 y1 y2 y3 = 
 cond (decide (y1 < (↑(List.length y2.2.2.2.2.2.2.2.2.2.1) : Int))) (
  cond (y1 != y2.1) (
   cond (decide (0 ≤ y1)) (
    cond (decide (y1 < (↑(List.length y2.2.2.2.2.2.2.2.2.2.1) : Int))) (
     cond (decide
  ((y3.length + List.length (List.getD y2.2.2.2.2.2.2.2.2.2.1 y1.toNat (dflt t_impl_View)).2.2) *
      56 ≤
    140737488351232)) (spec_l22Came_3 k j y0 (IntKind.i64.wrap (y1 + 1)) y2 (y3 ++ (List.getD y2.2.2.2.2.2.2.2.2.2.1 y1.toNat (dflt t_impl_View)).2.2)) (none)) (none)) (none)) (spec_l22Came_3 k j y0 (IntKind.i64.wrap (y1 + 1)) y2 y3)) (spec_l22Came_9 k k y0 0 y2 y3 []) := by kernel_rfl
theorem spec_l22Came_9_eq (k : Nat) (j : Nat) (y0 : Int) (y1 : Int) (y2 : V_impl_Node) (y3 : List V_impl_Event) (y4 : List V_impl_Event) : spec_l22Came_9 k (j + 1) y0 y1 y2 y3 y4 = 
 cond (decide (y1 < (↑y3.length : Int))) (
  cond (decide (0 ≤ y1)) (
   cond (decide (y1 < (↑y3.length : Int))) (
    cond (decide (y1.toNat < y3.length)) (
     cond ((y3.getD y1.toNat (dflt t_impl_Event)).2.1 == y0) (
      cond (decide (0 ≤ y1)) (
       cond (decide (y1 < (↑y3.length : Int))) (
        cond (decide (y1.toNat < y3.length)) (
         cond (decide ((y3.getD y1.toNat (dflt t_impl_Event)).1 ≥ y2.2.2.2.1)) (
          cond (decide (0 ≤ y1)) (
           cond (decide (y1 < (↑y3.length : Int))) (
            cond (decide (y1.toNat < y3.length)) (
             cond (decide
  ((y4.length +
        [((y3.getD y1.toNat (dflt t_impl_Event)).1, (y3.getD y1.toNat (dflt t_impl_Event)).2.1,
              (y3.getD y1.toNat (dflt t_impl_Event)).2.2.1, (y3.getD y1.toNat (dflt t_impl_Event)).2.2.2.1,
              (y3.getD y1.toNat (dflt t_impl_Event)).2.2.2.2.1,
              (y3.getD y1.toNat (dflt t_impl_Event)).2.2.2.2.2.1,
              (y3.getD y1.toNat (dflt t_impl_Event)).2.2.2.2.2.2)].length) *
      56 ≤
    140737488351232)) (spec_l22Came_9 k j y0 (IntKind.i64.wrap (y1 + 1)) y2 y3 (y4 ++
  [((y3.getD y1.toNat (dflt t_impl_Event)).1, (y3.getD y1.toNat (dflt t_impl_Event)).2.1,
      (y3.getD y1.toNat (dflt t_impl_Event)).2.2.1, (y3.getD y1.toNat (dflt t_impl_Event)).2.2.2.1,
      (y3.getD y1.toNat (dflt t_impl_Event)).2.2.2.2.1, (y3.getD y1.toNat (dflt t_impl_Event)).2.2.2.2.2.1,
      (y3.getD y1.toNat (dflt t_impl_Event)).2.2.2.2.2.2)])) (none)) (none)) (none)) (none)) (spec_l22Came_9 k j y0 (IntKind.i64.wrap (y1 + 1)) y2 y3 y4)) (none)) (none)) (none)) (spec_l22Came_9 k j y0 (IntKind.i64.wrap (y1 + 1)) y2 y3 y4)) (none)) (none)) (none)) (
  (spec_EventSort k y4).bind fun x0 => some x0) := by kernel_rfl

noncomputable def spec_l21Same (k : Nat) (a0 : V_impl_Lane) (a1 : V_sl_impl_Event) : Option V_int := evalT E k 61 t_int [inp t_impl_Lane a0, inp t_sl_impl_Event a1] []
noncomputable def spec_l21Same_2 (k : Nat) (j : Nat) (y0 : List V_impl_Event) (y1 : Int) (y2 : V_impl_Lane) : Option V_int := loopAt E 61 t_int [true, true, false, false] [] [] k [] j (mkS 33 [(1, .c (.sl 112 t_impl_Event y0)), (2, .c (.p 0 0)), (5, .c (.int .i64 y1))]) [some (.box 106 (cells t_impl_Lane y2))]
theorem spec_l21Same_eq (k : Nat) (a0 : V_impl_Lane) (a1 : V_sl_impl_Event) : spec_l21Same (k + 1) a0 a1 = spec_l21Same_2 k k a1 0 a0 := by kernel_rfl
theorem spec_l21Same_2_eq (k : Nat) (j : Nat) (y0 : List V_impl_Event) (y1 : Int) (y2 : V_impl_Lane) : spec_l21Same_2 k (j + 1) y0 y1 y2 = 
 cond (decide (y1 < (↑(List.length y2.2.2) : Int))) (
  cond (decide (y1 < (↑y0.length : Int))) (
   cond (decide (0 ≤ y1)) (
    cond (decide (y1 < (↑(List.length y2.2.2) : Int))) (
     cond (decide (0 ≤ y1)) (
      cond (decide (y1 < (↑y0.length : Int))) (
       cond ((List.getD y2.2.2 y1.toNat (dflt t_impl_Past)).1.1 == (y0.getD y1.toNat (dflt t_impl_Event)).1 &&
  ((List.getD y2.2.2 y1.toNat (dflt t_impl_Past)).1.2.1 == (y0.getD y1.toNat (dflt t_impl_Event)).2.1 &&
    ((List.getD y2.2.2 y1.toNat (dflt t_impl_Past)).1.2.2.1 == (y0.getD y1.toNat (dflt t_impl_Event)).2.2.1 &&
      ((List.getD y2.2.2 y1.toNat (dflt t_impl_Past)).1.2.2.2.1 ==
          (y0.getD y1.toNat (dflt t_impl_Event)).2.2.2.1 &&
        ((List.getD y2.2.2 y1.toNat (dflt t_impl_Past)).1.2.2.2.2.1 ==
            (y0.getD y1.toNat (dflt t_impl_Event)).2.2.2.2.1 &&
          ((List.getD y2.2.2 y1.toNat (dflt t_impl_Past)).1.2.2.2.2.2.1 ==
              (y0.getD y1.toNat (dflt t_impl_Event)).2.2.2.2.2.1 &&
            ((List.getD y2.2.2 y1.toNat (dflt t_impl_Past)).1.2.2.2.2.2.2 ==
                (y0.getD y1.toNat (dflt t_impl_Event)).2.2.2.2.2.2 &&
              true))))))) (spec_l21Same_2 k j y0 (IntKind.i64.wrap (y1 + 1)) y2) (some y1)) (none)) (none)) (none)) (none)) (some y1)) (some y1) := by kernel_rfl

noncomputable def spec_NodeOk (k : Nat) (a0 : V_impl_Node) : Option V_bool := evalT E k 24 t_bool [inp t_impl_Node a0] []
noncomputable def spec_NodeOk_9 (k : Nat) (j : Nat) (y0 : Int) (y1 : V_impl_Node) (y2 : List V_impl_Lane) : Option V_bool := loopAt E 24 t_bool [true, true, true, true, true, false, true, false] [] [] k [] j (mkS 141 [(1, .c (.p 0 0)), (3, .c (.o 1)), (4, .c (.int .i64 y0))]) [some (.box 44 (cells t_impl_Node y1)), some (.own 106 t_impl_Lane y2)]
noncomputable def spec_NodeOk_14 (k : Nat) (j : Nat) (y0 : Int) (y1 : V_impl_Node) (y2 : List V_impl_Lane) : Option V_bool := loopAt E 24 t_bool [true, true, true, true, true, true, false, true, false] [] [] k [] j (mkS 141 [(1, .c (.p 0 0)), (3, .c (.o 1)), (5, .c (.int .i64 y0))]) [some (.box 44 (cells t_impl_Node y1)), some (.own 106 t_impl_Lane y2)]
theorem spec_NodeOk_eq (k : Nat) (a0 : V_impl_Node) : spec_NodeOk (k + 1) a0 = 
 (spec_l6In k a0.1 0 2).bind fun x0 => 
  cond (!x0) (some false) (
   (spec_l22Max k ).bind fun x1 => 
    (spec_l6In k a0.2.2.1 1 x1).bind fun x2 => 
     cond (!x2) (some false) (
      (spec_l6In k a0.2.2.2.1 0 41).bind fun x3 => 
       cond (!x3) (some false) (
        (spec_l22Max k ).bind fun x4 => 
         (spec_l6In k a0.2.2.2.2.2.2.2.1 0 x4).bind fun x5 => 
          cond (!x5) (some false) (
           (spec_l2Most k ).bind fun x6 => 
            (spec_l2Events k a0.2.2.2.2.2.1 x6).bind fun x7 => 
             cond (!x7) (some false) (
              (spec_l2Outs k a0.2.2.2.2.2.2.1 96).bind fun x8 => 
               cond (!x8) (some false) (
                (spec_l22Forms k a0).bind fun x9 => 
                 cond (!x9) (some false) (
                  cond (decide ((↑(List.length a0.2.2.2.2.2.2.1) : Int) > 0)) (
                   cond (decide (0 ≤ IntKind.i64.wrap ((↑(List.length a0.2.2.2.2.2.2.1) : Int) - 1))) (
                    cond (decide
  (IntKind.i64.wrap ((↑(List.length a0.2.2.2.2.2.2.1) : Int) - 1) <
    (↑(List.length a0.2.2.2.2.2.2.1) : Int))) (
                     cond (decide
  ((List.getD a0.2.2.2.2.2.2.1
        (IntKind.i64.wrap ((↑(List.length a0.2.2.2.2.2.2.1) : Int) - 1)).toNat (dflt t_impl_Out)).1 ≥
    a0.2.2.2.1)) (some false) (
                      (spec_l22Lanes k a0.1).bind fun x10 => 
                       cond ((↑(List.length a0.2.2.2.2.1) : Int) != (↑(List.length x10) : Int)) (some false) (spec_NodeOk_9 k k 0 a0 x10))) (none)) (none)) (
                   (spec_l22Lanes k a0.1).bind fun x11 => 
                    cond ((↑(List.length a0.2.2.2.2.1) : Int) != (↑(List.length x11) : Int)) (some false) (spec_NodeOk_9 k k 0 a0 x11))))))))) := by kernel_rfl
theorem spec_NodeOk_9_eq (k : Nat) (j : Nat) (y0 : Int) (y1 : V_impl_Node) (y2 : List V_impl_Lane) : spec_NodeOk_9 k (j + 1) y0 y1 y2 = 
 cond (decide (y0 < (↑y2.length : Int))) (
  cond (decide (0 ≤ y0)) (
   cond (decide (y0 < (↑(List.length y1.2.2.2.2.1) : Int))) (
    (spec_LaneOk k (List.getD y1.2.2.2.2.1 y0.toNat (dflt t_impl_Lane))).bind fun x0 => 
     cond (!x0) (some false) (
      cond (decide (0 ≤ y0)) (
       cond (decide (y0 < (↑(List.length y1.2.2.2.2.1) : Int))) (
        cond (decide (0 ≤ y0)) (
         cond (decide (y0 < (↑y2.length : Int))) (
          cond (decide (y0.toNat < y2.length)) (
           cond ((List.getD y1.2.2.2.2.1 y0.toNat (dflt t_impl_Lane)).1 != (y2.getD y0.toNat (dflt t_impl_Lane)).1) (some false) (spec_NodeOk_9 k j (IntKind.i64.wrap (y0 + 1)) y1 y2)) (none)) (none)) (none)) (none)) (none))) (none)) (none)) (spec_NodeOk_14 k k 0 y1 y2) := by kernel_rfl
theorem spec_NodeOk_14_eq (k : Nat) (j : Nat) (y0 : Int) (y1 : V_impl_Node) (y2 : List V_impl_Lane) : spec_NodeOk_14 k (j + 1) y0 y1 y2 = 
 cond (decide (y0 < (↑y2.length : Int))) (
  cond (decide (0 ≤ y0)) (
   cond (decide (y0 < (↑(List.length y1.2.2.2.2.1) : Int))) (
    cond (decide (0 ≤ y0)) (
     cond (decide (y0 < (↑y2.length : Int))) (
      cond (decide (y0.toNat < y2.length)) (
       (spec_l22Came k y1 ((y2.getD y0.toNat (dflt t_impl_Lane)).1)).bind fun x0 => 
        (spec_l21Same k (List.getD y1.2.2.2.2.1 y0.toNat (dflt t_impl_Lane)) x0).bind fun x1 => 
         cond (decide (0 ≤ y0)) (
          cond (decide (y0 < (↑(List.length y1.2.2.2.2.1) : Int))) (
           cond (decide (x1 < (↑(List.length (List.getD y1.2.2.2.2.1 y0.toNat (dflt t_impl_Lane)).2.2) : Int))) (some false) (
            cond (decide (0 ≤ y0)) (
             cond (decide (y0 < (↑y2.length : Int))) (
              cond (decide (y0.toNat < y2.length)) (
               (spec_l22Came k y1 ((y2.getD y0.toNat (dflt t_impl_Lane)).1)).bind fun x2 => 
                (spec_l2Most k ).bind fun x3 => 
                 cond (decide ((↑(List.length x2) : Int) > x3)) (some false) (spec_NodeOk_14 k j (IntKind.i64.wrap (y0 + 1)) y1 y2)) (none)) (none)) (none))) (none)) (none)) (none)) (none)) (none)) (none)) (none)) (some true) := by kernel_rfl

noncomputable def spec_OutSort (k : Nat) (a0 : V_sl_impl_Out) : Option (List V_impl_Out) := evalT E k 25 (.ow 64 t_impl_Out) [inp t_sl_impl_Out a0] []
noncomputable def spec_OutSort_3 (k : Nat) (j : Nat) (y0 : List V_impl_Out) (y1 : Int) (y2 : List V_impl_Out) : Option (List V_impl_Out) := loopAt E 25 (.ow 64 t_impl_Out) [true, true, false, true, false] [] [] k [] j (mkS 47 [(0, .c (.sl 64 t_impl_Out y0)), (3, .c (.o 0)), (4, .c (.int .i64 y1))]) [some (.own 64 t_impl_Out y2)]
noncomputable def spec_OutSort_6 (k : Nat) (j0 : Nat) (j : Nat) (y0 : List V_impl_Out) (y1 : Int) (y2 : Int) (y3 : List V_impl_Out) : Option (List V_impl_Out) := loopAt E 25 (.ow 64 t_impl_Out) [true, true, false, true, false, false, true, false, false, true, false, false] [] [] k [j0] j (mkS 47 [(0, .c (.sl 64 t_impl_Out y0)), (3, .c (.o 0)), (4, .c (.int .i64 y1)), (5, .c (.int .i64 y2))]) [some (.own 64 t_impl_Out y3)]
theorem spec_OutSort_eq (k : Nat) (a0 : V_sl_impl_Out) : spec_OutSort (k + 1) a0 = spec_OutSort_3 k k a0 0 [] := by kernel_rfl
theorem spec_OutSort_3_eq (k : Nat) (j : Nat) (y0 : List V_impl_Out) (y1 : Int) (y2 : List V_impl_Out) : spec_OutSort_3 k (j + 1) y0 y1 y2 = 
 cond (decide (y1 < (↑y0.length : Int))) (spec_OutSort_6 k j k y0 y1 (↑y2.length : Int) y2) (some y2) := by kernel_rfl
theorem spec_OutSort_6_eq (k : Nat) (j0 : Nat) (j : Nat) (y0 : List V_impl_Out) (y1 : Int) (y2 : Int) (y3 : List V_impl_Out) : spec_OutSort_6 k j0 (j + 1) y0 y1 y2 y3 = 
 cond (decide (y2 > 0)) (
  cond (decide (0 ≤ y1)) (
   cond (decide (y1 < (↑y0.length : Int))) (
    cond (decide (0 ≤ IntKind.i64.wrap (y2 - 1))) (
     cond (decide (IntKind.i64.wrap (y2 - 1) < (↑y3.length : Int))) (
      cond (decide ((IntKind.i64.wrap (y2 - 1)).toNat < y3.length)) (
       (spec_OutLess k (y0.getD y1.toNat (dflt t_impl_Out)) (y3.getD (IntKind.i64.wrap (y2 - 1)).toNat (dflt t_impl_Out))).bind fun x0 => 
        cond (x0) (spec_OutSort_6 k j0 j y0 y1 (IntKind.i64.wrap (y2 - 1)) y3) (
         cond (decide (0 ≤ y2)) (
          cond (decide (y2 ≤ (↑y3.length : Int))) (
           cond (decide ((0 + (List.drop (Int.toNat 0) (List.take y2.toNat y3)).length) * 40 ≤ 140737488351232)) (
            cond (decide (0 ≤ y1)) (
             cond (decide (y1 < (↑y0.length : Int))) (
              cond (decide
  ((([] ++ List.drop (Int.toNat 0) (List.take y2.toNat y3)).length +
        [((y0.getD y1.toNat (dflt t_impl_Out)).1, (y0.getD y1.toNat (dflt t_impl_Out)).2.1,
              (y0.getD y1.toNat (dflt t_impl_Out)).2.2.1, (y0.getD y1.toNat (dflt t_impl_Out)).2.2.2.1,
              (y0.getD y1.toNat (dflt t_impl_Out)).2.2.2.2)].length) *
      40 ≤
    140737488351232)) (
               cond (decide (0 ≤ y2)) (
                cond (decide (y2 ≤ (↑y3.length : Int))) (
                 cond (decide ((↑y3.length : Int) ≤ (↑y3.length : Int))) (
                  cond (decide
  ((([] ++ List.drop (Int.toNat 0) (List.take y2.toNat y3) ++
            [((y0.getD y1.toNat (dflt t_impl_Out)).1, (y0.getD y1.toNat (dflt t_impl_Out)).2.1,
                (y0.getD y1.toNat (dflt t_impl_Out)).2.2.1, (y0.getD y1.toNat (dflt t_impl_Out)).2.2.2.1,
                (y0.getD y1.toNat (dflt t_impl_Out)).2.2.2.2)]).length +
        (List.drop y2.toNat (List.take (↑y3.length : Int).toNat y3)).length) *
      40 ≤
    140737488351232)) (spec_OutSort_3 k j0 y0 (IntKind.i64.wrap (y1 + 1)) ([] ++ List.drop (Int.toNat 0) (List.take y2.toNat y3) ++
    [((y0.getD y1.toNat (dflt t_impl_Out)).1, (y0.getD y1.toNat (dflt t_impl_Out)).2.1,
        (y0.getD y1.toNat (dflt t_impl_Out)).2.2.1, (y0.getD y1.toNat (dflt t_impl_Out)).2.2.2.1,
        (y0.getD y1.toNat (dflt t_impl_Out)).2.2.2.2)] ++
  List.drop y2.toNat (List.take (↑y3.length : Int).toNat y3))) (none)) (none)) (none)) (none)) (none)) (none)) (none)) (none)) (none)) (none))) (none)) (none)) (none)) (none)) (none)) (
  cond (decide (0 ≤ y2)) (
   cond (decide (y2 ≤ (↑y3.length : Int))) (
    cond (decide ((0 + (List.drop (Int.toNat 0) (List.take y2.toNat y3)).length) * 40 ≤ 140737488351232)) (
     cond (decide (0 ≤ y1)) (
      cond (decide (y1 < (↑y0.length : Int))) (
       cond (decide
  ((([] ++ List.drop (Int.toNat 0) (List.take y2.toNat y3)).length +
        [((y0.getD y1.toNat (dflt t_impl_Out)).1, (y0.getD y1.toNat (dflt t_impl_Out)).2.1,
              (y0.getD y1.toNat (dflt t_impl_Out)).2.2.1, (y0.getD y1.toNat (dflt t_impl_Out)).2.2.2.1,
              (y0.getD y1.toNat (dflt t_impl_Out)).2.2.2.2)].length) *
      40 ≤
    140737488351232)) (
        cond (decide (0 ≤ y2)) (
         cond (decide (y2 ≤ (↑y3.length : Int))) (
          cond (decide ((↑y3.length : Int) ≤ (↑y3.length : Int))) (
           cond (decide
  ((([] ++ List.drop (Int.toNat 0) (List.take y2.toNat y3) ++
            [((y0.getD y1.toNat (dflt t_impl_Out)).1, (y0.getD y1.toNat (dflt t_impl_Out)).2.1,
                (y0.getD y1.toNat (dflt t_impl_Out)).2.2.1, (y0.getD y1.toNat (dflt t_impl_Out)).2.2.2.1,
                (y0.getD y1.toNat (dflt t_impl_Out)).2.2.2.2)]).length +
        (List.drop y2.toNat (List.take (↑y3.length : Int).toNat y3)).length) *
      40 ≤
    140737488351232)) (spec_OutSort_3 k j0 y0 (IntKind.i64.wrap (y1 + 1)) ([] ++ List.drop (Int.toNat 0) (List.take y2.toNat y3) ++
    [((y0.getD y1.toNat (dflt t_impl_Out)).1, (y0.getD y1.toNat (dflt t_impl_Out)).2.1,
        (y0.getD y1.toNat (dflt t_impl_Out)).2.2.1, (y0.getD y1.toNat (dflt t_impl_Out)).2.2.2.1,
        (y0.getD y1.toNat (dflt t_impl_Out)).2.2.2.2)] ++
  List.drop y2.toNat (List.take (↑y3.length : Int).toNat y3))) (none)) (none)) (none)) (none)) (none)) (none)) (none)) (none)) (none)) (none)) := by kernel_rfl

noncomputable def spec_HubOuts (k : Nat) (a0 : V_impl_Hub) (a1 : V_impl_Node) : Option (List V_impl_Out) := evalT E k 6 (.ow 64 t_impl_Out) [inp t_impl_Hub a0, inp t_impl_Node a1] []
noncomputable def spec_HubOuts_7 (k : Nat) (j : Nat) (y0 : Int) (y1 : Int) (y2 : V_impl_Hub) (y3 : List V_impl_Out) : Option (List V_impl_Out) := loopAt E 6 (.ow 64 t_impl_Out) [true, true, true, true, true, false, true, false] [] [] k [] j (mkS 89 [(2, .c (.p 0 0)), (5, .c (.o 1)), (6, .c (.int .i64 y0)), (7, .c (.int .i64 y1))]) [some (.box 38 (cells t_impl_Hub y2)), some (.own 64 t_impl_Out y3)]
noncomputable def spec_HubOuts_14 (k : Nat) (j : Nat) (y0 : Int) (y1 : Int) (y2 : List V_impl_Out) (y3 : List V_impl_Out) : Option (List V_impl_Out) := loopAt E 6 (.ow 64 t_impl_Out) [true, true, true, true, true, true, true, false, true, false] [] [] k [] j (mkS 89 [(5, .c (.o 0)), (6, .c (.int .i64 y0)), (8, .c (.o 1)), (9, .c (.int .i64 y1))]) [some (.own 64 t_impl_Out y2), some (.own 64 t_impl_Out y3)]
theorem spec_HubOuts_eq (k : Nat) (a0 : V_impl_Hub) (a1 : V_impl_Node) : spec_HubOuts (k + 1) a0 a1 = 
 (spec_HubOk k a0).bind fun x0 => 
  cond (!x0) (some []) (
   (spec_NodeOk k a1).bind fun x1 => 
    cond (!x1) (some []) (
     cond (a1.1 != 0) (some []) (
      cond ((↑(List.length a0.2.2.2) : Int) != 2) (some []) (
       cond (decide ((0 + List.length a1.2.2.2.2.2.2.1) * 40 ≤ 140737488351232)) (spec_HubOuts_7 k k a1.2.2.2.1 0 a0 ([] ++ a1.2.2.2.2.2.2.1)) (none))))) := by kernel_rfl
theorem spec_HubOuts_7_eq (k : Nat) (j : Nat) (y0 : Int) (y1 : Int) (y2 : V_impl_Hub) (y3 : List V_impl_Out) : spec_HubOuts_7 k (j + 1) y0 y1 y2 y3 = 
 cond (decide (y1 < (↑(List.length y2.2.2.2) : Int))) (
  cond (decide (0 ≤ y1)) (
   cond (decide (y1 < (↑(List.length y2.2.2.2) : Int))) (
    cond (decide ((List.getD y2.2.2.2 y1.toNat (dflt t_impl_Word)).2.2.2.2.2.2.1 < y0)) (
     cond (decide (0 ≤ y1)) (
      cond (decide (y1 < (↑(List.length y2.2.2.2) : Int))) (
       cond (decide (0 ≤ y1)) (
        cond (decide (y1 < (↑(List.length y2.2.2.2) : Int))) (
         cond (decide
  ((y3.length + List.length (List.getD y2.2.2.2 y1.toNat (dflt t_impl_Word)).2.2.2.2.2.2.2.2.2.2) *
      40 ≤
    140737488351232)) (spec_HubOuts_7 k j ((List.getD y2.2.2.2 y1.toNat (dflt t_impl_Word)).2.2.2.2.2.2.1) (IntKind.i64.wrap (y1 + 1)) y2 (y3 ++ (List.getD y2.2.2.2 y1.toNat (dflt t_impl_Word)).2.2.2.2.2.2.2.2.2.2)) (none)) (none)) (none)) (none)) (none)) (
     cond (decide (0 ≤ y1)) (
      cond (decide (y1 < (↑(List.length y2.2.2.2) : Int))) (
       cond (decide
  ((y3.length + List.length (List.getD y2.2.2.2 y1.toNat (dflt t_impl_Word)).2.2.2.2.2.2.2.2.2.2) *
      40 ≤
    140737488351232)) (spec_HubOuts_7 k j y0 (IntKind.i64.wrap (y1 + 1)) y2 (y3 ++ (List.getD y2.2.2.2 y1.toNat (dflt t_impl_Word)).2.2.2.2.2.2.2.2.2.2)) (none)) (none)) (none))) (none)) (none)) (spec_HubOuts_14 k k y0 0 y3 []) := by kernel_rfl
theorem spec_HubOuts_14_eq (k : Nat) (j : Nat) (y0 : Int) (y1 : Int) (y2 : List V_impl_Out) (y3 : List V_impl_Out) : spec_HubOuts_14 k (j + 1) y0 y1 y2 y3 = 
 cond (decide (y1 < (↑y2.length : Int))) (
  cond (decide (0 ≤ y1)) (
   cond (decide (y1 < (↑y2.length : Int))) (
    cond (decide (y1.toNat < y2.length)) (
     cond (decide ((y2.getD y1.toNat (dflt t_impl_Out)).1 < y0)) (
      cond (decide (0 ≤ y1)) (
       cond (decide (y1 < (↑y2.length : Int))) (
        cond (decide (y1.toNat < y2.length)) (
         cond (decide
  ((y3.length +
        [((y2.getD y1.toNat (dflt t_impl_Out)).1, (y2.getD y1.toNat (dflt t_impl_Out)).2.1,
              (y2.getD y1.toNat (dflt t_impl_Out)).2.2.1, (y2.getD y1.toNat (dflt t_impl_Out)).2.2.2.1,
              (y2.getD y1.toNat (dflt t_impl_Out)).2.2.2.2)].length) *
      40 ≤
    140737488351232)) (spec_HubOuts_14 k j y0 (IntKind.i64.wrap (y1 + 1)) y2 (y3 ++
  [((y2.getD y1.toNat (dflt t_impl_Out)).1, (y2.getD y1.toNat (dflt t_impl_Out)).2.1, (y2.getD y1.toNat (dflt t_impl_Out)).2.2.1,
      (y2.getD y1.toNat (dflt t_impl_Out)).2.2.2.1, (y2.getD y1.toNat (dflt t_impl_Out)).2.2.2.2)])) (none)) (none)) (none)) (none)) (spec_HubOuts_14 k j y0 (IntKind.i64.wrap (y1 + 1)) y2 y3)) (none)) (none)) (none)) (
  (spec_OutSort k y3).bind fun x0 => some x0) := by kernel_rfl

noncomputable def impl_within (k : Nat) (a0 : V_int) (a1 : V_int) (a2 : V_int) : Option V_bool := evalT E k 69 t_bool [inp t_int a0, inp t_int a1, inp t_int a2] []
theorem impl_within_eq (k : Nat) (a0 : V_int) (a1 : V_int) (a2 : V_int) : impl_within (k + 1) a0 a1 a2 = 
 cond (decide (a0 ≥ a1)) (some (decide (a0 ≤ a2))) (some false) := by kernel_rfl

noncomputable def impl_isNode (k : Nat) (a0 : V_int) : Option V_bool := evalT E k 120 t_bool [inp t_int a0] []
theorem impl_isNode_eq (k : Nat) (a0 : V_int) : impl_isNode (k + 1) a0 = 
 (impl_within k a0 0 2).bind fun x0 => some x0 := by kernel_rfl

noncomputable def impl_countsOk (k : Nat) (a0 : V_sl_int) : Option V_bool := evalT E k 121 t_bool [inp t_sl_int a0] []
noncomputable def impl_countsOk_2 (k : Nat) (j : Nat) (y0 : List V_int) (y1 : List V_int) (y2 : Int) (y3 : Int) : Option V_bool := loopAt E 121 t_bool [true, false, true, false] [] [] k [] j (mkS 23 [(0, .c (.sl 3 t_int y0)), (5, .c (.sl 3 t_int y1)), (6, .c (.int .i64 y2)), (7, .c (.int .i64 y3))]) []
theorem impl_countsOk_eq (k : Nat) (a0 : V_sl_int) : impl_countsOk (k + 1) a0 = impl_countsOk_2 k k a0 a0 ((↑(List.length a0) : Int)) 0 := by kernel_rfl
theorem impl_countsOk_2_eq (k : Nat) (j : Nat) (y0 : List V_int) (y1 : List V_int) (y2 : Int) (y3 : Int) : impl_countsOk_2 k (j + 1) y0 y1 y2 y3 = 
 cond (decide (y3 < y2)) (
  cond (decide (0 ≤ y3)) (
   cond (decide (y3 < (↑y1.length : Int))) (
    (impl_within k (y1.getD y3.toNat (dflt t_int)) 0 9999).bind fun x0 => 
     cond (!x0) (some false) (impl_countsOk_2 k j y0 y1 y2 (IntKind.i64.wrap (y3 + 1)))) (none)) (none)) (
  cond ((↑y0.length : Int) == 0) (some true) (some ((↑y0.length : Int) == 3))) := by kernel_rfl

noncomputable def impl_isProc (k : Nat) (a0 : V_int) : Option V_bool := evalT E k 124 t_bool [inp t_int a0] []
theorem impl_isProc_eq (k : Nat) (a0 : V_int) : impl_isProc (k + 1) a0 = 
 (impl_within k a0 0 3).bind fun x0 => some x0 := by kernel_rfl

noncomputable def impl_isKind (k : Nat) (a0 : V_int) : Option V_bool := evalT E k 136 t_bool [inp t_int a0] []
theorem impl_isKind_eq (k : Nat) (a0 : V_int) : impl_isKind (k + 1) a0 = 
 (impl_within k a0 0 3).bind fun x0 => some x0 := by kernel_rfl

noncomputable def impl_isNum (k : Nat) (a0 : V_int) : Option V_bool := evalT E k 125 t_bool [inp t_int a0] []
theorem impl_isNum_eq (k : Nat) (a0 : V_int) : impl_isNum (k + 1) a0 = 
 (impl_within k a0 0 999).bind fun x0 => some x0 := by kernel_rfl

noncomputable def impl_eventOk (k : Nat) (a0 : V_impl_Event) : Option V_bool := evalT E k 122 t_bool [inp t_impl_Event a0] []
theorem impl_eventOk_eq (k : Nat) (a0 : V_impl_Event) : impl_eventOk (k + 1) a0 = 
 (impl_within k a0.1 0 40).bind fun x0 => 
  cond (x0) (
   (impl_isProc k a0.2.1).bind fun x1 => 
    cond (x1) (
     (impl_within k a0.2.2.1 (-1) 3).bind fun x2 => 
      cond (x2) (
       (impl_within k a0.2.2.2.1 0 12).bind fun x3 => 
        cond (x3) (
         (impl_within k a0.2.2.2.2.1 0 3).bind fun x4 => 
          cond (x4) (
           (impl_isKind k a0.2.2.2.2.2.1).bind fun x5 => 
            cond (x5) (
             (impl_isNum k a0.2.2.2.2.2.2).bind fun x6 => some x6) (some false)) (some false)) (some false)) (some false)) (some false)) (some false) := by kernel_rfl

noncomputable def impl_keyOf (k : Nat) (a0 : V_impl_Event) : Option ((V_int × (V_int × (V_int × (V_int × (V_int × (V_int × V_int))))))) := evalT E k 130 (.pair t_int (.pair t_int (.pair t_int (.pair t_int (.pair t_int (.pair t_int t_int)))))) [inp t_impl_Event a0] []
theorem impl_keyOf_eq (k : Nat) (a0 : V_impl_Event) : impl_keyOf (k + 1) a0 = some (a0.1, a0.2.1, a0.2.2.1, a0.2.2.2.1, a0.2.2.2.2.1, a0.2.2.2.2.2.1,
  a0.2.2.2.2.2.2) := by kernel_rfl

noncomputable def cmp_isNaN_int (k : Nat) (a0 : V_int) : Option V_bool := evalT E k 138 t_bool [inp t_int a0] []
theorem cmp_isNaN_int_eq (k : Nat) (a0 : V_int) : cmp_isNaN_int (k + 1) a0 = some (a0 != a0) := by kernel_rfl

noncomputable def cmp_Compare_int (k : Nat) (a0 : V_int) (a1 : V_int) : Option V_int := evalT E k 134 t_int [inp t_int a0, inp t_int a1] []
theorem cmp_Compare_int_eq (k : Nat) (a0 : V_int) (a1 : V_int) : cmp_Compare_int (k + 1) a0 a1 = 
 (cmp_isNaN_int k a0).bind fun x0 => 
  (cmp_isNaN_int k a1).bind fun x1 => 
   cond (x0) (
    cond (x1) (some 0) (some (-1))) (
    cond (x1) (some 1) (
     cond (decide (a0 < a1)) (some (-1)) (
      cond (decide (a0 > a1)) (some 1) (some 0)))) := by kernel_rfl

noncomputable def slices_Compare_int_int (k : Nat) (a0 : V_sl_int) (a1 : V_sl_int) : Option V_int := evalT E k 113 t_int [inp t_sl_int a0, inp t_sl_int a1] []
noncomputable def slices_Compare_int_int_2 (k : Nat) (j : Nat) (y0 : List V_int) (y1 : List V_int) (y2 : List V_int) (y3 : Int) (y4 : Int) : Option V_int := loopAt E 113 t_int [true, false, true, false] [] [] k [] j (mkS 36 [(0, .c (.sl 3 t_int y0)), (1, .c (.sl 3 t_int y1)), (9, .c (.sl 3 t_int y2)), (10, .c (.int .i64 y3)), (11, .c (.int .i64 y4))]) []
theorem slices_Compare_int_int_eq (k : Nat) (a0 : V_sl_int) (a1 : V_sl_int) : slices_Compare_int_int (k + 1) a0 a1 = slices_Compare_int_int_2 k k a0 a1 a0 ((↑(List.length a0) : Int)) 0 := by kernel_rfl
theorem slices_Compare_int_int_2_eq (k : Nat) (j : Nat) (y0 : List V_int) (y1 : List V_int) (y2 : List V_int) (y3 : Int) (y4 : Int) : slices_Compare_int_int_2 k (j + 1) y0 y1 y2 y3 y4 = 
 cond (decide (y4 < y3)) (
  cond (decide (0 ≤ y4)) (
   cond (decide (y4 < (↑y2.length : Int))) (
    cond (decide (y4 ≥ (↑y1.length : Int))) (some 1) (
     cond (decide (0 ≤ y4)) (
      cond (decide (y4 < (↑y1.length : Int))) (
       (cmp_Compare_int k (y2.getD y4.toNat (dflt t_int)) (y1.getD y4.toNat (dflt t_int))).bind fun x0 => 
        cond (x0 != 0) (some x0) (slices_Compare_int_int_2 k j y0 y1 y2 y3 (IntKind.i64.wrap (y4 + 1)))) (none)) (none))) (none)) (none)) (
  cond (decide ((↑y0.length : Int) < (↑y1.length : Int))) (some (-1)) (some 0)) := by kernel_rfl

noncomputable def impl_keyLess (k : Nat) (a0 : V_impl_eventKey) (a1 : V_impl_eventKey) : Option V_bool := evalT E k 129 t_bool [inp t_impl_eventKey a0, inp t_impl_eventKey a1] []
theorem impl_keyLess_eq (k : Nat) (a0 : V_impl_eventKey) (a1 : V_impl_eventKey) : impl_keyLess (k + 1) a0 a1 = 
 (slices_Compare_int_int k [a0.1, a0.2.1, a0.2.2.1, a0.2.2.2.1, a0.2.2.2.2.1, a0.2.2.2.2.2.1,
  a0.2.2.2.2.2.2] [a1.1, a1.2.1, a1.2.2.1, a1.2.2.2.1, a1.2.2.2.2.1, a1.2.2.2.2.2.1,
  a1.2.2.2.2.2.2]).bind fun x0 => some (decide (x0 < 0)) := by kernel_rfl

noncomputable def impl_EventLess (k : Nat) (a0 : V_impl_Event) (a1 : V_impl_Event) : Option V_bool := evalT E k 123 t_bool [inp t_impl_Event a0, inp t_impl_Event a1] []
theorem impl_EventLess_eq (k : Nat) (a0 : V_impl_Event) (a1 : V_impl_Event) : impl_EventLess (k + 1) a0 a1 = 
 (impl_keyOf k a0).bind fun x0 => 
  (impl_keyOf k a1).bind fun x1 => 
   (impl_keyLess k x0 x1).bind fun x2 => some x2 := by kernel_rfl

noncomputable def impl_eventsOk (k : Nat) (a0 : V_sl_impl_Event) (a1 : V_int) : Option V_bool := evalT E k 102 t_bool [inp t_sl_impl_Event a0, inp t_int a1] []
noncomputable def impl_eventsOk_4 (k : Nat) (j : Nat) (y0 : List V_impl_Event) (y1 : List V_impl_Event) (y2 : Int) (y3 : Int) : Option V_bool := loopAt E 102 t_bool [true, true, false, true, false] [] [] k [] j (mkS 36 [(0, .c (.sl 112 t_impl_Event y0)), (11, .c (.sl 112 t_impl_Event y1)), (12, .c (.int .i64 y2)), (13, .c (.int .i64 y3))]) []
theorem impl_eventsOk_eq (k : Nat) (a0 : V_sl_impl_Event) (a1 : V_int) : impl_eventsOk (k + 1) a0 a1 = 
 cond (decide ((↑(List.length a0) : Int) > a1)) (some false) (impl_eventsOk_4 k k a0 a0 ((↑(List.length a0) : Int)) 0) := by kernel_rfl
theorem impl_eventsOk_4_eq (k : Nat) (j : Nat) (y0 : List V_impl_Event) (y1 : List V_impl_Event) (y2 : Int) (y3 : Int) : impl_eventsOk_4 k (j + 1) y0 y1 y2 y3 = 
 cond (decide (y3 < y2)) (
  cond (decide (0 ≤ y3)) (
   cond (decide (y3 < (↑y1.length : Int))) (
    (impl_eventOk k (y1.getD y3.toNat (dflt t_impl_Event))).bind fun x0 => 
     cond (!x0) (some false) (
      cond (decide (y3 > 0)) (
       cond (decide (0 ≤ IntKind.i64.wrap (y3 - 1))) (
        cond (decide (IntKind.i64.wrap (y3 - 1) < (↑y0.length : Int))) (
         (impl_EventLess k (y0.getD (IntKind.i64.wrap (y3 - 1)).toNat (dflt t_impl_Event)) (y1.getD y3.toNat (dflt t_impl_Event))).bind fun x1 => 
          cond (!x1) (some false) (impl_eventsOk_4 k j y0 y1 y2 (IntKind.i64.wrap (y3 + 1)))) (none)) (none)) (impl_eventsOk_4 k j y0 y1 y2 (IntKind.i64.wrap (y3 + 1))))) (none)) (none)) (some true) := by kernel_rfl

noncomputable def impl_OutLess (k : Nat) (a0 : V_impl_Out) (a1 : V_impl_Out) : Option V_bool := evalT E k 78 t_bool [inp t_impl_Out a0, inp t_impl_Out a1] []
theorem impl_OutLess_eq (k : Nat) (a0 : V_impl_Out) (a1 : V_impl_Out) : impl_OutLess (k + 1) a0 a1 = 
 (slices_Compare_int_int k [a0.1, a0.2.1, a0.2.2.1, a0.2.2.2.1, a0.2.2.2.2] [a1.1, a1.2.1, a1.2.2.1, a1.2.2.2.1, a1.2.2.2.2]).bind fun x0 => some (decide (x0 < 0)) := by kernel_rfl

noncomputable def impl_outsOk (k : Nat) (a0 : V_sl_impl_Out) (a1 : V_int) : Option V_bool := evalT E k 103 t_bool [inp t_sl_impl_Out a0, inp t_int a1] []
noncomputable def impl_outsOk_4 (k : Nat) (j : Nat) (y0 : List V_impl_Out) (y1 : List V_impl_Out) (y2 : Int) (y3 : Int) : Option V_bool := loopAt E 103 t_bool [true, true, false, true, false] [] [] k [] j (mkS 59 [(0, .c (.sl 64 t_impl_Out y0)), (12, .c (.sl 64 t_impl_Out y1)), (13, .c (.int .i64 y2)), (14, .c (.int .i64 y3))]) []
theorem impl_outsOk_eq (k : Nat) (a0 : V_sl_impl_Out) (a1 : V_int) : impl_outsOk (k + 1) a0 a1 = 
 cond (decide ((↑(List.length a0) : Int) > a1)) (some false) (impl_outsOk_4 k k a0 a0 ((↑(List.length a0) : Int)) 0) := by kernel_rfl
theorem impl_outsOk_4_eq (k : Nat) (j : Nat) (y0 : List V_impl_Out) (y1 : List V_impl_Out) (y2 : Int) (y3 : Int) : impl_outsOk_4 k (j + 1) y0 y1 y2 y3 = 
 cond (decide (y3 < y2)) (
  cond (decide (0 ≤ y3)) (
   cond (decide (y3 < (↑y1.length : Int))) (
    (impl_within k ((y1.getD y3.toNat (dflt t_impl_Out)).1) 0 40).bind fun x0 => 
     cond (x0) (
      (impl_isProc k ((y1.getD y3.toNat (dflt t_impl_Out)).2.1)).bind fun x1 => 
       cond (x1) (
        (impl_within k ((y1.getD y3.toNat (dflt t_impl_Out)).2.2.1) 0 11).bind fun x2 => 
         cond (x2) (
          (impl_within k ((y1.getD y3.toNat (dflt t_impl_Out)).2.2.2.1) 0 1).bind fun x3 => 
           cond (x3) (
            (impl_isNum k ((y1.getD y3.toNat (dflt t_impl_Out)).2.2.2.2)).bind fun x4 => 
             cond (!x4) (some false) (
              cond (decide (y3 > 0)) (
               cond (decide (0 ≤ IntKind.i64.wrap (y3 - 1))) (
                cond (decide (IntKind.i64.wrap (y3 - 1) < (↑y0.length : Int))) (
                 (impl_OutLess k (y0.getD (IntKind.i64.wrap (y3 - 1)).toNat (dflt t_impl_Out)) (y1.getD y3.toNat (dflt t_impl_Out))).bind fun x5 => 
                  cond (!x5) (some false) (impl_outsOk_4 k j y0 y1 y2 (IntKind.i64.wrap (y3 + 1)))) (none)) (none)) (impl_outsOk_4 k j y0 y1 y2 (IntKind.i64.wrap (y3 + 1))))) (some false)) (some false)) (some false)) (some false)) (none)) (none)) (some true) := by kernel_rfl

noncomputable def impl_WordOk (k : Nat) (a0 : V_impl_Word) : Option V_bool := evalT E k 100 t_bool [inp t_impl_Word a0] []
theorem impl_WordOk_eq (k : Nat) (a0 : V_impl_Word) : impl_WordOk (k + 1) a0 = 
 (impl_within k a0.1 1 7).bind fun x0 => 
  cond (x0) (
   (impl_isNode k a0.2.1).bind fun x1 => 
    cond (x1) (
     (impl_isNode k a0.2.2.1).bind fun x2 => 
      cond (x2) (
       (impl_within k a0.2.2.2.1 0 9999).bind fun x3 => 
        cond (x3) (
         (impl_within k a0.2.2.2.2.1 0 9999).bind fun x4 => 
          cond (x4) (
           (impl_within k a0.2.2.2.2.2.1 0 9999).bind fun x5 => 
            cond (x5) (
             (impl_within k a0.2.2.2.2.2.2.1 0 41).bind fun x6 => 
              cond (x6) (
               (impl_countsOk k a0.2.2.2.2.2.2.2.1).bind fun x7 => 
                cond (x7) (
                 (impl_countsOk k a0.2.2.2.2.2.2.2.2.1).bind fun x8 => 
                  cond (x8) (
                   (impl_eventsOk k a0.2.2.2.2.2.2.2.2.2.1 100).bind fun x9 => 
                    cond (x9) (
                     (impl_outsOk k a0.2.2.2.2.2.2.2.2.2.2 96).bind fun x10 => some x10) (some false)) (some false)) (some false)) (some false)) (some false)) (some false)) (some false)) (some false)) (some false)) (some false) := by kernel_rfl

noncomputable def impl_wordsOk (k : Nat) (a0 : V_sl_impl_Word) (a1 : V_int) : Option V_bool := evalT E k 70 t_bool [inp t_sl_impl_Word a0, inp t_int a1] []
noncomputable def impl_wordsOk_2 (k : Nat) (j : Nat) (y0 : List V_impl_Word) (y1 : Int) (y2 : List V_impl_Word) (y3 : Int) (y4 : Int) : Option V_bool := loopAt E 70 t_bool [true, false, true, false] [] [] k [] j (mkS 39 [(0, .c (.sl 62 t_impl_Word y0)), (1, .c (.int .i64 y1)), (7, .c (.sl 62 t_impl_Word y2)), (8, .c (.int .i64 y3)), (9, .c (.int .i64 y4))]) []
theorem impl_wordsOk_eq (k : Nat) (a0 : V_sl_impl_Word) (a1 : V_int) : impl_wordsOk (k + 1) a0 a1 = impl_wordsOk_2 k k a0 a1 a0 ((↑(List.length a0) : Int)) 0 := by kernel_rfl
theorem impl_wordsOk_2_eq (k : Nat) (j : Nat) (y0 : List V_impl_Word) (y1 : Int) (y2 : List V_impl_Word) (y3 : Int) (y4 : Int) : impl_wordsOk_2 k (j + 1) y0 y1 y2 y3 y4 = 
 cond (decide (y4 < y3)) (
  cond (decide (0 ≤ y4)) (
   cond (decide (y4 < (↑y2.length : Int))) (
    cond ((y2.getD y4.toNat (dflt t_impl_Word)).1 != y1) (some false) (
     (impl_WordOk k (y2.getD y4.toNat (dflt t_impl_Word))).bind fun x0 => 
      cond (!x0) (some false) (
       cond (decide (y4 > 0)) (
        cond (decide (0 ≤ IntKind.i64.wrap (y4 - 1))) (
         cond (decide (IntKind.i64.wrap (y4 - 1) < (↑y0.length : Int))) (
          cond (decide ((y0.getD (IntKind.i64.wrap (y4 - 1)).toNat (dflt t_impl_Word)).2.1 ≥ (y2.getD y4.toNat (dflt t_impl_Word)).2.1)) (some false) (impl_wordsOk_2 k j y0 y1 y2 y3 (IntKind.i64.wrap (y4 + 1)))) (none)) (none)) (impl_wordsOk_2 k j y0 y1 y2 y3 (IntKind.i64.wrap (y4 + 1)))))) (none)) (none)) (some true) := by kernel_rfl

noncomputable def impl_fullOne (k : Nat) (a0 : V_impl_Word) : Option V_bool := evalT E k 71 t_bool [inp t_impl_Word a0] []
theorem impl_fullOne_eq (k : Nat) (a0 : V_impl_Word) : impl_fullOne (k + 1) a0 = 
 cond ((↑(List.length a0.2.2.2.2.2.2.2.1) : Int) == 3) (some ((↑(List.length a0.2.2.2.2.2.2.2.2.1) : Int) == 3)) (some false) := by kernel_rfl

noncomputable def impl_HubOk (k : Nat) (a0 : V_impl_Hub) : Option V_bool := evalT E k 32 t_bool [inp t_impl_Hub a0] []
noncomputable def impl_HubOk_6 (k : Nat) (j : Nat) (y0 : List V_impl_Word) (y1 : Int) (y2 : Int) : Option V_bool := loopAt E 32 t_bool [true, true, true, false, true, false] [] [] k [] j (mkS 36 [(26, .c (.sl 62 t_impl_Word y0)), (27, .c (.int .i64 y1)), (28, .c (.int .i64 y2))]) []
theorem impl_HubOk_eq (k : Nat) (a0 : V_impl_Hub) : impl_HubOk (k + 1) a0 = 
 (impl_within k a0.1 0 9999).bind fun x0 => 
  cond (!x0) (some false) (
   (impl_wordsOk k a0.2.1 3).bind fun x1 => 
    cond (!x1) (some false) (
     (impl_wordsOk k a0.2.2.1 5).bind fun x2 => 
      cond (!x2) (some false) (
       (impl_wordsOk k a0.2.2.2 7).bind fun x3 => 
        cond (!x3) (some false) (impl_HubOk_6 k k a0.2.1 ((↑(List.length a0.2.1) : Int)) 0)))) := by kernel_rfl
theorem impl_HubOk_6_eq (k : Nat) (j : Nat) (y0 : List V_impl_Word) (y1 : Int) (y2 : Int) : impl_HubOk_6 k (j + 1) y0 y1 y2 = 
 cond (decide (y2 < y1)) (
  cond (decide (0 ≤ y2)) (
   cond (decide (y2 < (↑y0.length : Int))) (
    (impl_fullOne k (y0.getD y2.toNat (dflt t_impl_Word))).bind fun x0 => 
     cond (!x0) (some false) (impl_HubOk_6 k j y0 y1 (IntKind.i64.wrap (y2 + 1)))) (none)) (none)) (some true) := by kernel_rfl

noncomputable def impl_numbersOk (k : Nat) (a0 : V_impl_Node) : Option V_bool := evalT E k 101 t_bool [inp t_impl_Node a0] []
theorem impl_numbersOk_eq (k : Nat) (a0 : V_impl_Node) : impl_numbersOk (k + 1) a0 = 
 (impl_isNode k a0.1).bind fun x0 => 
  cond (x0) (
   (impl_within k a0.2.2.1 1 9999).bind fun x1 => 
    cond (x1) (
     (impl_within k a0.2.2.2.1 0 41).bind fun x2 => 
      cond (x2) (
       (impl_within k a0.2.2.2.2.2.2.2.1 0 9999).bind fun x3 => 
        cond (x3) (
         (impl_within k a0.2.2.2.2.2.2.2.2.1 0 9999).bind fun x4 => 
          cond (x4) (
           (impl_within k a0.2.2.2.2.2.2.2.2.2.2.2.1 0 9999).bind fun x5 => 
            cond (x5) (
             (impl_within k a0.2.2.2.2.2.2.2.2.2.2.2.2 0 41).bind fun x6 => some x6) (some false)) (some false)) (some false)) (some false)) (some false)) (some false) := by kernel_rfl

noncomputable def impl_NodeOf (k : Nat) (a0 : V_int) : Option V_int := evalT E k 107 t_int [inp t_int a0] []
theorem impl_NodeOf_eq (k : Nat) (a0 : V_int) : impl_NodeOf (k + 1) a0 = 
 (impl_isProc k a0).bind fun x0 => 
  cond (!x0) (some (-1)) (some (Int.tmod a0 3)) := by kernel_rfl

noncomputable def impl_procsOf (k : Nat) (a0 : V_int) : Option (List V_int) := evalT E k 74 (.ow 3 t_int) [inp t_int a0] []
noncomputable def impl_procsOf_3 (k : Nat) (j : Nat) (y0 : Int) (y1 : Int) (y2 : List V_int) : Option (List V_int) := loopAt E 74 (.ow 3 t_int) [true, true, false, true, false] [] [] k [] j (mkS 18 [(0, .c (.int .i64 y0)), (3, .c (.o 0)), (5, .c (.int .i64 y1))]) [some (.own 3 t_int y2)]
theorem impl_procsOf_eq (k : Nat) (a0 : V_int) : impl_procsOf (k + 1) a0 = impl_procsOf_3 k k a0 0 [] := by kernel_rfl
theorem impl_procsOf_3_eq (k : Nat) (j : Nat) (y0 : Int) (y1 : Int) (y2 : List V_int) : impl_procsOf_3 k (j + 1) y0 y1 y2 = 
 cond (decide (y1 < 4)) (
  (impl_NodeOf k y1).bind fun x0 => 
   cond (x0 == y0) (
    cond (decide ((y2.length + [y1].length) * 8 ≤ 140737488351232)) (impl_procsOf_3 k j y0 (IntKind.i64.wrap (y1 + 1)) (y2 ++ [y1])) (none)) (impl_procsOf_3 k j y0 (IntKind.i64.wrap (y1 + 1)) y2)) (some y2) := by kernel_rfl

noncomputable def impl_stateOk (k : Nat) (a0 : V_impl_State) : Option V_bool := evalT E k 126 t_bool [inp t_impl_State a0] []
theorem impl_stateOk_eq (k : Nat) (a0 : V_impl_State) : impl_stateOk (k + 1) a0 = 
 (impl_isNum k a0.1).bind fun x0 => 
  cond (x0) (
   (impl_isNum k a0.2.1).bind fun x1 => 
    cond (x1) (
     (impl_within k a0.2.2 0 12).bind fun x2 => some x2) (some false)) (some false) := by kernel_rfl

noncomputable def impl_pastOk (k : Nat) (a0 : V_impl_Past) (a1 : V_int) : Option V_bool := evalT E k 127 t_bool [inp t_impl_Past a0, inp t_int a1] []
theorem impl_pastOk_eq (k : Nat) (a0 : V_impl_Past) (a1 : V_int) : impl_pastOk (k + 1) a0 a1 = 
 (impl_eventOk k a0.1).bind fun x0 => 
  cond (x0) (
   cond (a0.1.2.1 == a1) (
    (impl_stateOk k a0.2.1).bind fun x1 => 
     cond (x1) (
      (impl_eventsOk k a0.2.2.1 2).bind fun x2 => 
       cond (x2) (
        (impl_outsOk k a0.2.2.2 2).bind fun x3 => some x3) (some false)) (some false)) (some false)) (some false) := by kernel_rfl

noncomputable def impl_LaneOk (k : Nat) (a0 : V_impl_Lane) : Option V_bool := evalT E k 104 t_bool [inp t_impl_Lane a0] []
noncomputable def impl_LaneOk_4 (k : Nat) (j : Nat) (y0 : List V_impl_Past) (y1 : Int) (y2 : Int) (y3 : V_impl_Lane) : Option V_bool := loopAt E 104 t_bool [true, true, false, true, false] [] [] k [] j (mkS 52 [(1, .c (.p 0 0)), (22, .c (.sl 152 t_impl_Past y0)), (23, .c (.int .i64 y1)), (24, .c (.int .i64 y2))]) [some (.box 106 (cells t_impl_Lane y3))]
theorem impl_LaneOk_eq (k : Nat) (a0 : V_impl_Lane) : impl_LaneOk (k + 1) a0 = 
 (impl_isProc k a0.1).bind fun x0 => 
  cond (!x0) (some false) (
   (impl_stateOk k a0.2.1).bind fun x1 => 
    cond (!x1) (some false) (
     cond (decide ((↑(List.length a0.2.2) : Int) > 100)) (some false) (impl_LaneOk_4 k k a0.2.2 ((↑(List.length a0.2.2) : Int)) 0 a0))) := by kernel_rfl
theorem impl_LaneOk_4_eq (k : Nat) (j : Nat) (y0 : List V_impl_Past) (y1 : Int) (y2 : Int) (y3 : V_impl_Lane) : impl_LaneOk_4 k (j + 1) y0 y1 y2 y3 = 
 cond (decide (y2 < y1)) (
  cond (decide (0 ≤ y2)) (
   cond (decide (y2 < (↑y0.length : Int))) (
    (impl_pastOk k (y0.getD y2.toNat (dflt t_impl_Past)) y3.1).bind fun x0 => 
     cond (!x0) (some false) (
      cond (decide (y2 > 0)) (
       cond (decide (0 ≤ IntKind.i64.wrap (y2 - 1))) (
        cond (decide (IntKind.i64.wrap (y2 - 1) < (↑(List.length y3.2.2) : Int))) (
         (impl_EventLess k ((List.getD y3.2.2 (IntKind.i64.wrap (y2 - 1)).toNat (dflt t_impl_Past)).1) ((y0.getD y2.toNat (dflt t_impl_Past)).1)).bind fun x1 => 
          cond (!x1) (some false) (impl_LaneOk_4 k j y0 y1 (IntKind.i64.wrap (y2 + 1)) y3)) (none)) (none)) (impl_LaneOk_4 k j y0 y1 (IntKind.i64.wrap (y2 + 1)) y3))) (none)) (none)) (some true) := by kernel_rfl

noncomputable def impl_shapeOk (k : Nat) (a0 : V_impl_Node) : Option V_bool := evalT E k 72 t_bool [inp t_impl_Node a0] []
noncomputable def impl_shapeOk_4 (k : Nat) (j : Nat) (y0 : List V_impl_Out) (y1 : Int) (y2 : Int) (y3 : V_impl_Node) : Option V_bool := loopAt E 72 t_bool [true, true, false, true, false] [] [] k [] j (mkS 114 [(1, .c (.p 0 0)), (27, .c (.sl 64 t_impl_Out y0)), (28, .c (.int .i64 y1)), (29, .c (.int .i64 y2))]) [some (.box 44 (cells t_impl_Node y3))]
noncomputable def impl_shapeOk_13 (k : Nat) (j : Nat) (y0 : List V_impl_Lane) (y1 : Int) (y2 : Int) (y3 : V_impl_Node) (y4 : List V_int) : Option V_bool := loopAt E 72 t_bool [true, true, true, true, true, false, true, false] [] [] k [] j (mkS 114 [(1, .c (.p 0 0)), (5, .c (.o 1)), (61, .c (.sl 106 t_impl_Lane y0)), (62, .c (.int .i64 y1)), (63, .c (.int .i64 y2))]) [some (.box 44 (cells t_impl_Node y3)), some (.own 3 t_int y4)]
noncomputable def impl_shapeOk_19 (k : Nat) (j : Nat) (y0 : List V_impl_View) (y1 : Int) (y2 : Int) (y3 : V_impl_Node) : Option V_bool := loopAt E 72 t_bool [true, true, true, true, true, true, false, true, false] [] [] k [] j (mkS 114 [(1, .c (.p 0 0)), (82, .c (.sl 118 t_impl_View y0)), (83, .c (.int .i64 y1)), (84, .c (.int .i64 y2))]) [some (.box 44 (cells t_impl_Node y3))]
theorem impl_shapeOk_eq (k : Nat) (a0 : V_impl_Node) : impl_shapeOk (k + 1) a0 = 
 (impl_numbersOk k a0).bind fun x0 => 
  cond (!x0) (some false) (
   (impl_eventsOk k a0.2.2.2.2.2.1 100).bind fun x1 => 
    cond (!x1) (some false) (
     (impl_outsOk k a0.2.2.2.2.2.2.1 96).bind fun x2 => 
      cond (!x2) (some false) (impl_shapeOk_4 k k a0.2.2.2.2.2.2.1 ((↑(List.length a0.2.2.2.2.2.2.1) : Int)) 0 a0))) := by kernel_rfl
theorem impl_shapeOk_4_eq (k : Nat) (j : Nat) (y0 : List V_impl_Out) (y1 : Int) (y2 : Int) (y3 : V_impl_Node) : impl_shapeOk_4 k (j + 1) y0 y1 y2 y3 = 
 cond (decide (y2 < y1)) (
  cond (decide (0 ≤ y2)) (
   cond (decide (y2 < (↑y0.length : Int))) (
    cond (decide ((y0.getD y2.toNat (dflt t_impl_Out)).1 ≥ y3.2.2.2.1)) (some false) (impl_shapeOk_4 k j y0 y1 (IntKind.i64.wrap (y2 + 1)) y3)) (none)) (none)) (
  (impl_procsOf k y3.1).bind fun x0 => 
   cond ((↑(List.length y3.2.2.2.2.1) : Int) != (↑(List.length x0) : Int)) (some false) (
    cond ((↑(List.length y3.2.2.2.2.2.2.2.2.2.1) : Int) != 3) (some false) (
     cond ((↑(List.length y3.2.2.2.2.2.2.2.2.2.2.1) : Int) != 3) (some false) (impl_shapeOk_13 k k y3.2.2.2.2.1 ((↑(List.length y3.2.2.2.2.1) : Int)) 0 y3 x0)))) := by kernel_rfl
theorem impl_shapeOk_13_eq (k : Nat) (j : Nat) (y0 : List V_impl_Lane) (y1 : Int) (y2 : Int) (y3 : V_impl_Node) (y4 : List V_int) : impl_shapeOk_13 k (j + 1) y0 y1 y2 y3 y4 = 
 cond (decide (y2 < y1)) (
  cond (decide (0 ≤ y2)) (
   cond (decide (y2 < (↑y0.length : Int))) (
    cond (decide (0 ≤ y2)) (
     cond (decide (y2 < (↑y4.length : Int))) (
      cond (decide (y2.toNat < y4.length)) (
       cond ((y0.getD y2.toNat (dflt t_impl_Lane)).1 != y4.getD y2.toNat (dflt t_int)) (some false) (
        (impl_LaneOk k (y0.getD y2.toNat (dflt t_impl_Lane))).bind fun x0 => 
         cond (!x0) (some false) (impl_shapeOk_13 k j y0 y1 (IntKind.i64.wrap (y2 + 1)) y3 y4))) (none)) (none)) (none)) (none)) (none)) (impl_shapeOk_19 k k y3.2.2.2.2.2.2.2.2.2.1 ((↑(List.length y3.2.2.2.2.2.2.2.2.2.1) : Int)) 0 y3) := by kernel_rfl
theorem impl_shapeOk_19_eq (k : Nat) (j : Nat) (y0 : List V_impl_View) (y1 : Int) (y2 : Int) (y3 : V_impl_Node) : impl_shapeOk_19 k (j + 1) y0 y1 y2 y3 = 
 cond (decide (y2 < y1)) (
  cond (decide (0 ≤ y2)) (
   cond (decide (y2 < (↑y0.length : Int))) (
    (impl_within k ((y0.getD y2.toNat (dflt t_impl_View)).1) 0 9999).bind fun x0 => 
     cond (x0) (
      (impl_within k ((y0.getD y2.toNat (dflt t_impl_View)).2.1) 0 9999).bind fun x1 => 
       cond (x1) (
        (impl_eventsOk k ((y0.getD y2.toNat (dflt t_impl_View)).2.2) 100).bind fun x2 => 
         cond (!x2) (some false) (
          cond (decide (0 ≤ y2)) (
           cond (decide (y2 < (↑(List.length y3.2.2.2.2.2.2.2.2.2.2.1) : Int))) (
            (impl_within k (List.getD y3.2.2.2.2.2.2.2.2.2.2.1 y2.toNat (dflt t_int)) 0 41).bind fun x3 => 
             cond (!x3) (some false) (impl_shapeOk_19 k j y0 y1 (IntKind.i64.wrap (y2 + 1)) y3)) (none)) (none))) (some false)) (some false)) (none)) (none)) (some true) := by kernel_rfl

noncomputable def impl_keepOf (k : Nat) (a0 : V_impl_Node) : Option V_impl_keep := evalT E k 106 t_impl_keep [inp t_impl_Node a0] []
noncomputable def impl_keepOf_3 (k : Nat) (j : Nat) (y0 : List V_impl_Lane) (y1 : Int) (y2 : Int) (y3 : Int) (y4 : Int) (y5 : Int) (y6 : Int) (y7 : Int) (y8 : Int) (y9 : Int) (y10 : Int) (y11 : List V_impl_Event) (y12 : List V_impl_Out) (y13 : List V_impl_State) (y14 : List V_impl_Event) (y15 : List V_impl_Out) (y16 : List V_impl_State) : Option V_impl_keep := loopAt E 106 t_impl_keep [true, true, false, true, false] [] [] k [] j (mkS 35 [(2, .c (.p 0 0)), (3, .c (.p 1 0)), (20, .c (.sl 106 t_impl_Lane y0)), (21, .c (.int .i64 y1)), (22, .c (.int .i64 y2))]) [some (.box 129 [.int .i64 y3, .int .i64 y4, .int .i64 y5, .int .i64 y6, .o 2, .o 3, .o 4]), some (.box 129 [.int .i64 y7, .int .i64 y8, .int .i64 y9, .int .i64 y10, .o 5, .sl 112 t_impl_Event y11, .sl 64 t_impl_Out y12]), some (.own 103 t_impl_State y13), some (.own 112 t_impl_Event y14), some (.own 64 t_impl_Out y15), some (.own 103 t_impl_State y16)]
theorem impl_keepOf_eq (k : Nat) (a0 : V_impl_Node) : impl_keepOf (k + 1) a0 = impl_keepOf_3 k k a0.2.2.2.2.1 ((↑(List.length a0.2.2.2.2.1) : Int)) 0 0 0 0 0 a0.1 a0.2.2.1 a0.2.2.2.1 a0.2.2.2.2.2.2.2.1 a0.2.2.2.2.2.1 a0.2.2.2.2.2.2.1 [] [] [] [] := by kernel_rfl
theorem impl_keepOf_3_eq (k : Nat) (j : Nat) (y0 : List V_impl_Lane) (y1 : Int) (y2 : Int) (y3 : Int) (y4 : Int) (y5 : Int) (y6 : Int) (y7 : Int) (y8 : Int) (y9 : Int) (y10 : Int) (y11 : List V_impl_Event) (y12 : List V_impl_Out) (y13 : List V_impl_State) (y14 : List V_impl_Event) (y15 : List V_impl_Out) (y16 : List V_impl_State) : impl_keepOf_3 k (j + 1) y0 y1 y2 y3 y4 y5 y6 y7 y8 y9 y10 y11 y12 y13 y14 y15 y16 = 
 cond (decide (y2 < y1)) (
  cond (decide (0 ≤ y2)) (
   cond (decide (y2 < (↑y0.length : Int))) (
    cond (decide
  ((y16.length +
        [((y0.getD y2.toNat (dflt t_impl_Lane)).2.1.1, (y0.getD y2.toNat (dflt t_impl_Lane)).2.1.2.1,
              (y0.getD y2.toNat (dflt t_impl_Lane)).2.1.2.2)].length) *
      24 ≤
    140737488351232)) (impl_keepOf_3 k j y0 y1 (IntKind.i64.wrap (y2 + 1)) y3 y4 y5 y6 y7 y8 y9 y10 y11 y12 y13 y14 y15 (y16 ++
  [((y0.getD y2.toNat (dflt t_impl_Lane)).2.1.1, (y0.getD y2.toNat (dflt t_impl_Lane)).2.1.2.1,
      (y0.getD y2.toNat (dflt t_impl_Lane)).2.1.2.2)])) (none)) (none)) (none)) (some (y7, y8, y9, y10, y16, y11, y12)) := by kernel_rfl

noncomputable def impl_blank (k : Nat) (a0 : V_impl_keep) : Option ((V_impl_keep × (V_bool × (List V_sl_impl_Past × (V_int × (List (Int × V_impl_View) × (List V_int × (V_int × V_int)))))))) := evalT E k 105 (.bx 133 (.pair t_impl_keep (.pair t_bool (.pair (.ow 104 t_sl_impl_Past) (.pair t_int (.pair (.om 131 t_impl_View) (.pair (.ow 3 t_int) (.pair t_int t_int)))))))) [inp t_impl_keep a0] []
theorem impl_blank_eq (k : Nat) (a0 : V_impl_keep) : impl_blank (k + 1) a0 = 
 cond (decide ((↑(List.length a0.2.2.2.2.1) : Int) ≤ (↑(List.length a0.2.2.2.2.1) : Int))) (
  cond (decide ((↑(List.length a0.2.2.2.2.1) : Int).toNat * 24 ≤ 140737488351232)) (some (((a0.1, a0.2.1, a0.2.2.1, a0.2.2.2.1, a0.2.2.2.2.1, a0.2.2.2.2.2.1,
    a0.2.2.2.2.2.2),
  false, List.replicate (↑(List.length a0.2.2.2.2.1) : Int).toNat (dflt t_sl_impl_Past), 0, [],
  List.replicate (Int.toNat 3) (dflt t_int), 0, 41))) (none)) (none) := by kernel_rfl

noncomputable def impl_bodyOf (k : Nat) (a0 : V_impl_Node) : Option V_impl_body := evalT E k 73 (.fp t_impl_body) [inp t_impl_Node a0] []
noncomputable def impl_bodyOf_3 (k : Nat) (j : Nat) (y0 : List V_impl_Lane) (y1 : Int) (y2 : Int) (y3 : V_impl_Node) (y4 : Int) (y5 : Int) (y6 : Int) (y7 : Int) (y8 : List V_impl_State) (y9 : List V_impl_Event) (y10 : List V_impl_Out) (y11 : Bool) (y12 : Int) (y13 : Int) (y14 : Int) (y15 : List V_sl_impl_Past) (y16 : List (Int × V_impl_View)) (y17 : List V_int) : Option V_impl_body := loopAt E 73 (.fp t_impl_body) [true, true, false, true, false] [] [] k [] j (mkS 71 [(1, .c (.p 0 0)), (3, .c (.p 1 0)), (12, .c (.sl 106 t_impl_Lane y0)), (13, .c (.int .i64 y1)), (14, .c (.int .i64 y2))]) [some (.box 44 (cells t_impl_Node y3)), some (.box 133 [.int .i64 y4, .int .i64 y5, .int .i64 y6, .int .i64 y7, .sl 103 t_impl_State y8, .sl 112 t_impl_Event y9, .sl 64 t_impl_Out y10, .bool y11, .o 2, .int .i64 y12, .o 3, .o 4, .int .i64 y13, .int .i64 y14]), some (.own 104 t_sl_impl_Past y15), some (.mq 131 t_impl_View y16), some (.own 3 t_int y17)]
noncomputable def impl_bodyOf_8 (k : Nat) (j : Nat) (y0 : List V_impl_View) (y1 : Int) (y2 : Int) (y3 : V_impl_Node) (y4 : Int) (y5 : Int) (y6 : Int) (y7 : Int) (y8 : List V_impl_State) (y9 : List V_impl_Event) (y10 : List V_impl_Out) (y11 : Bool) (y12 : Int) (y13 : Int) (y14 : Int) (y15 : List V_sl_impl_Past) (y16 : List (Int × V_impl_View)) (y17 : List V_int) : Option V_impl_body := loopAt E 73 (.fp t_impl_body) [true, true, true, false, true, false] [] [] k [] j (mkS 71 [(1, .c (.p 0 0)), (3, .c (.p 1 0)), (29, .c (.sl 118 t_impl_View y0)), (30, .c (.int .i64 y1)), (31, .c (.int .i64 y2))]) [some (.box 44 (cells t_impl_Node y3)), some (.box 133 [.int .i64 y4, .int .i64 y5, .int .i64 y6, .int .i64 y7, .sl 103 t_impl_State y8, .sl 112 t_impl_Event y9, .sl 64 t_impl_Out y10, .bool y11, .o 2, .int .i64 y12, .o 3, .o 4, .int .i64 y13, .int .i64 y14]), some (.own 104 t_sl_impl_Past y15), some (.mq 131 t_impl_View y16), some (.own 3 t_int y17)]
theorem impl_bodyOf_eq (k : Nat) (a0 : V_impl_Node) : impl_bodyOf (k + 1) a0 = 
 (impl_keepOf k a0).bind fun x0 => 
  (impl_blank k x0).bind fun x1 => impl_bodyOf_3 k k a0.2.2.2.2.1 ((↑(List.length a0.2.2.2.2.1) : Int)) 0 a0 x1.1.1 x1.1.2.1 x1.1.2.2.1 x1.1.2.2.2.1 x1.1.2.2.2.2.1 x1.1.2.2.2.2.2.1 x1.1.2.2.2.2.2.2 x1.2.1 x1.2.2.2.1 x1.2.2.2.2.2.2.1 x1.2.2.2.2.2.2.2 x1.2.2.1 x1.2.2.2.2.1 x1.2.2.2.2.2.1 := by kernel_rfl
theorem impl_bodyOf_3_eq (k : Nat) (j : Nat) (y0 : List V_impl_Lane) (y1 : Int) (y2 : Int) (y3 : V_impl_Node) (y4 : Int) (y5 : Int) (y6 : Int) (y7 : Int) (y8 : List V_impl_State) (y9 : List V_impl_Event) (y10 : List V_impl_Out) (y11 : Bool) (y12 : Int) (y13 : Int) (y14 : Int) (y15 : List V_sl_impl_Past) (y16 : List (Int × V_impl_View)) (y17 : List V_int) : impl_bodyOf_3 k (j + 1) y0 y1 y2 y3 y4 y5 y6 y7 y8 y9 y10 y11 y12 y13 y14 y15 y16 y17 = 
 cond (decide (y2 < y1)) (
  cond (decide (0 ≤ y2)) (
   cond (decide (y2 < (↑y0.length : Int))) (
    cond (decide (0 ≤ y2)) (
     cond (decide (y2 < (↑y15.length : Int))) (
      cond (decide (y2.toNat < y15.length)) (impl_bodyOf_3 k j y0 y1 (IntKind.i64.wrap (y2 + 1)) y3 y4 y5 y6 y7 y8 y9 y10 y11 y12 y13 y14 (y15.set y2.toNat (y0.getD y2.toNat (dflt t_impl_Lane)).2.2) y16 y17) (none)) (none)) (none)) (none)) (none)) (impl_bodyOf_8 k k y3.2.2.2.2.2.2.2.2.2.1 ((↑(List.length y3.2.2.2.2.2.2.2.2.2.1) : Int)) 0 y3 y4 y5 y6 y7 y8 y9 y10 y11 y12 y13 y14 y15 y16 y17) := by kernel_rfl
theorem impl_bodyOf_8_eq (k : Nat) (j : Nat) (y0 : List V_impl_View) (y1 : Int) (y2 : Int) (y3 : V_impl_Node) (y4 : Int) (y5 : Int) (y6 : Int) (y7 : Int) (y8 : List V_impl_State) (y9 : List V_impl_Event) (y10 : List V_impl_Out) (y11 : Bool) (y12 : Int) (y13 : Int) (y14 : Int) (y15 : List V_sl_impl_Past) (y16 : List (Int × V_impl_View)) (y17 : List V_int) : impl_bodyOf_8 k (j + 1) y0 y1 y2 y3 y4 y5 y6 y7 y8 y9 y10 y11 y12 y13 y14 y15 y16 y17 = 
 cond (decide (y2 < y1)) (
  cond (decide (0 ≤ y2)) (
   cond (decide (y2 < (↑y0.length : Int))) (
    cond ((Lit.int IntKind.i64 y2).wf) (impl_bodyOf_8 k j y0 y1 (IntKind.i64.wrap (y2 + 1)) y3 y4 y5 y6 y7 y8 y9 y10 y11 y12 y13 y14 y15 (mqput y16 y2
  ((y0.getD y2.toNat (dflt t_impl_View)).1, (y0.getD y2.toNat (dflt t_impl_View)).2.1, (y0.getD y2.toNat (dflt t_impl_View)).2.2)) y17) (none)) (none)) (none)) (some (((y4, y5, y6, y7, y8, y9, y10), y3.2.1, y15, y3.2.2.2.2.2.2.2.2.1, y16,
  cpyL y17 y3.2.2.2.2.2.2.2.2.2.2.1, y3.2.2.2.2.2.2.2.2.2.2.2.1,
  y3.2.2.2.2.2.2.2.2.2.2.2.2))) := by kernel_rfl

noncomputable def slices_Clone_impl_Event_impl_Event (k : Nat) (a0 : V_sl_impl_Event) : Option (List V_impl_Event) := evalT E k 128 (.ow 112 t_impl_Event) [inp t_sl_impl_Event a0] []
theorem slices_Clone_impl_Event_impl_Event_eq (k : Nat) (a0 : V_sl_impl_Event) : slices_Clone_impl_Event_impl_Event (k + 1) a0 = 
 cond (decide ((0 + List.length a0) * 56 ≤ 140737488351232)) (some a0) (none) := by kernel_rfl

noncomputable def impl_body_sent_h0 (k : Nat) (y0 : V_impl_body) : Option (List V_impl_Event) := evalT E k 108 (.ow 112 t_impl_Event) [.c (.pr t_impl_body y0 0)] []
noncomputable def impl_body_sent_h0_3 (k : Nat) (j : Nat) (y0 : List V_sl_impl_Past) (y1 : Int) (y2 : Int) (y3 : List V_impl_Event) : Option (List V_impl_Event) := loopAt E 108 (.ow 112 t_impl_Event) [true, true, false, true, false] [] [] k [] j (mkS 36 [(3, .c (.o 0)), (17, .c (.sl 104 t_sl_impl_Past y0)), (18, .c (.int .i64 y1)), (19, .c (.int .i64 y2))]) [some (.own 112 t_impl_Event y3)]
noncomputable def impl_body_sent_h0_6 (k : Nat) (j0 : Nat) (j : Nat) (y0 : List V_sl_impl_Past) (y1 : Int) (y2 : Int) (y3 : List V_impl_Past) (y4 : Int) (y5 : Int) (y6 : List V_impl_Event) : Option (List V_impl_Event) := loopAt E 108 (.ow 112 t_impl_Event) [true, true, false, true, false, false, true, true, false, false, true, true, false] [] [] k [j0] j (mkS 36 [(3, .c (.o 0)), (17, .c (.sl 104 t_sl_impl_Past y0)), (18, .c (.int .i64 y1)), (19, .c (.int .i64 y2)), (23, .c (.sl 152 t_impl_Past y3)), (24, .c (.int .i64 y4)), (25, .c (.int .i64 y5))]) [some (.own 112 t_impl_Event y6)]
theorem impl_body_sent_h0_eq (k : Nat) (y0 : V_impl_body) : impl_body_sent_h0 (k + 1) y0 = 
 (slices_Clone_impl_Event_impl_Event k y0.1.2.2.2.2.2.1).bind fun x0 => impl_body_sent_h0_3 k k y0.2.2.1 ((↑(List.length y0.2.2.1) : Int)) 0 x0 := by kernel_rfl
theorem impl_body_sent_h0_3_eq (k : Nat) (j : Nat) (y0 : List V_sl_impl_Past) (y1 : Int) (y2 : Int) (y3 : List V_impl_Event) : impl_body_sent_h0_3 k (j + 1) y0 y1 y2 y3 = 
 cond (decide (y2 < y1)) (
  cond (decide (0 ≤ y2)) (
   cond (decide (y2 < (↑y0.length : Int))) (impl_body_sent_h0_6 k j k y0 y1 y2 (y0.getD y2.toNat (dflt t_sl_impl_Past)) ((↑(List.length (y0.getD y2.toNat (dflt t_sl_impl_Past))) : Int)) 0 y3) (none)) (none)) (some y3) := by kernel_rfl
theorem impl_body_sent_h0_6_eq (k : Nat) (j0 : Nat) (j : Nat) (y0 : List V_sl_impl_Past) (y1 : Int) (y2 : Int) (y3 : List V_impl_Past) (y4 : Int) (y5 : Int) (y6 : List V_impl_Event) : impl_body_sent_h0_6 k j0 (j + 1) y0 y1 y2 y3 y4 y5 y6 = 
 cond (decide (y5 < y4)) (
  cond (decide (0 ≤ y5)) (
   cond (decide (y5 < (↑y3.length : Int))) (
    cond (decide ((y6.length + List.length (y3.getD y5.toNat (dflt t_impl_Past)).2.2.1) * 56 ≤ 140737488351232)) (impl_body_sent_h0_6 k j0 j y0 y1 y2 y3 y4 (IntKind.i64.wrap (y5 + 1)) (y6 ++ (y3.getD y5.toNat (dflt t_impl_Past)).2.2.1)) (none)) (none)) (none)) (impl_body_sent_h0_3 k j0 y0 y1 (IntKind.i64.wrap (y2 + 1)) y6) := by kernel_rfl

noncomputable def impl_body_came_1_h0 (k : Nat) (y0 : V_impl_Event) (y1 : Int) (y2 : V_impl_body) : Option ((V_bool × ((Int × Unit) × ((V_impl_body × Unit) × Unit)))) := evalT E k 111 (.pair t_bool (.pair (.pair (.int .i64) .unit) (.pair (.pair (.fp t_impl_body) .unit) .unit))) [inp t_impl_Event y0, .c (.p 0 0), .c (.p 1 0)] [some (.box 3 [.int .i64 y1]), some (.box 121 [.pr t_impl_body y2 0])]
theorem impl_body_came_1_h0_eq (k : Nat) (y0 : V_impl_Event) (y1 : Int) (y2 : V_impl_body) : impl_body_came_1_h0 (k + 1) y0 y1 y2 = 
 cond (y0.2.1 == y1) (some ((decide (y0.1 ≥ y2.1.2.2.1), (y1, ()), (y2, ()), ()))) (some ((false, (y1, ()), (y2, ()), ()))) := by kernel_rfl

noncomputable def impl_pick_impl_Event_h0 (k : Nat) (y0 : V_sl_impl_Event) (y1 : Int) (y2 : V_impl_body) : Option ((List V_impl_Event × ((Int × Unit) × ((V_impl_body × Unit) × Unit)))) := evalT E k 110 (.pair (.ow 112 t_impl_Event) (.pair (.pair (.int .i64) .unit) (.pair (.pair (.fp t_impl_body) .unit) .unit))) [inp t_sl_impl_Event y0, .c (.fn 111 [.p 0 0, .p 1 0])] [some (.box 3 [.int .i64 y1]), some (.box 121 [.pr t_impl_body y2 0])]
noncomputable def impl_pick_impl_Event_h0_3 (k : Nat) (j : Nat) (y0 : List V_impl_Event) (y1 : Int) (y2 : Int) (y3 : Int) (y4 : V_impl_body) (y5 : List V_impl_Event) : Option ((List V_impl_Event × ((Int × Unit) × ((V_impl_body × Unit) × Unit)))) := loopAt E 110 (.pair (.ow 112 t_impl_Event) (.pair (.pair (.int .i64) .unit) (.pair (.pair (.fp t_impl_body) .unit) .unit))) [true, true, false, true, false] [some (.box 3 [.undef]), some (.box 121 [.undef])] [] k [] j (mkS 23 [(1, .c (.fn 111 [.p 0 0, .p 1 0])), (5, .c (.o 2)), (8, .c (.sl 112 t_impl_Event y0)), (9, .c (.int .i64 y1)), (10, .c (.int .i64 y2))]) [some (.box 3 [.int .i64 y3]), some (.box 121 [.pr t_impl_body y4 0]), some (.own 112 t_impl_Event y5)]
theorem impl_pick_impl_Event_h0_eq (k : Nat) (y0 : V_sl_impl_Event) (y1 : Int) (y2 : V_impl_body) : impl_pick_impl_Event_h0 (k + 1) y0 y1 y2 = impl_pick_impl_Event_h0_3 k k y0 ((↑(List.length y0) : Int)) 0 y1 y2 [] := by kernel_rfl
theorem impl_pick_impl_Event_h0_3_eq (k : Nat) (j : Nat) (y0 : List V_impl_Event) (y1 : Int) (y2 : Int) (y3 : Int) (y4 : V_impl_body) (y5 : List V_impl_Event) : impl_pick_impl_Event_h0_3 k (j + 1) y0 y1 y2 y3 y4 y5 = 
 cond (decide (y2 < y1)) (
  cond (decide (0 ≤ y2)) (
   cond (decide (y2 < (↑y0.length : Int))) (
    (impl_body_came_1_h0 k (y0.getD y2.toNat (dflt t_impl_Event)) y3 y4).bind fun x0 => 
     cond (x0.1) (
      cond (decide
  ((y5.length +
        [((y0.getD y2.toNat (dflt t_impl_Event)).1, (y0.getD y2.toNat (dflt t_impl_Event)).2.1,
              (y0.getD y2.toNat (dflt t_impl_Event)).2.2.1, (y0.getD y2.toNat (dflt t_impl_Event)).2.2.2.1,
              (y0.getD y2.toNat (dflt t_impl_Event)).2.2.2.2.1,
              (y0.getD y2.toNat (dflt t_impl_Event)).2.2.2.2.2.1,
              (y0.getD y2.toNat (dflt t_impl_Event)).2.2.2.2.2.2)].length) *
      56 ≤
    140737488351232)) (impl_pick_impl_Event_h0_3 k j y0 y1 (IntKind.i64.wrap (y2 + 1)) x0.2.1.1 x0.2.2.1.1 (y5 ++
  [((y0.getD y2.toNat (dflt t_impl_Event)).1, (y0.getD y2.toNat (dflt t_impl_Event)).2.1,
      (y0.getD y2.toNat (dflt t_impl_Event)).2.2.1, (y0.getD y2.toNat (dflt t_impl_Event)).2.2.2.1,
      (y0.getD y2.toNat (dflt t_impl_Event)).2.2.2.2.1, (y0.getD y2.toNat (dflt t_impl_Event)).2.2.2.2.2.1,
      (y0.getD y2.toNat (dflt t_impl_Event)).2.2.2.2.2.2)])) (none)) (impl_pick_impl_Event_h0_3 k j y0 y1 (IntKind.i64.wrap (y2 + 1)) x0.2.1.1 x0.2.2.1.1 y5)) (none)) (none)) (some ((y5, (y3, ()), (y4, ()), ()))) := by kernel_rfl

noncomputable def impl_heap_impl_eventKey_push_h0 (k : Nat) (y0 : V_impl_eventKey) (y1 : List V_impl_eventKey) : Option ((Unit × ((List V_impl_eventKey × (Unit × Unit)) × Unit))) := evalT E k 131 (.pair .unit (.pair (.pair (.ow 184 t_impl_eventKey) (.pair (.fnc 129) .unit)) .unit)) [.c (.p 0 0), inp t_impl_eventKey y0] [some (.box 181 [.o 1, .fn 129 []]), some (.own 184 t_impl_eventKey y1)]
noncomputable def impl_heap_impl_eventKey_push_h0_3 (k : Nat) (j : Nat) (y0 : Int) (y1 : List V_impl_eventKey) : Option ((Unit × ((List V_impl_eventKey × (Unit × Unit)) × Unit))) := loopAt E 131 (.pair .unit (.pair (.pair (.ow 184 t_impl_eventKey) (.pair (.fnc 129) .unit)) .unit)) [true, true, true, false] [some (.box 181 [.undef, .undef]), none] [] k [] j (mkS 74 [(0, .c (.p 0 0)), (4, .c (.int .i64 y0))]) [some (.box 181 [.o 1, .fn 129 []]), some (.own 184 t_impl_eventKey y1)]
theorem impl_heap_impl_eventKey_push_h0_eq (k : Nat) (y0 : V_impl_eventKey) (y1 : List V_impl_eventKey) : impl_heap_impl_eventKey_push_h0 (k + 1) y0 y1 = 
 cond (decide
  ((y1.length +
        [(y0.1, y0.2.1, y0.2.2.1, y0.2.2.2.1, y0.2.2.2.2.1, y0.2.2.2.2.2.1,
              y0.2.2.2.2.2.2)].length) *
      56 ≤
    140737488351232)) (impl_heap_impl_eventKey_push_h0_3 k k (IntKind.i64.wrap
  ((↑(y1 ++
            [(y0.1, y0.2.1, y0.2.2.1, y0.2.2.2.1, y0.2.2.2.2.1,
                y0.2.2.2.2.2.1, y0.2.2.2.2.2.2)]).length :
      Int) -
    1)) (y1 ++
  [(y0.1, y0.2.1, y0.2.2.1, y0.2.2.2.1, y0.2.2.2.2.1, y0.2.2.2.2.2.1,
      y0.2.2.2.2.2.2)])) (none) := by kernel_rfl
theorem impl_heap_impl_eventKey_push_h0_3_eq (k : Nat) (j : Nat) (y0 : Int) (y1 : List V_impl_eventKey) : impl_heap_impl_eventKey_push_h0_3 k (j + 1) y0 y1 = 
 cond (decide (y0 > 0)) (
  cond (decide (0 ≤ y0)) (
   cond (decide (y0 < (↑y1.length : Int))) (
    cond (decide (y0.toNat < y1.length)) (
     cond (decide (0 ≤ IntKind.i64.wrap ((IntKind.i64.wrap (y0 - 1)).tdiv 2))) (
      cond (decide (IntKind.i64.wrap ((IntKind.i64.wrap (y0 - 1)).tdiv 2) < (↑y1.length : Int))) (
       cond (decide ((IntKind.i64.wrap ((IntKind.i64.wrap (y0 - 1)).tdiv 2)).toNat < y1.length)) (
        (impl_keyLess k (y1.getD y0.toNat (dflt t_impl_eventKey)) (y1.getD (IntKind.i64.wrap ((IntKind.i64.wrap (y0 - 1)).tdiv 2)).toNat (dflt t_impl_eventKey))).bind fun x0 => 
         cond (!x0) (some (((), (y1, (), ()), ()))) (
          cond (decide (0 ≤ IntKind.i64.wrap ((IntKind.i64.wrap (y0 - 1)).tdiv 2))) (
           cond (decide (IntKind.i64.wrap ((IntKind.i64.wrap (y0 - 1)).tdiv 2) < (↑y1.length : Int))) (
            cond (decide ((IntKind.i64.wrap ((IntKind.i64.wrap (y0 - 1)).tdiv 2)).toNat < y1.length)) (
             cond (decide (0 ≤ y0)) (
              cond (decide (y0 < (↑y1.length : Int))) (
               cond (decide (y0.toNat < y1.length)) (
                cond (decide (0 ≤ y0)) (
                 cond (decide (y0 < (↑y1.length : Int))) (
                  cond (decide (y0.toNat < y1.length)) (
                   cond (decide (0 ≤ IntKind.i64.wrap ((IntKind.i64.wrap (y0 - 1)).tdiv 2))) (
                    cond (decide
  (IntKind.i64.wrap ((IntKind.i64.wrap (y0 - 1)).tdiv 2) <
    (↑(y1.set y0.toNat
            ((y1.getD (IntKind.i64.wrap ((IntKind.i64.wrap (y0 - 1)).tdiv 2)).toNat (dflt t_impl_eventKey)).1,
              (y1.getD (IntKind.i64.wrap ((IntKind.i64.wrap (y0 - 1)).tdiv 2)).toNat (dflt t_impl_eventKey)).2.1,
              (y1.getD (IntKind.i64.wrap ((IntKind.i64.wrap (y0 - 1)).tdiv 2)).toNat (dflt t_impl_eventKey)).2.2.1,
              (y1.getD (IntKind.i64.wrap ((IntKind.i64.wrap (y0 - 1)).tdiv 2)).toNat (dflt t_impl_eventKey)).2.2.2.1,
              (y1.getD (IntKind.i64.wrap ((IntKind.i64.wrap (y0 - 1)).tdiv 2)).toNat (dflt t_impl_eventKey)).2.2.2.2.1,
              (y1.getD (IntKind.i64.wrap ((IntKind.i64.wrap (y0 - 1)).tdiv 2)).toNat
                            (dflt t_impl_eventKey)).2.2.2.2.2.1,
              (y1.getD (IntKind.i64.wrap ((IntKind.i64.wrap (y0 - 1)).tdiv 2)).toNat
                            (dflt t_impl_eventKey)).2.2.2.2.2.2)).length :
      Int))) (
                     cond (decide
  ((IntKind.i64.wrap ((IntKind.i64.wrap (y0 - 1)).tdiv 2)).toNat <
    (y1.set y0.toNat
        ((y1.getD (IntKind.i64.wrap ((IntKind.i64.wrap (y0 - 1)).tdiv 2)).toNat (dflt t_impl_eventKey)).1,
          (y1.getD (IntKind.i64.wrap ((IntKind.i64.wrap (y0 - 1)).tdiv 2)).toNat (dflt t_impl_eventKey)).2.1,
          (y1.getD (IntKind.i64.wrap ((IntKind.i64.wrap (y0 - 1)).tdiv 2)).toNat (dflt t_impl_eventKey)).2.2.1,
          (y1.getD (IntKind.i64.wrap ((IntKind.i64.wrap (y0 - 1)).tdiv 2)).toNat (dflt t_impl_eventKey)).2.2.2.1,
          (y1.getD (IntKind.i64.wrap ((IntKind.i64.wrap (y0 - 1)).tdiv 2)).toNat (dflt t_impl_eventKey)).2.2.2.2.1,
          (y1.getD (IntKind.i64.wrap ((IntKind.i64.wrap (y0 - 1)).tdiv 2)).toNat (dflt t_impl_eventKey)).2.2.2.2.2.1,
          (y1.getD (IntKind.i64.wrap ((IntKind.i64.wrap (y0 - 1)).tdiv 2)).toNat
                        (dflt t_impl_eventKey)).2.2.2.2.2.2)).length)) (impl_heap_impl_eventKey_push_h0_3 k j (IntKind.i64.wrap ((IntKind.i64.wrap (y0 - 1)).tdiv 2)) ((y1.set y0.toNat
      ((y1.getD (IntKind.i64.wrap ((IntKind.i64.wrap (y0 - 1)).tdiv 2)).toNat (dflt t_impl_eventKey)).1,
        (y1.getD (IntKind.i64.wrap ((IntKind.i64.wrap (y0 - 1)).tdiv 2)).toNat (dflt t_impl_eventKey)).2.1,
        (y1.getD (IntKind.i64.wrap ((IntKind.i64.wrap (y0 - 1)).tdiv 2)).toNat (dflt t_impl_eventKey)).2.2.1,
        (y1.getD (IntKind.i64.wrap ((IntKind.i64.wrap (y0 - 1)).tdiv 2)).toNat (dflt t_impl_eventKey)).2.2.2.1,
        (y1.getD (IntKind.i64.wrap ((IntKind.i64.wrap (y0 - 1)).tdiv 2)).toNat (dflt t_impl_eventKey)).2.2.2.2.1,
        (y1.getD (IntKind.i64.wrap ((IntKind.i64.wrap (y0 - 1)).tdiv 2)).toNat (dflt t_impl_eventKey)).2.2.2.2.2.1,
        (y1.getD (IntKind.i64.wrap ((IntKind.i64.wrap (y0 - 1)).tdiv 2)).toNat
                      (dflt t_impl_eventKey)).2.2.2.2.2.2)).set
  (IntKind.i64.wrap ((IntKind.i64.wrap (y0 - 1)).tdiv 2)).toNat
  ((y1.getD y0.toNat (dflt t_impl_eventKey)).1, (y1.getD y0.toNat (dflt t_impl_eventKey)).2.1,
    (y1.getD y0.toNat (dflt t_impl_eventKey)).2.2.1, (y1.getD y0.toNat (dflt t_impl_eventKey)).2.2.2.1,
    (y1.getD y0.toNat (dflt t_impl_eventKey)).2.2.2.2.1, (y1.getD y0.toNat (dflt t_impl_eventKey)).2.2.2.2.2.1,
    (y1.getD y0.toNat (dflt t_impl_eventKey)).2.2.2.2.2.2))) (none)) (none)) (none)) (none)) (none)) (none)) (none)) (none)) (none)) (none)) (none)) (none))) (none)) (none)) (none)) (none)) (none)) (none)) (some (((), (y1, (), ()), ()))) := by kernel_rfl

noncomputable def impl_heap_impl_eventKey_pop_h0 (k : Nat) (y0 : List V_impl_eventKey) : Option (((V_int × (V_int × (V_int × (V_int × (V_int × (V_int × V_int)))))) × ((List V_impl_eventKey × (Unit × Unit)) × Unit))) := evalT E k 137 (.pair (.pair t_int (.pair t_int (.pair t_int (.pair t_int (.pair t_int (.pair t_int t_int)))))) (.pair (.pair (.ow 184 t_impl_eventKey) (.pair (.fnc 129) .unit)) .unit)) [.c (.p 0 0)] [some (.box 181 [.o 1, .fn 129 []]), some (.own 184 t_impl_eventKey y0)]
noncomputable def impl_heap_impl_eventKey_pop_h0_6 (k : Nat) (j : Nat) (y0 : Int) (y1 : Int) (y2 : V_impl_eventKey) (y3 : V_impl_eventKey) (y4 : List V_impl_eventKey) : Option (((V_int × (V_int × (V_int × (V_int × (V_int × (V_int × V_int)))))) × ((List V_impl_eventKey × (Unit × Unit)) × Unit))) := loopAt E 137 (.pair (.pair t_int (.pair t_int (.pair t_int (.pair t_int (.pair t_int (.pair t_int t_int)))))) (.pair (.pair (.ow 184 t_impl_eventKey) (.pair (.fnc 129) .unit)) .unit)) [true, true, true, true, true, true, false] [some (.box 181 [.undef, .undef]), none] [] k [] j (mkS 123 [(0, .c (.p 0 0)), (2, .c (.p 1 0)), (3, .c (.p 2 0)), (4, .c (.int .i64 y0)), (5, .c (.int .i64 y1))]) [some (.box 181 [.o 3, .fn 129 []]), some (.box 184 (cells t_impl_eventKey y2)), some (.box 184 (cells t_impl_eventKey y3)), some (.own 184 t_impl_eventKey y4)]
theorem impl_heap_impl_eventKey_pop_h0_eq (k : Nat) (y0 : List V_impl_eventKey) : impl_heap_impl_eventKey_pop_h0 (k + 1) y0 = 
 cond (decide (0 < (↑y0.length : Int))) (
  cond (decide (Int.toNat 0 < y0.length)) (
   cond (decide (0 ≤ IntKind.i64.wrap ((↑y0.length : Int) - 1))) (
    cond (decide (IntKind.i64.wrap ((↑y0.length : Int) - 1) < (↑y0.length : Int))) (
     cond (decide ((IntKind.i64.wrap ((↑y0.length : Int) - 1)).toNat < y0.length)) (
      cond (decide (0 < (↑y0.length : Int))) (
       cond (decide (Int.toNat 0 < y0.length)) (
        cond (decide (0 ≤ IntKind.i64.wrap ((↑y0.length : Int) - 1))) (
         cond (decide
  (IntKind.i64.wrap ((↑y0.length : Int) - 1) ≤
    (↑(y0.set (Int.toNat 0)
            ((y0.getD (IntKind.i64.wrap ((↑y0.length : Int) - 1)).toNat (dflt t_impl_eventKey)).1,
              (y0.getD (IntKind.i64.wrap ((↑y0.length : Int) - 1)).toNat (dflt t_impl_eventKey)).2.1,
              (y0.getD (IntKind.i64.wrap ((↑y0.length : Int) - 1)).toNat (dflt t_impl_eventKey)).2.2.1,
              (y0.getD (IntKind.i64.wrap ((↑y0.length : Int) - 1)).toNat (dflt t_impl_eventKey)).2.2.2.1,
              (y0.getD (IntKind.i64.wrap ((↑y0.length : Int) - 1)).toNat (dflt t_impl_eventKey)).2.2.2.2.1,
              (y0.getD (IntKind.i64.wrap ((↑y0.length : Int) - 1)).toNat (dflt t_impl_eventKey)).2.2.2.2.2.1,
              (y0.getD (IntKind.i64.wrap ((↑y0.length : Int) - 1)).toNat (dflt t_impl_eventKey)).2.2.2.2.2.2)).length :
      Int))) (impl_heap_impl_eventKey_pop_h0_6 k k (IntKind.i64.wrap ((↑y0.length : Int) - 1)) 0 ((0, (0, (0, (0, (0, (0, 0))))))) (y0.getD (Int.toNat 0) (dflt t_impl_eventKey)) (List.take (IntKind.i64.wrap ((↑y0.length : Int) - 1)).toNat
  (y0.set (Int.toNat 0)
    ((y0.getD (IntKind.i64.wrap ((↑y0.length : Int) - 1)).toNat (dflt t_impl_eventKey)).1,
      (y0.getD (IntKind.i64.wrap ((↑y0.length : Int) - 1)).toNat (dflt t_impl_eventKey)).2.1,
      (y0.getD (IntKind.i64.wrap ((↑y0.length : Int) - 1)).toNat (dflt t_impl_eventKey)).2.2.1,
      (y0.getD (IntKind.i64.wrap ((↑y0.length : Int) - 1)).toNat (dflt t_impl_eventKey)).2.2.2.1,
      (y0.getD (IntKind.i64.wrap ((↑y0.length : Int) - 1)).toNat (dflt t_impl_eventKey)).2.2.2.2.1,
      (y0.getD (IntKind.i64.wrap ((↑y0.length : Int) - 1)).toNat (dflt t_impl_eventKey)).2.2.2.2.2.1,
      (y0.getD (IntKind.i64.wrap ((↑y0.length : Int) - 1)).toNat (dflt t_impl_eventKey)).2.2.2.2.2.2)))) (none)) (none)) (none)) (none)) (none)) (none)) (none)) (none)) (none) := by kernel_rfl
theorem impl_heap_impl_eventKey_pop_h0_6_eq (k : Nat) (j : Nat) (y0 : Int) (y1 : Int) (y2 : V_impl_eventKey) (y3 : V_impl_eventKey) (y4 : List V_impl_eventKey) : impl_heap_impl_eventKey_pop_h0_6 k (j + 1) y0 y1 y2 y3 y4 = 
 cond (decide (IntKind.i64.wrap (IntKind.i64.wrap (2 * y1) + 1) ≥ y0)) (some (((y3.1, y3.2.1, y3.2.2.1, y3.2.2.2.1, y3.2.2.2.2.1, y3.2.2.2.2.2.1,
    y3.2.2.2.2.2.2),
  (y4, (), ()), ()))) (
  cond (decide (IntKind.i64.wrap (IntKind.i64.wrap (IntKind.i64.wrap (2 * y1) + 1) + 1) < y0)) (
   cond (decide (0 ≤ IntKind.i64.wrap (IntKind.i64.wrap (IntKind.i64.wrap (2 * y1) + 1) + 1))) (
    cond (decide (IntKind.i64.wrap (IntKind.i64.wrap (IntKind.i64.wrap (2 * y1) + 1) + 1) < (↑y4.length : Int))) (
     cond (decide ((IntKind.i64.wrap (IntKind.i64.wrap (IntKind.i64.wrap (2 * y1) + 1) + 1)).toNat < y4.length)) (
      cond (decide (0 ≤ IntKind.i64.wrap (IntKind.i64.wrap (2 * y1) + 1))) (
       cond (decide (IntKind.i64.wrap (IntKind.i64.wrap (2 * y1) + 1) < (↑y4.length : Int))) (
        cond (decide ((IntKind.i64.wrap (IntKind.i64.wrap (2 * y1) + 1)).toNat < y4.length)) (
         (impl_keyLess k (y4.getD (IntKind.i64.wrap (IntKind.i64.wrap (IntKind.i64.wrap (2 * y1) + 1) + 1)).toNat (dflt t_impl_eventKey)) (y4.getD (IntKind.i64.wrap (IntKind.i64.wrap (2 * y1) + 1)).toNat (dflt t_impl_eventKey))).bind fun x0 => 
          cond (x0) (
           cond (decide (0 ≤ IntKind.i64.wrap (IntKind.i64.wrap (IntKind.i64.wrap (2 * y1) + 1) + 1))) (
            cond (decide (IntKind.i64.wrap (IntKind.i64.wrap (IntKind.i64.wrap (2 * y1) + 1) + 1) < (↑y4.length : Int))) (
             cond (decide ((IntKind.i64.wrap (IntKind.i64.wrap (IntKind.i64.wrap (2 * y1) + 1) + 1)).toNat < y4.length)) (
              cond (decide (0 ≤ y1)) (
               cond (decide (y1 < (↑y4.length : Int))) (
                cond (decide (y1.toNat < y4.length)) (
                 (impl_keyLess k (y4.getD (IntKind.i64.wrap (IntKind.i64.wrap (IntKind.i64.wrap (2 * y1) + 1) + 1)).toNat (dflt t_impl_eventKey)) (y4.getD y1.toNat (dflt t_impl_eventKey))).bind fun x1 => 
                  cond (!x1) (some (((y3.1, y3.2.1, y3.2.2.1, y3.2.2.2.1, y3.2.2.2.2.1, y3.2.2.2.2.2.1,
    y3.2.2.2.2.2.2),
  (y4, (), ()), ()))) (
                   cond (decide (0 ≤ IntKind.i64.wrap (IntKind.i64.wrap (IntKind.i64.wrap (2 * y1) + 1) + 1))) (
                    cond (decide (IntKind.i64.wrap (IntKind.i64.wrap (IntKind.i64.wrap (2 * y1) + 1) + 1) < (↑y4.length : Int))) (
                     cond (decide ((IntKind.i64.wrap (IntKind.i64.wrap (IntKind.i64.wrap (2 * y1) + 1) + 1)).toNat < y4.length)) (
                      cond (decide (0 ≤ y1)) (
                       cond (decide (y1 < (↑y4.length : Int))) (
                        cond (decide (y1.toNat < y4.length)) (
                         cond (decide (0 ≤ y1)) (
                          cond (decide (y1 < (↑y4.length : Int))) (
                           cond (decide (y1.toNat < y4.length)) (
                            cond (decide (0 ≤ IntKind.i64.wrap (IntKind.i64.wrap (IntKind.i64.wrap (2 * y1) + 1) + 1))) (
                             cond (decide
  (IntKind.i64.wrap (IntKind.i64.wrap (IntKind.i64.wrap (2 * y1) + 1) + 1) <
    (↑(y4.set y1.toNat
            ((y4.getD (IntKind.i64.wrap (IntKind.i64.wrap (IntKind.i64.wrap (2 * y1) + 1) + 1)).toNat (dflt t_impl_eventKey)).1,
              (y4.getD (IntKind.i64.wrap (IntKind.i64.wrap (IntKind.i64.wrap (2 * y1) + 1) + 1)).toNat
                    (dflt t_impl_eventKey)).2.1,
              (y4.getD (IntKind.i64.wrap (IntKind.i64.wrap (IntKind.i64.wrap (2 * y1) + 1) + 1)).toNat
                      (dflt t_impl_eventKey)).2.2.1,
              (y4.getD (IntKind.i64.wrap (IntKind.i64.wrap (IntKind.i64.wrap (2 * y1) + 1) + 1)).toNat
                        (dflt t_impl_eventKey)).2.2.2.1,
              (y4.getD (IntKind.i64.wrap (IntKind.i64.wrap (IntKind.i64.wrap (2 * y1) + 1) + 1)).toNat
                          (dflt t_impl_eventKey)).2.2.2.2.1,
              (y4.getD (IntKind.i64.wrap (IntKind.i64.wrap (IntKind.i64.wrap (2 * y1) + 1) + 1)).toNat
                            (dflt t_impl_eventKey)).2.2.2.2.2.1,
              (y4.getD (IntKind.i64.wrap (IntKind.i64.wrap (IntKind.i64.wrap (2 * y1) + 1) + 1)).toNat
                            (dflt t_impl_eventKey)).2.2.2.2.2.2)).length :
      Int))) (
                              cond (decide
  ((IntKind.i64.wrap (IntKind.i64.wrap (IntKind.i64.wrap (2 * y1) + 1) + 1)).toNat <
    (y4.set y1.toNat
        ((y4.getD (IntKind.i64.wrap (IntKind.i64.wrap (IntKind.i64.wrap (2 * y1) + 1) + 1)).toNat (dflt t_impl_eventKey)).1,
          (y4.getD (IntKind.i64.wrap (IntKind.i64.wrap (IntKind.i64.wrap (2 * y1) + 1) + 1)).toNat (dflt t_impl_eventKey)).2.1,
          (y4.getD (IntKind.i64.wrap (IntKind.i64.wrap (IntKind.i64.wrap (2 * y1) + 1) + 1)).toNat
                  (dflt t_impl_eventKey)).2.2.1,
          (y4.getD (IntKind.i64.wrap (IntKind.i64.wrap (IntKind.i64.wrap (2 * y1) + 1) + 1)).toNat
                    (dflt t_impl_eventKey)).2.2.2.1,
          (y4.getD (IntKind.i64.wrap (IntKind.i64.wrap (IntKind.i64.wrap (2 * y1) + 1) + 1)).toNat
                      (dflt t_impl_eventKey)).2.2.2.2.1,
          (y4.getD (IntKind.i64.wrap (IntKind.i64.wrap (IntKind.i64.wrap (2 * y1) + 1) + 1)).toNat
                        (dflt t_impl_eventKey)).2.2.2.2.2.1,
          (y4.getD (IntKind.i64.wrap (IntKind.i64.wrap (IntKind.i64.wrap (2 * y1) + 1) + 1)).toNat
                        (dflt t_impl_eventKey)).2.2.2.2.2.2)).length)) (impl_heap_impl_eventKey_pop_h0_6 k j y0 (IntKind.i64.wrap (IntKind.i64.wrap (IntKind.i64.wrap (2 * y1) + 1) + 1)) y2 y3 ((y4.set y1.toNat
      ((y4.getD (IntKind.i64.wrap (IntKind.i64.wrap (IntKind.i64.wrap (2 * y1) + 1) + 1)).toNat (dflt t_impl_eventKey)).1,
        (y4.getD (IntKind.i64.wrap (IntKind.i64.wrap (IntKind.i64.wrap (2 * y1) + 1) + 1)).toNat (dflt t_impl_eventKey)).2.1,
        (y4.getD (IntKind.i64.wrap (IntKind.i64.wrap (IntKind.i64.wrap (2 * y1) + 1) + 1)).toNat
                (dflt t_impl_eventKey)).2.2.1,
        (y4.getD (IntKind.i64.wrap (IntKind.i64.wrap (IntKind.i64.wrap (2 * y1) + 1) + 1)).toNat
                  (dflt t_impl_eventKey)).2.2.2.1,
        (y4.getD (IntKind.i64.wrap (IntKind.i64.wrap (IntKind.i64.wrap (2 * y1) + 1) + 1)).toNat
                    (dflt t_impl_eventKey)).2.2.2.2.1,
        (y4.getD (IntKind.i64.wrap (IntKind.i64.wrap (IntKind.i64.wrap (2 * y1) + 1) + 1)).toNat
                      (dflt t_impl_eventKey)).2.2.2.2.2.1,
        (y4.getD (IntKind.i64.wrap (IntKind.i64.wrap (IntKind.i64.wrap (2 * y1) + 1) + 1)).toNat
                      (dflt t_impl_eventKey)).2.2.2.2.2.2)).set
  (IntKind.i64.wrap (IntKind.i64.wrap (IntKind.i64.wrap (2 * y1) + 1) + 1)).toNat
  ((y4.getD y1.toNat (dflt t_impl_eventKey)).1, (y4.getD y1.toNat (dflt t_impl_eventKey)).2.1,
    (y4.getD y1.toNat (dflt t_impl_eventKey)).2.2.1, (y4.getD y1.toNat (dflt t_impl_eventKey)).2.2.2.1,
    (y4.getD y1.toNat (dflt t_impl_eventKey)).2.2.2.2.1, (y4.getD y1.toNat (dflt t_impl_eventKey)).2.2.2.2.2.1,
    (y4.getD y1.toNat (dflt t_impl_eventKey)).2.2.2.2.2.2))) (none)) (none)) (none)) (none)) (none)) (none)) (none)) (none)) (none)) (none)) (none)) (none))) (none)) (none)) (none)) (none)) (none)) (none)) (
           cond (decide (0 ≤ IntKind.i64.wrap (IntKind.i64.wrap (2 * y1) + 1))) (
            cond (decide (IntKind.i64.wrap (IntKind.i64.wrap (2 * y1) + 1) < (↑y4.length : Int))) (
             cond (decide ((IntKind.i64.wrap (IntKind.i64.wrap (2 * y1) + 1)).toNat < y4.length)) (
              cond (decide (0 ≤ y1)) (
               cond (decide (y1 < (↑y4.length : Int))) (
                cond (decide (y1.toNat < y4.length)) (
                 (impl_keyLess k (y4.getD (IntKind.i64.wrap (IntKind.i64.wrap (2 * y1) + 1)).toNat (dflt t_impl_eventKey)) (y4.getD y1.toNat (dflt t_impl_eventKey))).bind fun x2 => 
                  cond (!x2) (some (((y3.1, y3.2.1, y3.2.2.1, y3.2.2.2.1, y3.2.2.2.2.1, y3.2.2.2.2.2.1,
    y3.2.2.2.2.2.2),
  (y4, (), ()), ()))) (
                   cond (decide (0 ≤ IntKind.i64.wrap (IntKind.i64.wrap (2 * y1) + 1))) (
                    cond (decide (IntKind.i64.wrap (IntKind.i64.wrap (2 * y1) + 1) < (↑y4.length : Int))) (
                     cond (decide ((IntKind.i64.wrap (IntKind.i64.wrap (2 * y1) + 1)).toNat < y4.length)) (
                      cond (decide (0 ≤ y1)) (
                       cond (decide (y1 < (↑y4.length : Int))) (
                        cond (decide (y1.toNat < y4.length)) (
                         cond (decide (0 ≤ y1)) (
                          cond (decide (y1 < (↑y4.length : Int))) (
                           cond (decide (y1.toNat < y4.length)) (
                            cond (decide (0 ≤ IntKind.i64.wrap (IntKind.i64.wrap (2 * y1) + 1))) (
                             cond (decide
  (IntKind.i64.wrap (IntKind.i64.wrap (2 * y1) + 1) <
    (↑(y4.set y1.toNat
            ((y4.getD (IntKind.i64.wrap (IntKind.i64.wrap (2 * y1) + 1)).toNat (dflt t_impl_eventKey)).1,
              (y4.getD (IntKind.i64.wrap (IntKind.i64.wrap (2 * y1) + 1)).toNat (dflt t_impl_eventKey)).2.1,
              (y4.getD (IntKind.i64.wrap (IntKind.i64.wrap (2 * y1) + 1)).toNat (dflt t_impl_eventKey)).2.2.1,
              (y4.getD (IntKind.i64.wrap (IntKind.i64.wrap (2 * y1) + 1)).toNat (dflt t_impl_eventKey)).2.2.2.1,
              (y4.getD (IntKind.i64.wrap (IntKind.i64.wrap (2 * y1) + 1)).toNat (dflt t_impl_eventKey)).2.2.2.2.1,
              (y4.getD (IntKind.i64.wrap (IntKind.i64.wrap (2 * y1) + 1)).toNat (dflt t_impl_eventKey)).2.2.2.2.2.1,
              (y4.getD (IntKind.i64.wrap (IntKind.i64.wrap (2 * y1) + 1)).toNat
                            (dflt t_impl_eventKey)).2.2.2.2.2.2)).length :
      Int))) (
                              cond (decide
  ((IntKind.i64.wrap (IntKind.i64.wrap (2 * y1) + 1)).toNat <
    (y4.set y1.toNat
        ((y4.getD (IntKind.i64.wrap (IntKind.i64.wrap (2 * y1) + 1)).toNat (dflt t_impl_eventKey)).1,
          (y4.getD (IntKind.i64.wrap (IntKind.i64.wrap (2 * y1) + 1)).toNat (dflt t_impl_eventKey)).2.1,
          (y4.getD (IntKind.i64.wrap (IntKind.i64.wrap (2 * y1) + 1)).toNat (dflt t_impl_eventKey)).2.2.1,
          (y4.getD (IntKind.i64.wrap (IntKind.i64.wrap (2 * y1) + 1)).toNat (dflt t_impl_eventKey)).2.2.2.1,
          (y4.getD (IntKind.i64.wrap (IntKind.i64.wrap (2 * y1) + 1)).toNat (dflt t_impl_eventKey)).2.2.2.2.1,
          (y4.getD (IntKind.i64.wrap (IntKind.i64.wrap (2 * y1) + 1)).toNat (dflt t_impl_eventKey)).2.2.2.2.2.1,
          (y4.getD (IntKind.i64.wrap (IntKind.i64.wrap (2 * y1) + 1)).toNat
                        (dflt t_impl_eventKey)).2.2.2.2.2.2)).length)) (impl_heap_impl_eventKey_pop_h0_6 k j y0 (IntKind.i64.wrap (IntKind.i64.wrap (2 * y1) + 1)) y2 y3 ((y4.set y1.toNat
      ((y4.getD (IntKind.i64.wrap (IntKind.i64.wrap (2 * y1) + 1)).toNat (dflt t_impl_eventKey)).1,
        (y4.getD (IntKind.i64.wrap (IntKind.i64.wrap (2 * y1) + 1)).toNat (dflt t_impl_eventKey)).2.1,
        (y4.getD (IntKind.i64.wrap (IntKind.i64.wrap (2 * y1) + 1)).toNat (dflt t_impl_eventKey)).2.2.1,
        (y4.getD (IntKind.i64.wrap (IntKind.i64.wrap (2 * y1) + 1)).toNat (dflt t_impl_eventKey)).2.2.2.1,
        (y4.getD (IntKind.i64.wrap (IntKind.i64.wrap (2 * y1) + 1)).toNat (dflt t_impl_eventKey)).2.2.2.2.1,
        (y4.getD (IntKind.i64.wrap (IntKind.i64.wrap (2 * y1) + 1)).toNat (dflt t_impl_eventKey)).2.2.2.2.2.1,
        (y4.getD (IntKind.i64.wrap (IntKind.i64.wrap (2 * y1) + 1)).toNat (dflt t_impl_eventKey)).2.2.2.2.2.2)).set
  (IntKind.i64.wrap (IntKind.i64.wrap (2 * y1) + 1)).toNat
  ((y4.getD y1.toNat (dflt t_impl_eventKey)).1, (y4.getD y1.toNat (dflt t_impl_eventKey)).2.1,
    (y4.getD y1.toNat (dflt t_impl_eventKey)).2.2.1, (y4.getD y1.toNat (dflt t_impl_eventKey)).2.2.2.1,
    (y4.getD y1.toNat (dflt t_impl_eventKey)).2.2.2.2.1, (y4.getD y1.toNat (dflt t_impl_eventKey)).2.2.2.2.2.1,
    (y4.getD y1.toNat (dflt t_impl_eventKey)).2.2.2.2.2.2))) (none)) (none)) (none)) (none)) (none)) (none)) (none)) (none)) (none)) (none)) (none)) (none))) (none)) (none)) (none)) (none)) (none)) (none))) (none)) (none)) (none)) (none)) (none)) (none)) (
   cond (decide (0 ≤ IntKind.i64.wrap (IntKind.i64.wrap (2 * y1) + 1))) (
    cond (decide (IntKind.i64.wrap (IntKind.i64.wrap (2 * y1) + 1) < (↑y4.length : Int))) (
     cond (decide ((IntKind.i64.wrap (IntKind.i64.wrap (2 * y1) + 1)).toNat < y4.length)) (
      cond (decide (0 ≤ y1)) (
       cond (decide (y1 < (↑y4.length : Int))) (
        cond (decide (y1.toNat < y4.length)) (
         (impl_keyLess k (y4.getD (IntKind.i64.wrap (IntKind.i64.wrap (2 * y1) + 1)).toNat (dflt t_impl_eventKey)) (y4.getD y1.toNat (dflt t_impl_eventKey))).bind fun x3 => 
          cond (!x3) (some (((y3.1, y3.2.1, y3.2.2.1, y3.2.2.2.1, y3.2.2.2.2.1, y3.2.2.2.2.2.1,
    y3.2.2.2.2.2.2),
  (y4, (), ()), ()))) (
           cond (decide (0 ≤ IntKind.i64.wrap (IntKind.i64.wrap (2 * y1) + 1))) (
            cond (decide (IntKind.i64.wrap (IntKind.i64.wrap (2 * y1) + 1) < (↑y4.length : Int))) (
             cond (decide ((IntKind.i64.wrap (IntKind.i64.wrap (2 * y1) + 1)).toNat < y4.length)) (
              cond (decide (0 ≤ y1)) (
               cond (decide (y1 < (↑y4.length : Int))) (
                cond (decide (y1.toNat < y4.length)) (
                 cond (decide (0 ≤ y1)) (
                  cond (decide (y1 < (↑y4.length : Int))) (
                   cond (decide (y1.toNat < y4.length)) (
                    cond (decide (0 ≤ IntKind.i64.wrap (IntKind.i64.wrap (2 * y1) + 1))) (
                     cond (decide
  (IntKind.i64.wrap (IntKind.i64.wrap (2 * y1) + 1) <
    (↑(y4.set y1.toNat
            ((y4.getD (IntKind.i64.wrap (IntKind.i64.wrap (2 * y1) + 1)).toNat (dflt t_impl_eventKey)).1,
              (y4.getD (IntKind.i64.wrap (IntKind.i64.wrap (2 * y1) + 1)).toNat (dflt t_impl_eventKey)).2.1,
              (y4.getD (IntKind.i64.wrap (IntKind.i64.wrap (2 * y1) + 1)).toNat (dflt t_impl_eventKey)).2.2.1,
              (y4.getD (IntKind.i64.wrap (IntKind.i64.wrap (2 * y1) + 1)).toNat (dflt t_impl_eventKey)).2.2.2.1,
              (y4.getD (IntKind.i64.wrap (IntKind.i64.wrap (2 * y1) + 1)).toNat (dflt t_impl_eventKey)).2.2.2.2.1,
              (y4.getD (IntKind.i64.wrap (IntKind.i64.wrap (2 * y1) + 1)).toNat (dflt t_impl_eventKey)).2.2.2.2.2.1,
              (y4.getD (IntKind.i64.wrap (IntKind.i64.wrap (2 * y1) + 1)).toNat
                            (dflt t_impl_eventKey)).2.2.2.2.2.2)).length :
      Int))) (
                      cond (decide
  ((IntKind.i64.wrap (IntKind.i64.wrap (2 * y1) + 1)).toNat <
    (y4.set y1.toNat
        ((y4.getD (IntKind.i64.wrap (IntKind.i64.wrap (2 * y1) + 1)).toNat (dflt t_impl_eventKey)).1,
          (y4.getD (IntKind.i64.wrap (IntKind.i64.wrap (2 * y1) + 1)).toNat (dflt t_impl_eventKey)).2.1,
          (y4.getD (IntKind.i64.wrap (IntKind.i64.wrap (2 * y1) + 1)).toNat (dflt t_impl_eventKey)).2.2.1,
          (y4.getD (IntKind.i64.wrap (IntKind.i64.wrap (2 * y1) + 1)).toNat (dflt t_impl_eventKey)).2.2.2.1,
          (y4.getD (IntKind.i64.wrap (IntKind.i64.wrap (2 * y1) + 1)).toNat (dflt t_impl_eventKey)).2.2.2.2.1,
          (y4.getD (IntKind.i64.wrap (IntKind.i64.wrap (2 * y1) + 1)).toNat (dflt t_impl_eventKey)).2.2.2.2.2.1,
          (y4.getD (IntKind.i64.wrap (IntKind.i64.wrap (2 * y1) + 1)).toNat
                        (dflt t_impl_eventKey)).2.2.2.2.2.2)).length)) (impl_heap_impl_eventKey_pop_h0_6 k j y0 (IntKind.i64.wrap (IntKind.i64.wrap (2 * y1) + 1)) y2 y3 ((y4.set y1.toNat
      ((y4.getD (IntKind.i64.wrap (IntKind.i64.wrap (2 * y1) + 1)).toNat (dflt t_impl_eventKey)).1,
        (y4.getD (IntKind.i64.wrap (IntKind.i64.wrap (2 * y1) + 1)).toNat (dflt t_impl_eventKey)).2.1,
        (y4.getD (IntKind.i64.wrap (IntKind.i64.wrap (2 * y1) + 1)).toNat (dflt t_impl_eventKey)).2.2.1,
        (y4.getD (IntKind.i64.wrap (IntKind.i64.wrap (2 * y1) + 1)).toNat (dflt t_impl_eventKey)).2.2.2.1,
        (y4.getD (IntKind.i64.wrap (IntKind.i64.wrap (2 * y1) + 1)).toNat (dflt t_impl_eventKey)).2.2.2.2.1,
        (y4.getD (IntKind.i64.wrap (IntKind.i64.wrap (2 * y1) + 1)).toNat (dflt t_impl_eventKey)).2.2.2.2.2.1,
        (y4.getD (IntKind.i64.wrap (IntKind.i64.wrap (2 * y1) + 1)).toNat (dflt t_impl_eventKey)).2.2.2.2.2.2)).set
  (IntKind.i64.wrap (IntKind.i64.wrap (2 * y1) + 1)).toNat
  ((y4.getD y1.toNat (dflt t_impl_eventKey)).1, (y4.getD y1.toNat (dflt t_impl_eventKey)).2.1,
    (y4.getD y1.toNat (dflt t_impl_eventKey)).2.2.1, (y4.getD y1.toNat (dflt t_impl_eventKey)).2.2.2.1,
    (y4.getD y1.toNat (dflt t_impl_eventKey)).2.2.2.2.1, (y4.getD y1.toNat (dflt t_impl_eventKey)).2.2.2.2.2.1,
    (y4.getD y1.toNat (dflt t_impl_eventKey)).2.2.2.2.2.2))) (none)) (none)) (none)) (none)) (none)) (none)) (none)) (none)) (none)) (none)) (none)) (none))) (none)) (none)) (none)) (none)) (none)) (none))) := by kernel_rfl

noncomputable def impl_heap_impl_eventKey_drain_h0 (k : Nat) (y0 : List V_impl_eventKey) : Option ((List V_impl_eventKey × ((List V_impl_eventKey × (Unit × Unit)) × Unit))) := evalT E k 132 (.pair (.ow 184 t_impl_eventKey) (.pair (.pair (.ow 184 t_impl_eventKey) (.pair (.fnc 129) .unit)) .unit)) [.c (.p 0 0)] [some (.box 181 [.o 1, .fn 129 []]), some (.own 184 t_impl_eventKey y0)]
noncomputable def impl_heap_impl_eventKey_drain_h0_2 (k : Nat) (j : Nat) (y0 : List V_impl_eventKey) (y1 : List V_impl_eventKey) : Option ((List V_impl_eventKey × ((List V_impl_eventKey × (Unit × Unit)) × Unit))) := loopAt E 132 (.pair (.ow 184 t_impl_eventKey) (.pair (.pair (.ow 184 t_impl_eventKey) (.pair (.fnc 129) .unit)) .unit)) [true, true, false, false] [some (.box 181 [.undef, .undef]), none] [] k [] j (mkS 22 [(0, .c (.p 0 0)), (3, .c (.o 1))]) [some (.box 181 [.o 2, .fn 129 []]), some (.own 184 t_impl_eventKey y0), some (.own 184 t_impl_eventKey y1)]
theorem impl_heap_impl_eventKey_drain_h0_eq (k : Nat) (y0 : List V_impl_eventKey) : impl_heap_impl_eventKey_drain_h0 (k + 1) y0 = 
 cond (decide ((↑y0.length : Int).toNat * 56 ≤ 140737488351232)) (impl_heap_impl_eventKey_drain_h0_2 k k (List.replicate (Int.toNat 0) (dflt t_impl_eventKey)) y0) (none) := by kernel_rfl
theorem impl_heap_impl_eventKey_drain_h0_2_eq (k : Nat) (j : Nat) (y0 : List V_impl_eventKey) (y1 : List V_impl_eventKey) : impl_heap_impl_eventKey_drain_h0_2 k (j + 1) y0 y1 = 
 cond (decide ((↑y1.length : Int) > 0)) (
  (impl_heap_impl_eventKey_pop_h0 k y1).bind fun x0 => 
   cond (decide
  ((y0.length +
        [(x0.1.1, x0.1.2.1, x0.1.2.2.1, x0.1.2.2.2.1, x0.1.2.2.2.2.1,
              x0.1.2.2.2.2.2.1, x0.1.2.2.2.2.2.2)].length) *
      56 ≤
    140737488351232)) (impl_heap_impl_eventKey_drain_h0_2 k j (y0 ++
  [(x0.1.1, x0.1.2.1, x0.1.2.2.1, x0.1.2.2.2.1, x0.1.2.2.2.2.1,
      x0.1.2.2.2.2.2.1, x0.1.2.2.2.2.2.2)]) x0.2.1.1) (none)) (some ((y0, (y1, (), ()), ()))) := by kernel_rfl

noncomputable def impl_eventKey_event (k : Nat) (a0 : V_impl_eventKey) : Option ((V_int × (V_int × (V_int × (V_int × (V_int × (V_int × V_int))))))) := evalT E k 133 (.pair t_int (.pair t_int (.pair t_int (.pair t_int (.pair t_int (.pair t_int t_int)))))) [inp t_impl_eventKey a0] []
theorem impl_eventKey_event_eq (k : Nat) (a0 : V_impl_eventKey) : impl_eventKey_event (k + 1) a0 = some (a0.1, a0.2.1, a0.2.2.1, a0.2.2.2.1, a0.2.2.2.2.1, a0.2.2.2.2.2.1,
  a0.2.2.2.2.2.2) := by kernel_rfl

noncomputable def impl_EventSort (k : Nat) (a0 : V_sl_impl_Event) : Option (List V_impl_Event) := evalT E k 109 (.ow 112 t_impl_Event) [inp t_sl_impl_Event a0] []
noncomputable def impl_EventSort_4 (k : Nat) (j : Nat) (y0 : List V_impl_Event) (y1 : Int) (y2 : Int) (y3 : List (List Int × Int)) (y4 : List V_impl_eventKey) : Option (List V_impl_Event) := loopAt E 109 (.ow 112 t_impl_Event) [true, true, true, false, true, false] [] [] k [] j (mkS 51 [(3, .c (.p 0 0)), (4, .c (.o 1)), (13, .c (.sl 112 t_impl_Event y0)), (14, .c (.int .i64 y1)), (15, .c (.int .i64 y2))]) [some (.box 181 [.o 2, .fn 129 []]), some (.mp 182 7 y3), some (.own 184 t_impl_eventKey y4)]
noncomputable def impl_EventSort_13 (k : Nat) (j : Nat) (y0 : Int) (y1 : Int) (y2 : List V_impl_Event) (y3 : List V_impl_eventKey) : Option (List V_impl_Event) := loopAt E 109 (.ow 112 t_impl_Event) [true, true, true, true, true, false, true, false] [] [] k [] j (mkS 51 [(8, .c (.o 0)), (38, .c (.o 1)), (39, .c (.int .i64 y0)), (40, .c (.int .i64 y1))]) [some (.own 112 t_impl_Event y2), some (.own 184 t_impl_eventKey y3)]
theorem impl_EventSort_eq (k : Nat) (a0 : V_sl_impl_Event) : impl_EventSort (k + 1) a0 = impl_EventSort_4 k k a0 ((↑(List.length a0) : Int)) 0 [] [] := by kernel_rfl
theorem impl_EventSort_4_eq (k : Nat) (j : Nat) (y0 : List V_impl_Event) (y1 : Int) (y2 : Int) (y3 : List (List Int × Int)) (y4 : List V_impl_eventKey) : impl_EventSort_4 k (j + 1) y0 y1 y2 y3 y4 = 
 cond (decide (y2 < y1)) (
  cond (decide (0 ≤ y2)) (
   cond (decide (y2 < (↑y0.length : Int))) (
    (impl_keyOf k (y0.getD y2.toNat (dflt t_impl_Event))).bind fun x0 => 
     cond ((Lit.int IntKind.i64 x0.1).wf) (
      cond ((Lit.int IntKind.i64 x0.2.1).wf) (
       cond ((Lit.int IntKind.i64 x0.2.2.1).wf) (
        cond ((Lit.int IntKind.i64 x0.2.2.2.1).wf) (
         cond ((Lit.int IntKind.i64 x0.2.2.2.2.1).wf) (
          cond ((Lit.int IntKind.i64 x0.2.2.2.2.2.1).wf) (
           cond ((Lit.int IntKind.i64 x0.2.2.2.2.2.2).wf) (
            cond ((Lit.int IntKind.i64 x0.1).wf) (
             cond ((Lit.int IntKind.i64 x0.2.1).wf) (
              cond ((Lit.int IntKind.i64 x0.2.2.1).wf) (
               cond ((Lit.int IntKind.i64 x0.2.2.2.1).wf) (
                cond ((Lit.int IntKind.i64 x0.2.2.2.2.1).wf) (
                 cond ((Lit.int IntKind.i64 x0.2.2.2.2.2.1).wf) (
                  cond ((Lit.int IntKind.i64 x0.2.2.2.2.2.2).wf) (
                   cond (decide
  ((↑(mix y3
            [x0.1, x0.2.1, x0.2.2.1, x0.2.2.2.1, x0.2.2.2.2.1, x0.2.2.2.2.2.1,
              x0.2.2.2.2.2.2]) :
        Int).toNat <
    (madd y3
        [x0.1, x0.2.1, x0.2.2.1, x0.2.2.2.1, x0.2.2.2.2.1, x0.2.2.2.2.2.1,
          x0.2.2.2.2.2.2]).length)) (
                    cond ((Lit.int IntKind.i64 x0.1).wf) (
                     cond ((Lit.int IntKind.i64 x0.2.1).wf) (
                      cond ((Lit.int IntKind.i64 x0.2.2.1).wf) (
                       cond ((Lit.int IntKind.i64 x0.2.2.2.1).wf) (
                        cond ((Lit.int IntKind.i64 x0.2.2.2.2.1).wf) (
                         cond ((Lit.int IntKind.i64 x0.2.2.2.2.2.1).wf) (
                          cond ((Lit.int IntKind.i64 x0.2.2.2.2.2.2).wf) (
                           cond (mval
    (mput
      (madd y3
        [x0.1, x0.2.1, x0.2.2.1, x0.2.2.2.1, x0.2.2.2.2.1, x0.2.2.2.2.2.1,
          x0.2.2.2.2.2.2])
      (↑(mix y3
              [x0.1, x0.2.1, x0.2.2.1, x0.2.2.2.1, x0.2.2.2.2.1,
                x0.2.2.2.2.2.1, x0.2.2.2.2.2.2]) :
          Int).toNat
      (IntKind.i64.wrap
        (mval y3
            [x0.1, x0.2.1, x0.2.2.1, x0.2.2.2.1, x0.2.2.2.2.1, x0.2.2.2.2.2.1,
              x0.2.2.2.2.2.2] +
          1)))
    [x0.1, x0.2.1, x0.2.2.1, x0.2.2.2.1, x0.2.2.2.2.1, x0.2.2.2.2.2.1,
      x0.2.2.2.2.2.2] ==
  1) (
                            (impl_heap_impl_eventKey_push_h0 k x0 y4).bind fun x1 => impl_EventSort_4 k j y0 y1 (IntKind.i64.wrap (y2 + 1)) (mput
  (madd y3
    [x0.1, x0.2.1, x0.2.2.1, x0.2.2.2.1, x0.2.2.2.2.1, x0.2.2.2.2.2.1,
      x0.2.2.2.2.2.2])
  (↑(mix y3
          [x0.1, x0.2.1, x0.2.2.1, x0.2.2.2.1, x0.2.2.2.2.1, x0.2.2.2.2.2.1,
            x0.2.2.2.2.2.2]) :
      Int).toNat
  (IntKind.i64.wrap
    (mval y3
        [x0.1, x0.2.1, x0.2.2.1, x0.2.2.2.1, x0.2.2.2.2.1, x0.2.2.2.2.2.1,
          x0.2.2.2.2.2.2] +
      1))) x1.2.1.1) (impl_EventSort_4 k j y0 y1 (IntKind.i64.wrap (y2 + 1)) (mput
  (madd y3
    [x0.1, x0.2.1, x0.2.2.1, x0.2.2.2.1, x0.2.2.2.2.1, x0.2.2.2.2.2.1,
      x0.2.2.2.2.2.2])
  (↑(mix y3
          [x0.1, x0.2.1, x0.2.2.1, x0.2.2.2.1, x0.2.2.2.2.1, x0.2.2.2.2.2.1,
            x0.2.2.2.2.2.2]) :
      Int).toNat
  (IntKind.i64.wrap
    (mval y3
        [x0.1, x0.2.1, x0.2.2.1, x0.2.2.2.1, x0.2.2.2.2.1, x0.2.2.2.2.2.1,
          x0.2.2.2.2.2.2] +
      1))) y4)) (none)) (none)) (none)) (none)) (none)) (none)) (none)) (none)) (none)) (none)) (none)) (none)) (none)) (none)) (none)) (none)) (none)) (none)) (none)) (none)) (none)) (none)) (none)) (none)) (
  cond (decide ((↑y4.length : Int).toNat * 56 ≤ 140737488351232)) (
   (impl_heap_impl_eventKey_drain_h0 k y4).bind fun x2 => impl_EventSort_13 k k ((↑(List.length x2.1) : Int)) 0 (List.replicate (Int.toNat 0) (dflt t_impl_Event)) x2.1) (none)) := by kernel_rfl
theorem impl_EventSort_13_eq (k : Nat) (j : Nat) (y0 : Int) (y1 : Int) (y2 : List V_impl_Event) (y3 : List V_impl_eventKey) : impl_EventSort_13 k (j + 1) y0 y1 y2 y3 = 
 cond (decide (y1 < y0)) (
  cond (decide (0 ≤ y1)) (
   cond (decide (y1 < (↑y3.length : Int))) (
    cond (decide (y1.toNat < y3.length)) (
     (impl_eventKey_event k (y3.getD y1.toNat (dflt t_impl_eventKey))).bind fun x0 => 
      cond (decide
  ((y2.length +
        [(x0.1, x0.2.1, x0.2.2.1, x0.2.2.2.1, x0.2.2.2.2.1, x0.2.2.2.2.2.1,
              x0.2.2.2.2.2.2)].length) *
      56 ≤
    140737488351232)) (impl_EventSort_13 k j y0 (IntKind.i64.wrap (y1 + 1)) (y2 ++
  [(x0.1, x0.2.1, x0.2.2.1, x0.2.2.2.1, x0.2.2.2.2.1, x0.2.2.2.2.2.1,
      x0.2.2.2.2.2.2)]) y3) (none)) (none)) (none)) (none)) (some y2) := by kernel_rfl

noncomputable def impl_body_came_h0 (k : Nat) (y0 : V_impl_body) (y1 : V_int) : Option (List V_impl_Event) := evalT E k 75 (.ow 112 t_impl_Event) [.c (.pr t_impl_body y0 0), inp t_int y1] []
noncomputable def impl_body_came_h0_3 (k : Nat) (j : Nat) (y0 : Int) (y1 : V_impl_body) (y2 : Int) (y3 : List V_impl_Event) : Option (List V_impl_Event) := loopAt E 75 (.ow 112 t_impl_Event) [true, true, false, true, false] [] [] k [] j (mkS 33 [(2, .c (.p 0 0)), (3, .c (.p 1 0)), (5, .c (.o 2)), (9, .c (.int .i64 y0))]) [some (.box 121 [.pr t_impl_body y1 0]), some (.box 3 [.int .i64 y2]), some (.own 112 t_impl_Event y3)]
theorem impl_body_came_h0_eq (k : Nat) (y0 : V_impl_body) (y1 : V_int) : impl_body_came_h0 (k + 1) y0 y1 = 
 (impl_body_sent_h0 k y0).bind fun x0 => impl_body_came_h0_3 k k 0 y0 y1 x0 := by kernel_rfl
theorem impl_body_came_h0_3_eq (k : Nat) (j : Nat) (y0 : Int) (y1 : V_impl_body) (y2 : Int) (y3 : List V_impl_Event) : impl_body_came_h0_3 k (j + 1) y0 y1 y2 y3 = 
 cond (decide (y0 < 3)) (
  cond (y0 != y1.1.1) (
   cond ((Lit.int IntKind.i64 y0).wf) (
    cond (decide
  ((y3.length + List.length (mqget y1.2.2.2.2.1 y0 (dflt t_impl_View)).2.2) * 56 ≤ 140737488351232)) (impl_body_came_h0_3 k j (IntKind.i64.wrap (y0 + 1)) y1 y2 (y3 ++ (mqget y1.2.2.2.2.1 y0 (dflt t_impl_View)).2.2)) (none)) (none)) (impl_body_came_h0_3 k j (IntKind.i64.wrap (y0 + 1)) y1 y2 y3)) (
  (impl_pick_impl_Event_h0 k y3 y2 y1).bind fun x0 => 
   (impl_EventSort k x0.1).bind fun x1 => some x1) := by kernel_rfl

noncomputable def impl_chainOf (k : Nat) (a0 : V_sl_impl_Past) : Option (List V_impl_Past × Unit) := evalT E k 76 (.fp (.pair (.lk 166 t_impl_Past) .any)) [inp t_sl_impl_Past a0] []
theorem impl_chainOf_eq (k : Nat) (a0 : V_sl_impl_Past) : impl_chainOf (k + 1) a0 = 
 cond (decide (List.length a0 ≤ 140737488351232)) (some ((a0, ()))) (none) := by kernel_rfl

noncomputable def impl_chain_agreeing_h0 (k : Nat) (y0 : (List V_impl_Past × Unit)) (y1 : V_sl_impl_Event) : Option V_int := evalT E k 77 t_int [.c (.pr (.pair (.lk 166 t_impl_Past) .any) y0 0), inp t_sl_impl_Event y1] []
noncomputable def impl_chain_agreeing_h0_3 (k : Nat) (j : Nat) (y0 : List V_impl_Event) (y1 : Int) (y2 : List V_impl_Past) : Option V_int := loopAt E 77 t_int [true, true, false, true, false] [] [] k [] j (mkS 38 [(1, .c (.sl 112 t_impl_Event y0)), (5, .c (.int .i64 y1)), (6, .c (.lk 166 t_impl_Past y2))]) []
theorem impl_chain_agreeing_h0_eq (k : Nat) (y0 : (List V_impl_Past × Unit)) (y1 : V_sl_impl_Event) : impl_chain_agreeing_h0 (k + 1) y0 y1 = impl_chain_agreeing_h0_3 k k y1 0 y0.1 := by kernel_rfl
theorem impl_chain_agreeing_h0_3_eq (k : Nat) (j : Nat) (y0 : List V_impl_Event) (y1 : Int) (y2 : List V_impl_Past) : impl_chain_agreeing_h0_3 k (j + 1) y0 y1 y2 = 
 cond (!y2.isEmpty) (
  cond (decide (y1 < (↑y0.length : Int))) (
   cond (!y2.isEmpty) (
    cond (decide (0 ≤ y1)) (
     cond (decide (y1 < (↑y0.length : Int))) (
      cond ((y2.headD (dflt t_impl_Past)).1.1 == (y0.getD y1.toNat (dflt t_impl_Event)).1 &&
  ((y2.headD (dflt t_impl_Past)).1.2.1 == (y0.getD y1.toNat (dflt t_impl_Event)).2.1 &&
    ((y2.headD (dflt t_impl_Past)).1.2.2.1 == (y0.getD y1.toNat (dflt t_impl_Event)).2.2.1 &&
      ((y2.headD (dflt t_impl_Past)).1.2.2.2.1 == (y0.getD y1.toNat (dflt t_impl_Event)).2.2.2.1 &&
        ((y2.headD (dflt t_impl_Past)).1.2.2.2.2.1 == (y0.getD y1.toNat (dflt t_impl_Event)).2.2.2.2.1 &&
          ((y2.headD (dflt t_impl_Past)).1.2.2.2.2.2.1 ==
              (y0.getD y1.toNat (dflt t_impl_Event)).2.2.2.2.2.1 &&
            ((y2.headD (dflt t_impl_Past)).1.2.2.2.2.2.2 ==
                (y0.getD y1.toNat (dflt t_impl_Event)).2.2.2.2.2.2 &&
              true))))))) (
       cond (!y2.isEmpty) (impl_chain_agreeing_h0_3 k j y0 (IntKind.i64.wrap (y1 + 1)) y2.tail) (none)) (some y1)) (none)) (none)) (none)) (some y1)) (some y1) := by kernel_rfl

noncomputable def impl_NodeOk (k : Nat) (a0 : V_impl_Node) : Option V_bool := evalT E k 33 t_bool [inp t_impl_Node a0] []
noncomputable def impl_NodeOk_5 (k : Nat) (j : Nat) (y0 : V_impl_body) (y1 : Int) (y2 : Int) (y3 : List V_int) : Option V_bool := loopAt E 33 t_bool [true, true, true, false, true, false] [] [] k [] j (mkS 49 [(3, .c (.pr t_impl_body y0 0)), (14, .c (.o 0)), (15, .c (.int .i64 y1)), (16, .c (.int .i64 y2))]) [some (.own 3 t_int y3)]
theorem impl_NodeOk_eq (k : Nat) (a0 : V_impl_Node) : impl_NodeOk (k + 1) a0 = 
 (impl_shapeOk k a0).bind fun x0 => 
  cond (!x0) (some false) (
   (impl_bodyOf k a0).bind fun x1 => 
    (impl_procsOf k a0.1).bind fun x2 => impl_NodeOk_5 k k x1 ((↑(List.length x2) : Int)) 0 x2) := by kernel_rfl
theorem impl_NodeOk_5_eq (k : Nat) (j : Nat) (y0 : V_impl_body) (y1 : Int) (y2 : Int) (y3 : List V_int) : impl_NodeOk_5 k (j + 1) y0 y1 y2 y3 = 
 cond (decide (y2 < y1)) (
  cond (decide (0 ≤ y2)) (
   cond (decide (y2 < (↑y3.length : Int))) (
    cond (decide (y2.toNat < y3.length)) (
     (impl_body_came_h0 k y0 (y3.getD y2.toNat (dflt t_int))).bind fun x0 => 
      cond (decide ((↑(List.length x0) : Int) > 100)) (some false) (
       cond (decide (0 ≤ y2)) (
        cond (decide (y2 < (↑(List.length y0.2.2.1) : Int))) (
         (impl_chainOf k (List.getD y0.2.2.1 y2.toNat (dflt t_sl_impl_Past))).bind fun x1 => 
          (impl_chain_agreeing_h0 k x1 x0).bind fun x2 => 
           cond (decide (0 ≤ y2)) (
            cond (decide (y2 < (↑(List.length y0.2.2.1) : Int))) (
             cond (decide (x2 < (↑(List.length (List.getD y0.2.2.1 y2.toNat (dflt t_sl_impl_Past))) : Int))) (some false) (impl_NodeOk_5 k j y0 y1 (IntKind.i64.wrap (y2 + 1)) y3)) (none)) (none)) (none)) (none))) (none)) (none)) (none)) (some true) := by kernel_rfl

noncomputable def slices_Clone_impl_Out_impl_Out (k : Nat) (a0 : V_sl_impl_Out) : Option (List V_impl_Out) := evalT E k 34 (.ow 64 t_impl_Out) [inp t_sl_impl_Out a0] []
theorem slices_Clone_impl_Out_impl_Out_eq (k : Nat) (a0 : V_sl_impl_Out) : slices_Clone_impl_Out_impl_Out (k + 1) a0 = 
 cond (decide ((0 + List.length a0) * 40 ≤ 140737488351232)) (some a0) (none) := by kernel_rfl

noncomputable def impl_HubOuts_1_h0 (k : Nat) (y0 : V_impl_Out) (y1 : Int) : Option ((V_bool × ((Int × Unit) × Unit))) := evalT E k 37 (.pair t_bool (.pair (.pair (.int .i64) .unit) .unit)) [inp t_impl_Out y0, .c (.p 0 0)] [some (.box 3 [.int .i64 y1])]
theorem impl_HubOuts_1_h0_eq (k : Nat) (y0 : V_impl_Out) (y1 : Int) : impl_HubOuts_1_h0 (k + 1) y0 y1 = some ((decide (y0.1 < y1), (y1, ()), ())) := by kernel_rfl

noncomputable def impl_pick_impl_Out_h0 (k : Nat) (y0 : V_sl_impl_Out) (y1 : Int) : Option ((List V_impl_Out × ((Int × Unit) × Unit))) := evalT E k 36 (.pair (.ow 64 t_impl_Out) (.pair (.pair (.int .i64) .unit) .unit)) [inp t_sl_impl_Out y0, .c (.fn 37 [.p 0 0])] [some (.box 3 [.int .i64 y1])]
noncomputable def impl_pick_impl_Out_h0_3 (k : Nat) (j : Nat) (y0 : List V_impl_Out) (y1 : Int) (y2 : Int) (y3 : Int) (y4 : List V_impl_Out) : Option ((List V_impl_Out × ((Int × Unit) × Unit))) := loopAt E 36 (.pair (.ow 64 t_impl_Out) (.pair (.pair (.int .i64) .unit) .unit)) [true, true, false, true, false] [some (.box 3 [.undef])] [] k [] j (mkS 23 [(1, .c (.fn 37 [.p 0 0])), (5, .c (.o 1)), (8, .c (.sl 64 t_impl_Out y0)), (9, .c (.int .i64 y1)), (10, .c (.int .i64 y2))]) [some (.box 3 [.int .i64 y3]), some (.own 64 t_impl_Out y4)]
theorem impl_pick_impl_Out_h0_eq (k : Nat) (y0 : V_sl_impl_Out) (y1 : Int) : impl_pick_impl_Out_h0 (k + 1) y0 y1 = impl_pick_impl_Out_h0_3 k k y0 ((↑(List.length y0) : Int)) 0 y1 [] := by kernel_rfl
theorem impl_pick_impl_Out_h0_3_eq (k : Nat) (j : Nat) (y0 : List V_impl_Out) (y1 : Int) (y2 : Int) (y3 : Int) (y4 : List V_impl_Out) : impl_pick_impl_Out_h0_3 k (j + 1) y0 y1 y2 y3 y4 = 
 cond (decide (y2 < y1)) (
  cond (decide (0 ≤ y2)) (
   cond (decide (y2 < (↑y0.length : Int))) (
    (impl_HubOuts_1_h0 k (y0.getD y2.toNat (dflt t_impl_Out)) y3).bind fun x0 => 
     cond (x0.1) (
      cond (decide
  ((y4.length +
        [((y0.getD y2.toNat (dflt t_impl_Out)).1, (y0.getD y2.toNat (dflt t_impl_Out)).2.1,
              (y0.getD y2.toNat (dflt t_impl_Out)).2.2.1, (y0.getD y2.toNat (dflt t_impl_Out)).2.2.2.1,
              (y0.getD y2.toNat (dflt t_impl_Out)).2.2.2.2)].length) *
      40 ≤
    140737488351232)) (impl_pick_impl_Out_h0_3 k j y0 y1 (IntKind.i64.wrap (y2 + 1)) x0.2.1.1 (y4 ++
  [((y0.getD y2.toNat (dflt t_impl_Out)).1, (y0.getD y2.toNat (dflt t_impl_Out)).2.1, (y0.getD y2.toNat (dflt t_impl_Out)).2.2.1,
      (y0.getD y2.toNat (dflt t_impl_Out)).2.2.2.1, (y0.getD y2.toNat (dflt t_impl_Out)).2.2.2.2)])) (none)) (impl_pick_impl_Out_h0_3 k j y0 y1 (IntKind.i64.wrap (y2 + 1)) x0.2.1.1 y4)) (none)) (none)) (some ((y4, (y3, ()), ()))) := by kernel_rfl

noncomputable def impl_heap_impl_Out_push_h0 (k : Nat) (y0 : V_impl_Out) (y1 : List V_impl_Out) : Option ((Unit × ((List V_impl_Out × (Unit × Unit)) × Unit))) := evalT E k 79 (.pair .unit (.pair (.pair (.ow 64 t_impl_Out) (.pair (.fnc 78) .unit)) .unit)) [.c (.p 0 0), inp t_impl_Out y0] [some (.box 136 [.o 1, .fn 78 []]), some (.own 64 t_impl_Out y1)]
noncomputable def impl_heap_impl_Out_push_h0_3 (k : Nat) (j : Nat) (y0 : Int) (y1 : List V_impl_Out) : Option ((Unit × ((List V_impl_Out × (Unit × Unit)) × Unit))) := loopAt E 79 (.pair .unit (.pair (.pair (.ow 64 t_impl_Out) (.pair (.fnc 78) .unit)) .unit)) [true, true, true, false] [some (.box 136 [.undef, .undef]), none] [] k [] j (mkS 74 [(0, .c (.p 0 0)), (4, .c (.int .i64 y0))]) [some (.box 136 [.o 1, .fn 78 []]), some (.own 64 t_impl_Out y1)]
theorem impl_heap_impl_Out_push_h0_eq (k : Nat) (y0 : V_impl_Out) (y1 : List V_impl_Out) : impl_heap_impl_Out_push_h0 (k + 1) y0 y1 = 
 cond (decide
  ((y1.length + [(y0.1, y0.2.1, y0.2.2.1, y0.2.2.2.1, y0.2.2.2.2)].length) *
      40 ≤
    140737488351232)) (impl_heap_impl_Out_push_h0_3 k k (IntKind.i64.wrap
  ((↑(y1 ++ [(y0.1, y0.2.1, y0.2.2.1, y0.2.2.2.1, y0.2.2.2.2)]).length : Int) - 1)) (y1 ++ [(y0.1, y0.2.1, y0.2.2.1, y0.2.2.2.1, y0.2.2.2.2)])) (none) := by kernel_rfl
theorem impl_heap_impl_Out_push_h0_3_eq (k : Nat) (j : Nat) (y0 : Int) (y1 : List V_impl_Out) : impl_heap_impl_Out_push_h0_3 k (j + 1) y0 y1 = 
 cond (decide (y0 > 0)) (
  cond (decide (0 ≤ y0)) (
   cond (decide (y0 < (↑y1.length : Int))) (
    cond (decide (y0.toNat < y1.length)) (
     cond (decide (0 ≤ IntKind.i64.wrap ((IntKind.i64.wrap (y0 - 1)).tdiv 2))) (
      cond (decide (IntKind.i64.wrap ((IntKind.i64.wrap (y0 - 1)).tdiv 2) < (↑y1.length : Int))) (
       cond (decide ((IntKind.i64.wrap ((IntKind.i64.wrap (y0 - 1)).tdiv 2)).toNat < y1.length)) (
        (impl_OutLess k (y1.getD y0.toNat (dflt t_impl_Out)) (y1.getD (IntKind.i64.wrap ((IntKind.i64.wrap (y0 - 1)).tdiv 2)).toNat (dflt t_impl_Out))).bind fun x0 => 
         cond (!x0) (some (((), (y1, (), ()), ()))) (
          cond (decide (0 ≤ IntKind.i64.wrap ((IntKind.i64.wrap (y0 - 1)).tdiv 2))) (
           cond (decide (IntKind.i64.wrap ((IntKind.i64.wrap (y0 - 1)).tdiv 2) < (↑y1.length : Int))) (
            cond (decide ((IntKind.i64.wrap ((IntKind.i64.wrap (y0 - 1)).tdiv 2)).toNat < y1.length)) (
             cond (decide (0 ≤ y0)) (
              cond (decide (y0 < (↑y1.length : Int))) (
               cond (decide (y0.toNat < y1.length)) (
                cond (decide (0 ≤ y0)) (
                 cond (decide (y0 < (↑y1.length : Int))) (
                  cond (decide (y0.toNat < y1.length)) (
                   cond (decide (0 ≤ IntKind.i64.wrap ((IntKind.i64.wrap (y0 - 1)).tdiv 2))) (
                    cond (decide
  (IntKind.i64.wrap ((IntKind.i64.wrap (y0 - 1)).tdiv 2) <
    (↑(y1.set y0.toNat
            ((y1.getD (IntKind.i64.wrap ((IntKind.i64.wrap (y0 - 1)).tdiv 2)).toNat (dflt t_impl_Out)).1,
              (y1.getD (IntKind.i64.wrap ((IntKind.i64.wrap (y0 - 1)).tdiv 2)).toNat (dflt t_impl_Out)).2.1,
              (y1.getD (IntKind.i64.wrap ((IntKind.i64.wrap (y0 - 1)).tdiv 2)).toNat (dflt t_impl_Out)).2.2.1,
              (y1.getD (IntKind.i64.wrap ((IntKind.i64.wrap (y0 - 1)).tdiv 2)).toNat (dflt t_impl_Out)).2.2.2.1,
              (y1.getD (IntKind.i64.wrap ((IntKind.i64.wrap (y0 - 1)).tdiv 2)).toNat
                        (dflt t_impl_Out)).2.2.2.2)).length :
      Int))) (
                     cond (decide
  ((IntKind.i64.wrap ((IntKind.i64.wrap (y0 - 1)).tdiv 2)).toNat <
    (y1.set y0.toNat
        ((y1.getD (IntKind.i64.wrap ((IntKind.i64.wrap (y0 - 1)).tdiv 2)).toNat (dflt t_impl_Out)).1,
          (y1.getD (IntKind.i64.wrap ((IntKind.i64.wrap (y0 - 1)).tdiv 2)).toNat (dflt t_impl_Out)).2.1,
          (y1.getD (IntKind.i64.wrap ((IntKind.i64.wrap (y0 - 1)).tdiv 2)).toNat (dflt t_impl_Out)).2.2.1,
          (y1.getD (IntKind.i64.wrap ((IntKind.i64.wrap (y0 - 1)).tdiv 2)).toNat (dflt t_impl_Out)).2.2.2.1,
          (y1.getD (IntKind.i64.wrap ((IntKind.i64.wrap (y0 - 1)).tdiv 2)).toNat (dflt t_impl_Out)).2.2.2.2)).length)) (impl_heap_impl_Out_push_h0_3 k j (IntKind.i64.wrap ((IntKind.i64.wrap (y0 - 1)).tdiv 2)) ((y1.set y0.toNat
      ((y1.getD (IntKind.i64.wrap ((IntKind.i64.wrap (y0 - 1)).tdiv 2)).toNat (dflt t_impl_Out)).1,
        (y1.getD (IntKind.i64.wrap ((IntKind.i64.wrap (y0 - 1)).tdiv 2)).toNat (dflt t_impl_Out)).2.1,
        (y1.getD (IntKind.i64.wrap ((IntKind.i64.wrap (y0 - 1)).tdiv 2)).toNat (dflt t_impl_Out)).2.2.1,
        (y1.getD (IntKind.i64.wrap ((IntKind.i64.wrap (y0 - 1)).tdiv 2)).toNat (dflt t_impl_Out)).2.2.2.1,
        (y1.getD (IntKind.i64.wrap ((IntKind.i64.wrap (y0 - 1)).tdiv 2)).toNat (dflt t_impl_Out)).2.2.2.2)).set
  (IntKind.i64.wrap ((IntKind.i64.wrap (y0 - 1)).tdiv 2)).toNat
  ((y1.getD y0.toNat (dflt t_impl_Out)).1, (y1.getD y0.toNat (dflt t_impl_Out)).2.1, (y1.getD y0.toNat (dflt t_impl_Out)).2.2.1,
    (y1.getD y0.toNat (dflt t_impl_Out)).2.2.2.1, (y1.getD y0.toNat (dflt t_impl_Out)).2.2.2.2))) (none)) (none)) (none)) (none)) (none)) (none)) (none)) (none)) (none)) (none)) (none)) (none))) (none)) (none)) (none)) (none)) (none)) (none)) (some (((), (y1, (), ()), ()))) := by kernel_rfl

noncomputable def impl_heap_impl_Out_pop_h0 (k : Nat) (y0 : List V_impl_Out) : Option (((V_int × (V_int × (V_int × (V_int × V_int)))) × ((List V_impl_Out × (Unit × Unit)) × Unit))) := evalT E k 114 (.pair (.pair t_int (.pair t_int (.pair t_int (.pair t_int t_int)))) (.pair (.pair (.ow 64 t_impl_Out) (.pair (.fnc 78) .unit)) .unit)) [.c (.p 0 0)] [some (.box 136 [.o 1, .fn 78 []]), some (.own 64 t_impl_Out y0)]
noncomputable def impl_heap_impl_Out_pop_h0_6 (k : Nat) (j : Nat) (y0 : Int) (y1 : Int) (y2 : V_impl_Out) (y3 : V_impl_Out) (y4 : List V_impl_Out) : Option (((V_int × (V_int × (V_int × (V_int × V_int)))) × ((List V_impl_Out × (Unit × Unit)) × Unit))) := loopAt E 114 (.pair (.pair t_int (.pair t_int (.pair t_int (.pair t_int t_int)))) (.pair (.pair (.ow 64 t_impl_Out) (.pair (.fnc 78) .unit)) .unit)) [true, true, true, true, true, true, false] [some (.box 136 [.undef, .undef]), none] [] k [] j (mkS 123 [(0, .c (.p 0 0)), (2, .c (.p 1 0)), (3, .c (.p 2 0)), (4, .c (.int .i64 y0)), (5, .c (.int .i64 y1))]) [some (.box 136 [.o 3, .fn 78 []]), some (.box 64 (cells t_impl_Out y2)), some (.box 64 (cells t_impl_Out y3)), some (.own 64 t_impl_Out y4)]
theorem impl_heap_impl_Out_pop_h0_eq (k : Nat) (y0 : List V_impl_Out) : impl_heap_impl_Out_pop_h0 (k + 1) y0 = 
 cond (decide (0 < (↑y0.length : Int))) (
  cond (decide (Int.toNat 0 < y0.length)) (
   cond (decide (0 ≤ IntKind.i64.wrap ((↑y0.length : Int) - 1))) (
    cond (decide (IntKind.i64.wrap ((↑y0.length : Int) - 1) < (↑y0.length : Int))) (
     cond (decide ((IntKind.i64.wrap ((↑y0.length : Int) - 1)).toNat < y0.length)) (
      cond (decide (0 < (↑y0.length : Int))) (
       cond (decide (Int.toNat 0 < y0.length)) (
        cond (decide (0 ≤ IntKind.i64.wrap ((↑y0.length : Int) - 1))) (
         cond (decide
  (IntKind.i64.wrap ((↑y0.length : Int) - 1) ≤
    (↑(y0.set (Int.toNat 0)
            ((y0.getD (IntKind.i64.wrap ((↑y0.length : Int) - 1)).toNat (dflt t_impl_Out)).1,
              (y0.getD (IntKind.i64.wrap ((↑y0.length : Int) - 1)).toNat (dflt t_impl_Out)).2.1,
              (y0.getD (IntKind.i64.wrap ((↑y0.length : Int) - 1)).toNat (dflt t_impl_Out)).2.2.1,
              (y0.getD (IntKind.i64.wrap ((↑y0.length : Int) - 1)).toNat (dflt t_impl_Out)).2.2.2.1,
              (y0.getD (IntKind.i64.wrap ((↑y0.length : Int) - 1)).toNat (dflt t_impl_Out)).2.2.2.2)).length :
      Int))) (impl_heap_impl_Out_pop_h0_6 k k (IntKind.i64.wrap ((↑y0.length : Int) - 1)) 0 ((0, (0, (0, (0, 0))))) (y0.getD (Int.toNat 0) (dflt t_impl_Out)) (List.take (IntKind.i64.wrap ((↑y0.length : Int) - 1)).toNat
  (y0.set (Int.toNat 0)
    ((y0.getD (IntKind.i64.wrap ((↑y0.length : Int) - 1)).toNat (dflt t_impl_Out)).1,
      (y0.getD (IntKind.i64.wrap ((↑y0.length : Int) - 1)).toNat (dflt t_impl_Out)).2.1,
      (y0.getD (IntKind.i64.wrap ((↑y0.length : Int) - 1)).toNat (dflt t_impl_Out)).2.2.1,
      (y0.getD (IntKind.i64.wrap ((↑y0.length : Int) - 1)).toNat (dflt t_impl_Out)).2.2.2.1,
      (y0.getD (IntKind.i64.wrap ((↑y0.length : Int) - 1)).toNat (dflt t_impl_Out)).2.2.2.2)))) (none)) (none)) (none)) (none)) (none)) (none)) (none)) (none)) (none) := by kernel_rfl
theorem impl_heap_impl_Out_pop_h0_6_eq (k : Nat) (j : Nat) (y0 : Int) (y1 : Int) (y2 : V_impl_Out) (y3 : V_impl_Out) (y4 : List V_impl_Out) : impl_heap_impl_Out_pop_h0_6 k (j + 1) y0 y1 y2 y3 y4 = 
 cond (decide (IntKind.i64.wrap (IntKind.i64.wrap (2 * y1) + 1) ≥ y0)) (some (((y3.1, y3.2.1, y3.2.2.1, y3.2.2.2.1, y3.2.2.2.2), (y4, (), ()), ()))) (
  cond (decide (IntKind.i64.wrap (IntKind.i64.wrap (IntKind.i64.wrap (2 * y1) + 1) + 1) < y0)) (
   cond (decide (0 ≤ IntKind.i64.wrap (IntKind.i64.wrap (IntKind.i64.wrap (2 * y1) + 1) + 1))) (
    cond (decide (IntKind.i64.wrap (IntKind.i64.wrap (IntKind.i64.wrap (2 * y1) + 1) + 1) < (↑y4.length : Int))) (
     cond (decide ((IntKind.i64.wrap (IntKind.i64.wrap (IntKind.i64.wrap (2 * y1) + 1) + 1)).toNat < y4.length)) (
      cond (decide (0 ≤ IntKind.i64.wrap (IntKind.i64.wrap (2 * y1) + 1))) (
       cond (decide (IntKind.i64.wrap (IntKind.i64.wrap (2 * y1) + 1) < (↑y4.length : Int))) (
        cond (decide ((IntKind.i64.wrap (IntKind.i64.wrap (2 * y1) + 1)).toNat < y4.length)) (
         (impl_OutLess k (y4.getD (IntKind.i64.wrap (IntKind.i64.wrap (IntKind.i64.wrap (2 * y1) + 1) + 1)).toNat (dflt t_impl_Out)) (y4.getD (IntKind.i64.wrap (IntKind.i64.wrap (2 * y1) + 1)).toNat (dflt t_impl_Out))).bind fun x0 => 
          cond (x0) (
           cond (decide (0 ≤ IntKind.i64.wrap (IntKind.i64.wrap (IntKind.i64.wrap (2 * y1) + 1) + 1))) (
            cond (decide (IntKind.i64.wrap (IntKind.i64.wrap (IntKind.i64.wrap (2 * y1) + 1) + 1) < (↑y4.length : Int))) (
             cond (decide ((IntKind.i64.wrap (IntKind.i64.wrap (IntKind.i64.wrap (2 * y1) + 1) + 1)).toNat < y4.length)) (
              cond (decide (0 ≤ y1)) (
               cond (decide (y1 < (↑y4.length : Int))) (
                cond (decide (y1.toNat < y4.length)) (
                 (impl_OutLess k (y4.getD (IntKind.i64.wrap (IntKind.i64.wrap (IntKind.i64.wrap (2 * y1) + 1) + 1)).toNat (dflt t_impl_Out)) (y4.getD y1.toNat (dflt t_impl_Out))).bind fun x1 => 
                  cond (!x1) (some (((y3.1, y3.2.1, y3.2.2.1, y3.2.2.2.1, y3.2.2.2.2), (y4, (), ()), ()))) (
                   cond (decide (0 ≤ IntKind.i64.wrap (IntKind.i64.wrap (IntKind.i64.wrap (2 * y1) + 1) + 1))) (
                    cond (decide (IntKind.i64.wrap (IntKind.i64.wrap (IntKind.i64.wrap (2 * y1) + 1) + 1) < (↑y4.length : Int))) (
                     cond (decide ((IntKind.i64.wrap (IntKind.i64.wrap (IntKind.i64.wrap (2 * y1) + 1) + 1)).toNat < y4.length)) (
                      cond (decide (0 ≤ y1)) (
                       cond (decide (y1 < (↑y4.length : Int))) (
                        cond (decide (y1.toNat < y4.length)) (
                         cond (decide (0 ≤ y1)) (
                          cond (decide (y1 < (↑y4.length : Int))) (
                           cond (decide (y1.toNat < y4.length)) (
                            cond (decide (0 ≤ IntKind.i64.wrap (IntKind.i64.wrap (IntKind.i64.wrap (2 * y1) + 1) + 1))) (
                             cond (decide
  (IntKind.i64.wrap (IntKind.i64.wrap (IntKind.i64.wrap (2 * y1) + 1) + 1) <
    (↑(y4.set y1.toNat
            ((y4.getD (IntKind.i64.wrap (IntKind.i64.wrap (IntKind.i64.wrap (2 * y1) + 1) + 1)).toNat (dflt t_impl_Out)).1,
              (y4.getD (IntKind.i64.wrap (IntKind.i64.wrap (IntKind.i64.wrap (2 * y1) + 1) + 1)).toNat
                    (dflt t_impl_Out)).2.1,
              (y4.getD (IntKind.i64.wrap (IntKind.i64.wrap (IntKind.i64.wrap (2 * y1) + 1) + 1)).toNat
                      (dflt t_impl_Out)).2.2.1,
              (y4.getD (IntKind.i64.wrap (IntKind.i64.wrap (IntKind.i64.wrap (2 * y1) + 1) + 1)).toNat
                        (dflt t_impl_Out)).2.2.2.1,
              (y4.getD (IntKind.i64.wrap (IntKind.i64.wrap (IntKind.i64.wrap (2 * y1) + 1) + 1)).toNat
                        (dflt t_impl_Out)).2.2.2.2)).length :
      Int))) (
                              cond (decide
  ((IntKind.i64.wrap (IntKind.i64.wrap (IntKind.i64.wrap (2 * y1) + 1) + 1)).toNat <
    (y4.set y1.toNat
        ((y4.getD (IntKind.i64.wrap (IntKind.i64.wrap (IntKind.i64.wrap (2 * y1) + 1) + 1)).toNat (dflt t_impl_Out)).1,
          (y4.getD (IntKind.i64.wrap (IntKind.i64.wrap (IntKind.i64.wrap (2 * y1) + 1) + 1)).toNat (dflt t_impl_Out)).2.1,
          (y4.getD (IntKind.i64.wrap (IntKind.i64.wrap (IntKind.i64.wrap (2 * y1) + 1) + 1)).toNat
                  (dflt t_impl_Out)).2.2.1,
          (y4.getD (IntKind.i64.wrap (IntKind.i64.wrap (IntKind.i64.wrap (2 * y1) + 1) + 1)).toNat
                    (dflt t_impl_Out)).2.2.2.1,
          (y4.getD (IntKind.i64.wrap (IntKind.i64.wrap (IntKind.i64.wrap (2 * y1) + 1) + 1)).toNat
                    (dflt t_impl_Out)).2.2.2.2)).length)) (impl_heap_impl_Out_pop_h0_6 k j y0 (IntKind.i64.wrap (IntKind.i64.wrap (IntKind.i64.wrap (2 * y1) + 1) + 1)) y2 y3 ((y4.set y1.toNat
      ((y4.getD (IntKind.i64.wrap (IntKind.i64.wrap (IntKind.i64.wrap (2 * y1) + 1) + 1)).toNat (dflt t_impl_Out)).1,
        (y4.getD (IntKind.i64.wrap (IntKind.i64.wrap (IntKind.i64.wrap (2 * y1) + 1) + 1)).toNat (dflt t_impl_Out)).2.1,
        (y4.getD (IntKind.i64.wrap (IntKind.i64.wrap (IntKind.i64.wrap (2 * y1) + 1) + 1)).toNat
                (dflt t_impl_Out)).2.2.1,
        (y4.getD (IntKind.i64.wrap (IntKind.i64.wrap (IntKind.i64.wrap (2 * y1) + 1) + 1)).toNat
                  (dflt t_impl_Out)).2.2.2.1,
        (y4.getD (IntKind.i64.wrap (IntKind.i64.wrap (IntKind.i64.wrap (2 * y1) + 1) + 1)).toNat
                  (dflt t_impl_Out)).2.2.2.2)).set
  (IntKind.i64.wrap (IntKind.i64.wrap (IntKind.i64.wrap (2 * y1) + 1) + 1)).toNat
  ((y4.getD y1.toNat (dflt t_impl_Out)).1, (y4.getD y1.toNat (dflt t_impl_Out)).2.1, (y4.getD y1.toNat (dflt t_impl_Out)).2.2.1,
    (y4.getD y1.toNat (dflt t_impl_Out)).2.2.2.1, (y4.getD y1.toNat (dflt t_impl_Out)).2.2.2.2))) (none)) (none)) (none)) (none)) (none)) (none)) (none)) (none)) (none)) (none)) (none)) (none))) (none)) (none)) (none)) (none)) (none)) (none)) (
           cond (decide (0 ≤ IntKind.i64.wrap (IntKind.i64.wrap (2 * y1) + 1))) (
            cond (decide (IntKind.i64.wrap (IntKind.i64.wrap (2 * y1) + 1) < (↑y4.length : Int))) (
             cond (decide ((IntKind.i64.wrap (IntKind.i64.wrap (2 * y1) + 1)).toNat < y4.length)) (
              cond (decide (0 ≤ y1)) (
               cond (decide (y1 < (↑y4.length : Int))) (
                cond (decide (y1.toNat < y4.length)) (
                 (impl_OutLess k (y4.getD (IntKind.i64.wrap (IntKind.i64.wrap (2 * y1) + 1)).toNat (dflt t_impl_Out)) (y4.getD y1.toNat (dflt t_impl_Out))).bind fun x2 => 
                  cond (!x2) (some (((y3.1, y3.2.1, y3.2.2.1, y3.2.2.2.1, y3.2.2.2.2), (y4, (), ()), ()))) (
                   cond (decide (0 ≤ IntKind.i64.wrap (IntKind.i64.wrap (2 * y1) + 1))) (
                    cond (decide (IntKind.i64.wrap (IntKind.i64.wrap (2 * y1) + 1) < (↑y4.length : Int))) (
                     cond (decide ((IntKind.i64.wrap (IntKind.i64.wrap (2 * y1) + 1)).toNat < y4.length)) (
                      cond (decide (0 ≤ y1)) (
                       cond (decide (y1 < (↑y4.length : Int))) (
                        cond (decide (y1.toNat < y4.length)) (
                         cond (decide (0 ≤ y1)) (
                          cond (decide (y1 < (↑y4.length : Int))) (
                           cond (decide (y1.toNat < y4.length)) (
                            cond (decide (0 ≤ IntKind.i64.wrap (IntKind.i64.wrap (2 * y1) + 1))) (
                             cond (decide
  (IntKind.i64.wrap (IntKind.i64.wrap (2 * y1) + 1) <
    (↑(y4.set y1.toNat
            ((y4.getD (IntKind.i64.wrap (IntKind.i64.wrap (2 * y1) + 1)).toNat (dflt t_impl_Out)).1,
              (y4.getD (IntKind.i64.wrap (IntKind.i64.wrap (2 * y1) + 1)).toNat (dflt t_impl_Out)).2.1,
              (y4.getD (IntKind.i64.wrap (IntKind.i64.wrap (2 * y1) + 1)).toNat (dflt t_impl_Out)).2.2.1,
              (y4.getD (IntKind.i64.wrap (IntKind.i64.wrap (2 * y1) + 1)).toNat (dflt t_impl_Out)).2.2.2.1,
              (y4.getD (IntKind.i64.wrap (IntKind.i64.wrap (2 * y1) + 1)).toNat (dflt t_impl_Out)).2.2.2.2)).length :
      Int))) (
                              cond (decide
  ((IntKind.i64.wrap (IntKind.i64.wrap (2 * y1) + 1)).toNat <
    (y4.set y1.toNat
        ((y4.getD (IntKind.i64.wrap (IntKind.i64.wrap (2 * y1) + 1)).toNat (dflt t_impl_Out)).1,
          (y4.getD (IntKind.i64.wrap (IntKind.i64.wrap (2 * y1) + 1)).toNat (dflt t_impl_Out)).2.1,
          (y4.getD (IntKind.i64.wrap (IntKind.i64.wrap (2 * y1) + 1)).toNat (dflt t_impl_Out)).2.2.1,
          (y4.getD (IntKind.i64.wrap (IntKind.i64.wrap (2 * y1) + 1)).toNat (dflt t_impl_Out)).2.2.2.1,
          (y4.getD (IntKind.i64.wrap (IntKind.i64.wrap (2 * y1) + 1)).toNat (dflt t_impl_Out)).2.2.2.2)).length)) (impl_heap_impl_Out_pop_h0_6 k j y0 (IntKind.i64.wrap (IntKind.i64.wrap (2 * y1) + 1)) y2 y3 ((y4.set y1.toNat
      ((y4.getD (IntKind.i64.wrap (IntKind.i64.wrap (2 * y1) + 1)).toNat (dflt t_impl_Out)).1,
        (y4.getD (IntKind.i64.wrap (IntKind.i64.wrap (2 * y1) + 1)).toNat (dflt t_impl_Out)).2.1,
        (y4.getD (IntKind.i64.wrap (IntKind.i64.wrap (2 * y1) + 1)).toNat (dflt t_impl_Out)).2.2.1,
        (y4.getD (IntKind.i64.wrap (IntKind.i64.wrap (2 * y1) + 1)).toNat (dflt t_impl_Out)).2.2.2.1,
        (y4.getD (IntKind.i64.wrap (IntKind.i64.wrap (2 * y1) + 1)).toNat (dflt t_impl_Out)).2.2.2.2)).set
  (IntKind.i64.wrap (IntKind.i64.wrap (2 * y1) + 1)).toNat
  ((y4.getD y1.toNat (dflt t_impl_Out)).1, (y4.getD y1.toNat (dflt t_impl_Out)).2.1, (y4.getD y1.toNat (dflt t_impl_Out)).2.2.1,
    (y4.getD y1.toNat (dflt t_impl_Out)).2.2.2.1, (y4.getD y1.toNat (dflt t_impl_Out)).2.2.2.2))) (none)) (none)) (none)) (none)) (none)) (none)) (none)) (none)) (none)) (none)) (none)) (none))) (none)) (none)) (none)) (none)) (none)) (none))) (none)) (none)) (none)) (none)) (none)) (none)) (
   cond (decide (0 ≤ IntKind.i64.wrap (IntKind.i64.wrap (2 * y1) + 1))) (
    cond (decide (IntKind.i64.wrap (IntKind.i64.wrap (2 * y1) + 1) < (↑y4.length : Int))) (
     cond (decide ((IntKind.i64.wrap (IntKind.i64.wrap (2 * y1) + 1)).toNat < y4.length)) (
      cond (decide (0 ≤ y1)) (
       cond (decide (y1 < (↑y4.length : Int))) (
        cond (decide (y1.toNat < y4.length)) (
         (impl_OutLess k (y4.getD (IntKind.i64.wrap (IntKind.i64.wrap (2 * y1) + 1)).toNat (dflt t_impl_Out)) (y4.getD y1.toNat (dflt t_impl_Out))).bind fun x3 => 
          cond (!x3) (some (((y3.1, y3.2.1, y3.2.2.1, y3.2.2.2.1, y3.2.2.2.2), (y4, (), ()), ()))) (
           cond (decide (0 ≤ IntKind.i64.wrap (IntKind.i64.wrap (2 * y1) + 1))) (
            cond (decide (IntKind.i64.wrap (IntKind.i64.wrap (2 * y1) + 1) < (↑y4.length : Int))) (
             cond (decide ((IntKind.i64.wrap (IntKind.i64.wrap (2 * y1) + 1)).toNat < y4.length)) (
              cond (decide (0 ≤ y1)) (
               cond (decide (y1 < (↑y4.length : Int))) (
                cond (decide (y1.toNat < y4.length)) (
                 cond (decide (0 ≤ y1)) (
                  cond (decide (y1 < (↑y4.length : Int))) (
                   cond (decide (y1.toNat < y4.length)) (
                    cond (decide (0 ≤ IntKind.i64.wrap (IntKind.i64.wrap (2 * y1) + 1))) (
                     cond (decide
  (IntKind.i64.wrap (IntKind.i64.wrap (2 * y1) + 1) <
    (↑(y4.set y1.toNat
            ((y4.getD (IntKind.i64.wrap (IntKind.i64.wrap (2 * y1) + 1)).toNat (dflt t_impl_Out)).1,
              (y4.getD (IntKind.i64.wrap (IntKind.i64.wrap (2 * y1) + 1)).toNat (dflt t_impl_Out)).2.1,
              (y4.getD (IntKind.i64.wrap (IntKind.i64.wrap (2 * y1) + 1)).toNat (dflt t_impl_Out)).2.2.1,
              (y4.getD (IntKind.i64.wrap (IntKind.i64.wrap (2 * y1) + 1)).toNat (dflt t_impl_Out)).2.2.2.1,
              (y4.getD (IntKind.i64.wrap (IntKind.i64.wrap (2 * y1) + 1)).toNat (dflt t_impl_Out)).2.2.2.2)).length :
      Int))) (
                      cond (decide
  ((IntKind.i64.wrap (IntKind.i64.wrap (2 * y1) + 1)).toNat <
    (y4.set y1.toNat
        ((y4.getD (IntKind.i64.wrap (IntKind.i64.wrap (2 * y1) + 1)).toNat (dflt t_impl_Out)).1,
          (y4.getD (IntKind.i64.wrap (IntKind.i64.wrap (2 * y1) + 1)).toNat (dflt t_impl_Out)).2.1,
          (y4.getD (IntKind.i64.wrap (IntKind.i64.wrap (2 * y1) + 1)).toNat (dflt t_impl_Out)).2.2.1,
          (y4.getD (IntKind.i64.wrap (IntKind.i64.wrap (2 * y1) + 1)).toNat (dflt t_impl_Out)).2.2.2.1,
          (y4.getD (IntKind.i64.wrap (IntKind.i64.wrap (2 * y1) + 1)).toNat (dflt t_impl_Out)).2.2.2.2)).length)) (impl_heap_impl_Out_pop_h0_6 k j y0 (IntKind.i64.wrap (IntKind.i64.wrap (2 * y1) + 1)) y2 y3 ((y4.set y1.toNat
      ((y4.getD (IntKind.i64.wrap (IntKind.i64.wrap (2 * y1) + 1)).toNat (dflt t_impl_Out)).1,
        (y4.getD (IntKind.i64.wrap (IntKind.i64.wrap (2 * y1) + 1)).toNat (dflt t_impl_Out)).2.1,
        (y4.getD (IntKind.i64.wrap (IntKind.i64.wrap (2 * y1) + 1)).toNat (dflt t_impl_Out)).2.2.1,
        (y4.getD (IntKind.i64.wrap (IntKind.i64.wrap (2 * y1) + 1)).toNat (dflt t_impl_Out)).2.2.2.1,
        (y4.getD (IntKind.i64.wrap (IntKind.i64.wrap (2 * y1) + 1)).toNat (dflt t_impl_Out)).2.2.2.2)).set
  (IntKind.i64.wrap (IntKind.i64.wrap (2 * y1) + 1)).toNat
  ((y4.getD y1.toNat (dflt t_impl_Out)).1, (y4.getD y1.toNat (dflt t_impl_Out)).2.1, (y4.getD y1.toNat (dflt t_impl_Out)).2.2.1,
    (y4.getD y1.toNat (dflt t_impl_Out)).2.2.2.1, (y4.getD y1.toNat (dflt t_impl_Out)).2.2.2.2))) (none)) (none)) (none)) (none)) (none)) (none)) (none)) (none)) (none)) (none)) (none)) (none))) (none)) (none)) (none)) (none)) (none)) (none))) := by kernel_rfl

noncomputable def impl_heap_impl_Out_drain_h0 (k : Nat) (y0 : List V_impl_Out) : Option ((List V_impl_Out × ((List V_impl_Out × (Unit × Unit)) × Unit))) := evalT E k 80 (.pair (.ow 64 t_impl_Out) (.pair (.pair (.ow 64 t_impl_Out) (.pair (.fnc 78) .unit)) .unit)) [.c (.p 0 0)] [some (.box 136 [.o 1, .fn 78 []]), some (.own 64 t_impl_Out y0)]
noncomputable def impl_heap_impl_Out_drain_h0_2 (k : Nat) (j : Nat) (y0 : List V_impl_Out) (y1 : List V_impl_Out) : Option ((List V_impl_Out × ((List V_impl_Out × (Unit × Unit)) × Unit))) := loopAt E 80 (.pair (.ow 64 t_impl_Out) (.pair (.pair (.ow 64 t_impl_Out) (.pair (.fnc 78) .unit)) .unit)) [true, true, false, false] [some (.box 136 [.undef, .undef]), none] [] k [] j (mkS 22 [(0, .c (.p 0 0)), (3, .c (.o 1))]) [some (.box 136 [.o 2, .fn 78 []]), some (.own 64 t_impl_Out y0), some (.own 64 t_impl_Out y1)]
theorem impl_heap_impl_Out_drain_h0_eq (k : Nat) (y0 : List V_impl_Out) : impl_heap_impl_Out_drain_h0 (k + 1) y0 = 
 cond (decide ((↑y0.length : Int).toNat * 40 ≤ 140737488351232)) (impl_heap_impl_Out_drain_h0_2 k k (List.replicate (Int.toNat 0) (dflt t_impl_Out)) y0) (none) := by kernel_rfl
theorem impl_heap_impl_Out_drain_h0_2_eq (k : Nat) (j : Nat) (y0 : List V_impl_Out) (y1 : List V_impl_Out) : impl_heap_impl_Out_drain_h0_2 k (j + 1) y0 y1 = 
 cond (decide ((↑y1.length : Int) > 0)) (
  (impl_heap_impl_Out_pop_h0 k y1).bind fun x0 => 
   cond (decide
  ((y0.length +
        [(x0.1.1, x0.1.2.1, x0.1.2.2.1, x0.1.2.2.2.1, x0.1.2.2.2.2)].length) *
      40 ≤
    140737488351232)) (impl_heap_impl_Out_drain_h0_2 k j (y0 ++ [(x0.1.1, x0.1.2.1, x0.1.2.2.1, x0.1.2.2.2.1, x0.1.2.2.2.2)]) x0.2.1.1) (none)) (some ((y0, (y1, (), ()), ()))) := by kernel_rfl

noncomputable def impl_OutSort (k : Nat) (a0 : V_sl_impl_Out) : Option (List V_impl_Out) := evalT E k 35 (.ow 64 t_impl_Out) [inp t_sl_impl_Out a0] []
noncomputable def impl_OutSort_3 (k : Nat) (j : Nat) (y0 : List V_impl_Out) (y1 : Int) (y2 : Int) (y3 : List V_impl_Out) : Option (List V_impl_Out) := loopAt E 35 (.ow 64 t_impl_Out) [true, true, false, true, false] [] [] k [] j (mkS 17 [(3, .c (.p 0 0)), (7, .c (.sl 64 t_impl_Out y0)), (8, .c (.int .i64 y1)), (9, .c (.int .i64 y2))]) [some (.box 136 [.o 1, .fn 78 []]), some (.own 64 t_impl_Out y3)]
theorem impl_OutSort_eq (k : Nat) (a0 : V_sl_impl_Out) : impl_OutSort (k + 1) a0 = impl_OutSort_3 k k a0 ((↑(List.length a0) : Int)) 0 [] := by kernel_rfl
theorem impl_OutSort_3_eq (k : Nat) (j : Nat) (y0 : List V_impl_Out) (y1 : Int) (y2 : Int) (y3 : List V_impl_Out) : impl_OutSort_3 k (j + 1) y0 y1 y2 y3 = 
 cond (decide (y2 < y1)) (
  cond (decide (0 ≤ y2)) (
   cond (decide (y2 < (↑y0.length : Int))) (
    (impl_heap_impl_Out_push_h0 k (y0.getD y2.toNat (dflt t_impl_Out)) y3).bind fun x0 => impl_OutSort_3 k j y0 y1 (IntKind.i64.wrap (y2 + 1)) x0.2.1.1) (none)) (none)) (
  (impl_heap_impl_Out_drain_h0 k y3).bind fun x1 => some x1.1) := by kernel_rfl

noncomputable def impl_HubOuts (k : Nat) (a0 : V_impl_Hub) (a1 : V_impl_Node) : Option (List V_impl_Out) := evalT E k 9 (.ow 64 t_impl_Out) [inp t_impl_Hub a0, inp t_impl_Node a1] []
noncomputable def impl_HubOuts_6 (k : Nat) (j : Nat) (y0 : List V_impl_Word) (y1 : Int) (y2 : Int) (y3 : Int) (y4 : List V_impl_Out) : Option (List V_impl_Out) := loopAt E 9 (.ow 64 t_impl_Out) [true, true, true, true, false, true, false] [] [] k [] j (mkS 53 [(5, .c (.p 0 0)), (6, .c (.o 1)), (34, .c (.sl 62 t_impl_Word y0)), (35, .c (.int .i64 y1)), (36, .c (.int .i64 y2))]) [some (.box 3 [.int .i64 y3]), some (.own 64 t_impl_Out y4)]
theorem impl_HubOuts_eq (k : Nat) (a0 : V_impl_Hub) (a1 : V_impl_Node) : impl_HubOuts (k + 1) a0 a1 = 
 (impl_HubOk k a0).bind fun x0 => 
  cond (!x0) (some []) (
   (impl_NodeOk k a1).bind fun x1 => 
    cond (!x1) (some []) (
     cond (a1.1 != 0) (some []) (
      cond ((↑(List.length a0.2.2.2) : Int) != 2) (some []) (
       (slices_Clone_impl_Out_impl_Out k a1.2.2.2.2.2.2.1).bind fun x2 => impl_HubOuts_6 k k a0.2.2.2 ((↑(List.length a0.2.2.2) : Int)) 0 a1.2.2.2.1 x2)))) := by kernel_rfl
theorem impl_HubOuts_6_eq (k : Nat) (j : Nat) (y0 : List V_impl_Word) (y1 : Int) (y2 : Int) (y3 : Int) (y4 : List V_impl_Out) : impl_HubOuts_6 k (j + 1) y0 y1 y2 y3 y4 = 
 cond (decide (y2 < y1)) (
  cond (decide (0 ≤ y2)) (
   cond (decide (y2 < (↑y0.length : Int))) (
    cond (decide
  ((y4.length + List.length (y0.getD y2.toNat (dflt t_impl_Word)).2.2.2.2.2.2.2.2.2.2) * 40 ≤
    140737488351232)) (impl_HubOuts_6 k j y0 y1 (IntKind.i64.wrap (y2 + 1)) (imin y3 (y0.getD y2.toNat (dflt t_impl_Word)).2.2.2.2.2.2.1) (y4 ++ (y0.getD y2.toNat (dflt t_impl_Word)).2.2.2.2.2.2.2.2.2.2)) (none)) (none)) (none)) (
  (impl_pick_impl_Out_h0 k y4 y3).bind fun x0 => 
   (impl_OutSort k x0.1).bind fun x1 => some x1) := by kernel_rfl

noncomputable def laws_eqOut (k : Nat) (a0 : V_impl_Out) (a1 : V_impl_Out) : Option V_bool := evalT E k 38 t_bool [inp t_impl_Out a0, inp t_impl_Out a1] []
theorem laws_eqOut_eq (k : Nat) (a0 : V_impl_Out) (a1 : V_impl_Out) : laws_eqOut (k + 1) a0 a1 = 
 cond (a0.1 != a1.1) (some false) (
  cond (a0.2.1 != a1.2.1) (some false) (
   cond (a0.2.2.1 != a1.2.2.1) (some false) (
    cond (a0.2.2.2.1 != a1.2.2.2.1) (some false) (
     cond (a0.2.2.2.2 != a1.2.2.2.2) (some false) (some true))))) := by kernel_rfl

noncomputable def laws_eqOutS (k : Nat) (a0 : V_sl_impl_Out) (a1 : V_sl_impl_Out) : Option V_bool := evalT E k 10 t_bool [inp t_sl_impl_Out a0, inp t_sl_impl_Out a1] []
noncomputable def laws_eqOutS_4 (k : Nat) (j : Nat) (y0 : List V_impl_Out) (y1 : List V_impl_Out) (y2 : Int) : Option V_bool := loopAt E 10 t_bool [true, true, false, true, false] [] [] k [] j (mkS 27 [(0, .c (.sl 64 t_impl_Out y0)), (1, .c (.sl 64 t_impl_Out y1)), (5, .c (.int .i64 y2))]) []
theorem laws_eqOutS_eq (k : Nat) (a0 : V_sl_impl_Out) (a1 : V_sl_impl_Out) : laws_eqOutS (k + 1) a0 a1 = 
 cond ((↑(List.length a0) : Int) != (↑(List.length a1) : Int)) (some false) (laws_eqOutS_4 k k a0 a1 0) := by kernel_rfl
theorem laws_eqOutS_4_eq (k : Nat) (j : Nat) (y0 : List V_impl_Out) (y1 : List V_impl_Out) (y2 : Int) : laws_eqOutS_4 k (j + 1) y0 y1 y2 = 
 cond (decide (y2 < (↑y0.length : Int))) (
  cond (decide (0 ≤ y2)) (
   cond (decide (y2 < (↑y0.length : Int))) (
    cond (decide (0 ≤ y2)) (
     cond (decide (y2 < (↑y1.length : Int))) (
      (laws_eqOut k (y0.getD y2.toNat (dflt t_impl_Out)) (y1.getD y2.toNat (dflt t_impl_Out))).bind fun x0 => 
       cond (!x0) (some false) (laws_eqOutS_4 k j y0 y1 (IntKind.i64.wrap (y2 + 1)))) (none)) (none)) (none)) (none)) (some true) := by kernel_rfl

noncomputable def laws_eqIntS (k : Nat) (a0 : V_sl_int) (a1 : V_sl_int) : Option V_bool := evalT E k 43 t_bool [inp t_sl_int a0, inp t_sl_int a1] []
noncomputable def laws_eqIntS_4 (k : Nat) (j : Nat) (y0 : List V_int) (y1 : List V_int) (y2 : Int) : Option V_bool := loopAt E 43 t_bool [true, true, false, true, false] [] [] k [] j (mkS 26 [(0, .c (.sl 3 t_int y0)), (1, .c (.sl 3 t_int y1)), (5, .c (.int .i64 y2))]) []
theorem laws_eqIntS_eq (k : Nat) (a0 : V_sl_int) (a1 : V_sl_int) : laws_eqIntS (k + 1) a0 a1 = 
 cond ((↑(List.length a0) : Int) != (↑(List.length a1) : Int)) (some false) (laws_eqIntS_4 k k a0 a1 0) := by kernel_rfl
theorem laws_eqIntS_4_eq (k : Nat) (j : Nat) (y0 : List V_int) (y1 : List V_int) (y2 : Int) : laws_eqIntS_4 k (j + 1) y0 y1 y2 = 
 cond (decide (y2 < (↑y0.length : Int))) (
  cond (decide (0 ≤ y2)) (
   cond (decide (y2 < (↑y0.length : Int))) (
    cond (decide (0 ≤ y2)) (
     cond (decide (y2 < (↑y1.length : Int))) (
      cond (y0.getD y2.toNat (dflt t_int) != y1.getD y2.toNat (dflt t_int)) (some false) (laws_eqIntS_4 k j y0 y1 (IntKind.i64.wrap (y2 + 1)))) (none)) (none)) (none)) (none)) (some true) := by kernel_rfl

noncomputable def laws_eqEvent (k : Nat) (a0 : V_impl_Event) (a1 : V_impl_Event) : Option V_bool := evalT E k 83 t_bool [inp t_impl_Event a0, inp t_impl_Event a1] []
theorem laws_eqEvent_eq (k : Nat) (a0 : V_impl_Event) (a1 : V_impl_Event) : laws_eqEvent (k + 1) a0 a1 = 
 cond (a0.1 != a1.1) (some false) (
  cond (a0.2.1 != a1.2.1) (some false) (
   cond (a0.2.2.1 != a1.2.2.1) (some false) (
    cond (a0.2.2.2.1 != a1.2.2.2.1) (some false) (
     cond (a0.2.2.2.2.1 != a1.2.2.2.2.1) (some false) (
      cond (a0.2.2.2.2.2.1 != a1.2.2.2.2.2.1) (some false) (
       cond (a0.2.2.2.2.2.2 != a1.2.2.2.2.2.2) (some false) (some true))))))) := by kernel_rfl

noncomputable def laws_eqEventS (k : Nat) (a0 : V_sl_impl_Event) (a1 : V_sl_impl_Event) : Option V_bool := evalT E k 41 t_bool [inp t_sl_impl_Event a0, inp t_sl_impl_Event a1] []
noncomputable def laws_eqEventS_4 (k : Nat) (j : Nat) (y0 : List V_impl_Event) (y1 : List V_impl_Event) (y2 : Int) : Option V_bool := loopAt E 41 t_bool [true, true, false, true, false] [] [] k [] j (mkS 27 [(0, .c (.sl 112 t_impl_Event y0)), (1, .c (.sl 112 t_impl_Event y1)), (5, .c (.int .i64 y2))]) []
theorem laws_eqEventS_eq (k : Nat) (a0 : V_sl_impl_Event) (a1 : V_sl_impl_Event) : laws_eqEventS (k + 1) a0 a1 = 
 cond ((↑(List.length a0) : Int) != (↑(List.length a1) : Int)) (some false) (laws_eqEventS_4 k k a0 a1 0) := by kernel_rfl
theorem laws_eqEventS_4_eq (k : Nat) (j : Nat) (y0 : List V_impl_Event) (y1 : List V_impl_Event) (y2 : Int) : laws_eqEventS_4 k (j + 1) y0 y1 y2 = 
 cond (decide (y2 < (↑y0.length : Int))) (
  cond (decide (0 ≤ y2)) (
   cond (decide (y2 < (↑y0.length : Int))) (
    cond (decide (0 ≤ y2)) (
     cond (decide (y2 < (↑y1.length : Int))) (
      (laws_eqEvent k (y0.getD y2.toNat (dflt t_impl_Event)) (y1.getD y2.toNat (dflt t_impl_Event))).bind fun x0 => 
       cond (!x0) (some false) (laws_eqEventS_4 k j y0 y1 (IntKind.i64.wrap (y2 + 1)))) (none)) (none)) (none)) (none)) (some true) := by kernel_rfl

noncomputable def laws_eqWord (k : Nat) (a0 : V_impl_Word) (a1 : V_impl_Word) : Option V_bool := evalT E k 81 t_bool [inp t_impl_Word a0, inp t_impl_Word a1] []
theorem laws_eqWord_eq (k : Nat) (a0 : V_impl_Word) (a1 : V_impl_Word) : laws_eqWord (k + 1) a0 a1 = 
 cond (a0.1 != a1.1) (some false) (
  cond (a0.2.1 != a1.2.1) (some false) (
   cond (a0.2.2.1 != a1.2.2.1) (some false) (
    cond (a0.2.2.2.1 != a1.2.2.2.1) (some false) (
     cond (a0.2.2.2.2.1 != a1.2.2.2.2.1) (some false) (
      cond (a0.2.2.2.2.2.1 != a1.2.2.2.2.2.1) (some false) (
       cond (a0.2.2.2.2.2.2.1 != a1.2.2.2.2.2.2.1) (some false) (
        (laws_eqIntS k a0.2.2.2.2.2.2.2.1 a1.2.2.2.2.2.2.2.1).bind fun x0 => 
         cond (!x0) (some false) (
          (laws_eqIntS k a0.2.2.2.2.2.2.2.2.1 a1.2.2.2.2.2.2.2.2.1).bind fun x1 => 
           cond (!x1) (some false) (
            (laws_eqEventS k a0.2.2.2.2.2.2.2.2.2.1 a1.2.2.2.2.2.2.2.2.2.1).bind fun x2 => 
             cond (!x2) (some false) (
              (laws_eqOutS k a0.2.2.2.2.2.2.2.2.2.2 a1.2.2.2.2.2.2.2.2.2.2).bind fun x3 => 
               cond (!x3) (some false) (some true))))))))))) := by kernel_rfl

noncomputable def laws_eqWordS (k : Nat) (a0 : V_sl_impl_Word) (a1 : V_sl_impl_Word) : Option V_bool := evalT E k 39 t_bool [inp t_sl_impl_Word a0, inp t_sl_impl_Word a1] []
noncomputable def laws_eqWordS_4 (k : Nat) (j : Nat) (y0 : List V_impl_Word) (y1 : List V_impl_Word) (y2 : Int) : Option V_bool := loopAt E 39 t_bool [true, true, false, true, false] [] [] k [] j (mkS 27 [(0, .c (.sl 62 t_impl_Word y0)), (1, .c (.sl 62 t_impl_Word y1)), (5, .c (.int .i64 y2))]) []
theorem laws_eqWordS_eq (k : Nat) (a0 : V_sl_impl_Word) (a1 : V_sl_impl_Word) : laws_eqWordS (k + 1) a0 a1 = 
 cond ((↑(List.length a0) : Int) != (↑(List.length a1) : Int)) (some false) (laws_eqWordS_4 k k a0 a1 0) := by kernel_rfl
theorem laws_eqWordS_4_eq (k : Nat) (j : Nat) (y0 : List V_impl_Word) (y1 : List V_impl_Word) (y2 : Int) : laws_eqWordS_4 k (j + 1) y0 y1 y2 = 
 cond (decide (y2 < (↑y0.length : Int))) (
  cond (decide (0 ≤ y2)) (
   cond (decide (y2 < (↑y0.length : Int))) (
    cond (decide (0 ≤ y2)) (
     cond (decide (y2 < (↑y1.length : Int))) (
      (laws_eqWord k (y0.getD y2.toNat (dflt t_impl_Word)) (y1.getD y2.toNat (dflt t_impl_Word))).bind fun x0 => 
       cond (!x0) (some false) (laws_eqWordS_4 k j y0 y1 (IntKind.i64.wrap (y2 + 1)))) (none)) (none)) (none)) (none)) (some true) := by kernel_rfl

noncomputable def laws_eqHub (k : Nat) (a0 : V_impl_Hub) (a1 : V_impl_Hub) : Option V_bool := evalT E k 11 t_bool [inp t_impl_Hub a0, inp t_impl_Hub a1] []
theorem laws_eqHub_eq (k : Nat) (a0 : V_impl_Hub) (a1 : V_impl_Hub) : laws_eqHub (k + 1) a0 a1 = 
 cond (a0.1 != a1.1) (some false) (
  (laws_eqWordS k a0.2.1 a1.2.1).bind fun x0 => 
   cond (!x0) (some false) (
    (laws_eqWordS k a0.2.2.1 a1.2.2.1).bind fun x1 => 
     cond (!x1) (some false) (
      (laws_eqWordS k a0.2.2.2 a1.2.2.2).bind fun x2 => 
       cond (!x2) (some false) (some true)))) := by kernel_rfl

noncomputable def laws_eqState (k : Nat) (a0 : V_impl_State) (a1 : V_impl_State) : Option V_bool := evalT E k 115 t_bool [inp t_impl_State a0, inp t_impl_State a1] []
theorem laws_eqState_eq (k : Nat) (a0 : V_impl_State) (a1 : V_impl_State) : laws_eqState (k + 1) a0 a1 = 
 cond (a0.1 != a1.1) (some false) (
  cond (a0.2.1 != a1.2.1) (some false) (
   cond (a0.2.2 != a1.2.2) (some false) (some true))) := by kernel_rfl

noncomputable def laws_eqPast (k : Nat) (a0 : V_impl_Past) (a1 : V_impl_Past) : Option V_bool := evalT E k 135 t_bool [inp t_impl_Past a0, inp t_impl_Past a1] []
theorem laws_eqPast_eq (k : Nat) (a0 : V_impl_Past) (a1 : V_impl_Past) : laws_eqPast (k + 1) a0 a1 = 
 (laws_eqEvent k a0.1 a1.1).bind fun x0 => 
  cond (!x0) (some false) (
   (laws_eqState k a0.2.1 a1.2.1).bind fun x1 => 
    cond (!x1) (some false) (
     (laws_eqEventS k a0.2.2.1 a1.2.2.1).bind fun x2 => 
      cond (!x2) (some false) (
       (laws_eqOutS k a0.2.2.2 a1.2.2.2).bind fun x3 => 
        cond (!x3) (some false) (some true)))) := by kernel_rfl

noncomputable def laws_eqPastS (k : Nat) (a0 : V_sl_impl_Past) (a1 : V_sl_impl_Past) : Option V_bool := evalT E k 116 t_bool [inp t_sl_impl_Past a0, inp t_sl_impl_Past a1] []
noncomputable def laws_eqPastS_4 (k : Nat) (j : Nat) (y0 : List V_impl_Past) (y1 : List V_impl_Past) (y2 : Int) : Option V_bool := loopAt E 116 t_bool [true, true, false, true, false] [] [] k [] j (mkS 27 [(0, .c (.sl 152 t_impl_Past y0)), (1, .c (.sl 152 t_impl_Past y1)), (5, .c (.int .i64 y2))]) []
theorem laws_eqPastS_eq (k : Nat) (a0 : V_sl_impl_Past) (a1 : V_sl_impl_Past) : laws_eqPastS (k + 1) a0 a1 = 
 cond ((↑(List.length a0) : Int) != (↑(List.length a1) : Int)) (some false) (laws_eqPastS_4 k k a0 a1 0) := by kernel_rfl
theorem laws_eqPastS_4_eq (k : Nat) (j : Nat) (y0 : List V_impl_Past) (y1 : List V_impl_Past) (y2 : Int) : laws_eqPastS_4 k (j + 1) y0 y1 y2 = 
 cond (decide (y2 < (↑y0.length : Int))) (
  cond (decide (0 ≤ y2)) (
   cond (decide (y2 < (↑y0.length : Int))) (
    cond (decide (0 ≤ y2)) (
     cond (decide (y2 < (↑y1.length : Int))) (
      (laws_eqPast k (y0.getD y2.toNat (dflt t_impl_Past)) (y1.getD y2.toNat (dflt t_impl_Past))).bind fun x0 => 
       cond (!x0) (some false) (laws_eqPastS_4 k j y0 y1 (IntKind.i64.wrap (y2 + 1)))) (none)) (none)) (none)) (none)) (some true) := by kernel_rfl

noncomputable def laws_eqLane (k : Nat) (a0 : V_impl_Lane) (a1 : V_impl_Lane) : Option V_bool := evalT E k 82 t_bool [inp t_impl_Lane a0, inp t_impl_Lane a1] []
theorem laws_eqLane_eq (k : Nat) (a0 : V_impl_Lane) (a1 : V_impl_Lane) : laws_eqLane (k + 1) a0 a1 = 
 cond (a0.1 != a1.1) (some false) (
  (laws_eqState k a0.2.1 a1.2.1).bind fun x0 => 
   cond (!x0) (some false) (
    (laws_eqPastS k a0.2.2 a1.2.2).bind fun x1 => 
     cond (!x1) (some false) (some true))) := by kernel_rfl

noncomputable def laws_eqLaneS (k : Nat) (a0 : V_sl_impl_Lane) (a1 : V_sl_impl_Lane) : Option V_bool := evalT E k 40 t_bool [inp t_sl_impl_Lane a0, inp t_sl_impl_Lane a1] []
noncomputable def laws_eqLaneS_4 (k : Nat) (j : Nat) (y0 : List V_impl_Lane) (y1 : List V_impl_Lane) (y2 : Int) : Option V_bool := loopAt E 40 t_bool [true, true, false, true, false] [] [] k [] j (mkS 27 [(0, .c (.sl 106 t_impl_Lane y0)), (1, .c (.sl 106 t_impl_Lane y1)), (5, .c (.int .i64 y2))]) []
theorem laws_eqLaneS_eq (k : Nat) (a0 : V_sl_impl_Lane) (a1 : V_sl_impl_Lane) : laws_eqLaneS (k + 1) a0 a1 = 
 cond ((↑(List.length a0) : Int) != (↑(List.length a1) : Int)) (some false) (laws_eqLaneS_4 k k a0 a1 0) := by kernel_rfl
theorem laws_eqLaneS_4_eq (k : Nat) (j : Nat) (y0 : List V_impl_Lane) (y1 : List V_impl_Lane) (y2 : Int) : laws_eqLaneS_4 k (j + 1) y0 y1 y2 = 
 cond (decide (y2 < (↑y0.length : Int))) (
  cond (decide (0 ≤ y2)) (
   cond (decide (y2 < (↑y0.length : Int))) (
    cond (decide (0 ≤ y2)) (
     cond (decide (y2 < (↑y1.length : Int))) (
      (laws_eqLane k (y0.getD y2.toNat (dflt t_impl_Lane)) (y1.getD y2.toNat (dflt t_impl_Lane))).bind fun x0 => 
       cond (!x0) (some false) (laws_eqLaneS_4 k j y0 y1 (IntKind.i64.wrap (y2 + 1)))) (none)) (none)) (none)) (none)) (some true) := by kernel_rfl

noncomputable def laws_eqView (k : Nat) (a0 : V_impl_View) (a1 : V_impl_View) : Option V_bool := evalT E k 84 t_bool [inp t_impl_View a0, inp t_impl_View a1] []
theorem laws_eqView_eq (k : Nat) (a0 : V_impl_View) (a1 : V_impl_View) : laws_eqView (k + 1) a0 a1 = 
 cond (a0.1 != a1.1) (some false) (
  cond (a0.2.1 != a1.2.1) (some false) (
   (laws_eqEventS k a0.2.2 a1.2.2).bind fun x0 => 
    cond (!x0) (some false) (some true))) := by kernel_rfl

noncomputable def laws_eqViewS (k : Nat) (a0 : V_sl_impl_View) (a1 : V_sl_impl_View) : Option V_bool := evalT E k 42 t_bool [inp t_sl_impl_View a0, inp t_sl_impl_View a1] []
noncomputable def laws_eqViewS_4 (k : Nat) (j : Nat) (y0 : List V_impl_View) (y1 : List V_impl_View) (y2 : Int) : Option V_bool := loopAt E 42 t_bool [true, true, false, true, false] [] [] k [] j (mkS 27 [(0, .c (.sl 118 t_impl_View y0)), (1, .c (.sl 118 t_impl_View y1)), (5, .c (.int .i64 y2))]) []
theorem laws_eqViewS_eq (k : Nat) (a0 : V_sl_impl_View) (a1 : V_sl_impl_View) : laws_eqViewS (k + 1) a0 a1 = 
 cond ((↑(List.length a0) : Int) != (↑(List.length a1) : Int)) (some false) (laws_eqViewS_4 k k a0 a1 0) := by kernel_rfl
theorem laws_eqViewS_4_eq (k : Nat) (j : Nat) (y0 : List V_impl_View) (y1 : List V_impl_View) (y2 : Int) : laws_eqViewS_4 k (j + 1) y0 y1 y2 = 
 cond (decide (y2 < (↑y0.length : Int))) (
  cond (decide (0 ≤ y2)) (
   cond (decide (y2 < (↑y0.length : Int))) (
    cond (decide (0 ≤ y2)) (
     cond (decide (y2 < (↑y1.length : Int))) (
      (laws_eqView k (y0.getD y2.toNat (dflt t_impl_View)) (y1.getD y2.toNat (dflt t_impl_View))).bind fun x0 => 
       cond (!x0) (some false) (laws_eqViewS_4 k j y0 y1 (IntKind.i64.wrap (y2 + 1)))) (none)) (none)) (none)) (none)) (some true) := by kernel_rfl

noncomputable def laws_eqNode (k : Nat) (a0 : V_impl_Node) (a1 : V_impl_Node) : Option V_bool := evalT E k 12 t_bool [inp t_impl_Node a0, inp t_impl_Node a1] []
theorem laws_eqNode_eq (k : Nat) (a0 : V_impl_Node) (a1 : V_impl_Node) : laws_eqNode (k + 1) a0 a1 = 
 cond (a0.1 != a1.1) (some false) (
  cond (!a0.2.1 == a1.2.1) (some false) (
   cond (a0.2.2.1 != a1.2.2.1) (some false) (
    cond (a0.2.2.2.1 != a1.2.2.2.1) (some false) (
     (laws_eqLaneS k a0.2.2.2.2.1 a1.2.2.2.2.1).bind fun x0 => 
      cond (!x0) (some false) (
       (laws_eqEventS k a0.2.2.2.2.2.1 a1.2.2.2.2.2.1).bind fun x1 => 
        cond (!x1) (some false) (
         (laws_eqOutS k a0.2.2.2.2.2.2.1 a1.2.2.2.2.2.2.1).bind fun x2 => 
          cond (!x2) (some false) (
           cond (a0.2.2.2.2.2.2.2.1 != a1.2.2.2.2.2.2.2.1) (some false) (
            cond (a0.2.2.2.2.2.2.2.2.1 != a1.2.2.2.2.2.2.2.2.1) (some false) (
             (laws_eqViewS k a0.2.2.2.2.2.2.2.2.2.1 a1.2.2.2.2.2.2.2.2.2.1).bind fun x3 => 
              cond (!x3) (some false) (
               (laws_eqIntS k a0.2.2.2.2.2.2.2.2.2.2.1 a1.2.2.2.2.2.2.2.2.2.2.1).bind fun x4 => 
                cond (!x4) (some false) (
                 cond (a0.2.2.2.2.2.2.2.2.2.2.2.1 != a1.2.2.2.2.2.2.2.2.2.2.2.1) (some false) (
                  cond (a0.2.2.2.2.2.2.2.2.2.2.2.2 != a1.2.2.2.2.2.2.2.2.2.2.2.2) (some false) (some true))))))))))))) := by kernel_rfl

noncomputable def laws_markIntS_h0 (k : Nat) (y0 : V_int) (y1 : List V_int) : Option ((V_int × (List V_int × Unit))) := evalT E k 48 (.pair t_int (.pair (.ow 3 t_int) .unit)) [.c (.o 0), inp t_int y0] [some (.own 3 t_int y1)]
noncomputable def laws_markIntS_h0_2 (k : Nat) (j : Nat) (y0 : Int) (y1 : Int) (y2 : List V_int) : Option ((V_int × (List V_int × Unit))) := loopAt E 48 (.pair t_int (.pair (.ow 3 t_int) .unit)) [true, false, true, false] [none] [0] k [] j (mkS 19 [(0, .c (.o 0)), (1, .c (.int .i64 y0)), (5, .c (.int .i64 y1))]) [some (.own 3 t_int y2)]
theorem laws_markIntS_h0_eq (k : Nat) (y0 : V_int) (y1 : List V_int) : laws_markIntS_h0 (k + 1) y0 y1 = laws_markIntS_h0_2 k k y0 0 y1 := by kernel_rfl
theorem laws_markIntS_h0_2_eq (k : Nat) (j : Nat) (y0 : Int) (y1 : Int) (y2 : List V_int) : laws_markIntS_h0_2 k (j + 1) y0 y1 y2 = 
 cond (decide (y1 < (↑y2.length : Int))) (
  cond (decide (0 ≤ y1)) (
   cond (decide (y1 < (↑y2.length : Int))) (
    cond (decide (y1.toNat < y2.length)) (laws_markIntS_h0_2 k j (IntKind.i64.wrap (y0 + 1)) (IntKind.i64.wrap (y1 + 1)) (y2.set y1.toNat y0)) (none)) (none)) (none)) (some ((y0, y2, ()))) := by kernel_rfl

noncomputable def laws_markEventS_h0 (k : Nat) (y0 : V_int) (y1 : List V_impl_Event) : Option ((V_int × (List V_impl_Event × Unit))) := evalT E k 46 (.pair t_int (.pair (.ow 112 t_impl_Event) .unit)) [.c (.o 0), inp t_int y0] [some (.own 112 t_impl_Event y1)]
noncomputable def laws_markEventS_h0_2 (k : Nat) (j : Nat) (y0 : Int) (y1 : Int) (y2 : List V_impl_Event) : Option ((V_int × (List V_impl_Event × Unit))) := loopAt E 46 (.pair t_int (.pair (.ow 112 t_impl_Event) .unit)) [true, false, true, false] [none] [0] k [] j (mkS 62 [(0, .c (.o 0)), (1, .c (.int .i64 y0)), (5, .c (.int .i64 y1))]) [some (.own 112 t_impl_Event y2)]
theorem laws_markEventS_h0_eq (k : Nat) (y0 : V_int) (y1 : List V_impl_Event) : laws_markEventS_h0 (k + 1) y0 y1 = laws_markEventS_h0_2 k k y0 0 y1 := by kernel_rfl
theorem laws_markEventS_h0_2_eq (k : Nat) (j : Nat) (y0 : Int) (y1 : Int) (y2 : List V_impl_Event) : laws_markEventS_h0_2 k (j + 1) y0 y1 y2 = 
 cond (decide (y1 < (↑y2.length : Int))) (
  cond (decide (0 ≤ y1)) (
   cond (decide (y1 < (↑y2.length : Int))) (
    cond (decide (y1.toNat < y2.length)) (
     cond (decide (0 ≤ y1)) (
      cond (decide
  (y1 <
    (↑(y2.modify y1.toNat fun x =>
            (y0, x.2.1, x.2.2.1, x.2.2.2.1, x.2.2.2.2.1, x.2.2.2.2.2.1,
              x.2.2.2.2.2.2)).length :
      Int))) (
       cond (decide
  (y1.toNat <
    (y2.modify y1.toNat fun x =>
        (y0, x.2.1, x.2.2.1, x.2.2.2.1, x.2.2.2.2.1, x.2.2.2.2.2.1,
          x.2.2.2.2.2.2)).length)) (
        cond (decide (0 ≤ y1)) (
         cond (decide
  (y1 <
    (↑((y2.modify y1.toNat fun x =>
                (y0, x.2.1, x.2.2.1, x.2.2.2.1, x.2.2.2.2.1, x.2.2.2.2.2.1,
                  x.2.2.2.2.2.2)).modify
            y1.toNat fun x =>
            (x.1, IntKind.i64.wrap (y0 + 1), x.2.2.1, x.2.2.2.1, x.2.2.2.2.1,
              x.2.2.2.2.2.1, x.2.2.2.2.2.2)).length :
      Int))) (
          cond (decide
  (y1.toNat <
    ((y2.modify y1.toNat fun x =>
            (y0, x.2.1, x.2.2.1, x.2.2.2.1, x.2.2.2.2.1, x.2.2.2.2.2.1,
              x.2.2.2.2.2.2)).modify
        y1.toNat fun x =>
        (x.1, IntKind.i64.wrap (y0 + 1), x.2.2.1, x.2.2.2.1, x.2.2.2.2.1,
          x.2.2.2.2.2.1, x.2.2.2.2.2.2)).length)) (
           cond (decide (0 ≤ y1)) (
            cond (decide
  (y1 <
    (↑(((y2.modify y1.toNat fun x =>
                    (y0, x.2.1, x.2.2.1, x.2.2.2.1, x.2.2.2.2.1, x.2.2.2.2.2.1,
                      x.2.2.2.2.2.2)).modify
                y1.toNat fun x =>
                (x.1, IntKind.i64.wrap (y0 + 1), x.2.2.1, x.2.2.2.1, x.2.2.2.2.1,
                  x.2.2.2.2.2.1, x.2.2.2.2.2.2)).modify
            y1.toNat fun x =>
            (x.1, x.2.1, IntKind.i64.wrap (IntKind.i64.wrap (y0 + 1) + 1), x.2.2.2.1,
              x.2.2.2.2.1, x.2.2.2.2.2.1, x.2.2.2.2.2.2)).length :
      Int))) (
             cond (decide
  (y1.toNat <
    (((y2.modify y1.toNat fun x =>
                (y0, x.2.1, x.2.2.1, x.2.2.2.1, x.2.2.2.2.1, x.2.2.2.2.2.1,
                  x.2.2.2.2.2.2)).modify
            y1.toNat fun x =>
            (x.1, IntKind.i64.wrap (y0 + 1), x.2.2.1, x.2.2.2.1, x.2.2.2.2.1,
              x.2.2.2.2.2.1, x.2.2.2.2.2.2)).modify
        y1.toNat fun x =>
        (x.1, x.2.1, IntKind.i64.wrap (IntKind.i64.wrap (y0 + 1) + 1), x.2.2.2.1, x.2.2.2.2.1,
          x.2.2.2.2.2.1, x.2.2.2.2.2.2)).length)) (
              cond (decide (0 ≤ y1)) (
               cond (decide
  (y1 <
    (↑((((y2.modify y1.toNat fun x =>
                        (y0, x.2.1, x.2.2.1, x.2.2.2.1, x.2.2.2.2.1,
                          x.2.2.2.2.2.1, x.2.2.2.2.2.2)).modify
                    y1.toNat fun x =>
                    (x.1, IntKind.i64.wrap (y0 + 1), x.2.2.1, x.2.2.2.1, x.2.2.2.2.1,
                      x.2.2.2.2.2.1, x.2.2.2.2.2.2)).modify
                y1.toNat fun x =>
                (x.1, x.2.1, IntKind.i64.wrap (IntKind.i64.wrap (y0 + 1) + 1), x.2.2.2.1,
                  x.2.2.2.2.1, x.2.2.2.2.2.1, x.2.2.2.2.2.2)).modify
            y1.toNat fun x =>
            (x.1, x.2.1, x.2.2.1, IntKind.i64.wrap (IntKind.i64.wrap (IntKind.i64.wrap (y0 + 1) + 1) + 1),
              x.2.2.2.2.1, x.2.2.2.2.2.1, x.2.2.2.2.2.2)).length :
      Int))) (
                cond (decide
  (y1.toNat <
    ((((y2.modify y1.toNat fun x =>
                    (y0, x.2.1, x.2.2.1, x.2.2.2.1, x.2.2.2.2.1, x.2.2.2.2.2.1,
                      x.2.2.2.2.2.2)).modify
                y1.toNat fun x =>
                (x.1, IntKind.i64.wrap (y0 + 1), x.2.2.1, x.2.2.2.1, x.2.2.2.2.1,
                  x.2.2.2.2.2.1, x.2.2.2.2.2.2)).modify
            y1.toNat fun x =>
            (x.1, x.2.1, IntKind.i64.wrap (IntKind.i64.wrap (y0 + 1) + 1), x.2.2.2.1,
              x.2.2.2.2.1, x.2.2.2.2.2.1, x.2.2.2.2.2.2)).modify
        y1.toNat fun x =>
        (x.1, x.2.1, x.2.2.1, IntKind.i64.wrap (IntKind.i64.wrap (IntKind.i64.wrap (y0 + 1) + 1) + 1),
          x.2.2.2.2.1, x.2.2.2.2.2.1, x.2.2.2.2.2.2)).length)) (
                 cond (decide (0 ≤ y1)) (
                  cond (decide
  (y1 <
    (↑(((((y2.modify y1.toNat fun x =>
                            (y0, x.2.1, x.2.2.1, x.2.2.2.1, x.2.2.2.2.1,
                              x.2.2.2.2.2.1, x.2.2.2.2.2.2)).modify
                        y1.toNat fun x =>
                        (x.1, IntKind.i64.wrap (y0 + 1), x.2.2.1, x.2.2.2.1, x.2.2.2.2.1,
                          x.2.2.2.2.2.1, x.2.2.2.2.2.2)).modify
                    y1.toNat fun x =>
                    (x.1, x.2.1, IntKind.i64.wrap (IntKind.i64.wrap (y0 + 1) + 1), x.2.2.2.1,
                      x.2.2.2.2.1, x.2.2.2.2.2.1, x.2.2.2.2.2.2)).modify
                y1.toNat fun x =>
                (x.1, x.2.1, x.2.2.1,
                  IntKind.i64.wrap (IntKind.i64.wrap (IntKind.i64.wrap (y0 + 1) + 1) + 1), x.2.2.2.2.1,
                  x.2.2.2.2.2.1, x.2.2.2.2.2.2)).modify
            y1.toNat fun x =>
            (x.1, x.2.1, x.2.2.1, x.2.2.2.1,
              IntKind.i64.wrap (IntKind.i64.wrap (IntKind.i64.wrap (IntKind.i64.wrap (y0 + 1) + 1) + 1) + 1),
              x.2.2.2.2.2.1, x.2.2.2.2.2.2)).length :
      Int))) (
                   cond (decide
  (y1.toNat <
    (((((y2.modify y1.toNat fun x =>
                        (y0, x.2.1, x.2.2.1, x.2.2.2.1, x.2.2.2.2.1,
                          x.2.2.2.2.2.1, x.2.2.2.2.2.2)).modify
                    y1.toNat fun x =>
                    (x.1, IntKind.i64.wrap (y0 + 1), x.2.2.1, x.2.2.2.1, x.2.2.2.2.1,
                      x.2.2.2.2.2.1, x.2.2.2.2.2.2)).modify
                y1.toNat fun x =>
                (x.1, x.2.1, IntKind.i64.wrap (IntKind.i64.wrap (y0 + 1) + 1), x.2.2.2.1,
                  x.2.2.2.2.1, x.2.2.2.2.2.1, x.2.2.2.2.2.2)).modify
            y1.toNat fun x =>
            (x.1, x.2.1, x.2.2.1, IntKind.i64.wrap (IntKind.i64.wrap (IntKind.i64.wrap (y0 + 1) + 1) + 1),
              x.2.2.2.2.1, x.2.2.2.2.2.1, x.2.2.2.2.2.2)).modify
        y1.toNat fun x =>
        (x.1, x.2.1, x.2.2.1, x.2.2.2.1,
          IntKind.i64.wrap (IntKind.i64.wrap (IntKind.i64.wrap (IntKind.i64.wrap (y0 + 1) + 1) + 1) + 1),
          x.2.2.2.2.2.1, x.2.2.2.2.2.2)).length)) (
                    cond (decide (0 ≤ y1)) (
                     cond (decide
  (y1 <
    (↑((((((y2.modify y1.toNat fun x =>
                                (y0, x.2.1, x.2.2.1, x.2.2.2.1, x.2.2.2.2.1,
                                  x.2.2.2.2.2.1, x.2.2.2.2.2.2)).modify
                            y1.toNat fun x =>
                            (x.1, IntKind.i64.wrap (y0 + 1), x.2.2.1, x.2.2.2.1, x.2.2.2.2.1,
                              x.2.2.2.2.2.1, x.2.2.2.2.2.2)).modify
                        y1.toNat fun x =>
                        (x.1, x.2.1, IntKind.i64.wrap (IntKind.i64.wrap (y0 + 1) + 1), x.2.2.2.1,
                          x.2.2.2.2.1, x.2.2.2.2.2.1, x.2.2.2.2.2.2)).modify
                    y1.toNat fun x =>
                    (x.1, x.2.1, x.2.2.1,
                      IntKind.i64.wrap (IntKind.i64.wrap (IntKind.i64.wrap (y0 + 1) + 1) + 1), x.2.2.2.2.1,
                      x.2.2.2.2.2.1, x.2.2.2.2.2.2)).modify
                y1.toNat fun x =>
                (x.1, x.2.1, x.2.2.1, x.2.2.2.1,
                  IntKind.i64.wrap (IntKind.i64.wrap (IntKind.i64.wrap (IntKind.i64.wrap (y0 + 1) + 1) + 1) + 1),
                  x.2.2.2.2.2.1, x.2.2.2.2.2.2)).modify
            y1.toNat fun x =>
            (x.1, x.2.1, x.2.2.1, x.2.2.2.1, x.2.2.2.2.1,
              IntKind.i64.wrap
                (IntKind.i64.wrap (IntKind.i64.wrap (IntKind.i64.wrap (IntKind.i64.wrap (y0 + 1) + 1) + 1) + 1) + 1),
              x.2.2.2.2.2.2)).length :
      Int))) (
                      cond (decide
  (y1.toNat <
    ((((((y2.modify y1.toNat fun x =>
                            (y0, x.2.1, x.2.2.1, x.2.2.2.1, x.2.2.2.2.1,
                              x.2.2.2.2.2.1, x.2.2.2.2.2.2)).modify
                        y1.toNat fun x =>
                        (x.1, IntKind.i64.wrap (y0 + 1), x.2.2.1, x.2.2.2.1, x.2.2.2.2.1,
                          x.2.2.2.2.2.1, x.2.2.2.2.2.2)).modify
                    y1.toNat fun x =>
                    (x.1, x.2.1, IntKind.i64.wrap (IntKind.i64.wrap (y0 + 1) + 1), x.2.2.2.1,
                      x.2.2.2.2.1, x.2.2.2.2.2.1, x.2.2.2.2.2.2)).modify
                y1.toNat fun x =>
                (x.1, x.2.1, x.2.2.1,
                  IntKind.i64.wrap (IntKind.i64.wrap (IntKind.i64.wrap (y0 + 1) + 1) + 1), x.2.2.2.2.1,
                  x.2.2.2.2.2.1, x.2.2.2.2.2.2)).modify
            y1.toNat fun x =>
            (x.1, x.2.1, x.2.2.1, x.2.2.2.1,
              IntKind.i64.wrap (IntKind.i64.wrap (IntKind.i64.wrap (IntKind.i64.wrap (y0 + 1) + 1) + 1) + 1),
              x.2.2.2.2.2.1, x.2.2.2.2.2.2)).modify
        y1.toNat fun x =>
        (x.1, x.2.1, x.2.2.1, x.2.2.2.1, x.2.2.2.2.1,
          IntKind.i64.wrap
            (IntKind.i64.wrap (IntKind.i64.wrap (IntKind.i64.wrap (IntKind.i64.wrap (y0 + 1) + 1) + 1) + 1) + 1),
          x.2.2.2.2.2.2)).length)) (laws_markEventS_h0_2 k j (IntKind.i64.wrap
  (IntKind.i64.wrap
      (IntKind.i64.wrap
          (IntKind.i64.wrap (IntKind.i64.wrap (IntKind.i64.wrap (IntKind.i64.wrap (y0 + 1) + 1) + 1) + 1) + 1) +
        1) +
    1)) (IntKind.i64.wrap (y1 + 1)) (((((((y2.modify y1.toNat fun x =>
                          (y0, x.2.1, x.2.2.1, x.2.2.2.1, x.2.2.2.2.1,
                            x.2.2.2.2.2.1, x.2.2.2.2.2.2)).modify
                      y1.toNat fun x =>
                      (x.1, IntKind.i64.wrap (y0 + 1), x.2.2.1, x.2.2.2.1, x.2.2.2.2.1,
                        x.2.2.2.2.2.1, x.2.2.2.2.2.2)).modify
                  y1.toNat fun x =>
                  (x.1, x.2.1, IntKind.i64.wrap (IntKind.i64.wrap (y0 + 1) + 1), x.2.2.2.1,
                    x.2.2.2.2.1, x.2.2.2.2.2.1, x.2.2.2.2.2.2)).modify
              y1.toNat fun x =>
              (x.1, x.2.1, x.2.2.1, IntKind.i64.wrap (IntKind.i64.wrap (IntKind.i64.wrap (y0 + 1) + 1) + 1),
                x.2.2.2.2.1, x.2.2.2.2.2.1, x.2.2.2.2.2.2)).modify
          y1.toNat fun x =>
          (x.1, x.2.1, x.2.2.1, x.2.2.2.1,
            IntKind.i64.wrap (IntKind.i64.wrap (IntKind.i64.wrap (IntKind.i64.wrap (y0 + 1) + 1) + 1) + 1),
            x.2.2.2.2.2.1, x.2.2.2.2.2.2)).modify
      y1.toNat fun x =>
      (x.1, x.2.1, x.2.2.1, x.2.2.2.1, x.2.2.2.2.1,
        IntKind.i64.wrap
          (IntKind.i64.wrap (IntKind.i64.wrap (IntKind.i64.wrap (IntKind.i64.wrap (y0 + 1) + 1) + 1) + 1) + 1),
        x.2.2.2.2.2.2)).modify
  y1.toNat fun x =>
  (x.1, x.2.1, x.2.2.1, x.2.2.2.1, x.2.2.2.2.1, x.2.2.2.2.2.1,
    IntKind.i64.wrap
      (IntKind.i64.wrap
          (IntKind.i64.wrap (IntKind.i64.wrap (IntKind.i64.wrap (IntKind.i64.wrap (y0 + 1) + 1) + 1) + 1) + 1) +
        1)))) (none)) (none)) (none)) (none)) (none)) (none)) (none)) (none)) (none)) (none)) (none)) (none)) (none)) (none)) (none)) (none)) (none)) (none)) (none)) (none)) (none)) (some ((y0, y2, ()))) := by kernel_rfl

noncomputable def laws_markOutS_h0 (k : Nat) (y0 : V_int) (y1 : List V_impl_Out) : Option ((V_int × (List V_impl_Out × Unit))) := evalT E k 15 (.pair t_int (.pair (.ow 64 t_impl_Out) .unit)) [.c (.o 0), inp t_int y0] [some (.own 64 t_impl_Out y1)]
noncomputable def laws_markOutS_h0_2 (k : Nat) (j : Nat) (y0 : Int) (y1 : Int) (y2 : List V_impl_Out) : Option ((V_int × (List V_impl_Out × Unit))) := loopAt E 15 (.pair t_int (.pair (.ow 64 t_impl_Out) .unit)) [true, false, true, false] [none] [0] k [] j (mkS 48 [(0, .c (.o 0)), (1, .c (.int .i64 y0)), (5, .c (.int .i64 y1))]) [some (.own 64 t_impl_Out y2)]
theorem laws_markOutS_h0_eq (k : Nat) (y0 : V_int) (y1 : List V_impl_Out) : laws_markOutS_h0 (k + 1) y0 y1 = laws_markOutS_h0_2 k k y0 0 y1 := by kernel_rfl
theorem laws_markOutS_h0_2_eq (k : Nat) (j : Nat) (y0 : Int) (y1 : Int) (y2 : List V_impl_Out) : laws_markOutS_h0_2 k (j + 1) y0 y1 y2 = 
 cond (decide (y1 < (↑y2.length : Int))) (
  cond (decide (0 ≤ y1)) (
   cond (decide (y1 < (↑y2.length : Int))) (
    cond (decide (y1.toNat < y2.length)) (
     cond (decide (0 ≤ y1)) (
      cond (decide
  (y1 <
    (↑(y2.modify y1.toNat fun x => (y0, x.2.1, x.2.2.1, x.2.2.2.1, x.2.2.2.2)).length : Int))) (
       cond (decide
  (y1.toNat < (y2.modify y1.toNat fun x => (y0, x.2.1, x.2.2.1, x.2.2.2.1, x.2.2.2.2)).length)) (
        cond (decide (0 ≤ y1)) (
         cond (decide
  (y1 <
    (↑((y2.modify y1.toNat fun x => (y0, x.2.1, x.2.2.1, x.2.2.2.1, x.2.2.2.2)).modify
            y1.toNat fun x =>
            (x.1, IntKind.i64.wrap (y0 + 1), x.2.2.1, x.2.2.2.1, x.2.2.2.2)).length :
      Int))) (
          cond (decide
  (y1.toNat <
    ((y2.modify y1.toNat fun x => (y0, x.2.1, x.2.2.1, x.2.2.2.1, x.2.2.2.2)).modify y1.toNat
        fun x => (x.1, IntKind.i64.wrap (y0 + 1), x.2.2.1, x.2.2.2.1, x.2.2.2.2)).length)) (
           cond (decide (0 ≤ y1)) (
            cond (decide
  (y1 <
    (↑(((y2.modify y1.toNat fun x => (y0, x.2.1, x.2.2.1, x.2.2.2.1, x.2.2.2.2)).modify
                y1.toNat fun x =>
                (x.1, IntKind.i64.wrap (y0 + 1), x.2.2.1, x.2.2.2.1, x.2.2.2.2)).modify
            y1.toNat fun x =>
            (x.1, x.2.1, IntKind.i64.wrap (IntKind.i64.wrap (y0 + 1) + 1), x.2.2.2.1,
              x.2.2.2.2)).length :
      Int))) (
             cond (decide
  (y1.toNat <
    (((y2.modify y1.toNat fun x => (y0, x.2.1, x.2.2.1, x.2.2.2.1, x.2.2.2.2)).modify y1.toNat
            fun x => (x.1, IntKind.i64.wrap (y0 + 1), x.2.2.1, x.2.2.2.1, x.2.2.2.2)).modify
        y1.toNat fun x =>
        (x.1, x.2.1, IntKind.i64.wrap (IntKind.i64.wrap (y0 + 1) + 1), x.2.2.2.1,
          x.2.2.2.2)).length)) (
              cond (decide (0 ≤ y1)) (
               cond (decide
  (y1 <
    (↑((((y2.modify y1.toNat fun x => (y0, x.2.1, x.2.2.1, x.2.2.2.1, x.2.2.2.2)).modify
                    y1.toNat fun x =>
                    (x.1, IntKind.i64.wrap (y0 + 1), x.2.2.1, x.2.2.2.1, x.2.2.2.2)).modify
                y1.toNat fun x =>
                (x.1, x.2.1, IntKind.i64.wrap (IntKind.i64.wrap (y0 + 1) + 1), x.2.2.2.1,
                  x.2.2.2.2)).modify
            y1.toNat fun x =>
            (x.1, x.2.1, x.2.2.1, IntKind.i64.wrap (IntKind.i64.wrap (IntKind.i64.wrap (y0 + 1) + 1) + 1),
              x.2.2.2.2)).length :
      Int))) (
                cond (decide
  (y1.toNat <
    ((((y2.modify y1.toNat fun x => (y0, x.2.1, x.2.2.1, x.2.2.2.1, x.2.2.2.2)).modify
                y1.toNat fun x =>
                (x.1, IntKind.i64.wrap (y0 + 1), x.2.2.1, x.2.2.2.1, x.2.2.2.2)).modify
            y1.toNat fun x =>
            (x.1, x.2.1, IntKind.i64.wrap (IntKind.i64.wrap (y0 + 1) + 1), x.2.2.2.1,
              x.2.2.2.2)).modify
        y1.toNat fun x =>
        (x.1, x.2.1, x.2.2.1, IntKind.i64.wrap (IntKind.i64.wrap (IntKind.i64.wrap (y0 + 1) + 1) + 1),
          x.2.2.2.2)).length)) (laws_markOutS_h0_2 k j (IntKind.i64.wrap (IntKind.i64.wrap (IntKind.i64.wrap (IntKind.i64.wrap (IntKind.i64.wrap (y0 + 1) + 1) + 1) + 1) + 1)) (IntKind.i64.wrap (y1 + 1)) (((((y2.modify y1.toNat fun x => (y0, x.2.1, x.2.2.1, x.2.2.2.1, x.2.2.2.2)).modify y1.toNat
              fun x => (x.1, IntKind.i64.wrap (y0 + 1), x.2.2.1, x.2.2.2.1, x.2.2.2.2)).modify
          y1.toNat fun x =>
          (x.1, x.2.1, IntKind.i64.wrap (IntKind.i64.wrap (y0 + 1) + 1), x.2.2.2.1,
            x.2.2.2.2)).modify
      y1.toNat fun x =>
      (x.1, x.2.1, x.2.2.1, IntKind.i64.wrap (IntKind.i64.wrap (IntKind.i64.wrap (y0 + 1) + 1) + 1),
        x.2.2.2.2)).modify
  y1.toNat fun x =>
  (x.1, x.2.1, x.2.2.1, x.2.2.2.1,
    IntKind.i64.wrap (IntKind.i64.wrap (IntKind.i64.wrap (IntKind.i64.wrap (y0 + 1) + 1) + 1) + 1)))) (none)) (none)) (none)) (none)) (none)) (none)) (none)) (none)) (none)) (none)) (none)) (none)) (none)) (none)) (none)) (some ((y0, y2, ()))) := by kernel_rfl

end Go.Proofs.YtjhldhlmckbapaaGreat.SFnExactHubOuts
