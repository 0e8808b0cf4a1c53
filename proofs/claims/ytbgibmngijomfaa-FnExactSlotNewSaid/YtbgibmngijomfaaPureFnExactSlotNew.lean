/- Proved: the program's new slot disk is the reference's, and what is written into it stays its own. No condition. -/
import Derived.Test.YtbgibmngijomfaaFFnExactSlotNew
import Derived.Test.YtbgibmngijomfaaPl
set_option linter.unusedVariables false
namespace Go.Proofs.Ytbgibmngijomfaa.SFnExactSlotNew
open Go Go.Sx Go.Pl
abbrev Sl := Int × Int × List (List Int)
abbrev Sd := Sl × Sl
def rows : List (List Int) := List.replicate 160 []
def newM : Sd := ((0, 0, rows), (0, 0, rows))
theorem rows_len : rows.length = 160 := List.length_replicate
theorem rows_get (i : Nat) : rows.getD i (dflt t_sl_int) = [] := by
  show (List.replicate 160 ([] : List Int)).getD i [] = []
  rw [List.getD_eq_getElem?_getD, List.getElem?_replicate]
  split <;> rfl
theorem specNew : Ev (fun k => spec_SlotNew k) newM := by
  refine Ev.step (fun k => spec_SlotNew_eq k) ?_
  refine EvL.ev (L := fun k j => spec_SlotNew_3 k j 0 0 0 0 0 0 0 0 0 [] [] [] []) ?_
  refine loop_up (fun k j i => spec_SlotNew_3 k j (i : Int) 0 0 0 0 0 0 0 0 [] [] (List.replicate i []) (List.replicate i [])) 160 (fun _ => newM) ?_ (fun i hi hr => ?_) 0 (by omega)
  · exact EvL.step (M := fun _ _ => some newM) (fun k j => by rw [spec_SlotNew_3_eq]; rfl) (EvL.now _)
  · have c1 : (i : Int) < 160 := by omega
    refine EvL.step (fun k j => spec_SlotNew_3_eq k j (i : Int) 0 0 0 0 0 0 0 0 [] [] (List.replicate i []) (List.replicate i [])) ?_
    simp only [decide_eq_true c1, cond_true, List.length_replicate, decide_eq_true (show (i + 1) * 24 ≤ 140737488351232 by omega), w64n i (by omega), ← List.replicate_succ']
    exact hr
theorem implNew : Ev (fun k => impl_SlotNew k) newM := Ev.step (fun k => impl_SlotNew_eq k) ((Ev.now _).to rfl)
theorem eqNil : Ev (fun k => laws_eqIntS k [] []) true := by
  refine Ev.step (fun k => laws_eqIntS_eq k [] []) ?_
  refine Ev.congr (f := fun k => laws_eqIntS_4 k k [] [] 0) (fun k => rfl) ?_
  exact EvL.ev (L := fun k j => laws_eqIntS_4 k j [] [] 0) (EvL.step (M := fun _ _ => some true) (fun k j => by rw [laws_eqIntS_4_eq]; rfl) (EvL.now _))
theorem heldNil (m : Int) : Ev (fun k => laws_heldIntS k [] m) m := by
  refine Ev.step (fun k => laws_heldIntS_eq k [] m) ?_
  exact EvL.ev (L := fun k j => laws_heldIntS_2 k j [] m 0) (EvL.step (M := fun _ _ => some m) (fun k j => by rw [laws_heldIntS_2_eq]; rfl) (EvL.now _))
theorem markNil (m : Int) : Ev (fun k => laws_markIntS k [] m) m := by
  refine Ev.step (fun k => laws_markIntS_eq k [] m) ?_
  exact EvL.ev (L := fun k j => laws_markIntS_2 k j [] m 0) (EvL.step (M := fun _ _ => some m) (fun k j => by rw [laws_markIntS_2_eq]; rfl) (EvL.now _))
theorem eqRows : Ev (fun k => laws_eqIntSS k rows rows) true := by
  refine Ev.step (fun k => laws_eqIntSS_eq k rows rows) ?_
  refine Ev.congr (f := fun k => laws_eqIntSS_4 k k rows rows 0) (fun k => by simp) ?_
  refine EvL.ev (L := fun k j => laws_eqIntSS_4 k j rows rows 0) ?_
  refine loop_up (fun k j i => laws_eqIntSS_4 k j rows rows (i : Int)) 160 (fun _ => true) ?_ (fun i hi hr => ?_) 0 (by omega)
  · exact EvL.step (M := fun _ _ => some true) (fun k j => by rw [laws_eqIntSS_4_eq, rows_len]; rfl) (EvL.now _)
  · refine EvL.step (fun k j => laws_eqIntSS_4_eq k j rows rows (i : Int)) ?_
    have c1 : (i : Int) < ((160 : Nat) : Int) := by omega
    simp only [rows_len, decide_eq_true c1, decide_eq_true (Int.natCast_nonneg i), cond_true, Int.toNat_natCast, rows_get, w64n i (by omega)]
    exact EvL.bind eqNil hr
theorem heldRows (m : Int) (h0 : 0 ≤ m) : Ev (fun k => laws_heldIntSS k rows m) m := by
  refine Ev.step (fun k => laws_heldIntSS_eq k rows m) ?_
  refine EvL.ev (L := fun k j => laws_heldIntSS_2 k j rows m 0) ?_
  refine loop_up (fun k j i => laws_heldIntSS_2 k j rows m (i : Int)) 160 (fun _ => m) ?_ (fun i hi hr => ?_) 0 (by omega)
  · exact EvL.step (M := fun _ _ => some m) (fun k j => by rw [laws_heldIntSS_2_eq, rows_len]; rfl) (EvL.now _)
  · refine EvL.step (fun k j => laws_heldIntSS_2_eq k j rows m (i : Int)) ?_
    have c1 : (i : Int) < ((160 : Nat) : Int) := by omega
    simp only [rows_len, decide_eq_true c1, decide_eq_true (Int.natCast_nonneg i), cond_true, Int.toNat_natCast, rows_get, w64n i (by omega)]
    refine EvL.bind (heldNil m) ?_
    simp only [decide_eq_false (show ¬ m < 0 by omega), cond_false]
    exact hr
theorem markRows (m : Int) : Ev (fun k => laws_markIntSS k rows m) m := by
  refine Ev.step (fun k => laws_markIntSS_eq k rows m) ?_
  refine EvL.ev (L := fun k j => laws_markIntSS_2 k j rows m 0) ?_
  refine loop_up (fun k j i => laws_markIntSS_2 k j rows m (i : Int)) 160 (fun _ => m) ?_ (fun i hi hr => ?_) 0 (by omega)
  · exact EvL.step (M := fun _ _ => some m) (fun k j => by rw [laws_markIntSS_2_eq, rows_len]; rfl) (EvL.now _)
  · refine EvL.step (fun k j => laws_markIntSS_2_eq k j rows m (i : Int)) ?_
    have c1 : (i : Int) < ((160 : Nat) : Int) := by omega
    simp only [rows_len, decide_eq_true c1, decide_eq_true (Int.natCast_nonneg i), cond_true, Int.toNat_natCast, rows_get, w64n i (by omega)]
    exact EvL.bind (markNil m) hr
theorem eqSlotM : Ev (fun k => laws_eqSlot k (0, 0, rows) (0, 0, rows)) true :=
  Ev.step (fun k => laws_eqSlot_eq k (0, 0, rows) (0, 0, rows)) (Ev.bind eqRows (Ev.now _))
theorem eqDisk : Ev (fun k => laws_eqSlotDisk k newM newM) true :=
  Ev.step (fun k => laws_eqSlotDisk_eq k newM newM) (Ev.bind eqSlotM (Ev.bind eqSlotM (Ev.now _)))
theorem markDisk : Ev (fun k => laws_markSlotDisk k newM 1) 1 :=
  Ev.step (fun k => laws_markSlotDisk_eq k newM 1) (Ev.bind (b := 1) (Ev.step (fun k => laws_markSlot_eq k _ _) (Ev.bind (markRows 1) (Ev.now _))) (Ev.bind (b := 1) (Ev.step (fun k => laws_markSlot_eq k _ _) (Ev.bind (markRows 1) (Ev.now _))) (Ev.now _)))
theorem heldDisk : Ev (fun k => laws_heldSlotDisk k newM 1) 1 :=
  Ev.step (fun k => laws_heldSlotDisk_eq k newM 1) (Ev.bind (b := 1) (Ev.step (fun k => laws_heldSlot_eq k _ _) (Ev.bind (heldRows 1 (by omega)) (Ev.now _))) (Ev.bind (b := 1) (Ev.step (fun k => laws_heldSlot_eq k _ _) (Ev.bind (heldRows 1 (by omega)) (Ev.now _))) (Ev.now _)))
theorem law : Ev (fun k => laws_FnExactSlotNew k) true :=
  Ev.step (fun k => laws_FnExactSlotNew_eq k) (Ev.bind specNew (Ev.bind implNew (Ev.bind eqDisk (Ev.bind markDisk (Ev.bind heldDisk (Ev.bind implNew (Ev.bind eqDisk (Ev.bind heldDisk (Ev.now _)))))))))
end Go.Proofs.Ytbgibmngijomfaa.SFnExactSlotNew
namespace Go.Proofs.Ytbgibmngijomfaa.Pure
open Go Go.Sx Go.Pl Go.Proofs.Ytbgibmngijomfaa.SFnExactSlotNew
theorem FnExactSlotNew : Goal := law.ex
end Go.Proofs.Ytbgibmngijomfaa.Pure
