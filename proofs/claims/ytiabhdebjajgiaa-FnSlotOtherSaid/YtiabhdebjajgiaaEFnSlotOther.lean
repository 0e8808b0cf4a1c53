/- The types of the program, and the plain machine for it, sound. -/
import Derived.Test.YtiabhdebjajgiaaSx24
import Derived.Test.YtiabhdebjajgiaaProg
import Derived.KernelRfl
import Derived.Test.YtiabhdebjajgiaaSave
set_option linter.unusedVariables false
set_option maxRecDepth 1000000
set_option maxHeartbeats 0
namespace Go.Proofs.Ytiabhdebjajgiaa.SFnSlotOther
open Go Go.Sx Go.Proofs
@[reducible] def t_int64 : Ty := .int .i64
@[reducible] def t_int : Ty := .int .i64
@[reducible] def t_bool : Ty := .bool
@[reducible] def t_uint8 : Ty := .int .u8
@[reducible] def t_internal_abi_BoundsErrorCode : Ty := .int .u8
@[reducible] def t_n7 : Ty := .pair t_int64 (.pair t_int (.pair t_bool t_internal_abi_BoundsErrorCode))
@[reducible] def t_runtime_boundsError : Ty := .pair t_int64 (.pair t_int (.pair t_bool t_internal_abi_BoundsErrorCode))
@[reducible] def t_string : Ty := .str
@[reducible] def t_runtime_errorString : Ty := .str
@[reducible] def t_runtime_plainError : Ty := .str
@[reducible] def t_uintptr : Ty := .int .u64
@[reducible] def t_n13 : Ty := .pair t_string t_uintptr
@[reducible] def t_runtime_errorAddressString : Ty := .pair t_string t_uintptr
@[reducible] def t_int32 : Ty := .int .i32
@[reducible] def t_sl_int : Ty := .sl 3 t_int
@[reducible] def t_sl_sl_int : Ty := .sl 38 t_sl_int
@[reducible] def t_n23 : Ty := .pair t_int (.pair t_int t_sl_sl_int)
@[reducible] def t_impl_Slot : Ty := .pair t_int (.pair t_int t_sl_sl_int)
@[reducible] def t_n25 : Ty := .pair t_impl_Slot t_impl_Slot
@[reducible] def t_impl_SlotDisk : Ty := .pair t_impl_Slot t_impl_Slot
@[reducible] def t_laws_Slot : Ty := .pair t_int (.pair t_int t_sl_sl_int)
@[reducible] def t_n32 : Ty := .pair t_laws_Slot t_laws_Slot
@[reducible] def t_laws_SlotDisk : Ty := .pair t_laws_Slot t_laws_Slot
@[reducible] def t_impl_SlotStep : Ty := .pair t_bool (.pair t_int (.pair t_int (.pair t_int t_sl_int)))
@[reducible] def t_sl_impl_SlotStep : Ty := .sl 59 t_impl_SlotStep
@[reducible] def t_laws_SlotStep : Ty := .pair t_bool (.pair t_int (.pair t_int (.pair t_int t_sl_int)))
@[reducible] def t_sl_laws_SlotStep : Ty := .sl 80 t_laws_SlotStep
@[reducible] def t_sl_uint8 : Ty := .sl 5 t_uint8
@[reducible] def t_n58 : Ty := .pair t_bool (.pair t_int (.pair t_int (.pair t_int t_sl_int)))
@[reducible] def t_n85 : Ty := .wrap t_impl_SlotDisk
@[reducible] def t_impl_platter : Ty := .wrap t_impl_SlotDisk
@[reducible] def t_n106 : Ty := .pair t_sl_uint8 t_int
@[reducible] def t_spec_l6Rd : Ty := .pair t_sl_uint8 t_int
@[reducible] def t_uint32 : Ty := .int .u32
@[reducible] def t_internal_abi_TFlag : Ty := .int .u8
@[reducible] def t_internal_abi_Kind : Ty := .int .u8
@[reducible] def t_internal_abi_NameOff : Ty := .int .i32
@[reducible] def t_internal_abi_TypeOff : Ty := .int .i32
abbrev V_int64 : Type := Int
abbrev V_int : Type := Int
abbrev V_bool : Type := Bool
abbrev V_uint8 : Type := Int
abbrev V_internal_abi_BoundsErrorCode : Type := Int
abbrev V_n7 : Type := V_int64 × V_int × V_bool × V_internal_abi_BoundsErrorCode
abbrev V_runtime_boundsError : Type := V_int64 × V_int × V_bool × V_internal_abi_BoundsErrorCode
abbrev V_string : Type := ByteArray
abbrev V_runtime_errorString : Type := ByteArray
abbrev V_runtime_plainError : Type := ByteArray
abbrev V_uintptr : Type := Int
abbrev V_n13 : Type := V_string × V_uintptr
abbrev V_runtime_errorAddressString : Type := V_string × V_uintptr
abbrev V_int32 : Type := Int
abbrev V_sl_int : Type := List V_int
abbrev V_sl_sl_int : Type := List V_sl_int
abbrev V_n23 : Type := V_int × V_int × V_sl_sl_int
abbrev V_impl_Slot : Type := V_int × V_int × V_sl_sl_int
abbrev V_n25 : Type := V_impl_Slot × V_impl_Slot
abbrev V_impl_SlotDisk : Type := V_impl_Slot × V_impl_Slot
abbrev V_laws_Slot : Type := V_int × V_int × V_sl_sl_int
abbrev V_n32 : Type := V_laws_Slot × V_laws_Slot
abbrev V_laws_SlotDisk : Type := V_laws_Slot × V_laws_Slot
abbrev V_impl_SlotStep : Type := V_bool × V_int × V_int × V_int × V_sl_int
abbrev V_sl_impl_SlotStep : Type := List V_impl_SlotStep
abbrev V_laws_SlotStep : Type := V_bool × V_int × V_int × V_int × V_sl_int
abbrev V_sl_laws_SlotStep : Type := List V_laws_SlotStep
abbrev V_sl_uint8 : Type := List V_uint8
abbrev V_n58 : Type := V_bool × V_int × V_int × V_int × V_sl_int
abbrev V_n85 : Type := V_impl_SlotDisk
abbrev V_impl_platter : Type := V_impl_SlotDisk
abbrev V_n106 : Type := V_sl_uint8 × V_int
abbrev V_spec_l6Rd : Type := V_sl_uint8 × V_int
abbrev V_uint32 : Type := Int
abbrev V_internal_abi_TFlag : Type := Int
abbrev V_internal_abi_Kind : Type := Int
abbrev V_internal_abi_NameOff : Type := Int
abbrev V_internal_abi_TypeOff : Type := Int
def tys : List (Nat × Ty) := [(2, t_int64), (3, t_int), (4, t_bool), (5, t_uint8), (6, t_internal_abi_BoundsErrorCode), (7, t_n7), (8, t_runtime_boundsError), (9, t_string), (10, t_runtime_errorString), (11, t_runtime_plainError), (12, t_uintptr), (13, t_n13), (14, t_runtime_errorAddressString), (21, t_int32), (22, t_sl_sl_int), (23, t_n23), (24, t_impl_Slot), (25, t_n25), (26, t_impl_SlotDisk), (31, t_laws_Slot), (32, t_n32), (33, t_laws_SlotDisk), (38, t_sl_int), (43, t_sl_impl_SlotStep), (50, t_sl_laws_SlotStep), (55, t_sl_uint8), (58, t_n58), (59, t_impl_SlotStep), (80, t_laws_SlotStep), (85, t_n85), (86, t_impl_platter), (106, t_n106), (107, t_spec_l6Rd), (115, t_uint32), (116, t_internal_abi_TFlag), (117, t_internal_abi_Kind), (120, t_internal_abi_NameOff), (121, t_internal_abi_TypeOff)]
def btys : List (Nat × Ty) := [(24, (.pair t_int (.pair t_int (.dw 38 t_sl_int)))), (26, (.pair (.pair t_int (.pair t_int (.dw 38 t_sl_int))) (.pair t_int (.pair t_int (.dw 38 t_sl_int)))))] ++ (tys ++ [])
def keeps : List (Nat × List (Nat × List (Nat × Option (Nat × Ty)))) := [(8, [(9, [(3, none), (7, some (59, t_impl_SlotStep)), (9, none)])]), (12, [(3, [(0, none), (1, none), (2, none)])]), (26, [(8, [(1, some (3, t_int)), (6, some (59, t_impl_SlotStep)), (7, none), (8, none), (9, none)])]), (33, [(5, [(1, some (59, t_impl_SlotStep)), (2, none), (6, none), (7, none), (8, none)])]), (35, [(5, [(2, none), (6, none), (7, none), (17, some (59, t_impl_SlotStep)), (18, none), (19, none)])]), (37, [(4, [(0, some (59, t_impl_SlotStep)), (1, some (59, t_impl_SlotStep)), (5, none)])]), (38, [(4, [(2, none), (3, none), (5, none)])]), (39, [(4, [(0, some (3, t_int)), (1, some (3, t_int)), (5, none)])]), (45, [(4, [(1, none), (3, none)])]), (47, [(4, [(22, some (38, t_sl_int)), (23, none), (24, none)])]), (53, [(2, [(0, some (3, t_int)), (3, none)])]), (55, [(2, [(5, some (3, t_int)), (6, none), (7, none)])]), (60, [(3, [(1, none), (2, none), (3, none), (4, none)])]), (67, [(3, [(0, none), (5, some (3, t_int)), (6, none)])]), (84, [(5, [(1, none), (5, some (38, t_sl_int)), (14, some (38, t_sl_int)), (15, none), (16, none)])]), (85, [(3, [(0, none), (2, none), (3, none), (4, none)])])]
def exts : List (Nat × ExtC) := [(28, pX (extSave 3 38 59)), (52, pX (extSlN 8 3 t_int (.ow 3 t_int) fun xs => xs)), (89, pX (extSlN 24 38 t_sl_int (.ow 38 t_sl_int) fun xs => xs))]
noncomputable def E : Env := ⟨Try.prog, tys, [(65, [(.bx 107 t_spec_l6Rd)]), (67, [(.ow 3 t_int)]), (28, [.dw 59 t_impl_SlotStep, .bool]), (52, [.ow 3 t_int]), (89, [.ow 38 t_sl_int]), (12, [(.pair (.pair t_int (.pair t_int (.dw 38 t_sl_int))) (.pair t_int (.pair t_int (.dw 38 t_sl_int))))]), (26, [(.dw 59 t_impl_SlotStep), t_bool]), (33, [(.pair (.pair t_int (.pair t_int (.dw 38 t_sl_int))) (.pair t_int (.pair t_int (.dw 38 t_sl_int))))]), (35, [(.pair (.pair t_int (.pair t_int (.dw 38 t_sl_int))) (.pair t_int (.pair t_int (.dw 38 t_sl_int))))]), (60, [(.pair t_int (.pair t_int (.dw 38 t_sl_int)))]), (61, [(.pair t_int (.pair t_int (.dw 38 t_sl_int)))]), (64, [(.pair t_int (.pair t_int (.dw 38 t_sl_int)))]), (82, [t_impl_SlotDisk]), (83, [t_impl_SlotDisk]), (84, [(.dw 38 t_sl_int)]), (85, [(.pair (.pair t_int (.pair t_int (.dw 38 t_sl_int))) (.pair t_int (.pair t_int (.dw 38 t_sl_int))))]), (87, [t_impl_SlotDisk]), (88, [t_impl_Slot]), (90, [t_impl_Slot])], fun f r => (match assoc keeps f with | some l => (match assoc l r with | some x => x | none => []) | none => []), fun f => assoc exts f, fun f => (match assoc ([(61, 2)] : List (Nat × Nat)) f with | some m => m | none => 0), btys, [(20, 38),
 (25, 38),
 (11, 38),
 (12, 22),
 (19, 38),
 (20, 22),
 (11, 43),
 (44, 43),
 (65, 38),
 (73, 43),
 (82, 43),
 (7, 43),
 (19, 38),
 (26, 22),
 (7, 22),
 (13, 22)]⟩
theorem envE : EnvOk E := envOk (by kernel_rfl) (by kernel_rfl)
theorem fnsE : FnsOk E := fnsOk (by kernel_rfl)
theorem mixE : E.P.follows .mixedOrders = true := by kernel_rfl
theorem ext_28 : ∀ call, CallOk E call → ∀ τ args h0 x, (pX (extSave 3 38 59) : ExtC) call τ args h0 = some x → FnOk E 28 τ args h0 x := fun _ _ => extSave_ok (by kernel_rfl) (Go.Proofs.YtiabhdebjajgiaaSave.save_done rfl envE fnsE mixE ⟨fun k a b c => by kernel_rfl, fun k a => by kernel_rfl, fun k l => by kernel_rfl, fun k j l n i => by kernel_rfl, fun k a b l => by kernel_rfl, fun k j l n i => by kernel_rfl, fun k a b l a2 b2 l2 => by kernel_rfl⟩ (by kernel_rfl) (by kernel_rfl) (by kernel_rfl))
theorem ext_52 : ∀ call, CallOk E call → ∀ τ args h0 x, (pX (extSlN 8 3 t_int (.ow 3 t_int) fun xs => xs) : ExtC) call τ args h0 = some x → FnOk E 52 τ args h0 x := fun _ _ => extSlN_ok envE fnsE mixE (k := 3) (fun xs => by kernel_rfl) (by kernel_rfl)
theorem ext_89 : ∀ call, CallOk E call → ∀ τ args h0 x, (pX (extSlN 24 38 t_sl_int (.ow 38 t_sl_int) fun xs => xs) : ExtC) call τ args h0 = some x → FnOk E 89 τ args h0 x := fun _ _ => extSlN_ok envE fnsE mixE (k := 3) (fun xs => by kernel_rfl) (by kernel_rfl)
theorem sound (k : Nat) : CallOk E (evalT E k) := evalT_ok envE fnsE mixE (extOk_list (l := exts) (fun _ => rfl) (all_cons ext_28 (all_cons ext_52 (all_cons ext_89 all_nil)))) k
end Go.Proofs.Ytiabhdebjajgiaa.SFnSlotOther
