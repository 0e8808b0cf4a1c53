/- The types of the program, and the plain machine for it, sound. -/
import Derived.Test.YtbgibmngijomfaaSx21
import Derived.Test.YtbgibmngijomfaaProg
import Derived.KernelRfl
set_option linter.unusedVariables false
set_option maxRecDepth 1000000
set_option maxHeartbeats 0
namespace Go.Proofs.Ytbgibmngijomfaa.SFnEventSort
open Go Go.Sx Go.Proofs
@[reducible] def t_int64 : Ty := .int .i64
@[reducible] def t_int : Ty := .int .i64
@[reducible] def t_bool : Ty := .bool
@[reducible] def t_uint8 : Ty := .int .u8
@[reducible] def t_internal_abi_BoundsErrorCode : Ty := .int .u8
@[reducible] def t_n7 : Ty := .pair t_int64 (.pair t_int (.pair t_bool t_internal_abi_BoundsErrorCode))
@[reducible] def t_runtime_boundsError : Ty := .pair t_int64 (.pair t_int (.pair t_bool t_internal_abi_BoundsErrorCode))
@[reducible] def t_string : Ty := .str
@[reducible] def t_runtime_errorString : Ty := .str
@[reducible] def t_runtime_plainError : Ty := .str
@[reducible] def t_uintptr : Ty := .int .u64
@[reducible] def t_n13 : Ty := .pair t_string t_uintptr
@[reducible] def t_runtime_errorAddressString : Ty := .pair t_string t_uintptr
@[reducible] def t_int32 : Ty := .int .i32
@[reducible] def t_sl_uint8 : Ty := .sl 5 t_uint8
@[reducible] def t_n27 : Ty := .pair t_int (.pair t_int (.pair t_int (.pair t_int (.pair t_int (.pair t_int t_int)))))
@[reducible] def t_impl_Event : Ty := .pair t_int (.pair t_int (.pair t_int (.pair t_int (.pair t_int (.pair t_int t_int)))))
@[reducible] def t_n32 : Ty := .pair t_int (.pair t_int (.pair t_int (.pair t_int t_int)))
@[reducible] def t_laws_Out : Ty := .pair t_int (.pair t_int (.pair t_int (.pair t_int t_int)))
@[reducible] def t_impl_Out : Ty := .pair t_int (.pair t_int (.pair t_int (.pair t_int t_int)))
@[reducible] def t_laws_Event : Ty := .pair t_int (.pair t_int (.pair t_int (.pair t_int (.pair t_int (.pair t_int t_int)))))
@[reducible] def t_sl_int : Ty := .sl 3 t_int
@[reducible] def t_sl_sl_int : Ty := .sl 73 t_sl_int
@[reducible] def t_n44 : Ty := .pair t_int (.pair t_int t_sl_sl_int)
@[reducible] def t_impl_Slot : Ty := .pair t_int (.pair t_int t_sl_sl_int)
@[reducible] def t_n46 : Ty := .pair t_impl_Slot t_impl_Slot
@[reducible] def t_impl_SlotDisk : Ty := .pair t_impl_Slot t_impl_Slot
@[reducible] def t_sl_impl_Out : Ty := .sl 35 t_impl_Out
@[reducible] def t_laws_Slot : Ty := .pair t_int (.pair t_int t_sl_sl_int)
@[reducible] def t_n59 : Ty := .pair t_laws_Slot t_laws_Slot
@[reducible] def t_laws_SlotDisk : Ty := .pair t_laws_Slot t_laws_Slot
@[reducible] def t_sl_impl_Event : Ty := .sl 28 t_impl_Event
@[reducible] def t_ar5_int : Ty := .pair t_int (.pair t_int (.pair t_int (.pair t_int t_int)))
@[reducible] def t_ar7_int : Ty := .pair t_int (.pair t_int (.pair t_int (.pair t_int (.pair t_int (.pair t_int t_int)))))
@[reducible] def t_impl_eventKey : Ty := .pair t_int (.pair t_int (.pair t_int (.pair t_int (.pair t_int (.pair t_int t_int)))))
@[reducible] def t_sl_impl_eventKey : Ty := .sl 76 t_impl_eventKey
@[reducible] def t_n98 : Ty := .pair t_sl_uint8 t_int
@[reducible] def t_spec_l6Rd : Ty := .pair t_sl_uint8 t_int
@[reducible] def t_uint32 : Ty := .int .u32
@[reducible] def t_internal_abi_TFlag : Ty := .int .u8
@[reducible] def t_internal_abi_Kind : Ty := .int .u8
@[reducible] def t_internal_abi_NameOff : Ty := .int .i32
@[reducible] def t_internal_abi_TypeOff : Ty := .int .i32
abbrev V_int64 : Type := Int
abbrev V_int : Type := Int
abbrev V_bool : Type := Bool
abbrev V_uint8 : Type := Int
abbrev V_internal_abi_BoundsErrorCode : Type := Int
abbrev V_n7 : Type := V_int64 × V_int × V_bool × V_internal_abi_BoundsErrorCode
abbrev V_runtime_boundsError : Type := V_int64 × V_int × V_bool × V_internal_abi_BoundsErrorCode
abbrev V_string : Type := ByteArray
abbrev V_runtime_errorString : Type := ByteArray
abbrev V_runtime_plainError : Type := ByteArray
abbrev V_uintptr : Type := Int
abbrev V_n13 : Type := V_string × V_uintptr
abbrev V_runtime_errorAddressString : Type := V_string × V_uintptr
abbrev V_int32 : Type := Int
abbrev V_sl_uint8 : Type := List V_uint8
abbrev V_n27 : Type := V_int × V_int × V_int × V_int × V_int × V_int × V_int
abbrev V_impl_Event : Type := V_int × V_int × V_int × V_int × V_int × V_int × V_int
abbrev V_n32 : Type := V_int × V_int × V_int × V_int × V_int
abbrev V_laws_Out : Type := V_int × V_int × V_int × V_int × V_int
abbrev V_impl_Out : Type := V_int × V_int × V_int × V_int × V_int
abbrev V_laws_Event : Type := V_int × V_int × V_int × V_int × V_int × V_int × V_int
abbrev V_sl_int : Type := List V_int
abbrev V_sl_sl_int : Type := List V_sl_int
abbrev V_n44 : Type := V_int × V_int × V_sl_sl_int
abbrev V_impl_Slot : Type := V_int × V_int × V_sl_sl_int
abbrev V_n46 : Type := V_impl_Slot × V_impl_Slot
abbrev V_impl_SlotDisk : Type := V_impl_Slot × V_impl_Slot
abbrev V_sl_impl_Out : Type := List V_impl_Out
abbrev V_laws_Slot : Type := V_int × V_int × V_sl_sl_int
abbrev V_n59 : Type := V_laws_Slot × V_laws_Slot
abbrev V_laws_SlotDisk : Type := V_laws_Slot × V_laws_Slot
abbrev V_sl_impl_Event : Type := List V_impl_Event
abbrev V_ar5_int : Type := V_int × V_int × V_int × V_int × V_int
abbrev V_ar7_int : Type := V_int × V_int × V_int × V_int × V_int × V_int × V_int
abbrev V_impl_eventKey : Type := V_int × V_int × V_int × V_int × V_int × V_int × V_int
abbrev V_sl_impl_eventKey : Type := List V_impl_eventKey
abbrev V_n98 : Type := V_sl_uint8 × V_int
abbrev V_spec_l6Rd : Type := V_sl_uint8 × V_int
abbrev V_uint32 : Type := Int
abbrev V_internal_abi_TFlag : Type := Int
abbrev V_internal_abi_Kind : Type := Int
abbrev V_internal_abi_NameOff : Type := Int
abbrev V_internal_abi_TypeOff : Type := Int
def tys : List (Nat × Ty) := [(2, t_int64), (3, t_int), (4, t_bool), (5, t_uint8), (6, t_internal_abi_BoundsErrorCode), (7, t_n7), (8, t_runtime_boundsError), (9, t_string), (10, t_runtime_errorString), (11, t_runtime_plainError), (12, t_uintptr), (13, t_n13), (14, t_runtime_errorAddressString), (21, t_int32), (25, t_sl_uint8), (27, t_n27), (28, t_impl_Event), (32, t_n32), (33, t_laws_Out), (35, t_impl_Out), (38, t_laws_Event), (43, t_sl_sl_int), (44, t_n44), (45, t_impl_Slot), (46, t_n46), (47, t_impl_SlotDisk), (54, t_sl_impl_Out), (58, t_laws_Slot), (59, t_n59), (60, t_laws_SlotDisk), (65, t_sl_impl_Event), (71, t_ar5_int), (73, t_sl_int), (75, t_ar7_int), (76, t_impl_eventKey), (90, t_sl_impl_eventKey), (98, t_n98), (99, t_spec_l6Rd), (119, t_uint32), (120, t_internal_abi_TFlag), (121, t_internal_abi_Kind), (124, t_internal_abi_NameOff), (125, t_internal_abi_TypeOff)]
def btys : List (Nat × Ty) := tys ++ [(82, .pair t_sl_impl_Out (.fnc 0)), (83, .pair t_sl_impl_Out (.fnc 0)), (91, .pair t_sl_impl_eventKey (.fnc 0)), (92, .pair t_sl_impl_eventKey (.fnc 0))]
def keeps : List (Nat × List (Nat × List (Nat × Option (Nat × Ty)))) := [(14, [(10, [(3, some (28, t_impl_Event)), (5, some (28, t_impl_Event)), (6, some (28, t_impl_Event)), (7, none)]), (15, [(3, some (28, t_impl_Event)), (5, some (28, t_impl_Event)), (6, some (28, t_impl_Event)), (7, none), (8, none), (9, none)]), (21, [(5, some (28, t_impl_Event)), (6, some (28, t_impl_Event)), (10, none)])]), (43, [(3, [(0, some (28, t_impl_Event)), (3, some (28, t_impl_Event)), (4, none)]), (6, [(0, some (28, t_impl_Event)), (3, some (28, t_impl_Event)), (4, none), (5, none)]), (11, [(0, some (28, t_impl_Event)), (3, some (28, t_impl_Event)), (4, none), (5, none), (6, none)])]), (44, [(4, [(3, none), (4, none), (13, some (28, t_impl_Event)), (14, none), (15, none)]), (13, [(8, some (28, t_impl_Event)), (38, some (76, t_impl_eventKey)), (39, none), (40, none)])]), (45, [(4, [(0, some (28, t_impl_Event)), (1, some (28, t_impl_Event)), (5, none)])]), (50, [(2, [(0, some (3, t_int)), (1, some (3, t_int)), (9, some (3, t_int)), (10, none), (11, none)])]), (64, [(3, [(0, none), (5, some (28, t_impl_Event)), (6, none)])]), (65, [(3, [(0, none), (4, none)])]), (66, [(2, [(0, none), (3, some (76, t_impl_eventKey))])]), (80, [(6, [(0, none), (2, none), (3, none), (4, none), (5, none)])])]
noncomputable def E : Env := ⟨Try.prog, tys, [(42, [(.ow 28 t_impl_Event)]), (43, [(.ow 28 t_impl_Event)]), (44, [(.ow 28 t_impl_Event)]), (48, [(.bx 99 t_spec_l6Rd)]), (52, [(.pair t_int (.pair t_int (.pair t_int (.pair t_int (.pair t_int (.pair t_int t_int))))))]), (57, [(.pair t_int (.pair t_int (.pair t_int (.pair t_int (.pair t_int (.pair t_int t_int))))))]), (64, [(.ow 28 t_impl_Event)]), (66, [(.ow 76 t_impl_eventKey)]), (67, [(.pair t_int (.pair t_int (.pair t_int (.pair t_int (.pair t_int (.pair t_int t_int))))))]), (80, [(.pair t_int (.pair t_int (.pair t_int (.pair t_int (.pair t_int (.pair t_int t_int))))))])], fun f r => (match assoc keeps f with | some l => (match assoc l r with | some x => x | none => []) | none => []), fun _ => none, fun f => (match assoc ([] : List (Nat × Nat)) f with | some m => m | none => 0), btys, [(37, 54), (37, 90)]⟩
theorem sound (k : Nat) : CallOk E (evalT E k) := evalT_ok (envOk (by kernel_rfl) (by kernel_rfl)) (fnsOk (by kernel_rfl)) (by kernel_rfl) (extOk fun _ => rfl) k
end Go.Proofs.Ytbgibmngijomfaa.SFnEventSort
