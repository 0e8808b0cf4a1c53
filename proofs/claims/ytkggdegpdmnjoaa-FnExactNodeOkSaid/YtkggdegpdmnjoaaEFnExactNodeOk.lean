/- The types of the program, and the plain machine for it, sound. -/
import Derived.Test.YtkggdegpdmnjoaaSx24
import Derived.Test.YtkggdegpdmnjoaaProg
import Derived.KernelRfl
import Derived.Test.YtkggdegpdmnjoaaChain
set_option linter.unusedVariables false
set_option maxRecDepth 1000000
set_option maxHeartbeats 0
namespace Go.Proofs.Ytkggdegpdmnjoaa.SFnExactNodeOk
open Go Go.Sx Go.Proofs
@[reducible] def t_int64 : Ty := .int .i64
@[reducible] def t_int : Ty := .int .i64
@[reducible] def t_bool : Ty := .bool
@[reducible] def t_uint8 : Ty := .int .u8
@[reducible] def t_internal_abi_BoundsErrorCode : Ty := .int .u8
@[reducible] def t_n7 : Ty := .pair t_int64 (.pair t_int (.pair t_bool t_internal_abi_BoundsErrorCode))
@[reducible] def t_runtime_boundsError : Ty := .pair t_int64 (.pair t_int (.pair t_bool t_internal_abi_BoundsErrorCode))
@[reducible] def t_string : Ty := .str
@[reducible] def t_runtime_errorString : Ty := .str
@[reducible] def t_runtime_plainError : Ty := .str
@[reducible] def t_uintptr : Ty := .int .u64
@[reducible] def t_n13 : Ty := .pair t_string t_uintptr
@[reducible] def t_runtime_errorAddressString : Ty := .pair t_string t_uintptr
@[reducible] def t_int32 : Ty := .int .i32
@[reducible] def t_laws_State : Ty := .pair t_int (.pair t_int t_int)
@[reducible] def t_laws_Event : Ty := .pair t_int (.pair t_int (.pair t_int (.pair t_int (.pair t_int (.pair t_int t_int)))))
@[reducible] def t_sl_laws_Event : Ty := .sl 110 t_laws_Event
@[reducible] def t_laws_Out : Ty := .pair t_int (.pair t_int (.pair t_int (.pair t_int t_int)))
@[reducible] def t_sl_laws_Out : Ty := .sl 112 t_laws_Out
@[reducible] def t_laws_Past : Ty := .pair t_laws_Event (.pair t_laws_State (.pair t_sl_laws_Event t_sl_laws_Out))
@[reducible] def t_sl_laws_Past : Ty := .sl 144 t_laws_Past
@[reducible] def t_laws_Lane : Ty := .pair t_int (.pair t_laws_State t_sl_laws_Past)
@[reducible] def t_sl_laws_Lane : Ty := .sl 88 t_laws_Lane
@[reducible] def t_laws_View : Ty := .pair t_int (.pair t_int t_sl_laws_Event)
@[reducible] def t_sl_laws_View : Ty := .sl 91 t_laws_View
@[reducible] def t_sl_int : Ty := .sl 3 t_int
@[reducible] def t_n27 : Ty := .pair t_int (.pair t_bool (.pair t_int (.pair t_int (.pair t_sl_laws_Lane (.pair t_sl_laws_Event (.pair t_sl_laws_Out (.pair t_int (.pair t_int (.pair t_sl_laws_View (.pair t_sl_int (.pair t_int t_int)))))))))))
@[reducible] def t_laws_Node : Ty := .pair t_int (.pair t_bool (.pair t_int (.pair t_int (.pair t_sl_laws_Lane (.pair t_sl_laws_Event (.pair t_sl_laws_Out (.pair t_int (.pair t_int (.pair t_sl_laws_View (.pair t_sl_int (.pair t_int t_int)))))))))))
@[reducible] def t_impl_State : Ty := .pair t_int (.pair t_int t_int)
@[reducible] def t_impl_Event : Ty := .pair t_int (.pair t_int (.pair t_int (.pair t_int (.pair t_int (.pair t_int t_int)))))
@[reducible] def t_sl_impl_Event : Ty := .sl 94 t_impl_Event
@[reducible] def t_impl_Out : Ty := .pair t_int (.pair t_int (.pair t_int (.pair t_int t_int)))
@[reducible] def t_sl_impl_Out : Ty := .sl 50 t_impl_Out
@[reducible] def t_impl_Past : Ty := .pair t_impl_Event (.pair t_impl_State (.pair t_sl_impl_Event t_sl_impl_Out))
@[reducible] def t_sl_impl_Past : Ty := .sl 105 t_impl_Past
@[reducible] def t_impl_Lane : Ty := .pair t_int (.pair t_impl_State t_sl_impl_Past)
@[reducible] def t_sl_impl_Lane : Ty := .sl 57 t_impl_Lane
@[reducible] def t_impl_View : Ty := .pair t_int (.pair t_int t_sl_impl_Event)
@[reducible] def t_sl_impl_View : Ty := .sl 100 t_impl_View
@[reducible] def t_n35 : Ty := .pair t_int (.pair t_bool (.pair t_int (.pair t_int (.pair t_sl_impl_Lane (.pair t_sl_impl_Event (.pair t_sl_impl_Out (.pair t_int (.pair t_int (.pair t_sl_impl_View (.pair t_sl_int (.pair t_int t_int)))))))))))
@[reducible] def t_impl_Node : Ty := .pair t_int (.pair t_bool (.pair t_int (.pair t_int (.pair t_sl_impl_Lane (.pair t_sl_impl_Event (.pair t_sl_impl_Out (.pair t_int (.pair t_int (.pair t_sl_impl_View (.pair t_sl_int (.pair t_int t_int)))))))))))
@[reducible] def t_n49 : Ty := .pair t_int (.pair t_int (.pair t_int (.pair t_int t_int)))
@[reducible] def t_n53 : Ty := .pair t_int (.pair t_int t_int)
@[reducible] def t_n56 : Ty := .pair t_int (.pair t_impl_State t_sl_impl_Past)
@[reducible] def t_sl_impl_State : Ty := .sl 54 t_impl_State
@[reducible] def t_n72 : Ty := .pair t_int (.pair t_int (.pair t_int (.pair t_int (.pair t_sl_impl_State (.pair t_sl_impl_Event t_sl_impl_Out)))))
@[reducible] def t_impl_keep : Ty := .pair t_int (.pair t_int (.pair t_int (.pair t_int (.pair t_sl_impl_State (.pair t_sl_impl_Event t_sl_impl_Out)))))
@[reducible] def t_sl_sl_impl_Past : Ty := .sl 55 t_sl_impl_Past
@[reducible] def t_n75 : Ty := .mq 75 t_impl_View
@[reducible] def t_n76 : Ty := .pair t_impl_keep (.pair t_bool (.pair t_sl_sl_impl_Past (.pair t_int (.pair t_n75 (.pair t_sl_int (.pair t_int t_int))))))
@[reducible] def t_impl_body : Ty := .pair t_impl_keep (.pair t_bool (.pair t_sl_sl_impl_Past (.pair t_int (.pair t_n75 (.pair t_sl_int (.pair t_int t_int))))))
@[reducible] def t_n87 : Ty := .pair t_int (.pair t_laws_State t_sl_laws_Past)
@[reducible] def t_n90 : Ty := .pair t_int (.pair t_int t_sl_laws_Event)
@[reducible] def t_n93 : Ty := .pair t_int (.pair t_int (.pair t_int (.pair t_int (.pair t_int (.pair t_int t_int)))))
@[reducible] def t_n99 : Ty := .pair t_int (.pair t_int t_sl_impl_Event)
@[reducible] def t_n104 : Ty := .pair t_impl_Event (.pair t_impl_State (.pair t_sl_impl_Event t_sl_impl_Out))
@[reducible] def t_impl_eventKey : Ty := .pair t_int (.pair t_int (.pair t_int (.pair t_int (.pair t_int (.pair t_int t_int)))))
@[reducible] def t_sl_impl_eventKey : Ty := .sl 135 t_impl_eventKey
@[reducible] def t_ar7_int : Ty := .pair t_int (.pair t_int (.pair t_int (.pair t_int (.pair t_int (.pair t_int t_int)))))
@[reducible] def t_n143 : Ty := .pair t_laws_Event (.pair t_laws_State (.pair t_sl_laws_Event t_sl_laws_Out))
@[reducible] def t_ar5_int : Ty := .pair t_int (.pair t_int (.pair t_int (.pair t_int t_int)))
@[reducible] def t_uint32 : Ty := .int .u32
@[reducible] def t_internal_abi_TFlag : Ty := .int .u8
@[reducible] def t_internal_abi_Kind : Ty := .int .u8
@[reducible] def t_internal_abi_NameOff : Ty := .int .i32
@[reducible] def t_internal_abi_TypeOff : Ty := .int .i32
abbrev V_int64 : Type := Int
abbrev V_int : Type := Int
abbrev V_bool : Type := Bool
abbrev V_uint8 : Type := Int
abbrev V_internal_abi_BoundsErrorCode : Type := Int
abbrev V_n7 : Type := V_int64 × V_int × V_bool × V_internal_abi_BoundsErrorCode
abbrev V_runtime_boundsError : Type := V_int64 × V_int × V_bool × V_internal_abi_BoundsErrorCode
abbrev V_string : Type := ByteArray
abbrev V_runtime_errorString : Type := ByteArray
abbrev V_runtime_plainError : Type := ByteArray
abbrev V_uintptr : Type := Int
abbrev V_n13 : Type := V_string × V_uintptr
abbrev V_runtime_errorAddressString : Type := V_string × V_uintptr
abbrev V_int32 : Type := Int
abbrev V_laws_State : Type := V_int × V_int × V_int
abbrev V_laws_Event : Type := V_int × V_int × V_int × V_int × V_int × V_int × V_int
abbrev V_sl_laws_Event : Type := List V_laws_Event
abbrev V_laws_Out : Type := V_int × V_int × V_int × V_int × V_int
abbrev V_sl_laws_Out : Type := List V_laws_Out
abbrev V_laws_Past : Type := V_laws_Event × V_laws_State × V_sl_laws_Event × V_sl_laws_Out
abbrev V_sl_laws_Past : Type := List V_laws_Past
abbrev V_laws_Lane : Type := V_int × V_laws_State × V_sl_laws_Past
abbrev V_sl_laws_Lane : Type := List V_laws_Lane
abbrev V_laws_View : Type := V_int × V_int × V_sl_laws_Event
abbrev V_sl_laws_View : Type := List V_laws_View
abbrev V_sl_int : Type := List V_int
abbrev V_n27 : Type := V_int × V_bool × V_int × V_int × V_sl_laws_Lane × V_sl_laws_Event × V_sl_laws_Out × V_int × V_int × V_sl_laws_View × V_sl_int × V_int × V_int
abbrev V_laws_Node : Type := V_int × V_bool × V_int × V_int × V_sl_laws_Lane × V_sl_laws_Event × V_sl_laws_Out × V_int × V_int × V_sl_laws_View × V_sl_int × V_int × V_int
abbrev V_impl_State : Type := V_int × V_int × V_int
abbrev V_impl_Event : Type := V_int × V_int × V_int × V_int × V_int × V_int × V_int
abbrev V_sl_impl_Event : Type := List V_impl_Event
abbrev V_impl_Out : Type := V_int × V_int × V_int × V_int × V_int
abbrev V_sl_impl_Out : Type := List V_impl_Out
abbrev V_impl_Past : Type := V_impl_Event × V_impl_State × V_sl_impl_Event × V_sl_impl_Out
abbrev V_sl_impl_Past : Type := List V_impl_Past
abbrev V_impl_Lane : Type := V_int × V_impl_State × V_sl_impl_Past
abbrev V_sl_impl_Lane : Type := List V_impl_Lane
abbrev V_impl_View : Type := V_int × V_int × V_sl_impl_Event
abbrev V_sl_impl_View : Type := List V_impl_View
abbrev V_n35 : Type := V_int × V_bool × V_int × V_int × V_sl_impl_Lane × V_sl_impl_Event × V_sl_impl_Out × V_int × V_int × V_sl_impl_View × V_sl_int × V_int × V_int
abbrev V_impl_Node : Type := V_int × V_bool × V_int × V_int × V_sl_impl_Lane × V_sl_impl_Event × V_sl_impl_Out × V_int × V_int × V_sl_impl_View × V_sl_int × V_int × V_int
abbrev V_n49 : Type := V_int × V_int × V_int × V_int × V_int
abbrev V_n53 : Type := V_int × V_int × V_int
abbrev V_n56 : Type := V_int × V_impl_State × V_sl_impl_Past
abbrev V_sl_impl_State : Type := List V_impl_State
abbrev V_n72 : Type := V_int × V_int × V_int × V_int × V_sl_impl_State × V_sl_impl_Event × V_sl_impl_Out
abbrev V_impl_keep : Type := V_int × V_int × V_int × V_int × V_sl_impl_State × V_sl_impl_Event × V_sl_impl_Out
abbrev V_sl_sl_impl_Past : Type := List V_sl_impl_Past
abbrev V_n75 : Type := List (Int × V_impl_View)
abbrev V_n76 : Type := V_impl_keep × V_bool × V_sl_sl_impl_Past × V_int × V_n75 × V_sl_int × V_int × V_int
abbrev V_impl_body : Type := V_impl_keep × V_bool × V_sl_sl_impl_Past × V_int × V_n75 × V_sl_int × V_int × V_int
abbrev V_n87 : Type := V_int × V_laws_State × V_sl_laws_Past
abbrev V_n90 : Type := V_int × V_int × V_sl_laws_Event
abbrev V_n93 : Type := V_int × V_int × V_int × V_int × V_int × V_int × V_int
abbrev V_n99 : Type := V_int × V_int × V_sl_impl_Event
abbrev V_n104 : Type := V_impl_Event × V_impl_State × V_sl_impl_Event × V_sl_impl_Out
abbrev V_impl_eventKey : Type := V_int × V_int × V_int × V_int × V_int × V_int × V_int
abbrev V_sl_impl_eventKey : Type := List V_impl_eventKey
abbrev V_ar7_int : Type := V_int × V_int × V_int × V_int × V_int × V_int × V_int
abbrev V_n143 : Type := V_laws_Event × V_laws_State × V_sl_laws_Event × V_sl_laws_Out
abbrev V_ar5_int : Type := V_int × V_int × V_int × V_int × V_int
abbrev V_uint32 : Type := Int
abbrev V_internal_abi_TFlag : Type := Int
abbrev V_internal_abi_Kind : Type := Int
abbrev V_internal_abi_NameOff : Type := Int
abbrev V_internal_abi_TypeOff : Type := Int
def tys : List (Nat × Ty) := [(2, t_int64), (3, t_int), (4, t_bool), (5, t_uint8), (6, t_internal_abi_BoundsErrorCode), (7, t_n7), (8, t_runtime_boundsError), (9, t_string), (10, t_runtime_errorString), (11, t_runtime_plainError), (12, t_uintptr), (13, t_n13), (14, t_runtime_errorAddressString), (21, t_int32), (22, t_sl_laws_Lane), (23, t_sl_laws_Event), (24, t_sl_laws_Out), (25, t_sl_laws_View), (26, t_sl_int), (27, t_n27), (28, t_laws_Node), (31, t_sl_impl_Lane), (32, t_sl_impl_Event), (33, t_sl_impl_Out), (34, t_sl_impl_View), (35, t_n35), (36, t_impl_Node), (49, t_n49), (50, t_impl_Out), (53, t_n53), (54, t_impl_State), (55, t_sl_impl_Past), (56, t_n56), (57, t_impl_Lane), (71, t_sl_impl_State), (72, t_n72), (73, t_impl_keep), (74, t_sl_sl_impl_Past), (85, t_laws_State), (86, t_sl_laws_Past), (87, t_n87), (88, t_laws_Lane), (90, t_n90), (91, t_laws_View), (93, t_n93), (94, t_impl_Event), (99, t_n99), (100, t_impl_View), (104, t_n104), (105, t_impl_Past), (110, t_laws_Event), (112, t_laws_Out), (130, t_sl_impl_eventKey), (134, t_ar7_int), (135, t_impl_eventKey), (143, t_n143), (144, t_laws_Past), (146, t_ar5_int), (158, t_uint32), (159, t_internal_abi_TFlag), (160, t_internal_abi_Kind), (163, t_internal_abi_NameOff), (164, t_internal_abi_TypeOff)]
def btys : List (Nat × Ty) := tys ++ [(76, t_n76), (77, t_impl_body), (131, .pair t_sl_impl_eventKey (.fnc 0)), (132, .pair t_sl_impl_eventKey (.fnc 0))]
def keeps : List (Nat × List (Nat × List (Nat × Option (Nat × Ty)))) := [(5, [(9, [(1, none), (3, some (57, t_impl_Lane)), (4, none)]), (14, [(1, none), (3, some (57, t_impl_Lane)), (5, none)])]), (7, [(5, [(3, none), (14, some (3, t_int)), (15, none), (16, none)])]), (9, [(5, [(0, some (88, t_laws_Lane)), (1, none), (5, none)])]), (12, [(5, [(0, some (91, t_laws_View)), (1, none), (5, none)])]), (16, [(4, [(0, some (94, t_impl_Event)), (5, none)])]), (18, [(4, [(0, some (50, t_impl_Out)), (5, none)])]), (19, [(4, [(1, none), (3, none)])]), (20, [(3, [(0, none), (3, some (57, t_impl_Lane)), (4, none)])]), (21, [(4, [(1, none), (3, none)])]), (22, [(2, [(1, some (94, t_impl_Event)), (2, none), (5, none)])]), (23, [(3, [(1, none), (2, none), (5, some (94, t_impl_Event)), (6, none)]), (9, [(1, none), (2, none), (5, some (94, t_impl_Event)), (7, some (94, t_impl_Event)), (8, none)])]), (24, [(3, [(0, some (88, t_laws_Lane)), (3, some (57, t_impl_Lane)), (4, none)])]), (25, [(3, [(0, some (110, t_laws_Event)), (3, some (94, t_impl_Event)), (4, none)])]), (26, [(3, [(0, some (112, t_laws_Out)), (3, some (50, t_impl_Out)), (4, none)])]), (27, [(3, [(0, some (91, t_laws_View)), (3, some (100, t_impl_View)), (4, none)])]), (28, [(3, [(0, some (3, t_int)), (3, some (3, t_int)), (4, none)])]), (29, [(4, [(1, none), (27, some (50, t_impl_Out)), (28, none), (29, none)]), (13, [(1, none), (5, some (3, t_int)), (61, some (57, t_impl_Lane)), (62, none), (63, none)]), (19, [(1, none), (82, some (100, t_impl_View)), (83, none), (84, none)])]), (30, [(3, [(1, none), (3, none), (12, some (57, t_impl_Lane)), (13, none), (14, none)]), (8, [(1, none), (3, none), (29, some (100, t_impl_View)), (30, none), (31, none)])]), (31, [(3, [(0, none), (3, some (3, t_int)), (5, none)])]), (32, [(3, [(2, none), (3, none), (5, some (94, t_impl_Event)), (9, none)])]), (33, [(3, [(3, none), (8, some (105, t_impl_Past)), (9, none), (10, none)])]), (34, [(3, [(1, some (94, t_impl_Event)), (5, none), (6, none)])]), (35, [(4, [(0, some (57, t_impl_Lane)), (1, some (57, t_impl_Lane)), (5, none)])]), (36, [(4, [(0, some (94, t_impl_Event)), (1, some (94, t_impl_Event)), (5, none)])]), (37, [(4, [(0, some (50, t_impl_Out)), (1, some (50, t_impl_Out)), (5, none)])]), (38, [(4, [(0, some (100, t_impl_View)), (1, some (100, t_impl_View)), (5, none)])]), (39, [(4, [(0, some (3, t_int)), (1, some (3, t_int)), (5, none)])]), (51, [(3, [(1, none), (3, some (94, t_impl_Event)), (4, none)]), (6, [(1, none), (3, some (94, t_impl_Event)), (4, none), (5, none)])]), (52, [(3, [(0, some (94, t_impl_Event)), (3, some (94, t_impl_Event)), (4, none)]), (6, [(0, some (94, t_impl_Event)), (3, some (94, t_impl_Event)), (4, none), (5, none)]), (11, [(0, some (94, t_impl_Event)), (3, some (94, t_impl_Event)), (4, none), (5, none), (6, none)])]), (58, [(4, [(0, some (94, t_impl_Event)), (11, some (94, t_impl_Event)), (12, none), (13, none)])]), (59, [(4, [(0, some (50, t_impl_Out)), (12, some (50, t_impl_Out)), (13, none), (14, none)])]), (60, [(4, [(1, none), (22, some (105, t_impl_Past)), (23, none), (24, none)])]), (63, [(3, [(2, none), (3, none), (20, some (57, t_impl_Lane)), (21, none), (22, none)])]), (65, [(3, [(3, some (94, t_impl_Event)), (17, some (55, t_sl_impl_Past)), (18, none), (19, none)]), (6, [(3, some (94, t_impl_Event)), (17, some (55, t_sl_impl_Past)), (18, none), (19, none), (23, some (105, t_impl_Past)), (24, none), (25, none)])]), (66, [(4, [(3, none), (4, none), (13, some (94, t_impl_Event)), (14, none), (15, none)]), (13, [(8, some (94, t_impl_Event)), (38, some (135, t_impl_eventKey)), (39, none), (40, none)])]), (67, [(3, [(1, none), (5, some (94, t_impl_Event)), (8, some (94, t_impl_Event)), (9, none), (10, none)])]), (74, [(5, [(0, some (144, t_laws_Past)), (1, none), (5, none)])]), (76, [(3, [(0, some (144, t_laws_Past)), (3, some (105, t_impl_Past)), (4, none)])]), (88, [(3, [(0, none), (4, none)])]), (89, [(2, [(0, none), (3, some (135, t_impl_eventKey))])]), (92, [(4, [(0, some (105, t_impl_Past)), (1, some (105, t_impl_Past)), (5, none)])]), (96, [(2, [(0, some (3, t_int)), (1, some (3, t_int)), (9, some (3, t_int)), (10, none), (11, none)])]), (97, [(6, [(0, none), (2, none), (3, none), (4, none), (5, none)])])]
def exts : List (Nat × ExtF) := [(33, extSlB 105 t_impl_Past (.fp (.pair (.lk 123 t_impl_Past) .any)) fun xs => (xs, ())), (85, extSlN 56 94 t_impl_Event (.ow 94 t_impl_Event) fun xs => xs)]
noncomputable def E : Env := ⟨Try.prog, tys, [(6, [(.pair t_int (.pair t_bool (.pair t_int (.pair t_int (.pair (.ow 57 t_impl_Lane) (.pair (.ow 94 t_impl_Event) (.pair (.ow 50 t_impl_Out) (.pair t_int (.pair t_int (.pair (.ow 100 t_impl_View) (.pair (.ow 3 t_int) (.pair t_int t_int))))))))))))]), (20, [(.ow 57 t_impl_Lane)]), (23, [(.ow 94 t_impl_Event)]), (24, [(.ow 57 t_impl_Lane)]), (25, [(.ow 94 t_impl_Event)]), (26, [(.ow 50 t_impl_Out)]), (27, [(.ow 100 t_impl_View)]), (28, [(.ow 3 t_int)]), (31, [(.ow 3 t_int)]), (32, [(.ow 94 t_impl_Event)]), (51, [(.ow 94 t_impl_Event)]), (52, [(.ow 94 t_impl_Event)]), (53, [(.pair t_int (.pair (.pair t_int (.pair t_int t_int)) (.ow 105 t_impl_Past)))]), (54, [(.pair t_int (.pair t_int (.pair t_int (.pair t_int (.pair t_int (.pair t_int t_int))))))]), (55, [(.pair t_int (.pair t_int (.pair t_int (.pair t_int t_int))))]), (56, [(.pair t_int (.pair t_int (.ow 94 t_impl_Event)))]), (65, [(.ow 94 t_impl_Event)]), (66, [(.ow 94 t_impl_Event)]), (67, [(.ow 94 t_impl_Event)]), (75, [(.pair t_int (.pair t_int t_int))]), (76, [(.ow 105 t_impl_Past)]), (87, [(.pair t_int (.pair t_int (.pair t_int (.pair t_int (.pair t_int (.pair t_int t_int))))))]), (89, [(.ow 135 t_impl_eventKey)]), (90, [(.pair t_int (.pair t_int (.pair t_int (.pair t_int (.pair t_int (.pair t_int t_int))))))]), (94, [(.pair (.pair t_int (.pair t_int (.pair t_int (.pair t_int (.pair t_int (.pair t_int t_int)))))) (.pair (.pair t_int (.pair t_int t_int)) (.pair (.ow 94 t_impl_Event) (.ow 50 t_impl_Out))))]), (97, [(.pair t_int (.pair t_int (.pair t_int (.pair t_int (.pair t_int (.pair t_int t_int))))))]), (33, [(.fp (.pair (.lk 123 t_impl_Past) .any))]), (85, [.ow 94 t_impl_Event]), (30, [.fp t_impl_body]), (62, [.bx 77 (.pair t_impl_keep (.pair t_bool (.pair (.ow 55 t_sl_impl_Past) (.pair t_int (.pair (.om 75 t_impl_View) (.pair (.ow 3 t_int) (.pair t_int t_int)))))))]), (63, [t_impl_keep])], fun f r => (match assoc keeps f with | some l => (match assoc l r with | some x => x | none => []) | none => []), fun f => assoc exts f, fun f => (match assoc ([] : List (Nat × Nat)) f with | some m => m | none => 0), btys, [(37, 130)]⟩
theorem envE : EnvOk E := envOk (by kernel_rfl) (by kernel_rfl)
theorem fnsE : FnsOk E := fnsOk (by kernel_rfl)
theorem mixE : E.P.follows .mixedOrders = true := by kernel_rfl
theorem ext_33 : ∀ τ args h0 x, (extSlB 105 t_impl_Past (.fp (.pair (.lk 123 t_impl_Past) .any)) fun xs => (xs, ()) : ExtF) τ args h0 = some x → FnOk E 33 τ args h0 x := extSlB_ok (Go.Proofs.YtkggdegpdmnjoaaChain.chain_done rfl (by kernel_rfl))
theorem ext_85 : ∀ τ args h0 x, (extSlN 56 94 t_impl_Event (.ow 94 t_impl_Event) fun xs => xs : ExtF) τ args h0 = some x → FnOk E 85 τ args h0 x := extSlN_ok envE fnsE mixE (k := 3) (fun xs => by kernel_rfl) (by kernel_rfl)
theorem sound (k : Nat) : CallOk E (evalT E k) := evalT_ok envE fnsE mixE (extOk_list (l := exts) (fun _ => rfl) (all_cons ext_33 (all_cons ext_85 all_nil))) k
end Go.Proofs.Ytkggdegpdmnjoaa.SFnExactNodeOk
