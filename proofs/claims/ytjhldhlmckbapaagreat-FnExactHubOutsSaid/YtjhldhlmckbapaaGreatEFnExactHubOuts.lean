/- The types of the program, and the plain machine for it, sound. -/
import Derived.Test.YtjhldhlmckbapaaGreatSx24
import Derived.Test.YtjhldhlmckbapaaGreatProg
import Derived.KernelRfl
import Derived.Test.YtjhldhlmckbapaaGreatChain
set_option linter.unusedVariables false
set_option maxRecDepth 1000000
set_option maxHeartbeats 0
namespace Go.Proofs.YtjhldhlmckbapaaGreat.SFnExactHubOuts
open Go Go.Sx Go.Proofs
@[reducible] def t_int64 : Ty := .int .i64
@[reducible] def t_int : Ty := .int .i64
@[reducible] def t_bool : Ty := .bool
@[reducible] def t_uint8 : Ty := .int .u8
@[reducible] def t_internal_abi_BoundsErrorCode : Ty := .int .u8
@[reducible] def t_n7 : Ty := .pair t_int64 (.pair t_int (.pair t_bool t_internal_abi_BoundsErrorCode))
@[reducible] def t_runtime_boundsError : Ty := .pair t_int64 (.pair t_int (.pair t_bool t_internal_abi_BoundsErrorCode))
@[reducible] def t_string : Ty := .str
@[reducible] def t_runtime_errorString : Ty := .str
@[reducible] def t_runtime_plainError : Ty := .str
@[reducible] def t_uintptr : Ty := .int .u64
@[reducible] def t_n13 : Ty := .pair t_string t_uintptr
@[reducible] def t_runtime_errorAddressString : Ty := .pair t_string t_uintptr
@[reducible] def t_int32 : Ty := .int .i32
@[reducible] def t_sl_int : Ty := .sl 3 t_int
@[reducible] def t_laws_Event : Ty := .pair t_int (.pair t_int (.pair t_int (.pair t_int (.pair t_int (.pair t_int t_int)))))
@[reducible] def t_sl_laws_Event : Ty := .sl 114 t_laws_Event
@[reducible] def t_laws_Out : Ty := .pair t_int (.pair t_int (.pair t_int (.pair t_int t_int)))
@[reducible] def t_sl_laws_Out : Ty := .sl 116 t_laws_Out
@[reducible] def t_laws_Word : Ty := .pair t_int (.pair t_int (.pair t_int (.pair t_int (.pair t_int (.pair t_int (.pair t_int (.pair t_sl_int (.pair t_sl_int (.pair t_sl_laws_Event t_sl_laws_Out)))))))))
@[reducible] def t_sl_laws_Word : Ty := .sl 86 t_laws_Word
@[reducible] def t_n23 : Ty := .pair t_int (.pair t_sl_laws_Word (.pair t_sl_laws_Word t_sl_laws_Word))
@[reducible] def t_laws_Hub : Ty := .pair t_int (.pair t_sl_laws_Word (.pair t_sl_laws_Word t_sl_laws_Word))
@[reducible] def t_laws_State : Ty := .pair t_int (.pair t_int t_int)
@[reducible] def t_laws_Past : Ty := .pair t_laws_Event (.pair t_laws_State (.pair t_sl_laws_Event t_sl_laws_Out))
@[reducible] def t_sl_laws_Past : Ty := .sl 175 t_laws_Past
@[reducible] def t_laws_Lane : Ty := .pair t_int (.pair t_laws_State t_sl_laws_Past)
@[reducible] def t_sl_laws_Lane : Ty := .sl 92 t_laws_Lane
@[reducible] def t_laws_View : Ty := .pair t_int (.pair t_int t_sl_laws_Event)
@[reducible] def t_sl_laws_View : Ty := .sl 95 t_laws_View
@[reducible] def t_n30 : Ty := .pair t_int (.pair t_bool (.pair t_int (.pair t_int (.pair t_sl_laws_Lane (.pair t_sl_laws_Event (.pair t_sl_laws_Out (.pair t_int (.pair t_int (.pair t_sl_laws_View (.pair t_sl_int (.pair t_int t_int)))))))))))
@[reducible] def t_laws_Node : Ty := .pair t_int (.pair t_bool (.pair t_int (.pair t_int (.pair t_sl_laws_Lane (.pair t_sl_laws_Event (.pair t_sl_laws_Out (.pair t_int (.pair t_int (.pair t_sl_laws_View (.pair t_sl_int (.pair t_int t_int)))))))))))
@[reducible] def t_impl_Out : Ty := .pair t_int (.pair t_int (.pair t_int (.pair t_int t_int)))
@[reducible] def t_sl_impl_Out : Ty := .sl 64 t_impl_Out
@[reducible] def t_impl_Event : Ty := .pair t_int (.pair t_int (.pair t_int (.pair t_int (.pair t_int (.pair t_int t_int)))))
@[reducible] def t_sl_impl_Event : Ty := .sl 112 t_impl_Event
@[reducible] def t_impl_Word : Ty := .pair t_int (.pair t_int (.pair t_int (.pair t_int (.pair t_int (.pair t_int (.pair t_int (.pair t_sl_int (.pair t_sl_int (.pair t_sl_impl_Event t_sl_impl_Out)))))))))
@[reducible] def t_sl_impl_Word : Ty := .sl 62 t_impl_Word
@[reducible] def t_n37 : Ty := .pair t_int (.pair t_sl_impl_Word (.pair t_sl_impl_Word t_sl_impl_Word))
@[reducible] def t_impl_Hub : Ty := .pair t_int (.pair t_sl_impl_Word (.pair t_sl_impl_Word t_sl_impl_Word))
@[reducible] def t_impl_State : Ty := .pair t_int (.pair t_int t_int)
@[reducible] def t_impl_Past : Ty := .pair t_impl_Event (.pair t_impl_State (.pair t_sl_impl_Event t_sl_impl_Out))
@[reducible] def t_sl_impl_Past : Ty := .sl 152 t_impl_Past
@[reducible] def t_impl_Lane : Ty := .pair t_int (.pair t_impl_State t_sl_impl_Past)
@[reducible] def t_sl_impl_Lane : Ty := .sl 106 t_impl_Lane
@[reducible] def t_impl_View : Ty := .pair t_int (.pair t_int t_sl_impl_Event)
@[reducible] def t_sl_impl_View : Ty := .sl 118 t_impl_View
@[reducible] def t_n43 : Ty := .pair t_int (.pair t_bool (.pair t_int (.pair t_int (.pair t_sl_impl_Lane (.pair t_sl_impl_Event (.pair t_sl_impl_Out (.pair t_int (.pair t_int (.pair t_sl_impl_View (.pair t_sl_int (.pair t_int t_int)))))))))))
@[reducible] def t_impl_Node : Ty := .pair t_int (.pair t_bool (.pair t_int (.pair t_int (.pair t_sl_impl_Lane (.pair t_sl_impl_Event (.pair t_sl_impl_Out (.pair t_int (.pair t_int (.pair t_sl_impl_View (.pair t_sl_int (.pair t_int t_int)))))))))))
@[reducible] def t_n61 : Ty := .pair t_int (.pair t_int (.pair t_int (.pair t_int (.pair t_int (.pair t_int (.pair t_int (.pair t_sl_int (.pair t_sl_int (.pair t_sl_impl_Event t_sl_impl_Out)))))))))
@[reducible] def t_n63 : Ty := .pair t_int (.pair t_int (.pair t_int (.pair t_int t_int)))
@[reducible] def t_n85 : Ty := .pair t_int (.pair t_int (.pair t_int (.pair t_int (.pair t_int (.pair t_int (.pair t_int (.pair t_sl_int (.pair t_sl_int (.pair t_sl_laws_Event t_sl_laws_Out)))))))))
@[reducible] def t_n88 : Ty := .pair t_int (.pair t_int t_int)
@[reducible] def t_n91 : Ty := .pair t_int (.pair t_laws_State t_sl_laws_Past)
@[reducible] def t_n94 : Ty := .pair t_int (.pair t_int t_sl_laws_Event)
@[reducible] def t_n105 : Ty := .pair t_int (.pair t_impl_State t_sl_impl_Past)
@[reducible] def t_n111 : Ty := .pair t_int (.pair t_int (.pair t_int (.pair t_int (.pair t_int (.pair t_int t_int)))))
@[reducible] def t_n117 : Ty := .pair t_int (.pair t_int t_sl_impl_Event)
@[reducible] def t_sl_impl_State : Ty := .sl 103 t_impl_State
@[reducible] def t_n128 : Ty := .pair t_int (.pair t_int (.pair t_int (.pair t_int (.pair t_sl_impl_State (.pair t_sl_impl_Event t_sl_impl_Out)))))
@[reducible] def t_impl_keep : Ty := .pair t_int (.pair t_int (.pair t_int (.pair t_int (.pair t_sl_impl_State (.pair t_sl_impl_Event t_sl_impl_Out)))))
@[reducible] def t_sl_sl_impl_Past : Ty := .sl 104 t_sl_impl_Past
@[reducible] def t_n131 : Ty := .mq 131 t_impl_View
@[reducible] def t_n132 : Ty := .pair t_impl_keep (.pair t_bool (.pair t_sl_sl_impl_Past (.pair t_int (.pair t_n131 (.pair t_sl_int (.pair t_int t_int))))))
@[reducible] def t_impl_body : Ty := .pair t_impl_keep (.pair t_bool (.pair t_sl_sl_impl_Past (.pair t_int (.pair t_n131 (.pair t_sl_int (.pair t_int t_int))))))
@[reducible] def t_n151 : Ty := .pair t_impl_Event (.pair t_impl_State (.pair t_sl_impl_Event t_sl_impl_Out))
@[reducible] def t_ar5_int : Ty := .pair t_int (.pair t_int (.pair t_int (.pair t_int t_int)))
@[reducible] def t_n174 : Ty := .pair t_laws_Event (.pair t_laws_State (.pair t_sl_laws_Event t_sl_laws_Out))
@[reducible] def t_impl_eventKey : Ty := .pair t_int (.pair t_int (.pair t_int (.pair t_int (.pair t_int (.pair t_int t_int)))))
@[reducible] def t_sl_impl_eventKey : Ty := .sl 184 t_impl_eventKey
@[reducible] def t_ar7_int : Ty := .pair t_int (.pair t_int (.pair t_int (.pair t_int (.pair t_int (.pair t_int t_int)))))
@[reducible] def t_uint32 : Ty := .int .u32
@[reducible] def t_internal_abi_TFlag : Ty := .int .u8
@[reducible] def t_internal_abi_Kind : Ty := .int .u8
@[reducible] def t_internal_abi_NameOff : Ty := .int .i32
@[reducible] def t_internal_abi_TypeOff : Ty := .int .i32
abbrev V_int64 : Type := Int
abbrev V_int : Type := Int
abbrev V_bool : Type := Bool
abbrev V_uint8 : Type := Int
abbrev V_internal_abi_BoundsErrorCode : Type := Int
abbrev V_n7 : Type := V_int64 × V_int × V_bool × V_internal_abi_BoundsErrorCode
abbrev V_runtime_boundsError : Type := V_int64 × V_int × V_bool × V_internal_abi_BoundsErrorCode
abbrev V_string : Type := ByteArray
abbrev V_runtime_errorString : Type := ByteArray
abbrev V_runtime_plainError : Type := ByteArray
abbrev V_uintptr : Type := Int
abbrev V_n13 : Type := V_string × V_uintptr
abbrev V_runtime_errorAddressString : Type := V_string × V_uintptr
abbrev V_int32 : Type := Int
abbrev V_sl_int : Type := List V_int
abbrev V_laws_Event : Type := V_int × V_int × V_int × V_int × V_int × V_int × V_int
abbrev V_sl_laws_Event : Type := List V_laws_Event
abbrev V_laws_Out : Type := V_int × V_int × V_int × V_int × V_int
abbrev V_sl_laws_Out : Type := List V_laws_Out
abbrev V_laws_Word : Type := V_int × V_int × V_int × V_int × V_int × V_int × V_int × V_sl_int × V_sl_int × V_sl_laws_Event × V_sl_laws_Out
abbrev V_sl_laws_Word : Type := List V_laws_Word
abbrev V_n23 : Type := V_int × V_sl_laws_Word × V_sl_laws_Word × V_sl_laws_Word
abbrev V_laws_Hub : Type := V_int × V_sl_laws_Word × V_sl_laws_Word × V_sl_laws_Word
abbrev V_laws_State : Type := V_int × V_int × V_int
abbrev V_laws_Past : Type := V_laws_Event × V_laws_State × V_sl_laws_Event × V_sl_laws_Out
abbrev V_sl_laws_Past : Type := List V_laws_Past
abbrev V_laws_Lane : Type := V_int × V_laws_State × V_sl_laws_Past
abbrev V_sl_laws_Lane : Type := List V_laws_Lane
abbrev V_laws_View : Type := V_int × V_int × V_sl_laws_Event
abbrev V_sl_laws_View : Type := List V_laws_View
abbrev V_n30 : Type := V_int × V_bool × V_int × V_int × V_sl_laws_Lane × V_sl_laws_Event × V_sl_laws_Out × V_int × V_int × V_sl_laws_View × V_sl_int × V_int × V_int
abbrev V_laws_Node : Type := V_int × V_bool × V_int × V_int × V_sl_laws_Lane × V_sl_laws_Event × V_sl_laws_Out × V_int × V_int × V_sl_laws_View × V_sl_int × V_int × V_int
abbrev V_impl_Out : Type := V_int × V_int × V_int × V_int × V_int
abbrev V_sl_impl_Out : Type := List V_impl_Out
abbrev V_impl_Event : Type := V_int × V_int × V_int × V_int × V_int × V_int × V_int
abbrev V_sl_impl_Event : Type := List V_impl_Event
abbrev V_impl_Word : Type := V_int × V_int × V_int × V_int × V_int × V_int × V_int × V_sl_int × V_sl_int × V_sl_impl_Event × V_sl_impl_Out
abbrev V_sl_impl_Word : Type := List V_impl_Word
abbrev V_n37 : Type := V_int × V_sl_impl_Word × V_sl_impl_Word × V_sl_impl_Word
abbrev V_impl_Hub : Type := V_int × V_sl_impl_Word × V_sl_impl_Word × V_sl_impl_Word
abbrev V_impl_State : Type := V_int × V_int × V_int
abbrev V_impl_Past : Type := V_impl_Event × V_impl_State × V_sl_impl_Event × V_sl_impl_Out
abbrev V_sl_impl_Past : Type := List V_impl_Past
abbrev V_impl_Lane : Type := V_int × V_impl_State × V_sl_impl_Past
abbrev V_sl_impl_Lane : Type := List V_impl_Lane
abbrev V_impl_View : Type := V_int × V_int × V_sl_impl_Event
abbrev V_sl_impl_View : Type := List V_impl_View
abbrev V_n43 : Type := V_int × V_bool × V_int × V_int × V_sl_impl_Lane × V_sl_impl_Event × V_sl_impl_Out × V_int × V_int × V_sl_impl_View × V_sl_int × V_int × V_int
abbrev V_impl_Node : Type := V_int × V_bool × V_int × V_int × V_sl_impl_Lane × V_sl_impl_Event × V_sl_impl_Out × V_int × V_int × V_sl_impl_View × V_sl_int × V_int × V_int
abbrev V_n61 : Type := V_int × V_int × V_int × V_int × V_int × V_int × V_int × V_sl_int × V_sl_int × V_sl_impl_Event × V_sl_impl_Out
abbrev V_n63 : Type := V_int × V_int × V_int × V_int × V_int
abbrev V_n85 : Type := V_int × V_int × V_int × V_int × V_int × V_int × V_int × V_sl_int × V_sl_int × V_sl_laws_Event × V_sl_laws_Out
abbrev V_n88 : Type := V_int × V_int × V_int
abbrev V_n91 : Type := V_int × V_laws_State × V_sl_laws_Past
abbrev V_n94 : Type := V_int × V_int × V_sl_laws_Event
abbrev V_n105 : Type := V_int × V_impl_State × V_sl_impl_Past
abbrev V_n111 : Type := V_int × V_int × V_int × V_int × V_int × V_int × V_int
abbrev V_n117 : Type := V_int × V_int × V_sl_impl_Event
abbrev V_sl_impl_State : Type := List V_impl_State
abbrev V_n128 : Type := V_int × V_int × V_int × V_int × V_sl_impl_State × V_sl_impl_Event × V_sl_impl_Out
abbrev V_impl_keep : Type := V_int × V_int × V_int × V_int × V_sl_impl_State × V_sl_impl_Event × V_sl_impl_Out
abbrev V_sl_sl_impl_Past : Type := List V_sl_impl_Past
abbrev V_n131 : Type := List (Int × V_impl_View)
abbrev V_n132 : Type := V_impl_keep × V_bool × V_sl_sl_impl_Past × V_int × V_n131 × V_sl_int × V_int × V_int
abbrev V_impl_body : Type := V_impl_keep × V_bool × V_sl_sl_impl_Past × V_int × V_n131 × V_sl_int × V_int × V_int
abbrev V_n151 : Type := V_impl_Event × V_impl_State × V_sl_impl_Event × V_sl_impl_Out
abbrev V_ar5_int : Type := V_int × V_int × V_int × V_int × V_int
abbrev V_n174 : Type := V_laws_Event × V_laws_State × V_sl_laws_Event × V_sl_laws_Out
abbrev V_impl_eventKey : Type := V_int × V_int × V_int × V_int × V_int × V_int × V_int
abbrev V_sl_impl_eventKey : Type := List V_impl_eventKey
abbrev V_ar7_int : Type := V_int × V_int × V_int × V_int × V_int × V_int × V_int
abbrev V_uint32 : Type := Int
abbrev V_internal_abi_TFlag : Type := Int
abbrev V_internal_abi_Kind : Type := Int
abbrev V_internal_abi_NameOff : Type := Int
abbrev V_internal_abi_TypeOff : Type := Int
def tys : List (Nat × Ty) := [(2, t_int64), (3, t_int), (4, t_bool), (5, t_uint8), (6, t_internal_abi_BoundsErrorCode), (7, t_n7), (8, t_runtime_boundsError), (9, t_string), (10, t_runtime_errorString), (11, t_runtime_plainError), (12, t_uintptr), (13, t_n13), (14, t_runtime_errorAddressString), (21, t_int32), (22, t_sl_laws_Word), (23, t_n23), (24, t_laws_Hub), (25, t_sl_laws_Lane), (26, t_sl_laws_Event), (27, t_sl_laws_Out), (28, t_sl_laws_View), (29, t_sl_int), (30, t_n30), (31, t_laws_Node), (34, t_sl_impl_Out), (36, t_sl_impl_Word), (37, t_n37), (38, t_impl_Hub), (40, t_sl_impl_Lane), (41, t_sl_impl_Event), (42, t_sl_impl_View), (43, t_n43), (44, t_impl_Node), (61, t_n61), (62, t_impl_Word), (63, t_n63), (64, t_impl_Out), (85, t_n85), (86, t_laws_Word), (88, t_n88), (89, t_laws_State), (90, t_sl_laws_Past), (91, t_n91), (92, t_laws_Lane), (94, t_n94), (95, t_laws_View), (103, t_impl_State), (104, t_sl_impl_Past), (105, t_n105), (106, t_impl_Lane), (111, t_n111), (112, t_impl_Event), (114, t_laws_Event), (116, t_laws_Out), (117, t_n117), (118, t_impl_View), (127, t_sl_impl_State), (128, t_n128), (129, t_impl_keep), (130, t_sl_sl_impl_Past), (151, t_n151), (152, t_impl_Past), (167, t_ar5_int), (174, t_n174), (175, t_laws_Past), (179, t_sl_impl_eventKey), (183, t_ar7_int), (184, t_impl_eventKey), (199, t_uint32), (200, t_internal_abi_TFlag), (201, t_internal_abi_Kind), (204, t_internal_abi_NameOff), (205, t_internal_abi_TypeOff)]
def btys : List (Nat × Ty) := tys ++ [(132, t_n132), (133, t_impl_body), (135, .pair t_sl_impl_Out (.fnc 0)), (136, .pair t_sl_impl_Out (.fnc 0)), (180, .pair t_sl_impl_eventKey (.fnc 0)), (181, .pair t_sl_impl_eventKey (.fnc 0))]
def keeps : List (Nat × List (Nat × List (Nat × Option (Nat × Ty)))) := [(6, [(7, [(2, none), (5, some (64, t_impl_Out)), (6, none), (7, none)]), (14, [(5, some (64, t_impl_Out)), (6, none), (8, some (64, t_impl_Out)), (9, none)])]), (9, [(6, [(5, none), (6, some (64, t_impl_Out)), (34, some (62, t_impl_Word)), (35, none), (36, none)])]), (10, [(4, [(0, some (64, t_impl_Out)), (1, some (64, t_impl_Out)), (5, none)])]), (15, [(2, [(0, some (64, t_impl_Out)), (1, none), (5, none)])]), (16, [(2, [(0, some (64, t_impl_Out)), (1, none), (5, none)])]), (17, [(5, [(0, some (86, t_laws_Word)), (1, none), (5, none)])]), (18, [(5, [(0, some (92, t_laws_Lane)), (1, none), (5, none)])]), (21, [(5, [(0, some (95, t_laws_View)), (1, none), (5, none)])]), (24, [(9, [(1, none), (3, some (106, t_impl_Lane)), (4, none)]), (14, [(1, none), (3, some (106, t_impl_Lane)), (5, none)])]), (25, [(3, [(0, some (64, t_impl_Out)), (3, some (64, t_impl_Out)), (4, none)]), (6, [(0, some (64, t_impl_Out)), (3, some (64, t_impl_Out)), (4, none), (5, none)])]), (26, [(3, [(0, some (86, t_laws_Word)), (3, some (62, t_impl_Word)), (4, none)])]), (27, [(3, [(0, some (92, t_laws_Lane)), (3, some (106, t_impl_Lane)), (4, none)])]), (28, [(3, [(0, some (114, t_laws_Event)), (3, some (112, t_impl_Event)), (4, none)])]), (29, [(3, [(0, some (116, t_laws_Out)), (3, some (64, t_impl_Out)), (4, none)])]), (30, [(3, [(0, some (95, t_laws_View)), (3, some (118, t_impl_View)), (4, none)])]), (31, [(3, [(0, some (3, t_int)), (3, some (3, t_int)), (4, none)])]), (32, [(6, [(26, some (62, t_impl_Word)), (27, none), (28, none)])]), (33, [(5, [(3, none), (14, some (3, t_int)), (15, none), (16, none)])]), (35, [(3, [(3, none), (7, some (64, t_impl_Out)), (8, none), (9, none)])]), (36, [(3, [(1, none), (5, some (64, t_impl_Out)), (8, some (64, t_impl_Out)), (9, none), (10, none)])]), (39, [(4, [(0, some (62, t_impl_Word)), (1, some (62, t_impl_Word)), (5, none)])]), (40, [(4, [(0, some (106, t_impl_Lane)), (1, some (106, t_impl_Lane)), (5, none)])]), (41, [(4, [(0, some (112, t_impl_Event)), (1, some (112, t_impl_Event)), (5, none)])]), (42, [(4, [(0, some (118, t_impl_View)), (1, some (118, t_impl_View)), (5, none)])]), (43, [(4, [(0, some (3, t_int)), (1, some (3, t_int)), (5, none)])]), (44, [(2, [(0, some (62, t_impl_Word)), (1, none), (5, none)])]), (45, [(2, [(0, some (106, t_impl_Lane)), (1, none), (5, none)])]), (46, [(2, [(0, some (112, t_impl_Event)), (1, none), (5, none)])]), (47, [(2, [(0, some (118, t_impl_View)), (1, none), (5, none)])]), (48, [(2, [(0, some (3, t_int)), (1, none), (5, none)])]), (54, [(2, [(0, some (62, t_impl_Word)), (1, none), (5, none)])]), (55, [(4, [(0, some (112, t_impl_Event)), (5, none)])]), (57, [(4, [(0, some (64, t_impl_Out)), (5, none)])]), (58, [(4, [(1, none), (3, none)])]), (59, [(3, [(0, none), (3, some (106, t_impl_Lane)), (4, none)])]), (60, [(4, [(1, none), (3, none)])]), (61, [(2, [(1, some (112, t_impl_Event)), (2, none), (5, none)])]), (62, [(3, [(1, none), (2, none), (5, some (112, t_impl_Event)), (6, none)]), (9, [(1, none), (2, none), (5, some (112, t_impl_Event)), (7, some (112, t_impl_Event)), (8, none)])]), (70, [(2, [(0, some (62, t_impl_Word)), (1, none), (7, some (62, t_impl_Word)), (8, none), (9, none)])]), (72, [(4, [(1, none), (27, some (64, t_impl_Out)), (28, none), (29, none)]), (13, [(1, none), (5, some (3, t_int)), (61, some (106, t_impl_Lane)), (62, none), (63, none)]), (19, [(1, none), (82, some (118, t_impl_View)), (83, none), (84, none)])]), (73, [(3, [(1, none), (3, none), (12, some (106, t_impl_Lane)), (13, none), (14, none)]), (8, [(1, none), (3, none), (29, some (118, t_impl_View)), (30, none), (31, none)])]), (74, [(3, [(0, none), (3, some (3, t_int)), (5, none)])]), (75, [(3, [(2, none), (3, none), (5, some (112, t_impl_Event)), (9, none)])]), (76, [(3, [(3, none), (8, some (152, t_impl_Past)), (9, none), (10, none)])]), (77, [(3, [(1, some (112, t_impl_Event)), (5, none), (6, none)])]), (79, [(3, [(0, none), (4, none)])]), (80, [(2, [(0, none), (3, some (64, t_impl_Out))])]), (85, [(2, [(0, some (152, t_impl_Past)), (1, none), (5, none)])]), (86, [(5, [(0, some (175, t_laws_Past)), (1, none), (5, none)])]), (96, [(3, [(1, none), (3, some (112, t_impl_Event)), (4, none)]), (6, [(1, none), (3, some (112, t_impl_Event)), (4, none), (5, none)])]), (97, [(3, [(0, some (112, t_impl_Event)), (3, some (112, t_impl_Event)), (4, none)]), (6, [(0, some (112, t_impl_Event)), (3, some (112, t_impl_Event)), (4, none), (5, none)]), (11, [(0, some (112, t_impl_Event)), (3, some (112, t_impl_Event)), (4, none), (5, none), (6, none)])]), (99, [(3, [(0, some (175, t_laws_Past)), (3, some (152, t_impl_Past)), (4, none)])]), (102, [(4, [(0, some (112, t_impl_Event)), (11, some (112, t_impl_Event)), (12, none), (13, none)])]), (103, [(4, [(0, some (64, t_impl_Out)), (12, some (64, t_impl_Out)), (13, none), (14, none)])]), (104, [(4, [(1, none), (22, some (152, t_impl_Past)), (23, none), (24, none)])]), (106, [(3, [(2, none), (3, none), (20, some (106, t_impl_Lane)), (21, none), (22, none)])]), (108, [(3, [(3, some (112, t_impl_Event)), (17, some (104, t_sl_impl_Past)), (18, none), (19, none)]), (6, [(3, some (112, t_impl_Event)), (17, some (104, t_sl_impl_Past)), (18, none), (19, none), (23, some (152, t_impl_Past)), (24, none), (25, none)])]), (109, [(4, [(3, none), (4, none), (13, some (112, t_impl_Event)), (14, none), (15, none)]), (13, [(8, some (112, t_impl_Event)), (38, some (184, t_impl_eventKey)), (39, none), (40, none)])]), (110, [(3, [(1, none), (5, some (112, t_impl_Event)), (8, some (112, t_impl_Event)), (9, none), (10, none)])]), (113, [(2, [(0, some (3, t_int)), (1, some (3, t_int)), (9, some (3, t_int)), (10, none), (11, none)])]), (114, [(6, [(0, none), (2, none), (3, none), (4, none), (5, none)])]), (116, [(4, [(0, some (152, t_impl_Past)), (1, some (152, t_impl_Past)), (5, none)])]), (118, [(4, [(0, some (3, t_int)), (3, none)])]), (121, [(2, [(0, some (3, t_int)), (5, some (3, t_int)), (6, none), (7, none)])]), (131, [(3, [(0, none), (4, none)])]), (132, [(2, [(0, none), (3, some (184, t_impl_eventKey))])]), (137, [(6, [(0, none), (2, none), (3, none), (4, none), (5, none)])])]
def exts : List (Nat × ExtF) := [(34, extSlN 40 64 t_impl_Out (.ow 64 t_impl_Out) fun xs => xs), (76, extSlB 152 t_impl_Past (.fp (.pair (.lk 166 t_impl_Past) .any)) fun xs => (xs, ())), (128, extSlN 56 112 t_impl_Event (.ow 112 t_impl_Event) fun xs => xs)]
noncomputable def E : Env := ⟨Tryz.prog, tys, [(6, [(.ow 64 t_impl_Out)]), (9, [(.ow 64 t_impl_Out)]), (25, [(.ow 64 t_impl_Out)]), (28, [(.ow 112 t_impl_Event)]), (29, [(.ow 64 t_impl_Out)]), (31, [(.ow 3 t_int)]), (35, [(.ow 64 t_impl_Out)]), (36, [(.ow 64 t_impl_Out)]), (59, [(.ow 106 t_impl_Lane)]), (62, [(.ow 112 t_impl_Event)]), (64, [(.pair t_int (.pair t_int (.pair t_int (.pair t_int (.pair t_int (.pair t_int (.pair t_int (.pair (.ow 3 t_int) (.pair (.ow 3 t_int) (.pair (.ow 112 t_impl_Event) (.ow 64 t_impl_Out)))))))))))]), (66, [(.pair t_int (.pair t_int (.pair t_int (.pair t_int (.pair t_int (.pair t_int t_int))))))]), (67, [(.pair t_int (.pair t_int (.pair t_int (.pair t_int t_int))))]), (68, [(.pair t_int (.pair t_int (.ow 112 t_impl_Event)))]), (74, [(.ow 3 t_int)]), (75, [(.ow 112 t_impl_Event)]), (80, [(.ow 64 t_impl_Out)]), (96, [(.ow 112 t_impl_Event)]), (97, [(.ow 112 t_impl_Event)]), (98, [(.pair t_int (.pair t_int t_int))]), (108, [(.ow 112 t_impl_Event)]), (109, [(.ow 112 t_impl_Event)]), (110, [(.ow 112 t_impl_Event)]), (114, [(.pair t_int (.pair t_int (.pair t_int (.pair t_int t_int))))]), (119, [(.pair (.pair t_int (.pair t_int (.pair t_int (.pair t_int (.pair t_int (.pair t_int t_int)))))) (.pair (.pair t_int (.pair t_int t_int)) (.pair (.ow 112 t_impl_Event) (.ow 64 t_impl_Out))))]), (130, [(.pair t_int (.pair t_int (.pair t_int (.pair t_int (.pair t_int (.pair t_int t_int))))))]), (132, [(.ow 184 t_impl_eventKey)]), (133, [(.pair t_int (.pair t_int (.pair t_int (.pair t_int (.pair t_int (.pair t_int t_int))))))]), (137, [(.pair t_int (.pair t_int (.pair t_int (.pair t_int (.pair t_int (.pair t_int t_int))))))]), (34, [.ow 64 t_impl_Out]), (76, [(.fp (.pair (.lk 166 t_impl_Past) .any))]), (128, [.ow 112 t_impl_Event]), (7, [(.pair t_int (.pair (.dw 62 t_impl_Word) (.pair (.dw 62 t_impl_Word) (.dw 62 t_impl_Word))))]), (8, [(.pair t_int (.pair t_bool (.pair t_int (.pair t_int (.pair (.dw 106 t_impl_Lane) (.pair (.ow 112 t_impl_Event) (.pair (.ow 64 t_impl_Out) (.pair t_int (.pair t_int (.pair (.dw 118 t_impl_View) (.pair (.ow 3 t_int) (.pair t_int t_int))))))))))))]), (26, [(.dw 62 t_impl_Word)]), (27, [(.dw 106 t_impl_Lane)]), (30, [(.dw 118 t_impl_View)]), (65, [(.pair t_int (.pair t_impl_State (.dw 152 t_impl_Past)))]), (73, [.fp t_impl_body]), (99, [(.dw 152 t_impl_Past)]), (105, [.bx 133 (.pair t_impl_keep (.pair t_bool (.pair (.ow 104 t_sl_impl_Past) (.pair t_int (.pair (.om 131 t_impl_View) (.pair (.ow 3 t_int) (.pair t_int t_int)))))))]), (106, [t_impl_keep])], fun f r => (match assoc keeps f with | some l => (match assoc l r with | some x => x | none => []) | none => []), fun f => assoc exts f, fun f => (match assoc ([(13, 1), (14, 1), (15, 1), (44, 1), (45, 1), (46, 1), (47, 1), (48, 1), (85, 1)] : List (Nat × Nat)) f with | some m => m | none => 0), btys, [(37, 34), (37, 179), (7, 36), (7, 40), (7, 42), (7, 104)]⟩
theorem envE : EnvOk E := envOk (by kernel_rfl) (by kernel_rfl)
theorem fnsE : FnsOk E := fnsOk (by kernel_rfl)
theorem mixE : E.P.follows .mixedOrders = true := by kernel_rfl
theorem ext_34 : ∀ τ args h0 x, (extSlN 40 64 t_impl_Out (.ow 64 t_impl_Out) fun xs => xs : ExtF) τ args h0 = some x → FnOk E 34 τ args h0 x := extSlN_ok envE fnsE mixE (k := 3) (fun xs => by kernel_rfl) (by kernel_rfl)
theorem ext_76 : ∀ τ args h0 x, (extSlB 152 t_impl_Past (.fp (.pair (.lk 166 t_impl_Past) .any)) fun xs => (xs, ()) : ExtF) τ args h0 = some x → FnOk E 76 τ args h0 x := extSlB_ok (Go.Proofs.YtjhldhlmckbapaaGreatChain.chain_done rfl (by kernel_rfl))
theorem ext_128 : ∀ τ args h0 x, (extSlN 56 112 t_impl_Event (.ow 112 t_impl_Event) fun xs => xs : ExtF) τ args h0 = some x → FnOk E 128 τ args h0 x := extSlN_ok envE fnsE mixE (k := 3) (fun xs => by kernel_rfl) (by kernel_rfl)
theorem sound (k : Nat) : CallOk E (evalT E k) := evalT_ok envE fnsE mixE (extOk_list (l := exts) (fun _ => rfl) (all_cons ext_34 (all_cons ext_76 (all_cons ext_128 all_nil)))) k
end Go.Proofs.YtjhldhlmckbapaaGreat.SFnExactHubOuts
