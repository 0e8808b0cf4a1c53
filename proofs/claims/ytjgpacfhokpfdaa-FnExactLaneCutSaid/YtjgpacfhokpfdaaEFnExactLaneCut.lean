/- The types of the program, and the plain machine for it, sound. -/
import Derived.Test.YtjgpacfhokpfdaaSx24
import Derived.Test.YtjgpacfhokpfdaaProg
import Derived.KernelRfl
import Derived.Test.YtjgpacfhokpfdaaChain
import Derived.Test.YtjgpacfhokpfdaaCut
set_option linter.unusedVariables false
set_option maxRecDepth 1000000
set_option maxHeartbeats 0
namespace Go.Proofs.Ytjgpacfhokpfdaa.SFnExactLaneCut
open Go Go.Sx Go.Proofs
@[reducible] def t_int64 : Ty := .int .i64
@[reducible] def t_int : Ty := .int .i64
@[reducible] def t_bool : Ty := .bool
@[reducible] def t_uint8 : Ty := .int .u8
@[reducible] def t_internal_abi_BoundsErrorCode : Ty := .int .u8
@[reducible] def t_n7 : Ty := .pair t_int64 (.pair t_int (.pair t_bool t_internal_abi_BoundsErrorCode))
@[reducible] def t_runtime_boundsError : Ty := .pair t_int64 (.pair t_int (.pair t_bool t_internal_abi_BoundsErrorCode))
@[reducible] def t_string : Ty := .str
@[reducible] def t_runtime_errorString : Ty := .str
@[reducible] def t_runtime_plainError : Ty := .str
@[reducible] def t_uintptr : Ty := .int .u64
@[reducible] def t_n13 : Ty := .pair t_string t_uintptr
@[reducible] def t_runtime_errorAddressString : Ty := .pair t_string t_uintptr
@[reducible] def t_int32 : Ty := .int .i32
@[reducible] def t_n22 : Ty := .pair t_int (.pair t_int t_int)
@[reducible] def t_laws_State : Ty := .pair t_int (.pair t_int t_int)
@[reducible] def t_laws_Event : Ty := .pair t_int (.pair t_int (.pair t_int (.pair t_int (.pair t_int (.pair t_int t_int)))))
@[reducible] def t_sl_laws_Event : Ty := .sl 103 t_laws_Event
@[reducible] def t_laws_Out : Ty := .pair t_int (.pair t_int (.pair t_int (.pair t_int t_int)))
@[reducible] def t_sl_laws_Out : Ty := .sl 172 t_laws_Out
@[reducible] def t_laws_Past : Ty := .pair t_laws_Event (.pair t_laws_State (.pair t_sl_laws_Event t_sl_laws_Out))
@[reducible] def t_sl_laws_Past : Ty := .sl 151 t_laws_Past
@[reducible] def t_n25 : Ty := .pair t_int (.pair t_laws_State t_sl_laws_Past)
@[reducible] def t_laws_Lane : Ty := .pair t_int (.pair t_laws_State t_sl_laws_Past)
@[reducible] def t_impl_State : Ty := .pair t_int (.pair t_int t_int)
@[reducible] def t_impl_Event : Ty := .pair t_int (.pair t_int (.pair t_int (.pair t_int (.pair t_int (.pair t_int t_int)))))
@[reducible] def t_sl_impl_Event : Ty := .sl 41 t_impl_Event
@[reducible] def t_impl_Out : Ty := .pair t_int (.pair t_int (.pair t_int (.pair t_int t_int)))
@[reducible] def t_sl_impl_Out : Ty := .sl 111 t_impl_Out
@[reducible] def t_impl_Past : Ty := .pair t_impl_Event (.pair t_impl_State (.pair t_sl_impl_Event t_sl_impl_Out))
@[reducible] def t_sl_impl_Past : Ty := .sl 96 t_impl_Past
@[reducible] def t_n31 : Ty := .pair t_int (.pair t_impl_State t_sl_impl_Past)
@[reducible] def t_impl_Lane : Ty := .pair t_int (.pair t_impl_State t_sl_impl_Past)
@[reducible] def t_n40 : Ty := .pair t_int (.pair t_int (.pair t_int (.pair t_int (.pair t_int (.pair t_int t_int)))))
@[reducible] def t_sl_uint8 : Ty := .sl 5 t_uint8
@[reducible] def t_sl_int : Ty := .sl 3 t_int
@[reducible] def t_n61 : Ty := .pair t_int (.pair t_int (.pair t_int (.pair t_int (.pair t_int (.pair t_int (.pair t_int (.pair t_sl_int (.pair t_sl_int (.pair t_sl_impl_Event t_sl_impl_Out)))))))))
@[reducible] def t_impl_Word : Ty := .pair t_int (.pair t_int (.pair t_int (.pair t_int (.pair t_int (.pair t_int (.pair t_int (.pair t_sl_int (.pair t_sl_int (.pair t_sl_impl_Event t_sl_impl_Out)))))))))
@[reducible] def t_n67 : Ty := .pair t_int (.pair t_int (.pair t_int (.pair t_int (.pair t_int (.pair t_int (.pair t_int (.pair t_sl_int (.pair t_sl_int (.pair t_sl_laws_Event t_sl_laws_Out)))))))))
@[reducible] def t_laws_Word : Ty := .pair t_int (.pair t_int (.pair t_int (.pair t_int (.pair t_int (.pair t_int (.pair t_int (.pair t_sl_int (.pair t_sl_int (.pair t_sl_laws_Event t_sl_laws_Out)))))))))
@[reducible] def t_sl_laws_Word : Ty := .sl 68 t_laws_Word
@[reducible] def t_n80 : Ty := .pair t_int (.pair t_sl_laws_Word (.pair t_sl_laws_Word t_sl_laws_Word))
@[reducible] def t_laws_Hub : Ty := .pair t_int (.pair t_sl_laws_Word (.pair t_sl_laws_Word t_sl_laws_Word))
@[reducible] def t_sl_impl_Word : Ty := .sl 62 t_impl_Word
@[reducible] def t_n85 : Ty := .pair t_int (.pair t_sl_impl_Word (.pair t_sl_impl_Word t_sl_impl_Word))
@[reducible] def t_impl_Hub : Ty := .pair t_int (.pair t_sl_impl_Word (.pair t_sl_impl_Word t_sl_impl_Word))
@[reducible] def t_n95 : Ty := .pair t_impl_Event (.pair t_impl_State (.pair t_sl_impl_Event t_sl_impl_Out))
@[reducible] def t_n110 : Ty := .pair t_int (.pair t_int (.pair t_int (.pair t_int t_int)))
@[reducible] def t_impl_packer : Ty := .sl 5 t_uint8
@[reducible] def t_impl_packFault : Ty := .int .i64
@[reducible] def t_n150 : Ty := .pair t_laws_Event (.pair t_laws_State (.pair t_sl_laws_Event t_sl_laws_Out))
@[reducible] def t_ar7_int : Ty := .pair t_int (.pair t_int (.pair t_int (.pair t_int (.pair t_int (.pair t_int t_int)))))
@[reducible] def t_impl_eventKey : Ty := .pair t_int (.pair t_int (.pair t_int (.pair t_int (.pair t_int (.pair t_int t_int)))))
@[reducible] def t_n169 : Ty := .pair t_sl_uint8 t_int
@[reducible] def t_spec_l6Rd : Ty := .pair t_sl_uint8 t_int
@[reducible] def t_uint64 : Ty := .int .u64
@[reducible] def t_uint : Ty := .int .u64
@[reducible] def t_sl_impl_eventKey : Ty := .sl 156 t_impl_eventKey
@[reducible] def t_ar5_int : Ty := .pair t_int (.pair t_int (.pair t_int (.pair t_int t_int)))
@[reducible] def t_uint32 : Ty := .int .u32
@[reducible] def t_internal_abi_TFlag : Ty := .int .u8
@[reducible] def t_internal_abi_Kind : Ty := .int .u8
@[reducible] def t_internal_abi_NameOff : Ty := .int .i32
@[reducible] def t_internal_abi_TypeOff : Ty := .int .i32
@[reducible] def t_n240 : Ty := .pair t_string t_internal_abi_Kind
@[reducible] def t_internal_reflectlite_ValueError : Ty := .pair t_string t_internal_abi_Kind
@[reducible] def t_uint16 : Ty := .int .u16
@[reducible] def t_n246 : Ty := .pair t_internal_abi_NameOff (.pair t_uint16 (.pair t_uint16 (.pair t_uint32 t_uint32)))
@[reducible] def t_internal_abi_UncommonType : Ty := .pair t_internal_abi_NameOff (.pair t_uint16 (.pair t_uint16 (.pair t_uint32 t_uint32)))
@[reducible] def t_internal_abi_TextOff : Ty := .int .i32
@[reducible] def t_internal_abi_Method : Ty := .pair t_internal_abi_NameOff (.pair t_internal_abi_TypeOff (.pair t_internal_abi_TextOff t_internal_abi_TextOff))
@[reducible] def t_sl_internal_abi_Method : Ty := .sl 251 t_internal_abi_Method
@[reducible] def t_n250 : Ty := .pair t_internal_abi_NameOff (.pair t_internal_abi_TypeOff (.pair t_internal_abi_TextOff t_internal_abi_TextOff))
abbrev V_int64 : Type := Int
abbrev V_int : Type := Int
abbrev V_bool : Type := Bool
abbrev V_uint8 : Type := Int
abbrev V_internal_abi_BoundsErrorCode : Type := Int
abbrev V_n7 : Type := V_int64 × V_int × V_bool × V_internal_abi_BoundsErrorCode
abbrev V_runtime_boundsError : Type := V_int64 × V_int × V_bool × V_internal_abi_BoundsErrorCode
abbrev V_string : Type := ByteArray
abbrev V_runtime_errorString : Type := ByteArray
abbrev V_runtime_plainError : Type := ByteArray
abbrev V_uintptr : Type := Int
abbrev V_n13 : Type := V_string × V_uintptr
abbrev V_runtime_errorAddressString : Type := V_string × V_uintptr
abbrev V_int32 : Type := Int
abbrev V_n22 : Type := V_int × V_int × V_int
abbrev V_laws_State : Type := V_int × V_int × V_int
abbrev V_laws_Event : Type := V_int × V_int × V_int × V_int × V_int × V_int × V_int
abbrev V_sl_laws_Event : Type := List V_laws_Event
abbrev V_laws_Out : Type := V_int × V_int × V_int × V_int × V_int
abbrev V_sl_laws_Out : Type := List V_laws_Out
abbrev V_laws_Past : Type := V_laws_Event × V_laws_State × V_sl_laws_Event × V_sl_laws_Out
abbrev V_sl_laws_Past : Type := List V_laws_Past
abbrev V_n25 : Type := V_int × V_laws_State × V_sl_laws_Past
abbrev V_laws_Lane : Type := V_int × V_laws_State × V_sl_laws_Past
abbrev V_impl_State : Type := V_int × V_int × V_int
abbrev V_impl_Event : Type := V_int × V_int × V_int × V_int × V_int × V_int × V_int
abbrev V_sl_impl_Event : Type := List V_impl_Event
abbrev V_impl_Out : Type := V_int × V_int × V_int × V_int × V_int
abbrev V_sl_impl_Out : Type := List V_impl_Out
abbrev V_impl_Past : Type := V_impl_Event × V_impl_State × V_sl_impl_Event × V_sl_impl_Out
abbrev V_sl_impl_Past : Type := List V_impl_Past
abbrev V_n31 : Type := V_int × V_impl_State × V_sl_impl_Past
abbrev V_impl_Lane : Type := V_int × V_impl_State × V_sl_impl_Past
abbrev V_n40 : Type := V_int × V_int × V_int × V_int × V_int × V_int × V_int
abbrev V_sl_uint8 : Type := List V_uint8
abbrev V_sl_int : Type := List V_int
abbrev V_n61 : Type := V_int × V_int × V_int × V_int × V_int × V_int × V_int × V_sl_int × V_sl_int × V_sl_impl_Event × V_sl_impl_Out
abbrev V_impl_Word : Type := V_int × V_int × V_int × V_int × V_int × V_int × V_int × V_sl_int × V_sl_int × V_sl_impl_Event × V_sl_impl_Out
abbrev V_n67 : Type := V_int × V_int × V_int × V_int × V_int × V_int × V_int × V_sl_int × V_sl_int × V_sl_laws_Event × V_sl_laws_Out
abbrev V_laws_Word : Type := V_int × V_int × V_int × V_int × V_int × V_int × V_int × V_sl_int × V_sl_int × V_sl_laws_Event × V_sl_laws_Out
abbrev V_sl_laws_Word : Type := List V_laws_Word
abbrev V_n80 : Type := V_int × V_sl_laws_Word × V_sl_laws_Word × V_sl_laws_Word
abbrev V_laws_Hub : Type := V_int × V_sl_laws_Word × V_sl_laws_Word × V_sl_laws_Word
abbrev V_sl_impl_Word : Type := List V_impl_Word
abbrev V_n85 : Type := V_int × V_sl_impl_Word × V_sl_impl_Word × V_sl_impl_Word
abbrev V_impl_Hub : Type := V_int × V_sl_impl_Word × V_sl_impl_Word × V_sl_impl_Word
abbrev V_n95 : Type := V_impl_Event × V_impl_State × V_sl_impl_Event × V_sl_impl_Out
abbrev V_n110 : Type := V_int × V_int × V_int × V_int × V_int
abbrev V_impl_packer : Type := List V_uint8
abbrev V_impl_packFault : Type := Int
abbrev V_n150 : Type := V_laws_Event × V_laws_State × V_sl_laws_Event × V_sl_laws_Out
abbrev V_ar7_int : Type := V_int × V_int × V_int × V_int × V_int × V_int × V_int
abbrev V_impl_eventKey : Type := V_int × V_int × V_int × V_int × V_int × V_int × V_int
abbrev V_n169 : Type := V_sl_uint8 × V_int
abbrev V_spec_l6Rd : Type := V_sl_uint8 × V_int
abbrev V_uint64 : Type := Int
abbrev V_uint : Type := Int
abbrev V_sl_impl_eventKey : Type := List V_impl_eventKey
abbrev V_ar5_int : Type := V_int × V_int × V_int × V_int × V_int
abbrev V_uint32 : Type := Int
abbrev V_internal_abi_TFlag : Type := Int
abbrev V_internal_abi_Kind : Type := Int
abbrev V_internal_abi_NameOff : Type := Int
abbrev V_internal_abi_TypeOff : Type := Int
abbrev V_n240 : Type := V_string × V_internal_abi_Kind
abbrev V_internal_reflectlite_ValueError : Type := V_string × V_internal_abi_Kind
abbrev V_uint16 : Type := Int
abbrev V_n246 : Type := V_internal_abi_NameOff × V_uint16 × V_uint16 × V_uint32 × V_uint32
abbrev V_internal_abi_UncommonType : Type := V_internal_abi_NameOff × V_uint16 × V_uint16 × V_uint32 × V_uint32
abbrev V_internal_abi_TextOff : Type := Int
abbrev V_internal_abi_Method : Type := V_internal_abi_NameOff × V_internal_abi_TypeOff × V_internal_abi_TextOff × V_internal_abi_TextOff
abbrev V_sl_internal_abi_Method : Type := List V_internal_abi_Method
abbrev V_n250 : Type := V_internal_abi_NameOff × V_internal_abi_TypeOff × V_internal_abi_TextOff × V_internal_abi_TextOff
def tys : List (Nat × Ty) := [(2, t_int64), (3, t_int), (4, t_bool), (5, t_uint8), (6, t_internal_abi_BoundsErrorCode), (7, t_n7), (8, t_runtime_boundsError), (9, t_string), (10, t_runtime_errorString), (11, t_runtime_plainError), (12, t_uintptr), (13, t_n13), (14, t_runtime_errorAddressString), (21, t_int32), (22, t_n22), (23, t_laws_State), (24, t_sl_laws_Past), (25, t_n25), (26, t_laws_Lane), (29, t_impl_State), (30, t_sl_impl_Past), (31, t_n31), (32, t_impl_Lane), (38, t_sl_laws_Event), (40, t_n40), (41, t_impl_Event), (44, t_sl_impl_Event), (53, t_sl_impl_Out), (59, t_sl_uint8), (60, t_sl_int), (61, t_n61), (62, t_impl_Word), (66, t_sl_laws_Out), (67, t_n67), (68, t_laws_Word), (79, t_sl_laws_Word), (80, t_n80), (81, t_laws_Hub), (84, t_sl_impl_Word), (85, t_n85), (86, t_impl_Hub), (95, t_n95), (96, t_impl_Past), (103, t_laws_Event), (110, t_n110), (111, t_impl_Out), (128, t_impl_packer), (144, t_impl_packFault), (150, t_n150), (151, t_laws_Past), (155, t_ar7_int), (156, t_impl_eventKey), (169, t_n169), (170, t_spec_l6Rd), (172, t_laws_Out), (174, t_uint64), (175, t_uint), (190, t_sl_impl_eventKey), (200, t_ar5_int), (225, t_uint32), (226, t_internal_abi_TFlag), (227, t_internal_abi_Kind), (230, t_internal_abi_NameOff), (231, t_internal_abi_TypeOff), (240, t_n240), (241, t_internal_reflectlite_ValueError), (245, t_uint16), (246, t_n246), (247, t_internal_abi_UncommonType), (248, t_sl_internal_abi_Method), (249, t_internal_abi_TextOff), (250, t_n250), (251, t_internal_abi_Method)]
def btys : List (Nat × Ty) := tys ++ [(191, .pair t_sl_impl_eventKey (.fnc 0)), (192, .pair t_sl_impl_eventKey (.fnc 0)), (196, .pair t_sl_impl_Out (.fnc 0)), (197, .pair t_sl_impl_Out (.fnc 0))]
def keeps : List (Nat × List (Nat × List (Nat × Option (Nat × Ty)))) := [(14, [(4, [(1, none), (3, none)])]), (16, [(4, [(1, none), (22, some (96, t_impl_Past)), (23, none), (24, none)])]), (23, [(3, [(0, some (103, t_laws_Event)), (3, some (41, t_impl_Event)), (4, none)])]), (26, [(4, [(0, some (41, t_impl_Event)), (1, some (41, t_impl_Event)), (5, none)])]), (30, [(2, [(0, some (41, t_impl_Event)), (1, none), (5, none)])]), (34, [(4, [(0, some (111, t_impl_Out)), (1, some (111, t_impl_Out)), (5, none)])]), (35, [(2, [(0, some (111, t_impl_Out)), (1, none), (5, none)])]), (36, [(2, [(0, some (41, t_impl_Event)), (1, none), (5, none)])]), (37, [(2, [(0, some (111, t_impl_Out)), (1, none), (5, none)])]), (58, [(5, [(0, some (151, t_laws_Past)), (1, none), (5, none)])]), (65, [(3, [(0, some (151, t_laws_Past)), (3, some (96, t_impl_Past)), (4, none)])]), (70, [(4, [(0, some (96, t_impl_Past)), (1, some (96, t_impl_Past)), (5, none)])]), (72, [(4, [(1, some (41, t_impl_Event)), (2, none), (5, none)])]), (73, [(2, [(1, some (41, t_impl_Event)), (2, none), (5, none)])]), (75, [(2, [(1, some (41, t_impl_Event)), (2, none), (7, some (41, t_impl_Event)), (8, none), (9, none)])]), (77, [(3, [(2, none), (3, none), (6, none), (7, none), (8, none)])]), (80, [(2, [(0, some (96, t_impl_Past)), (1, none), (5, none)])]), (81, [(2, [(0, some (96, t_impl_Past)), (1, none), (5, none)])]), (91, [(4, [(0, some (41, t_impl_Event)), (5, none)])]), (92, [(4, [(0, some (111, t_impl_Out)), (5, none)])]), (96, [(4, [(0, some (41, t_impl_Event)), (11, some (41, t_impl_Event)), (12, none), (13, none)])]), (97, [(4, [(0, some (111, t_impl_Out)), (12, some (111, t_impl_Out)), (13, none), (14, none)])]), (101, [(3, [(0, some (172, t_laws_Out)), (3, some (111, t_impl_Out)), (4, none)])]), (136, [(3, [(3, none), (8, some (96, t_impl_Past)), (9, none), (10, none)])]), (137, [(3, [(1, some (41, t_impl_Event)), (5, none), (6, none)])]), (139, [(3, [(3, some (96, t_impl_Past)), (4, none)])]), (140, [(5, [(1, none), (5, some (96, t_impl_Past)), (14, some (96, t_impl_Past)), (15, none), (16, none)])]), (156, [(2, [(0, some (3, t_int)), (1, some (3, t_int)), (9, some (3, t_int)), (10, none), (11, none)])])]
def exts : List (Nat × ExtF) := [(78, extCut 96 t_impl_Past 41 t_impl_Event (.pair t_impl_Lane t_bool) cutF), (136, extSlB 96 t_impl_Past (.fp (.pair (.lk 189 t_impl_Past) .any)) fun xs => (xs, ())), (159, extSlN 56 41 t_impl_Event (.ow 41 t_impl_Event) fun xs => xs), (160, extSlN 40 111 t_impl_Out (.ow 111 t_impl_Out) fun xs => xs)]
noncomputable def E : Env := ⟨Try.prog, tys, [(23, [(.ow 41 t_impl_Event)]), (27, [(.pair t_int (.pair (.pair t_int (.pair t_int t_int)) (.ow 96 t_impl_Past))), t_bool]), (64, [(.pair t_int (.pair t_int t_int))]), (74, [(.pair t_int (.pair t_int (.pair t_int (.pair t_int (.pair t_int (.pair t_int t_int))))))]), (77, [(.pair t_int (.pair (.pair t_int (.pair t_int t_int)) (.ow 96 t_impl_Past)))]), (101, [(.ow 111 t_impl_Out)]), (130, [(.pair (.pair t_int (.pair t_int (.pair t_int (.pair t_int (.pair t_int (.pair t_int t_int)))))) (.pair (.pair t_int (.pair t_int t_int)) (.pair (.ow 41 t_impl_Event) (.ow 111 t_impl_Out))))]), (134, [(.pair t_int (.pair t_int (.pair t_int (.pair t_int (.pair t_int (.pair t_int t_int))))))]), (139, [(.ow 96 t_impl_Past)]), (141, [(.pair (.pair t_int (.pair t_int (.pair t_int (.pair t_int (.pair t_int (.pair t_int t_int)))))) (.pair (.pair t_int (.pair t_int t_int)) (.pair (.ow 41 t_impl_Event) (.ow 111 t_impl_Out))))]), (149, [(.pair t_int (.pair t_int (.pair t_int (.pair t_int t_int))))]), (78, [t_impl_Lane, t_bool]), (136, [(.fp (.pair (.lk 189 t_impl_Past) .any))]), (159, [.ow 41 t_impl_Event]), (160, [.ow 111 t_impl_Out]), (15, [(.pair t_int (.pair t_impl_State (.dw 96 t_impl_Past)))]), (28, [(.pair t_int (.pair t_impl_State (.dw 96 t_impl_Past))), t_bool]), (65, [(.dw 96 t_impl_Past)]), (79, [(.pair t_int (.pair t_impl_State (.dw 96 t_impl_Past)))]), (140, [(.dw 96 t_impl_Past)])], fun f r => (match assoc keeps f with | some l => (match assoc l r with | some x => x | none => []) | none => []), fun f => assoc exts f, fun f => (match assoc ([(29, 1), (30, 1), (35, 1), (80, 1)] : List (Nat × Nat)) f with | some m => m | none => 0), btys, [(37, 190), (37, 53), (7, 30), (7, 84), (13, 30)]⟩
theorem envE : EnvOk E := envOk (by kernel_rfl) (by kernel_rfl)
theorem fnsE : FnsOk E := fnsOk (by kernel_rfl)
theorem mixE : E.P.follows .mixedOrders = true := by kernel_rfl
theorem ext_78 : ∀ τ args h0 x, (extCut 96 t_impl_Past 41 t_impl_Event (.pair t_impl_Lane t_bool) cutF : ExtF) τ args h0 = some x → FnOk E 78 τ args h0 x := extCut_ok (by kernel_rfl) (Go.Proofs.YtjgpacfhokpfdaaCut.cut_done (e1 := 41) (u1 := t_impl_Event) (e2 := 111) (u2 := t_impl_Out) rfl envE fnsE mixE ⟨fun k xs ys => by kernel_rfl, fun k j ys i xs => by kernel_rfl, fun k xs => by kernel_rfl, fun k j xs acc => by kernel_rfl⟩ (by kernel_rfl) (by kernel_rfl) (by kernel_rfl))
theorem ext_136 : ∀ τ args h0 x, (extSlB 96 t_impl_Past (.fp (.pair (.lk 189 t_impl_Past) .any)) fun xs => (xs, ()) : ExtF) τ args h0 = some x → FnOk E 136 τ args h0 x := extSlB_ok (Go.Proofs.YtjgpacfhokpfdaaChain.chain_done rfl (by kernel_rfl))
theorem ext_159 : ∀ τ args h0 x, (extSlN 56 41 t_impl_Event (.ow 41 t_impl_Event) fun xs => xs : ExtF) τ args h0 = some x → FnOk E 159 τ args h0 x := extSlN_ok envE fnsE mixE (k := 3) (fun xs => by kernel_rfl) (by kernel_rfl)
theorem ext_160 : ∀ τ args h0 x, (extSlN 40 111 t_impl_Out (.ow 111 t_impl_Out) fun xs => xs : ExtF) τ args h0 = some x → FnOk E 160 τ args h0 x := extSlN_ok envE fnsE mixE (k := 3) (fun xs => by kernel_rfl) (by kernel_rfl)
theorem sound (k : Nat) : CallOk E (evalT E k) := evalT_ok envE fnsE mixE (extOk_list (l := exts) (fun _ => rfl) (all_cons ext_78 (all_cons ext_136 (all_cons ext_159 (all_cons ext_160 all_nil))))) k
end Go.Proofs.Ytjgpacfhokpfdaa.SFnExactLaneCut
