/- The facts of this seat's program, under names of their own. Written by gxgen.py. -/
import Derived.Test.YtbibihbkkflidaaProg
import Derived.KernelRfl
import Derived.Test.YtbibihbkkflidaaGxLend
namespace Gx
open Go Go.Proofs
noncomputable def Pg : Program := Try.prog
theorem mixed : Pg.follows .mixedOrders = true := by kernel_rfl
abbrev t_func : TypeId := 1
@[push_cast] theorem ty1 : tyq Pg 1 = some ⟨1, false, 8, [.v .nilFunc]⟩ := by kernel_rfl
abbrev t_int64 : TypeId := 2
@[push_cast] theorem ty2 : tyq Pg 2 = some ⟨1, false, 8, [.v (.int .i64 0)]⟩ := by kernel_rfl
@[push_cast] theorem un2 : Pg.underlying 2 = some (.int .i64) := Try.underlying2
abbrev t_int : TypeId := 3
@[push_cast] theorem ty3 : tyq Pg 3 = some ⟨1, false, 8, [.v (.int .i64 0)]⟩ := by kernel_rfl
@[push_cast] theorem un3 : Pg.underlying 3 = some (.int .i64) := Try.underlying3
abbrev t_bool : TypeId := 4
@[push_cast] theorem ty4 : tyq Pg 4 = some ⟨1, false, 1, [.v (.bool false)]⟩ := by kernel_rfl
@[push_cast] theorem un4 : Pg.underlying 4 = some .bool := Try.underlying4
abbrev t_uint8 : TypeId := 5
@[push_cast] theorem ty5 : tyq Pg 5 = some ⟨1, false, 1, [.v (.int .u8 0)]⟩ := by kernel_rfl
@[push_cast] theorem un5 : Pg.underlying 5 = some (.int .u8) := Try.underlying5
abbrev t_internal_abi_BoundsErrorCode : TypeId := 6
@[push_cast] theorem ty6 : tyq Pg 6 = some ⟨1, false, 1, [.v (.int .u8 0)]⟩ := by kernel_rfl
@[push_cast] theorem un6 : Pg.underlying 6 = some (.int .u8) := Try.underlying6
abbrev t_struct_x_int64_y_int_signed_bool_code_abi_BoundsErrorCode : TypeId := 7
@[push_cast] theorem ty7 : tyq Pg 7 = some ⟨4, true, 24, [.v (.int .i64 0), .v (.int .i64 0), .v (.bool false), .v (.int .u8 0)]⟩ := by kernel_rfl
@[push_cast] theorem fl7_0 : flq Pg 7 0 = some (0, 2) := by kernel_rfl
@[push_cast] theorem fl7_1 : flq Pg 7 1 = some (1, 3) := by kernel_rfl
@[push_cast] theorem fl7_2 : flq Pg 7 2 = some (2, 4) := by kernel_rfl
@[push_cast] theorem fl7_3 : flq Pg 7 3 = some (3, 6) := by kernel_rfl
@[push_cast] theorem pl7 : plq Pg 7 = some [(0, 1), (1, 1), (2, 1), (3, 1)] := by kernel_rfl
@[push_cast] theorem co7 : Pg.cellsOf 7 = 4 := by kernel_rfl
abbrev t_string : TypeId := 9
@[push_cast] theorem ty9 : tyq Pg 9 = some ⟨1, false, 16, [.v (.string .empty)]⟩ := by kernel_rfl
@[push_cast] theorem un9 : Pg.underlying 9 = some .string := Try.underlying9
abbrev t_runtime_errorString : TypeId := 10
@[push_cast] theorem ty10 : tyq Pg 10 = some ⟨1, false, 16, [.v (.string .empty)]⟩ := by kernel_rfl
@[push_cast] theorem un10 : Pg.underlying 10 = some .string := Try.underlying10
abbrev t_runtime_plainError : TypeId := 11
@[push_cast] theorem ty11 : tyq Pg 11 = some ⟨1, false, 16, [.v (.string .empty)]⟩ := by kernel_rfl
@[push_cast] theorem un11 : Pg.underlying 11 = some .string := Try.underlying11
abbrev t_uintptr : TypeId := 12
@[push_cast] theorem ty12 : tyq Pg 12 = some ⟨1, false, 8, [.v (.int .u64 0)]⟩ := by kernel_rfl
@[push_cast] theorem un12 : Pg.underlying 12 = some (.int .u64) := Try.underlying12
abbrev t_struct_msg_string_addr_uintptr : TypeId := 13
@[push_cast] theorem ty13 : tyq Pg 13 = some ⟨2, true, 24, [.v (.string .empty), .v (.int .u64 0)]⟩ := by kernel_rfl
@[push_cast] theorem fl13_0 : flq Pg 13 0 = some (0, 9) := by kernel_rfl
@[push_cast] theorem fl13_1 : flq Pg 13 1 = some (1, 12) := by kernel_rfl
@[push_cast] theorem pl13 : plq Pg 13 = some [(0, 1), (1, 1)] := by kernel_rfl
@[push_cast] theorem co13 : Pg.cellsOf 13 = 2 := by kernel_rfl
abbrev t_pt_runtime_TypeAssertionError : TypeId := 15
@[push_cast] theorem ty15 : tyq Pg 15 = some ⟨1, false, 8, [.v (.pointer none)]⟩ := by kernel_rfl
abbrev t_pt_runtime_PanicNilError : TypeId := 16
@[push_cast] theorem ty16 : tyq Pg 16 = some ⟨1, false, 8, [.v (.pointer none)]⟩ := by kernel_rfl
abbrev t_pt_internal_abi_Type : TypeId := 17
@[push_cast] theorem ty17 : tyq Pg 17 = some ⟨1, false, 8, [.v (.pointer none)]⟩ := by kernel_rfl
abbrev t_struct_typ_abi_Type : TypeId := 18
@[push_cast] theorem ty18 : tyq Pg 18 = some ⟨1, true, 8, [.v (.pointer none)]⟩ := by kernel_rfl
@[push_cast] theorem fl18_0 : flq Pg 18 0 = some (0, 17) := by kernel_rfl
@[push_cast] theorem pl18 : plq Pg 18 = some [(0, 1)] := by kernel_rfl
@[push_cast] theorem co18 : Pg.cellsOf 18 = 1 := by kernel_rfl
abbrev t_int32 : TypeId := 21
@[push_cast] theorem ty21 : tyq Pg 21 = some ⟨1, false, 4, [.v (.int .i32 0)]⟩ := by kernel_rfl
@[push_cast] theorem un21 : Pg.underlying 21 = some (.int .i32) := Try.underlying21
abbrev t_sl_laws_Step : TypeId := 22
@[push_cast] theorem ty22 : tyq Pg 22 = some ⟨1, false, 24, [.esl]⟩ := by kernel_rfl
@[push_cast] theorem el22 : elq Pg 22 = some (78, 8) := by kernel_rfl
@[push_cast] theorem un22 : Pg.underlying 22 = some (.slice 78) := Try.underlying22
abbrev t_struct_Steps_laws_Step : TypeId := 23
@[push_cast] theorem ty23 : tyq Pg 23 = some ⟨1, true, 24, [.esl]⟩ := by kernel_rfl
@[push_cast] theorem fl23_0 : flq Pg 23 0 = some (0, 22) := by kernel_rfl
@[push_cast] theorem pl23 : plq Pg 23 = some [(0, 1)] := by kernel_rfl
@[push_cast] theorem co23 : Pg.cellsOf 23 = 1 := by kernel_rfl
abbrev t_laws_Prog : TypeId := 24
@[push_cast] theorem ty24 : tyq Pg 24 = some ⟨1, true, 24, [.esl]⟩ := by kernel_rfl
@[push_cast] theorem fl24_0 : flq Pg 24 0 = some (0, 22) := by kernel_rfl
@[push_cast] theorem pl24 : plq Pg 24 = some [(0, 1)] := by kernel_rfl
@[push_cast] theorem co24 : Pg.cellsOf 24 = 1 := by kernel_rfl
abbrev t_sl_int : TypeId := 25
@[push_cast] theorem ty25 : tyq Pg 25 = some ⟨1, false, 24, [.esl]⟩ := by kernel_rfl
@[push_cast] theorem el25 : elq Pg 25 = some (3, 1) := by kernel_rfl
@[push_cast] theorem un25 : Pg.underlying 25 = some (.slice 3) := Try.underlying25
abbrev t_func_laws_Prog_int_int : TypeId := 26
@[push_cast] theorem ty26 : tyq Pg 26 = some ⟨1, false, 8, [.v .nilFunc]⟩ := by kernel_rfl
abbrev t_struct_Code_int_Outs_int_Path_int : TypeId := 27
@[push_cast] theorem ty27 : tyq Pg 27 = some ⟨3, true, 56, [.v (.int .i64 0), .esl, .esl]⟩ := by kernel_rfl
@[push_cast] theorem fl27_0 : flq Pg 27 0 = some (0, 3) := by kernel_rfl
@[push_cast] theorem fl27_1 : flq Pg 27 1 = some (1, 25) := by kernel_rfl
@[push_cast] theorem fl27_2 : flq Pg 27 2 = some (2, 25) := by kernel_rfl
@[push_cast] theorem pl27 : plq Pg 27 = some [(0, 1), (1, 1), (2, 1)] := by kernel_rfl
@[push_cast] theorem co27 : Pg.cellsOf 27 = 3 := by kernel_rfl
abbrev t_impl_Result : TypeId := 28
@[push_cast] theorem ty28 : tyq Pg 28 = some ⟨3, true, 56, [.v (.int .i64 0), .esl, .esl]⟩ := by kernel_rfl
@[push_cast] theorem fl28_0 : flq Pg 28 0 = some (0, 3) := by kernel_rfl
@[push_cast] theorem fl28_1 : flq Pg 28 1 = some (1, 25) := by kernel_rfl
@[push_cast] theorem fl28_2 : flq Pg 28 2 = some (2, 25) := by kernel_rfl
@[push_cast] theorem pl28 : plq Pg 28 = some [(0, 1), (1, 1), (2, 1)] := by kernel_rfl
@[push_cast] theorem co28 : Pg.cellsOf 28 = 3 := by kernel_rfl
abbrev t_func_impl_Prog_int_int_impl_Result : TypeId := 29
@[push_cast] theorem ty29 : tyq Pg 29 = some ⟨1, false, 8, [.v .nilFunc]⟩ := by kernel_rfl
abbrev t_sl_impl_Step : TypeId := 30
@[push_cast] theorem ty30 : tyq Pg 30 = some ⟨1, false, 24, [.esl]⟩ := by kernel_rfl
@[push_cast] theorem el30 : elq Pg 30 = some (49, 8) := by kernel_rfl
@[push_cast] theorem un30 : Pg.underlying 30 = some (.slice 49) := Try.underlying30
abbrev t_struct_Steps_impl_Step : TypeId := 31
@[push_cast] theorem ty31 : tyq Pg 31 = some ⟨1, true, 24, [.esl]⟩ := by kernel_rfl
@[push_cast] theorem fl31_0 : flq Pg 31 0 = some (0, 30) := by kernel_rfl
@[push_cast] theorem pl31 : plq Pg 31 = some [(0, 1)] := by kernel_rfl
@[push_cast] theorem co31 : Pg.cellsOf 31 = 1 := by kernel_rfl
abbrev t_impl_Prog : TypeId := 32
@[push_cast] theorem ty32 : tyq Pg 32 = some ⟨1, true, 24, [.esl]⟩ := by kernel_rfl
@[push_cast] theorem fl32_0 : flq Pg 32 0 = some (0, 30) := by kernel_rfl
@[push_cast] theorem pl32 : plq Pg 32 = some [(0, 1)] := by kernel_rfl
@[push_cast] theorem co32 : Pg.cellsOf 32 = 1 := by kernel_rfl
abbrev t_func_laws_Prog_impl_Prog : TypeId := 33
@[push_cast] theorem ty33 : tyq Pg 33 = some ⟨1, false, 8, [.v .nilFunc]⟩ := by kernel_rfl
abbrev t_func_int_int : TypeId := 34
@[push_cast] theorem ty34 : tyq Pg 34 = some ⟨1, false, 8, [.v .nilFunc]⟩ := by kernel_rfl
abbrev t_func_impl_Result_impl_Result_bool : TypeId := 35
@[push_cast] theorem ty35 : tyq Pg 35 = some ⟨1, false, 8, [.v .nilFunc]⟩ := by kernel_rfl
abbrev t_func_impl_Prog_impl_Prog_bool : TypeId := 36
@[push_cast] theorem ty36 : tyq Pg 36 = some ⟨1, false, 8, [.v .nilFunc]⟩ := by kernel_rfl
abbrev t_func_int_int_bool : TypeId := 37
@[push_cast] theorem ty37 : tyq Pg 37 = some ⟨1, false, 8, [.v .nilFunc]⟩ := by kernel_rfl
abbrev t_func_impl_Prog_int_int : TypeId := 38
@[push_cast] theorem ty38 : tyq Pg 38 = some ⟨1, false, 8, [.v .nilFunc]⟩ := by kernel_rfl
abbrev t_func_int_int_int : TypeId := 39
@[push_cast] theorem ty39 : tyq Pg 39 = some ⟨1, false, 8, [.v .nilFunc]⟩ := by kernel_rfl
abbrev t_func_impl_Result_int_int : TypeId := 40
@[push_cast] theorem ty40 : tyq Pg 40 = some ⟨1, false, 8, [.v .nilFunc]⟩ := by kernel_rfl
abbrev t_func_laws_Prog_int_int_bool : TypeId := 41
@[push_cast] theorem ty41 : tyq Pg 41 = some ⟨1, false, 8, [.v .nilFunc]⟩ := by kernel_rfl
abbrev t_sl_uint8 : TypeId := 42
@[push_cast] theorem ty42 : tyq Pg 42 = some ⟨1, false, 24, [.esl]⟩ := by kernel_rfl
@[push_cast] theorem el42 : elq Pg 42 = some (5, 1) := by kernel_rfl
@[push_cast] theorem un42 : Pg.underlying 42 = some (.slice 5) := Try.underlying42
abbrev t_func_uint8_impl_Prog_int_int : TypeId := 44
@[push_cast] theorem ty44 : tyq Pg 44 = some ⟨1, false, 8, [.v .nilFunc]⟩ := by kernel_rfl
abbrev t_func_impl_Prog_bool : TypeId := 45
@[push_cast] theorem ty45 : tyq Pg 45 = some ⟨1, false, 8, [.v .nilFunc]⟩ := by kernel_rfl
abbrev t_struct_Var_int_Num_int : TypeId := 46
@[push_cast] theorem ty46 : tyq Pg 46 = some ⟨2, true, 16, [.v (.int .i64 0), .v (.int .i64 0)]⟩ := by kernel_rfl
@[push_cast] theorem fl46_0 : flq Pg 46 0 = some (0, 3) := by kernel_rfl
@[push_cast] theorem fl46_1 : flq Pg 46 1 = some (1, 3) := by kernel_rfl
@[push_cast] theorem pl46 : plq Pg 46 = some [(0, 1), (1, 1)] := by kernel_rfl
@[push_cast] theorem co46 : Pg.cellsOf 46 = 2 := by kernel_rfl
abbrev t_impl_Opnd : TypeId := 47
@[push_cast] theorem ty47 : tyq Pg 47 = some ⟨2, true, 16, [.v (.int .i64 0), .v (.int .i64 0)]⟩ := by kernel_rfl
@[push_cast] theorem fl47_0 : flq Pg 47 0 = some (0, 3) := by kernel_rfl
@[push_cast] theorem fl47_1 : flq Pg 47 1 = some (1, 3) := by kernel_rfl
@[push_cast] theorem pl47 : plq Pg 47 = some [(0, 1), (1, 1)] := by kernel_rfl
@[push_cast] theorem co47 : Pg.cellsOf 47 = 2 := by kernel_rfl
abbrev t_struct_Kind_int_Dst_int_Op_int_A_impl_Opnd_B_impl_Opnd_Next_int : TypeId := 48
@[push_cast] theorem ty48 : tyq Pg 48 = some ⟨8, true, 80, [.v (.int .i64 0), .v (.int .i64 0), .v (.int .i64 0), .v (.int .i64 0), .v (.int .i64 0), .v (.int .i64 0), .v (.int .i64 0), .esl]⟩ := by kernel_rfl
@[push_cast] theorem fl48_0 : flq Pg 48 0 = some (0, 3) := by kernel_rfl
@[push_cast] theorem fl48_1 : flq Pg 48 1 = some (1, 3) := by kernel_rfl
@[push_cast] theorem fl48_2 : flq Pg 48 2 = some (2, 3) := by kernel_rfl
@[push_cast] theorem fl48_3 : flq Pg 48 3 = some (3, 47) := by kernel_rfl
@[push_cast] theorem fl48_4 : flq Pg 48 4 = some (5, 47) := by kernel_rfl
@[push_cast] theorem fl48_5 : flq Pg 48 5 = some (7, 25) := by kernel_rfl
@[push_cast] theorem pl48 : plq Pg 48 = some [(0, 1), (1, 1), (2, 1), (3, 2), (5, 2), (7, 1)] := by kernel_rfl
@[push_cast] theorem co48 : Pg.cellsOf 48 = 8 := by kernel_rfl
abbrev t_impl_Step : TypeId := 49
@[push_cast] theorem ty49 : tyq Pg 49 = some ⟨8, true, 80, [.v (.int .i64 0), .v (.int .i64 0), .v (.int .i64 0), .v (.int .i64 0), .v (.int .i64 0), .v (.int .i64 0), .v (.int .i64 0), .esl]⟩ := by kernel_rfl
@[push_cast] theorem fl49_0 : flq Pg 49 0 = some (0, 3) := by kernel_rfl
@[push_cast] theorem fl49_1 : flq Pg 49 1 = some (1, 3) := by kernel_rfl
@[push_cast] theorem fl49_2 : flq Pg 49 2 = some (2, 3) := by kernel_rfl
@[push_cast] theorem fl49_3 : flq Pg 49 3 = some (3, 47) := by kernel_rfl
@[push_cast] theorem fl49_4 : flq Pg 49 4 = some (5, 47) := by kernel_rfl
@[push_cast] theorem fl49_5 : flq Pg 49 5 = some (7, 25) := by kernel_rfl
@[push_cast] theorem pl49 : plq Pg 49 = some [(0, 1), (1, 1), (2, 1), (3, 2), (5, 2), (7, 1)] := by kernel_rfl
@[push_cast] theorem co49 : Pg.cellsOf 49 = 8 := by kernel_rfl
abbrev t_func_uint8_bool : TypeId := 50
@[push_cast] theorem ty50 : tyq Pg 50 = some ⟨1, false, 8, [.v .nilFunc]⟩ := by kernel_rfl
abbrev t_func_uint8_uint8_bool : TypeId := 51
@[push_cast] theorem ty51 : tyq Pg 51 = some ⟨1, false, 8, [.v .nilFunc]⟩ := by kernel_rfl
abbrev t_func_laws_Step_int_int : TypeId := 52
@[push_cast] theorem ty52 : tyq Pg 52 = some ⟨1, false, 8, [.v .nilFunc]⟩ := by kernel_rfl
abbrev t_func_int_int_int_bool : TypeId := 53
@[push_cast] theorem ty53 : tyq Pg 53 = some ⟨1, false, 8, [.v .nilFunc]⟩ := by kernel_rfl
abbrev t_func_int_int_int_int : TypeId := 54
@[push_cast] theorem ty54 : tyq Pg 54 = some ⟨1, false, 8, [.v .nilFunc]⟩ := by kernel_rfl
abbrev t_func_int_impl_Opnd_int : TypeId := 55
@[push_cast] theorem ty55 : tyq Pg 55 = some ⟨1, false, 8, [.v .nilFunc]⟩ := by kernel_rfl
abbrev t_func_laws_Step_impl_Step : TypeId := 56
@[push_cast] theorem ty56 : tyq Pg 56 = some ⟨1, false, 8, [.v .nilFunc]⟩ := by kernel_rfl
abbrev t_func_impl_Prog_int_int_bool : TypeId := 57
@[push_cast] theorem ty57 : tyq Pg 57 = some ⟨1, false, 8, [.v .nilFunc]⟩ := by kernel_rfl
abbrev t_ar12_int : TypeId := 58
@[push_cast] theorem ty58 : tyq Pg 58 = some ⟨12, true, 96, [.v (.int .i64 0), .v (.int .i64 0), .v (.int .i64 0), .v (.int .i64 0), .v (.int .i64 0), .v (.int .i64 0), .v (.int .i64 0), .v (.int .i64 0), .v (.int .i64 0), .v (.int .i64 0), .v (.int .i64 0), .v (.int .i64 0)]⟩ := by kernel_rfl
@[push_cast] theorem ar58 : arq Pg 58 = some (12, 1) := by kernel_rfl
@[push_cast] theorem un58 : Pg.underlying 58 = some (.array 12 3) := Try.underlying58
@[push_cast] theorem pl58 : plq Pg 58 = some [(0, 1), (1, 1), (2, 1), (3, 1), (4, 1), (5, 1), (6, 1), (7, 1), (8, 1), (9, 1), (10, 1), (11, 1)] := by kernel_rfl
@[push_cast] theorem co58 : Pg.cellsOf 58 = 12 := by kernel_rfl
@[push_cast] theorem ty59 : tyq Pg 59 = some ⟨1, false, 8, [.v .nilFunc]⟩ := by kernel_rfl
abbrev t_func_bool : TypeId := 60
@[push_cast] theorem ty60 : tyq Pg 60 = some ⟨1, false, 8, [.v .nilFunc]⟩ := by kernel_rfl
abbrev t_func_int_bool_int : TypeId := 61
@[push_cast] theorem ty61 : tyq Pg 61 = some ⟨1, false, 8, [.v .nilFunc]⟩ := by kernel_rfl
abbrev t_struct_enter_func_int_int_read_func_int_bool_int_write_func_int_int : TypeId := 62
@[push_cast] theorem ty62 : tyq Pg 62 = some ⟨3, true, 24, [.v .nilFunc, .v .nilFunc, .v .nilFunc]⟩ := by kernel_rfl
@[push_cast] theorem fl62_0 : flq Pg 62 0 = some (0, 59) := by kernel_rfl
@[push_cast] theorem fl62_1 : flq Pg 62 1 = some (1, 61) := by kernel_rfl
@[push_cast] theorem fl62_2 : flq Pg 62 2 = some (2, 59) := by kernel_rfl
@[push_cast] theorem pl62 : plq Pg 62 = some [(0, 1), (1, 1), (2, 1)] := by kernel_rfl
@[push_cast] theorem co62 : Pg.cellsOf 62 = 3 := by kernel_rfl
abbrev t_impl_machine : TypeId := 63
@[push_cast] theorem ty63 : tyq Pg 63 = some ⟨3, true, 24, [.v .nilFunc, .v .nilFunc, .v .nilFunc]⟩ := by kernel_rfl
@[push_cast] theorem fl63_0 : flq Pg 63 0 = some (0, 59) := by kernel_rfl
@[push_cast] theorem fl63_1 : flq Pg 63 1 = some (1, 61) := by kernel_rfl
@[push_cast] theorem fl63_2 : flq Pg 63 2 = some (2, 59) := by kernel_rfl
@[push_cast] theorem pl63 : plq Pg 63 = some [(0, 1), (1, 1), (2, 1)] := by kernel_rfl
@[push_cast] theorem co63 : Pg.cellsOf 63 = 3 := by kernel_rfl
abbrev t_func_impl_Step_impl_Step_bool : TypeId := 64
@[push_cast] theorem ty64 : tyq Pg 64 = some ⟨1, false, 8, [.v .nilFunc]⟩ := by kernel_rfl
abbrev t_func_impl_Step_int_int : TypeId := 65
@[push_cast] theorem ty65 : tyq Pg 65 = some ⟨1, false, 8, [.v .nilFunc]⟩ := by kernel_rfl
abbrev t_pt_spec_l6Rd : TypeId := 66
@[push_cast] theorem ty66 : tyq Pg 66 = some ⟨1, false, 8, [.v (.pointer none)]⟩ := by kernel_rfl
abbrev t_func_uint8_spec_l6Rd : TypeId := 67
@[push_cast] theorem ty67 : tyq Pg 67 = some ⟨1, false, 8, [.v .nilFunc]⟩ := by kernel_rfl
abbrev t_func_spec_l6Rd_impl_Prog : TypeId := 68
@[push_cast] theorem ty68 : tyq Pg 68 = some ⟨1, false, 8, [.v .nilFunc]⟩ := by kernel_rfl
abbrev t_func_spec_l6Rd_int : TypeId := 69
@[push_cast] theorem ty69 : tyq Pg 69 = some ⟨1, false, 8, [.v .nilFunc]⟩ := by kernel_rfl
@[push_cast] theorem ty70 : tyq Pg 70 = some ⟨1, false, 8, [.v .nilFunc]⟩ := by kernel_rfl
abbrev t_func_impl_Step_int_bool : TypeId := 71
@[push_cast] theorem ty71 : tyq Pg 71 = some ⟨1, false, 8, [.v .nilFunc]⟩ := by kernel_rfl
abbrev t_func_impl_Step_func_impl_Step_bool_bool : TypeId := 72
@[push_cast] theorem ty72 : tyq Pg 72 = some ⟨1, false, 8, [.v .nilFunc]⟩ := by kernel_rfl
abbrev t_func_int_bool : TypeId := 73
@[push_cast] theorem ty73 : tyq Pg 73 = some ⟨1, false, 8, [.v .nilFunc]⟩ := by kernel_rfl
abbrev t_func_impl_Step_bool : TypeId := 74
@[push_cast] theorem ty74 : tyq Pg 74 = some ⟨1, false, 8, [.v .nilFunc]⟩ := by kernel_rfl
@[push_cast] theorem ty75 : tyq Pg 75 = some ⟨1, false, 8, [.v .nilFunc]⟩ := by kernel_rfl
abbrev t_laws_Opnd : TypeId := 76
@[push_cast] theorem ty76 : tyq Pg 76 = some ⟨2, true, 16, [.v (.int .i64 0), .v (.int .i64 0)]⟩ := by kernel_rfl
@[push_cast] theorem fl76_0 : flq Pg 76 0 = some (0, 3) := by kernel_rfl
@[push_cast] theorem fl76_1 : flq Pg 76 1 = some (1, 3) := by kernel_rfl
@[push_cast] theorem pl76 : plq Pg 76 = some [(0, 1), (1, 1)] := by kernel_rfl
@[push_cast] theorem co76 : Pg.cellsOf 76 = 2 := by kernel_rfl
abbrev t_struct_Kind_int_Dst_int_Op_int_A_laws_Opnd_B_laws_Opnd_Next_int : TypeId := 77
@[push_cast] theorem ty77 : tyq Pg 77 = some ⟨8, true, 80, [.v (.int .i64 0), .v (.int .i64 0), .v (.int .i64 0), .v (.int .i64 0), .v (.int .i64 0), .v (.int .i64 0), .v (.int .i64 0), .esl]⟩ := by kernel_rfl
@[push_cast] theorem fl77_0 : flq Pg 77 0 = some (0, 3) := by kernel_rfl
@[push_cast] theorem fl77_1 : flq Pg 77 1 = some (1, 3) := by kernel_rfl
@[push_cast] theorem fl77_2 : flq Pg 77 2 = some (2, 3) := by kernel_rfl
@[push_cast] theorem fl77_3 : flq Pg 77 3 = some (3, 76) := by kernel_rfl
@[push_cast] theorem fl77_4 : flq Pg 77 4 = some (5, 76) := by kernel_rfl
@[push_cast] theorem fl77_5 : flq Pg 77 5 = some (7, 25) := by kernel_rfl
@[push_cast] theorem pl77 : plq Pg 77 = some [(0, 1), (1, 1), (2, 1), (3, 2), (5, 2), (7, 1)] := by kernel_rfl
@[push_cast] theorem co77 : Pg.cellsOf 77 = 8 := by kernel_rfl
abbrev t_laws_Step : TypeId := 78
@[push_cast] theorem ty78 : tyq Pg 78 = some ⟨8, true, 80, [.v (.int .i64 0), .v (.int .i64 0), .v (.int .i64 0), .v (.int .i64 0), .v (.int .i64 0), .v (.int .i64 0), .v (.int .i64 0), .esl]⟩ := by kernel_rfl
@[push_cast] theorem fl78_0 : flq Pg 78 0 = some (0, 3) := by kernel_rfl
@[push_cast] theorem fl78_1 : flq Pg 78 1 = some (1, 3) := by kernel_rfl
@[push_cast] theorem fl78_2 : flq Pg 78 2 = some (2, 3) := by kernel_rfl
@[push_cast] theorem fl78_3 : flq Pg 78 3 = some (3, 76) := by kernel_rfl
@[push_cast] theorem fl78_4 : flq Pg 78 4 = some (5, 76) := by kernel_rfl
@[push_cast] theorem fl78_5 : flq Pg 78 5 = some (7, 25) := by kernel_rfl
@[push_cast] theorem pl78 : plq Pg 78 = some [(0, 1), (1, 1), (2, 1), (3, 2), (5, 2), (7, 1)] := by kernel_rfl
@[push_cast] theorem co78 : Pg.cellsOf 78 = 8 := by kernel_rfl
@[push_cast] theorem ty79 : tyq Pg 79 = some ⟨1, false, 8, [.v .nilFunc]⟩ := by kernel_rfl
abbrev t_func_int_func_int_bool_bool : TypeId := 80
@[push_cast] theorem ty80 : tyq Pg 80 = some ⟨1, false, 8, [.v .nilFunc]⟩ := by kernel_rfl
@[push_cast] theorem ty81 : tyq Pg 81 = some ⟨1, false, 8, [.v .nilFunc]⟩ := by kernel_rfl
abbrev t_struct_b_uint8_p_int : TypeId := 82
@[push_cast] theorem ty82 : tyq Pg 82 = some ⟨2, true, 32, [.esl, .v (.int .i64 0)]⟩ := by kernel_rfl
@[push_cast] theorem fl82_0 : flq Pg 82 0 = some (0, 42) := by kernel_rfl
@[push_cast] theorem fl82_1 : flq Pg 82 1 = some (1, 3) := by kernel_rfl
@[push_cast] theorem pl82 : plq Pg 82 = some [(0, 1), (1, 1)] := by kernel_rfl
@[push_cast] theorem co82 : Pg.cellsOf 82 = 2 := by kernel_rfl
abbrev t_spec_l6Rd : TypeId := 83
@[push_cast] theorem ty83 : tyq Pg 83 = some ⟨2, true, 32, [.esl, .v (.int .i64 0)]⟩ := by kernel_rfl
@[push_cast] theorem fl83_0 : flq Pg 83 0 = some (0, 42) := by kernel_rfl
@[push_cast] theorem fl83_1 : flq Pg 83 1 = some (1, 3) := by kernel_rfl
@[push_cast] theorem pl83 : plq Pg 83 = some [(0, 1), (1, 1)] := by kernel_rfl
@[push_cast] theorem co83 : Pg.cellsOf 83 = 2 := by kernel_rfl
@[push_cast] theorem ty85 : tyq Pg 85 = some ⟨1, false, 8, [.v .nilFunc]⟩ := by kernel_rfl
abbrev t_func_spec_l6Rd_impl_Prog_impl_Prog : TypeId := 86
@[push_cast] theorem ty86 : tyq Pg 86 = some ⟨1, false, 8, [.v .nilFunc]⟩ := by kernel_rfl
abbrev t_func_impl_Opnd_bool : TypeId := 87
@[push_cast] theorem ty87 : tyq Pg 87 = some ⟨1, false, 8, [.v .nilFunc]⟩ := by kernel_rfl
abbrev t_func_impl_Step_func_impl_Step_bool_int : TypeId := 88
@[push_cast] theorem ty88 : tyq Pg 88 = some ⟨1, false, 8, [.v .nilFunc]⟩ := by kernel_rfl
abbrev t_func_laws_Opnd_impl_Opnd : TypeId := 89
@[push_cast] theorem ty89 : tyq Pg 89 = some ⟨1, false, 8, [.v .nilFunc]⟩ := by kernel_rfl
abbrev t_func_int_func_int_bool_int : TypeId := 90
@[push_cast] theorem ty90 : tyq Pg 90 = some ⟨1, false, 8, [.v .nilFunc]⟩ := by kernel_rfl
abbrev t_func_impl_Opnd_impl_Opnd_bool : TypeId := 91
@[push_cast] theorem ty91 : tyq Pg 91 = some ⟨1, false, 8, [.v .nilFunc]⟩ := by kernel_rfl
abbrev t_func_spec_l6Rd_int_int_impl_Step : TypeId := 92
@[push_cast] theorem ty92 : tyq Pg 92 = some ⟨1, false, 8, [.v .nilFunc]⟩ := by kernel_rfl
abbrev t_func_impl_Prog_impl_Prog : TypeId := 93
@[push_cast] theorem ty93 : tyq Pg 93 = some ⟨1, false, 8, [.v .nilFunc]⟩ := by kernel_rfl
abbrev t_sl_bool : TypeId := 94
@[push_cast] theorem ty94 : tyq Pg 94 = some ⟨1, false, 24, [.esl]⟩ := by kernel_rfl
@[push_cast] theorem el94 : elq Pg 94 = some (4, 1) := by kernel_rfl
@[push_cast] theorem un94 : Pg.underlying 94 = some (.slice 4) := Try.underlying94
abbrev t_func_spec_l6Rd_int_int_int : TypeId := 95
@[push_cast] theorem ty95 : tyq Pg 95 = some ⟨1, false, 8, [.v .nilFunc]⟩ := by kernel_rfl
abbrev t_struct_Op_int_A_impl_Opnd_B_impl_Opnd : TypeId := 96
@[push_cast] theorem ty96 : tyq Pg 96 = some ⟨5, true, 40, [.v (.int .i64 0), .v (.int .i64 0), .v (.int .i64 0), .v (.int .i64 0), .v (.int .i64 0)]⟩ := by kernel_rfl
@[push_cast] theorem fl96_0 : flq Pg 96 0 = some (0, 3) := by kernel_rfl
@[push_cast] theorem fl96_1 : flq Pg 96 1 = some (1, 47) := by kernel_rfl
@[push_cast] theorem fl96_2 : flq Pg 96 2 = some (3, 47) := by kernel_rfl
@[push_cast] theorem pl96 : plq Pg 96 = some [(0, 1), (1, 2), (3, 2)] := by kernel_rfl
@[push_cast] theorem co96 : Pg.cellsOf 96 = 5 := by kernel_rfl
abbrev t_impl_Expr : TypeId := 97
@[push_cast] theorem ty97 : tyq Pg 97 = some ⟨5, true, 40, [.v (.int .i64 0), .v (.int .i64 0), .v (.int .i64 0), .v (.int .i64 0), .v (.int .i64 0)]⟩ := by kernel_rfl
@[push_cast] theorem fl97_0 : flq Pg 97 0 = some (0, 3) := by kernel_rfl
@[push_cast] theorem fl97_1 : flq Pg 97 1 = some (1, 47) := by kernel_rfl
@[push_cast] theorem fl97_2 : flq Pg 97 2 = some (3, 47) := by kernel_rfl
@[push_cast] theorem pl97 : plq Pg 97 = some [(0, 1), (1, 2), (3, 2)] := by kernel_rfl
@[push_cast] theorem co97 : Pg.cellsOf 97 = 5 := by kernel_rfl
abbrev t_func_spec_l6Rd_impl_Expr : TypeId := 98
@[push_cast] theorem ty98 : tyq Pg 98 = some ⟨1, false, 8, [.v .nilFunc]⟩ := by kernel_rfl
abbrev t_func_spec_l6Rd_impl_Opnd : TypeId := 99
@[push_cast] theorem ty99 : tyq Pg 99 = some ⟨1, false, 8, [.v .nilFunc]⟩ := by kernel_rfl
@[push_cast] theorem ty100 : tyq Pg 100 = some ⟨1, false, 8, [.v .nilFunc]⟩ := by kernel_rfl
abbrev t_func_string : TypeId := 101
@[push_cast] theorem ty101 : tyq Pg 101 = some ⟨1, false, 8, [.v .nilFunc]⟩ := by kernel_rfl
abbrev t_struct_interface_abi_Type_concrete_abi_Type_asserted_abi_Type_missingMethod_string : TypeId := 102
@[push_cast] theorem ty102 : tyq Pg 102 = some ⟨4, true, 40, [.v (.pointer none), .v (.pointer none), .v (.pointer none), .v (.string .empty)]⟩ := by kernel_rfl
@[push_cast] theorem fl102_0 : flq Pg 102 0 = some (0, 17) := by kernel_rfl
@[push_cast] theorem fl102_1 : flq Pg 102 1 = some (1, 17) := by kernel_rfl
@[push_cast] theorem fl102_2 : flq Pg 102 2 = some (2, 17) := by kernel_rfl
@[push_cast] theorem fl102_3 : flq Pg 102 3 = some (3, 9) := by kernel_rfl
@[push_cast] theorem pl102 : plq Pg 102 = some [(0, 1), (1, 1), (2, 1), (3, 1)] := by kernel_rfl
@[push_cast] theorem co102 : Pg.cellsOf 102 = 4 := by kernel_rfl
abbrev t_ar0_pt_runtime_PanicNilError : TypeId := 104
@[push_cast] theorem ty104 : tyq Pg 104 = some ⟨0, true, 0, []⟩ := by kernel_rfl
@[push_cast] theorem ar104 : arq Pg 104 = some (0, 1) := by kernel_rfl
@[push_cast] theorem un104 : Pg.underlying 104 = some (.array 0 16) := Try.underlying104
@[push_cast] theorem pl104 : plq Pg 104 = some [] := by kernel_rfl
@[push_cast] theorem co104 : Pg.cellsOf 104 = 0 := by kernel_rfl
abbrev t_struct_0_runtime_PanicNilError : TypeId := 105
@[push_cast] theorem ty105 : tyq Pg 105 = some ⟨0, true, 0, []⟩ := by kernel_rfl
@[push_cast] theorem pl105 : plq Pg 105 = some [(0, 0)] := by kernel_rfl
@[push_cast] theorem co105 : Pg.cellsOf 105 = 0 := by kernel_rfl
abbrev t_func_int : TypeId := 107
@[push_cast] theorem ty107 : tyq Pg 107 = some ⟨1, false, 8, [.v .nilFunc]⟩ := by kernel_rfl
abbrev t_uint32 : TypeId := 108
@[push_cast] theorem ty108 : tyq Pg 108 = some ⟨1, false, 4, [.v (.int .u32 0)]⟩ := by kernel_rfl
@[push_cast] theorem un108 : Pg.underlying 108 = some (.int .u32) := Try.underlying108
abbrev t_internal_abi_TFlag : TypeId := 109
@[push_cast] theorem ty109 : tyq Pg 109 = some ⟨1, false, 1, [.v (.int .u8 0)]⟩ := by kernel_rfl
@[push_cast] theorem un109 : Pg.underlying 109 = some (.int .u8) := Try.underlying109
abbrev t_internal_abi_Kind : TypeId := 110
@[push_cast] theorem ty110 : tyq Pg 110 = some ⟨1, false, 1, [.v (.int .u8 0)]⟩ := by kernel_rfl
@[push_cast] theorem un110 : Pg.underlying 110 = some (.int .u8) := Try.underlying110
abbrev t_func_unsafe_Pointer_unsafe_Pointer_bool : TypeId := 111
@[push_cast] theorem ty111 : tyq Pg 111 = some ⟨1, false, 8, [.v .nilFunc]⟩ := by kernel_rfl
abbrev t_pt_uint8 : TypeId := 112
@[push_cast] theorem ty112 : tyq Pg 112 = some ⟨1, false, 8, [.v (.pointer none)]⟩ := by kernel_rfl
abbrev t_internal_abi_NameOff : TypeId := 113
@[push_cast] theorem ty113 : tyq Pg 113 = some ⟨1, false, 4, [.v (.int .i32 0)]⟩ := by kernel_rfl
@[push_cast] theorem un113 : Pg.underlying 113 = some (.int .i32) := Try.underlying113
abbrev t_internal_abi_TypeOff : TypeId := 114
@[push_cast] theorem ty114 : tyq Pg 114 = some ⟨1, false, 4, [.v (.int .i32 0)]⟩ := by kernel_rfl
@[push_cast] theorem un114 : Pg.underlying 114 = some (.int .i32) := Try.underlying114
abbrev t_struct_Size_uintptr_PtrBytes_uintptr_Hash_uint32_TFlag_abi_TFlag_Align_uint8_FieldAlign_uint8_Kind_abi_Kind_Equal_func_unsafe_Pointer_unsafe_Pointer_bool_GCData_uint8_Str_abi_NameOff_PtrToThis_abi_TypeOff : TypeId := 115
@[push_cast] theorem ty115 : tyq Pg 115 = some ⟨11, true, 48, [.v (.int .u64 0), .v (.int .u64 0), .v (.int .u32 0), .v (.int .u8 0), .v (.int .u8 0), .v (.int .u8 0), .v (.int .u8 0), .v .nilFunc, .v (.pointer none), .v (.int .i32 0), .v (.int .i32 0)]⟩ := by kernel_rfl
@[push_cast] theorem fl115_0 : flq Pg 115 0 = some (0, 12) := by kernel_rfl
@[push_cast] theorem fl115_1 : flq Pg 115 1 = some (1, 12) := by kernel_rfl
@[push_cast] theorem fl115_2 : flq Pg 115 2 = some (2, 108) := by kernel_rfl
@[push_cast] theorem fl115_3 : flq Pg 115 3 = some (3, 109) := by kernel_rfl
@[push_cast] theorem fl115_4 : flq Pg 115 4 = some (4, 5) := by kernel_rfl
@[push_cast] theorem fl115_5 : flq Pg 115 5 = some (5, 5) := by kernel_rfl
@[push_cast] theorem fl115_6 : flq Pg 115 6 = some (6, 110) := by kernel_rfl
@[push_cast] theorem fl115_7 : flq Pg 115 7 = some (7, 111) := by kernel_rfl
@[push_cast] theorem fl115_8 : flq Pg 115 8 = some (8, 112) := by kernel_rfl
@[push_cast] theorem fl115_9 : flq Pg 115 9 = some (9, 113) := by kernel_rfl
@[push_cast] theorem fl115_10 : flq Pg 115 10 = some (10, 114) := by kernel_rfl
@[push_cast] theorem pl115 : plq Pg 115 = some [(0, 1), (1, 1), (2, 1), (3, 1), (4, 1), (5, 1), (6, 1), (7, 1), (8, 1), (9, 1), (10, 1)] := by kernel_rfl
@[push_cast] theorem co115 : Pg.cellsOf 115 = 11 := by kernel_rfl
abbrev t_unsafe_Pointer : TypeId := 117
@[push_cast] theorem ty117 : tyq Pg 117 = some ⟨1, false, 8, [.v (.pointer none)]⟩ := by kernel_rfl
abbrev f_laws_FnExactRunOf : FuncId := 3
theorem call_laws_FnExactRunOf : CallsTo Pg 3 := Try.call3
theorem func_laws_FnExactRunOf : Pg.funcs[3]? = some Try.f3 := Try.func3
theorem nt_laws_FnExactRunOf : Try.f3.ntmps = 95 := Try.ntmps3
theorem res_laws_FnExactRunOf : Try.f3.results.toList = [.tmp 6] := rfl
abbrev f_laws_FnProgEnd : FuncId := 4
theorem call_laws_FnProgEnd : CallsTo Pg 4 := Try.call4
theorem func_laws_FnProgEnd : Pg.funcs[4]? = some Try.f4 := Try.func4
theorem nt_laws_FnProgEnd : Try.f4.ntmps = 62 := Try.ntmps4
theorem res_laws_FnProgEnd : Try.f4.results.toList = [.tmp 2] := rfl
abbrev f_laws_FnRunIn : FuncId := 5
theorem call_laws_FnRunIn : CallsTo Pg 5 := Try.call5
theorem func_laws_FnRunIn : Pg.funcs[5]? = some Try.f5 := Try.func5
theorem nt_laws_FnRunIn : Try.f5.ntmps = 64 := Try.ntmps5
theorem res_laws_FnRunIn : Try.f5.results.toList = [.tmp 4] := rfl
abbrev f_laws_FnRunNull : FuncId := 6
theorem call_laws_FnRunNull : CallsTo Pg 6 := Try.call6
theorem func_laws_FnRunNull : Pg.funcs[6]? = some Try.f6 := Try.func6
theorem nt_laws_FnRunNull : Try.f6.ntmps = 55 := Try.ntmps6
theorem res_laws_FnRunNull : Try.f6.results.toList = [.tmp 2] := rfl
abbrev f_laws_FnRunOuts : FuncId := 7
theorem call_laws_FnRunOuts : CallsTo Pg 7 := Try.call7
theorem func_laws_FnRunOuts : Pg.funcs[7]? = some Try.f7 := Try.func7
theorem nt_laws_FnRunOuts : Try.f7.ntmps = 56 := Try.ntmps7
theorem res_laws_FnRunOuts : Try.f7.results.toList = [.tmp 2] := rfl
abbrev f_laws_szProg : FuncId := 8
theorem call_laws_szProg : CallsTo Pg 8 := Try.call8
theorem func_laws_szProg : Pg.funcs[8]? = some Try.f8 := Try.func8
theorem nt_laws_szProg : Try.f8.ntmps = 12 := Try.ntmps8
theorem res_laws_szProg : Try.f8.results.toList = [.tmp 4] := rfl
abbrev f_spec_RunOf : FuncId := 9
theorem call_spec_RunOf : CallsTo Pg 9 := Try.call9
theorem func_spec_RunOf : Pg.funcs[9]? = some Try.f9 := Try.func9
theorem nt_spec_RunOf : Try.f9.ntmps = 130 := Try.ntmps9
theorem res_spec_RunOf : Try.f9.results.toList = [.cell 6 28] := rfl
abbrev f_laws_toProg : FuncId := 10
theorem call_laws_toProg : CallsTo Pg 10 := Try.call10
theorem func_laws_toProg : Pg.funcs[10]? = some Try.f10 := Try.func10
theorem nt_laws_toProg : Try.f10.ntmps = 9 := Try.ntmps10
theorem res_laws_toProg : Try.f10.results.toList = [.cell 2 32] := rfl
abbrev f_laws_toIntS : FuncId := 11
theorem call_laws_toIntS : CallsTo Pg 11 := Try.call11
theorem func_laws_toIntS : Pg.funcs[11]? = some Try.f11 := Try.func11
theorem nt_laws_toIntS : Try.f11.ntmps = 22 := Try.ntmps11
theorem res_laws_toIntS : Try.f11.results.toList = [.tmp 2] := rfl
abbrev f_impl_RunOf : FuncId := 12
theorem call_impl_RunOf : CallsTo Pg 12 := Try.call12
theorem func_impl_RunOf : Pg.funcs[12]? = some Try.f12 := Try.func12
theorem nt_impl_RunOf : Try.f12.ntmps = 23 := Try.ntmps12
theorem res_impl_RunOf : Try.f12.results.toList = [.cell 6 28] := rfl
abbrev f_laws_eqResult : FuncId := 13
theorem call_laws_eqResult : CallsTo Pg 13 := Try.call13
theorem func_laws_eqResult : Pg.funcs[13]? = some Try.f13 := Try.func13
theorem nt_laws_eqResult : Try.f13.ntmps = 22 := Try.ntmps13
theorem res_laws_eqResult : Try.f13.results.toList = [.tmp 4] := rfl
abbrev f_laws_eqProg : FuncId := 14
theorem call_laws_eqProg : CallsTo Pg 14 := Try.call14
theorem func_laws_eqProg : Pg.funcs[14]? = some Try.f14 := Try.func14
theorem nt_laws_eqProg : Try.f14.ntmps = 11 := Try.ntmps14
theorem res_laws_eqProg : Try.f14.results.toList = [.tmp 4] := rfl
abbrev f_laws_eqIntS : FuncId := 15
theorem call_laws_eqIntS : CallsTo Pg 15 := Try.call15
theorem func_laws_eqIntS : Pg.funcs[15]? = some Try.f15 := Try.func15
theorem nt_laws_eqIntS : Try.f15.ntmps = 26 := Try.ntmps15
theorem res_laws_eqIntS : Try.f15.results.toList = [.tmp 4] := rfl
abbrev f_laws_markProg : FuncId := 16
theorem call_laws_markProg : CallsTo Pg 16 := Try.call16
theorem func_laws_markProg : Pg.funcs[16]? = some Try.f16 := Try.func16
theorem nt_laws_markProg : Try.f16.ntmps = 10 := Try.ntmps16
theorem res_laws_markProg : Try.f16.results.toList = [.tmp 4] := rfl
abbrev f_laws_markIntS : FuncId := 17
theorem call_laws_markIntS : CallsTo Pg 17 := Try.call17
theorem func_laws_markIntS : Pg.funcs[17]? = some Try.f17 := Try.func17
theorem nt_laws_markIntS : Try.f17.ntmps = 19 := Try.ntmps17
theorem res_laws_markIntS : Try.f17.results.toList = [.tmp 4] := rfl
abbrev f_laws_markResult : FuncId := 18
theorem call_laws_markResult : CallsTo Pg 18 := Try.call18
theorem func_laws_markResult : Pg.funcs[18]? = some Try.f18 := Try.func18
theorem nt_laws_markResult : Try.f18.ntmps = 14 := Try.ntmps18
theorem res_laws_markResult : Try.f18.results.toList = [.tmp 4] := rfl
abbrev f_laws_heldResult : FuncId := 19
theorem call_laws_heldResult : CallsTo Pg 19 := Try.call19
theorem func_laws_heldResult : Pg.funcs[19]? = some Try.f19 := Try.func19
theorem nt_laws_heldResult : Try.f19.ntmps = 18 := Try.ntmps19
theorem res_laws_heldResult : Try.f19.results.toList = [.tmp 4] := rfl
abbrev f_spec_DrawRunOf : FuncId := 20
theorem call_spec_DrawRunOf : CallsTo Pg 20 := Try.call20
theorem func_spec_DrawRunOf : Pg.funcs[20]? = some Try.f20 := Try.func20
theorem nt_spec_DrawRunOf : Try.f20.ntmps = 17 := Try.ntmps20
theorem res_spec_DrawRunOf : Try.f20.results.toList = [.cell 2 32, .tmp 3, .tmp 4] := rfl
abbrev f_laws_lkResult : FuncId := 21
theorem call_laws_lkResult : CallsTo Pg 21 := Try.call21
theorem func_laws_lkResult : Pg.funcs[21]? = some Try.f21 := Try.func21
theorem nt_laws_lkResult : Try.f21.ntmps = 24 := Try.ntmps21
theorem res_laws_lkResult : Try.f21.results.toList = [.tmp 4] := rfl
abbrev f_spec_ProgOk : FuncId := 22
theorem call_spec_ProgOk : CallsTo Pg 22 := Try.call22
theorem func_spec_ProgOk : Pg.funcs[22]? = some Try.f22 := Try.func22
theorem nt_spec_ProgOk : Try.f22.ntmps = 31 := Try.ntmps22
theorem res_spec_ProgOk : Try.f22.results.toList = [.tmp 2] := rfl
abbrev f_impl_ProgOk : FuncId := 23
theorem call_impl_ProgOk : CallsTo Pg 23 := Try.call23
theorem func_impl_ProgOk : Pg.funcs[23]? = some Try.f23 := Try.func23
theorem nt_impl_ProgOk : Try.f23.ntmps = 14 := Try.ntmps23
theorem res_impl_ProgOk : Try.f23.results.toList = [.tmp 2] := rfl
abbrev f_laws_szStepS : FuncId := 24
theorem call_laws_szStepS : CallsTo Pg 24 := Try.call24
theorem func_laws_szStepS : Pg.funcs[24]? = some Try.f24 := Try.func24
theorem nt_laws_szStepS : Try.f24.ntmps = 27 := Try.ntmps24
theorem res_laws_szStepS : Try.f24.results.toList = [.tmp 4] := rfl
abbrev f_spec_l6In : FuncId := 25
theorem call_spec_l6In : CallsTo Pg 25 := Try.call25
theorem func_spec_l6In : Pg.funcs[25]? = some Try.f25 := Try.func25
theorem nt_spec_l6In : Try.f25.ntmps = 15 := Try.ntmps25
theorem res_spec_l6In : Try.f25.results.toList = [.tmp 6] := rfl
abbrev f_spec_RunOp : FuncId := 26
theorem call_spec_RunOp : CallsTo Pg 26 := Try.call26
theorem func_spec_RunOp : Pg.funcs[26]? = some Try.f26 := Try.func26
theorem nt_spec_RunOp : Try.f26.ntmps = 40 := Try.ntmps26
theorem res_spec_RunOp : Try.f26.results.toList = [.tmp 6] := rfl
abbrev f_spec_l3Val : FuncId := 27
theorem call_spec_l3Val : CallsTo Pg 27 := Try.call27
theorem func_spec_l3Val : Pg.funcs[27]? = some Try.f27 := Try.func27
theorem nt_spec_l3Val : Try.f27.ntmps = 15 := Try.ntmps27
theorem res_spec_l3Val : Try.f27.results.toList = [.tmp 4] := rfl
abbrev f_laws_toStepS : FuncId := 28
theorem call_laws_toStepS : CallsTo Pg 28 := Try.call28
theorem func_laws_toStepS : Pg.funcs[28]? = some Try.f28 := Try.func28
theorem nt_laws_toStepS : Try.f28.ntmps = 23 := Try.ntmps28
theorem res_laws_toStepS : Try.f28.results.toList = [.tmp 2] := rfl
abbrev f_impl_runFits : FuncId := 29
theorem call_impl_runFits : CallsTo Pg 29 := Try.call29
theorem func_impl_runFits : Pg.funcs[29]? = some Try.f29 := Try.func29
theorem nt_impl_runFits : Try.f29.ntmps = 22 := Try.ntmps29
theorem res_impl_runFits : Try.f29.results.toList = [.tmp 6] := rfl
abbrev f_impl_RunOf_1 : FuncId := 30
theorem call_impl_RunOf_1 : CallsTo Pg 30 := Try.call30
theorem func_impl_RunOf_1 : Pg.funcs[30]? = some Try.f30 := Try.func30
theorem nt_impl_RunOf_1 : Try.f30.ntmps = 4 := Try.ntmps30
theorem res_impl_RunOf_1 : Try.f30.results.toList = [] := rfl
abbrev f_impl_RunOf_2 : FuncId := 31
theorem call_impl_RunOf_2 : CallsTo Pg 31 := Try.call31
theorem func_impl_RunOf_2 : Pg.funcs[31]? = some Try.f31 := Try.func31
theorem nt_impl_RunOf_2 : Try.f31.ntmps = 29 := Try.ntmps31
theorem res_impl_RunOf_2 : Try.f31.results.toList = [.tmp 6] := rfl
abbrev f_impl_Opnd_variable : FuncId := 32
theorem call_impl_Opnd_variable : CallsTo Pg 32 := Try.call32
theorem func_impl_Opnd_variable : Pg.funcs[32]? = some Try.f32 := Try.func32
theorem nt_impl_Opnd_variable : Try.f32.ntmps = 6 := Try.ntmps32
theorem res_impl_Opnd_variable : Try.f32.results.toList = [.tmp 2] := rfl
abbrev f_impl_RunOf_3 : FuncId := 33
theorem call_impl_RunOf_3 : CallsTo Pg 33 := Try.call33
theorem func_impl_RunOf_3 : Pg.funcs[33]? = some Try.f33 := Try.func33
theorem nt_impl_RunOf_3 : Try.f33.ntmps = 14 := Try.ntmps33
theorem res_impl_RunOf_3 : Try.f33.results.toList = [] := rfl
abbrev f_impl_machine_run : FuncId := 34
theorem call_impl_machine_run : CallsTo Pg 34 := Try.call34
theorem func_impl_machine_run : Pg.funcs[34]? = some Try.f34 := Try.func34
theorem nt_impl_machine_run : Try.f34.ntmps = 109 := Try.ntmps34
theorem res_impl_machine_run : Try.f34.results.toList = [.cell 8 28] := rfl
abbrev f_laws_eqStepS : FuncId := 35
theorem call_laws_eqStepS : CallsTo Pg 35 := Try.call35
theorem func_laws_eqStepS : Pg.funcs[35]? = some Try.f35 := Try.func35
theorem nt_laws_eqStepS : Try.f35.ntmps = 27 := Try.ntmps35
theorem res_laws_eqStepS : Try.f35.results.toList = [.tmp 4] := rfl
abbrev f_laws_markStepS : FuncId := 36
theorem call_laws_markStepS : CallsTo Pg 36 := Try.call36
theorem func_laws_markStepS : Pg.funcs[36]? = some Try.f36 := Try.func36
theorem nt_laws_markStepS : Try.f36.ntmps = 73 := Try.ntmps36
theorem res_laws_markStepS : Try.f36.results.toList = [.tmp 4] := rfl
abbrev f_laws_heldIntS : FuncId := 37
theorem call_laws_heldIntS : CallsTo Pg 37 := Try.call37
theorem func_laws_heldIntS : Pg.funcs[37]? = some Try.f37 := Try.func37
theorem nt_laws_heldIntS : Try.f37.ntmps = 21 := Try.ntmps37
theorem res_laws_heldIntS : Try.f37.results.toList = [.tmp 4] := rfl
abbrev f_spec_l6Open : FuncId := 38
theorem call_spec_l6Open : CallsTo Pg 38 := Try.call38
theorem func_spec_l6Open : Pg.funcs[38]? = some Try.f38 := Try.func38
theorem nt_spec_l6Open : Try.f38.ntmps = 11 := Try.ntmps38
theorem res_spec_l6Open : Try.f38.results.toList = [.tmp 2] := rfl
abbrev f_spec_l71Any : FuncId := 39
theorem call_spec_l71Any : CallsTo Pg 39 := Try.call39
theorem func_spec_l71Any : Pg.funcs[39]? = some Try.f39 := Try.func39
theorem nt_spec_l71Any : Try.f39.ntmps = 21 := Try.ntmps39
theorem res_spec_l71Any : Try.f39.results.toList = [.cell 2 32] := rfl
abbrev f_spec_l71In : FuncId := 40
theorem call_spec_l71In : CallsTo Pg 40 := Try.call40
theorem func_spec_l71In : Pg.funcs[40]? = some Try.f40 := Try.func40
theorem nt_spec_l71In : Try.f40.ntmps = 32 := Try.ntmps40
theorem res_spec_l71In : Try.f40.results.toList = [.tmp 2] := rfl
abbrev f_spec_l6Rd_pick : FuncId := 41
theorem call_spec_l6Rd_pick : CallsTo Pg 41 := Try.call41
theorem func_spec_l6Rd_pick : Pg.funcs[41]? = some Try.f41 := Try.func41
theorem nt_spec_l6Rd_pick : Try.f41.ntmps = 99 := Try.ntmps41
theorem res_spec_l6Rd_pick : Try.f41.results.toList = [.tmp 4] := rfl
abbrev f_laws_lkInts : FuncId := 42
theorem call_laws_lkInts : CallsTo Pg 42 := Try.call42
theorem func_laws_lkInts : Pg.funcs[42]? = some Try.f42 := Try.func42
theorem nt_laws_lkInts : Try.f42.ntmps = 26 := Try.ntmps42
theorem res_laws_lkInts : Try.f42.results.toList = [.tmp 4] := rfl
abbrev f_spec_l1Step : FuncId := 43
theorem call_spec_l1Step : CallsTo Pg 43 := Try.call43
theorem func_spec_l1Step : Pg.funcs[43]? = some Try.f43 := Try.func43
theorem nt_spec_l1Step : Try.f43.ntmps = 111 := Try.ntmps43
theorem res_spec_l1Step : Try.f43.results.toList = [.tmp 4] := rfl
abbrev f_impl_in : FuncId := 44
theorem call_impl_in : CallsTo Pg 44 := Try.call44
theorem func_impl_in : Pg.funcs[44]? = some Try.f44 := Try.func44
theorem nt_impl_in : Try.f44.ntmps = 15 := Try.ntmps44
theorem res_impl_in : Try.f44.results.toList = [.tmp 6] := rfl
abbrev f_slices_ContainsFunc_impl_Step_impl_Step : FuncId := 45
theorem call_slices_ContainsFunc_impl_Step_impl_Step : CallsTo Pg 45 := Try.call45
theorem func_slices_ContainsFunc_impl_Step_impl_Step : Pg.funcs[45]? = some Try.f45 := Try.func45
theorem nt_slices_ContainsFunc_impl_Step_impl_Step : Try.f45.ntmps = 9 := Try.ntmps45
theorem res_slices_ContainsFunc_impl_Step_impl_Step : Try.f45.results.toList = [.tmp 4] := rfl
abbrev f_impl_ProgOk_1 : FuncId := 46
theorem call_impl_ProgOk_1 : CallsTo Pg 46 := Try.call46
theorem func_impl_ProgOk_1 : Pg.funcs[46]? = some Try.f46 := Try.func46
theorem nt_impl_ProgOk_1 : Try.f46.ntmps = 10 := Try.ntmps46
theorem res_impl_ProgOk_1 : Try.f46.results.toList = [.tmp 3] := rfl
abbrev f_impl_Step_ok : FuncId := 47
theorem call_impl_Step_ok : CallsTo Pg 47 := Try.call47
theorem func_impl_Step_ok : Pg.funcs[47]? = some Try.f47 := Try.func47
theorem nt_impl_Step_ok : Try.f47.ntmps = 81 := Try.ntmps47
theorem res_impl_Step_ok : Try.f47.results.toList = [.tmp 4] := rfl
abbrev f_laws_szStep : FuncId := 48
theorem call_laws_szStep : CallsTo Pg 48 := Try.call48
theorem func_laws_szStep : Pg.funcs[48]? = some Try.f48 := Try.func48
theorem nt_laws_szStep : Try.f48.ntmps = 12 := Try.ntmps48
theorem res_laws_szStep : Try.f48.results.toList = [.tmp 4] := rfl
abbrev f_laws_toStep : FuncId := 49
theorem call_laws_toStep : CallsTo Pg 49 := Try.call49
theorem func_laws_toStep : Pg.funcs[49]? = some Try.f49 := Try.func49
theorem nt_laws_toStep : Try.f49.ntmps = 26 := Try.ntmps49
theorem res_laws_toStep : Try.f49.results.toList = [.cell 2 49] := rfl
abbrev f_slices_ContainsFunc_int_int : FuncId := 50
theorem call_slices_ContainsFunc_int_int : CallsTo Pg 50 := Try.call50
theorem func_slices_ContainsFunc_int_int : Pg.funcs[50]? = some Try.f50 := Try.func50
theorem nt_slices_ContainsFunc_int_int : Try.f50.ntmps = 9 := Try.ntmps50
theorem res_slices_ContainsFunc_int_int : Try.f50.results.toList = [.tmp 4] := rfl
abbrev f_impl_runFits_1 : FuncId := 51
theorem call_impl_runFits_1 : CallsTo Pg 51 := Try.call51
theorem func_impl_runFits_1 : Pg.funcs[51]? = some Try.f51 := Try.func51
theorem nt_impl_runFits_1 : Try.f51.ntmps = 6 := Try.ntmps51
theorem res_impl_runFits_1 : Try.f51.results.toList = [.tmp 2] := rfl
abbrev f_impl_isNum : FuncId := 52
theorem call_impl_isNum : CallsTo Pg 52 := Try.call52
theorem func_impl_isNum : Pg.funcs[52]? = some Try.f52 := Try.func52
theorem nt_impl_isNum : Try.f52.ntmps = 5 := Try.ntmps52
theorem res_impl_isNum : Try.f52.results.toList = [.tmp 2] := rfl
abbrev f_impl_RunOp : FuncId := 53
theorem call_impl_RunOp : CallsTo Pg 53 := Try.call53
theorem func_impl_RunOp : Pg.funcs[53]? = some Try.f53 := Try.func53
theorem nt_impl_RunOp : Try.f53.ntmps = 40 := Try.ntmps53
theorem res_impl_RunOp : Try.f53.results.toList = [.tmp 6] := rfl
abbrev f_laws_eqStep : FuncId := 54
theorem call_laws_eqStep : CallsTo Pg 54 := Try.call54
theorem func_laws_eqStep : Pg.funcs[54]? = some Try.f54 := Try.func54
theorem nt_laws_eqStep : Try.f54.ntmps = 38 := Try.ntmps54
theorem res_laws_eqStep : Try.f54.results.toList = [.tmp 4] := rfl
abbrev f_spec_l71Prog : FuncId := 55
theorem call_spec_l71Prog : CallsTo Pg 55 := Try.call55
theorem func_spec_l71Prog : Pg.funcs[55]? = some Try.f55 := Try.func55
theorem nt_spec_l71Prog : Try.f55.ntmps = 32 := Try.ntmps55
theorem res_spec_l71Prog : Try.f55.results.toList = [.cell 2 32] := rfl
abbrev f_spec_FlowTidy : FuncId := 56
theorem call_spec_FlowTidy : CallsTo Pg 56 := Try.call56
theorem func_spec_FlowTidy : Pg.funcs[56]? = some Try.f56 := Try.func56
theorem nt_spec_FlowTidy : Try.f56.ntmps = 96 := Try.ntmps56
theorem res_spec_FlowTidy : Try.f56.results.toList = [.cell 2 32, .tmp 3] := rfl
abbrev f_spec_l71Spoil : FuncId := 57
theorem call_spec_l71Spoil : CallsTo Pg 57 := Try.call57
theorem func_spec_l71Spoil : Pg.funcs[57]? = some Try.f57 := Try.func57
theorem nt_spec_l71Spoil : Try.f57.ntmps = 103 := Try.ntmps57
theorem res_spec_l71Spoil : Try.f57.results.toList = [.cell 4 32] := rfl
abbrev f_spec_l1Many : FuncId := 58
theorem call_spec_l1Many : CallsTo Pg 58 := Try.call58
theorem func_spec_l1Many : Pg.funcs[58]? = some Try.f58 := Try.func58
theorem nt_spec_l1Many : Try.f58.ntmps = 14 := Try.ntmps58
theorem res_spec_l1Many : Try.f58.results.toList = [.tmp 2] := rfl
abbrev f_spec_l1Opnd : FuncId := 59
theorem call_spec_l1Opnd : CallsTo Pg 59 := Try.call59
theorem func_spec_l1Opnd : Pg.funcs[59]? = some Try.f59 := Try.func59
theorem nt_spec_l1Opnd : Try.f59.ntmps = 17 := Try.ntmps59
theorem res_spec_l1Opnd : Try.f59.results.toList = [.tmp 2] := rfl
abbrev f_slices_IndexFunc_impl_Step_impl_Step : FuncId := 60
theorem call_slices_IndexFunc_impl_Step_impl_Step : CallsTo Pg 60 := Try.call60
theorem func_slices_IndexFunc_impl_Step_impl_Step : Pg.funcs[60]? = some Try.f60 := Try.func60
theorem nt_slices_IndexFunc_impl_Step_impl_Step : Try.f60.ntmps = 19 := Try.ntmps60
theorem res_slices_IndexFunc_impl_Step_impl_Step : Try.f60.results.toList = [.tmp 4] := rfl
abbrev f_impl_nexts : FuncId := 61
theorem call_impl_nexts : CallsTo Pg 61 := Try.call61
theorem func_impl_nexts : Pg.funcs[61]? = some Try.f61 := Try.func61
theorem nt_impl_nexts : Try.f61.ntmps = 8 := Try.ntmps61
theorem res_impl_nexts : Try.f61.results.toList = [.tmp 2] := rfl
abbrev f_impl_Step_ok_1 : FuncId := 62
theorem call_impl_Step_ok_1 : CallsTo Pg 62 := Try.call62
theorem func_impl_Step_ok_1 : Pg.funcs[62]? = some Try.f62 := Try.func62
theorem nt_impl_Step_ok_1 : Try.f62.ntmps = 9 := Try.ntmps62
theorem res_impl_Step_ok_1 : Try.f62.results.toList = [.tmp 3] := rfl
abbrev f_impl_Step_changes : FuncId := 63
theorem call_impl_Step_changes : CallsTo Pg 63 := Try.call63
theorem func_impl_Step_changes : Pg.funcs[63]? = some Try.f63 := Try.func63
theorem nt_impl_Step_changes : Try.f63.ntmps = 6 := Try.ntmps63
theorem res_impl_Step_changes : Try.f63.results.toList = [.tmp 2] := rfl
abbrev f_impl_isVar : FuncId := 64
theorem call_impl_isVar : CallsTo Pg 64 := Try.call64
theorem func_impl_isVar : Pg.funcs[64]? = some Try.f64 := Try.func64
theorem nt_impl_isVar : Try.f64.ntmps = 5 := Try.ntmps64
theorem res_impl_isVar : Try.f64.results.toList = [.tmp 2] := rfl
abbrev f_impl_Step_usesA : FuncId := 65
theorem call_impl_Step_usesA : CallsTo Pg 65 := Try.call65
theorem func_impl_Step_usesA : Pg.funcs[65]? = some Try.f65 := Try.func65
theorem nt_impl_Step_usesA : Try.f65.ntmps = 21 := Try.ntmps65
theorem res_impl_Step_usesA : Try.f65.results.toList = [.tmp 2] := rfl
abbrev f_impl_Opnd_ok : FuncId := 66
theorem call_impl_Opnd_ok : CallsTo Pg 66 := Try.call66
theorem func_impl_Opnd_ok : Pg.funcs[66]? = some Try.f66 := Try.func66
theorem nt_impl_Opnd_ok : Try.f66.ntmps = 21 := Try.ntmps66
theorem res_impl_Opnd_ok : Try.f66.results.toList = [.tmp 2] := rfl
abbrev f_impl_isOp : FuncId := 67
theorem call_impl_isOp : CallsTo Pg 67 := Try.call67
theorem func_impl_isOp : Pg.funcs[67]? = some Try.f67 := Try.func67
theorem nt_impl_isOp : Try.f67.ntmps = 5 := Try.ntmps67
theorem res_impl_isOp : Try.f67.results.toList = [.tmp 2] := rfl
abbrev f_laws_szIntS : FuncId := 68
theorem call_laws_szIntS : CallsTo Pg 68 := Try.call68
theorem func_laws_szIntS : Pg.funcs[68]? = some Try.f68 := Try.func68
theorem nt_laws_szIntS : Try.f68.ntmps = 12 := Try.ntmps68
theorem res_laws_szIntS : Try.f68.results.toList = [.tmp 4] := rfl
abbrev f_laws_toOpnd : FuncId := 69
theorem call_laws_toOpnd : CallsTo Pg 69 := Try.call69
theorem func_laws_toOpnd : Pg.funcs[69]? = some Try.f69 := Try.func69
theorem nt_laws_toOpnd : Try.f69.ntmps = 11 := Try.ntmps69
theorem res_laws_toOpnd : Try.f69.results.toList = [.cell 2 47] := rfl
abbrev f_slices_IndexFunc_int_int : FuncId := 70
theorem call_slices_IndexFunc_int_int : CallsTo Pg 70 := Try.call70
theorem func_slices_IndexFunc_int_int : Pg.funcs[70]? = some Try.f70 := Try.func70
theorem nt_slices_IndexFunc_int_int : Try.f70.ntmps = 19 := Try.ntmps70
theorem res_slices_IndexFunc_int_int : Try.f70.results.toList = [.tmp 4] := rfl
abbrev f_laws_eqOpnd : FuncId := 71
theorem call_laws_eqOpnd : CallsTo Pg 71 := Try.call71
theorem func_laws_eqOpnd : Pg.funcs[71]? = some Try.f71 := Try.func71
theorem nt_laws_eqOpnd : Try.f71.ntmps = 15 := Try.ntmps71
theorem res_laws_eqOpnd : Try.f71.results.toList = [.tmp 4] := rfl
abbrev f_spec_l71Step : FuncId := 72
theorem call_spec_l71Step : CallsTo Pg 72 := Try.call72
theorem func_spec_l71Step : Pg.funcs[72]? = some Try.f72 := Try.func72
theorem nt_spec_l71Step : Try.f72.ntmps = 93 := Try.ntmps72
theorem res_spec_l71Step : Try.f72.results.toList = [.cell 6 49] := rfl
abbrev f_spec_l2First : FuncId := 73
theorem call_spec_l2First : CallsTo Pg 73 := Try.call73
theorem func_spec_l2First : Pg.funcs[73]? = some Try.f73 := Try.func73
theorem nt_spec_l2First : Try.f73.ntmps = 69 := Try.ntmps73
theorem res_spec_l2First : Try.f73.results.toList = [.cell 2 32] := rfl
abbrev f_spec_l2Prune : FuncId := 74
theorem call_spec_l2Prune : CallsTo Pg 74 := Try.call74
theorem func_spec_l2Prune : Pg.funcs[74]? = some Try.f74 := Try.func74
theorem nt_spec_l2Prune : Try.f74.ntmps = 86 := Try.ntmps74
theorem res_spec_l2Prune : Try.f74.results.toList = [.cell 2 32] := rfl
abbrev f_spec_l2Ways : FuncId := 75
theorem call_spec_l2Ways : CallsTo Pg 75 := Try.call75
theorem func_spec_l2Ways : Pg.funcs[75]? = some Try.f75 := Try.func75
theorem nt_spec_l2Ways : Try.f75.ntmps = 40 := Try.ntmps75
theorem res_spec_l2Ways : Try.f75.results.toList = [.tmp 4] := rfl
abbrev f_spec_l1Copy : FuncId := 76
theorem call_spec_l1Copy : CallsTo Pg 76 := Try.call76
theorem func_spec_l1Copy : Pg.funcs[76]? = some Try.f76 := Try.func76
theorem nt_spec_l1Copy : Try.f76.ntmps = 31 := Try.ntmps76
theorem res_spec_l1Copy : Try.f76.results.toList = [.cell 2 32] := rfl
abbrev f_spec_l71Next : FuncId := 77
theorem call_spec_l71Next : CallsTo Pg 77 := Try.call77
theorem func_spec_l71Next : Pg.funcs[77]? = some Try.f77 := Try.func77
theorem nt_spec_l71Next : Try.f77.ntmps = 25 := Try.ntmps77
theorem res_spec_l71Next : Try.f77.results.toList = [.tmp 6] := rfl
abbrev f_spec_l71Expr : FuncId := 78
theorem call_spec_l71Expr : CallsTo Pg 78 := Try.call78
theorem func_spec_l71Expr : Pg.funcs[78]? = some Try.f78 := Try.func78
theorem nt_spec_l71Expr : Try.f78.ntmps = 29 := Try.ntmps78
theorem res_spec_l71Expr : Try.f78.results.toList = [.cell 2 97] := rfl
abbrev f_spec_l71Opnd : FuncId := 79
theorem call_spec_l71Opnd : CallsTo Pg 79 := Try.call79
theorem func_spec_l71Opnd : Pg.funcs[79]? = some Try.f79 := Try.func79
theorem nt_spec_l71Opnd : Try.f79.ntmps = 15 := Try.ntmps79
theorem res_spec_l71Opnd : Try.f79.results.toList = [.cell 2 47] := rfl
abbrev f_spec_FlowReach : FuncId := 80
theorem call_spec_FlowReach : CallsTo Pg 80 := Try.call80
theorem func_spec_FlowReach : Pg.funcs[80]? = some Try.f80 := Try.func80
theorem nt_spec_FlowReach : Try.f80.ntmps = 67 := Try.ntmps80
theorem res_spec_FlowReach : Try.f80.results.toList = [.tmp 2] := rfl
end Gx
