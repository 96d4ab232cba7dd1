/- Contracts and what they lean on, part 5. Conditions: none. -/
import Derived.Test.YtmmpllmppgelgaaDoorChecked
import Derived.IntWalk
import Derived.ChangeArms
import Derived.ChangeSlices
import Derived.Below
import Derived.Carry
import Derived.ChangeOld
import Derived.OpenShut
import Derived.ChangeCalls
import Derived.RowKit
import Derived.Test.YtmmpllmppgelgaaDoorZ4
set_option maxRecDepth 100000
set_option maxHeartbeats 4000000
set_option linter.all false
open Nat renaming reduceLeDiff → xx0, reduceMul → xx1, reduceSub → xx2, reduceEqDiff → xx3, reduceAdd → xx4, reduceLT → xx5
open Int renaming reduceToNat → xx6, reduceNeg → xx7, reduceLE → xx8, reduceLT → xx9
namespace Go.Ab
open Go.Proofs
theorem mixed:Tryd.prog.follows .mixedOrders=true:=by kernel_rfl
abbrev n_main_main:FuncId:=0
abbrev n_gosem_cut:FuncId:=1
abbrev n_gosem_cut_init:FuncId:=2
abbrev nz2x:FuncId:=3
abbrev nz8p:FuncId:=4
abbrev nz8q:FuncId:=5
abbrev nzx:FuncId:=6
abbrev nzy:FuncId:=7
abbrev nz2:FuncId:=8
abbrev nzz:FuncId:=9
abbrev nz10:FuncId:=10
abbrev nz8r:FuncId:=11
abbrev nz8s:FuncId:=12
abbrev nz8t:FuncId:=13
abbrev nz8u:FuncId:=14
abbrev nz8v:FuncId:=15
abbrev nz8w:FuncId:=16
abbrev nz8x:FuncId:=17
abbrev nz8y:FuncId:=18
abbrev nz8z:FuncId:=19
abbrev nz90:FuncId:=20
abbrev nz91:FuncId:=21
abbrev nz92:FuncId:=22
abbrev nz93:FuncId:=23
abbrev nz94:FuncId:=24
abbrev nz6:FuncId:=25
abbrev nz11:FuncId:=26
abbrev nz12:FuncId:=27
abbrev nz7:FuncId:=28
abbrev nz13:FuncId:=29
abbrev nz14:FuncId:=30
abbrev nz8:FuncId:=31
abbrev nz3:FuncId:=32
abbrev nz9:FuncId:=33
abbrev nz95:FuncId:=34
abbrev nz96:FuncId:=35
abbrev nz15:FuncId:=36
abbrev nz97:FuncId:=37
abbrev nz98:FuncId:=38
abbrev nz16:FuncId:=39
abbrev nz17:FuncId:=40
abbrev nz99:FuncId:=41
abbrev nz9a:FuncId:=42
abbrev nza:FuncId:=43
abbrev nz9b:FuncId:=44
abbrev nz9c:FuncId:=45
abbrev nz9d:FuncId:=46
abbrev nz9e:FuncId:=47
abbrev nz9f:FuncId:=48
abbrev nz9g:FuncId:=49
abbrev nz9h:FuncId:=50
abbrev nz9i:FuncId:=51
abbrev nz9j:FuncId:=52
abbrev nz9k:FuncId:=53
abbrev nz18:FuncId:=54
abbrev nz19:FuncId:=55
abbrev nz1:FuncId:=56
abbrev nz0:FuncId:=57
abbrev nz1a:FuncId:=58
abbrev nz1b:FuncId:=59
abbrev nz4:FuncId:=60
abbrev nzb:FuncId:=61
abbrev nzc:FuncId:=62
abbrev nzd:FuncId:=63
abbrev nz1c:FuncId:=64
abbrev nz1d:FuncId:=65
abbrev nz9l:FuncId:=66
abbrev nz9m:FuncId:=67
abbrev nz1e:FuncId:=68
abbrev nz9n:FuncId:=69
abbrev nze:FuncId:=70
abbrev nz9o:FuncId:=71
abbrev nz1f:FuncId:=72
abbrev nzf:FuncId:=73
abbrev nz9p:FuncId:=74
abbrev nz9q:FuncId:=75
abbrev n_internal_stringslite_Cut:FuncId:=76
abbrev n_internal_strconv_ParseInt:FuncId:=77
abbrev nz9r:FuncId:=78
abbrev nz9s:FuncId:=79
abbrev nz9t:FuncId:=80
abbrev nz1g:FuncId:=81
abbrev n_internal_strconv_FormatInt:FuncId:=82
abbrev nz9u:FuncId:=83
abbrev nz9v:FuncId:=84
abbrev nz9w:FuncId:=85
abbrev nz9x:FuncId:=86
abbrev nz9y:FuncId:=87
abbrev nz9z:FuncId:=88
abbrev nz1h:FuncId:=89
abbrev n_internal_stringslite_Index:FuncId:=90
abbrev n_internal_strconv_ParseUint:FuncId:=91
abbrev nza0:FuncId:=92
abbrev nza1:FuncId:=93
abbrev nza2:FuncId:=94
abbrev nza3:FuncId:=95
abbrev n_internal_strconv_small:FuncId:=96
abbrev n_internal_strconv_numDigits:FuncId:=97
abbrev n_internal_strconv_formatBase10:FuncId:=98
abbrev n_internal_strconv_formatBits:FuncId:=99
abbrev nza4:FuncId:=100
abbrev nza5:FuncId:=101
abbrev nza6:FuncId:=102
abbrev n_unicode_utf8_RuneCountInString:FuncId:=103
abbrev n_unicode_utf8_DecodeRuneInString:FuncId:=104
abbrev n_internal_bytealg_CountString:FuncId:=105
abbrev n_internal_stringslite_IndexByte:FuncId:=106
abbrev n_internal_bytealg_IndexString:FuncId:=107
abbrev n_internal_bytealg_Cutover:FuncId:=108
abbrev n_internal_bytealg_IndexRabinKarp_S:FuncId:=109
abbrev n_internal_strconv_lower:FuncId:=110
abbrev n_internal_strconv_underscoreOK:FuncId:=111
abbrev n_internal_stringslite_Clone:FuncId:=112
abbrev n_errors_New:FuncId:=113
abbrev nza7:FuncId:=114
abbrev n_internal_strconv_log10Pow2:FuncId:=115
abbrev n_math_bits_Len64:FuncId:=116
abbrev n_internal_strconv_bool2_int:FuncId:=117
abbrev n_internal_strconv_isPowerOfTwo:FuncId:=118
abbrev n_math_bits_TrailingZeros:FuncId:=119
abbrev n_unicode_utf8_decodeRuneInStringSlow:FuncId:=120
abbrev n_internal_bytealg_IndexByteString:FuncId:=121
abbrev n_internal_bytealg_hashStr_S:FuncId:=122
abbrev n_internal_strconv_Itoa:FuncId:=123
abbrev n_math_bits_TrailingZeros32:FuncId:=124
abbrev n_math_bits_TrailingZeros64:FuncId:=125
abbrev n_runtime_boundsError_Error:FuncId:=126
abbrev n_runtime_boundsError_RuntimeError:FuncId:=127
abbrev n_runtime_errorString_Error:FuncId:=128
abbrev n_runtime_errorString_RuntimeError:FuncId:=129
abbrev n_runtime_plainError_Error:FuncId:=130
abbrev n_runtime_plainError_RuntimeError:FuncId:=131
abbrev n_runtime_errorAddressString_Error:FuncId:=132
abbrev n_runtime_errorAddressString_RuntimeError:FuncId:=133
abbrev n_runtime_TypeAssertionError_Error:FuncId:=134
abbrev n_runtime_TypeAssertionError_RuntimeError:FuncId:=135
abbrev n_runtime_PanicNilError_Error:FuncId:=136
abbrev n_runtime_PanicNilError_RuntimeError:FuncId:=137
abbrev n_internal_abi_Type_Align:FuncId:=138
abbrev n_internal_runtime_maps_unhashableTypeError_Error:FuncId:=139
abbrev n_internal_runtime_maps_unhashableTypeError_RuntimeError:FuncId:=140
abbrev nza8:FuncId:=141
abbrev nza9:FuncId:=142
abbrev n_internal_strconv_Error_Error:FuncId:=143
abbrev nzaa:FuncId:=144
abbrev n_errors_errorString_Error:FuncId:=145
abbrev n_internal_abi_Kind_String:FuncId:=146
abbrev n_var_s_door_gosem_cut_vars_holds_initialisers_alone_see_the_manifest_s_row_cutvarsword_look_11_test_files_too:FuncId:=147
abbrev n_var_s_door_internal_strconv_uint64pow10_is_laid_by_its_own_initialiser_plain_data_look_11:FuncId:=148
abbrev n_var_s_door_math_bits_deBruijn32tab_is_laid_by_its_own_initialiser_plain_data_look_11:FuncId:=149
abbrev n_var_s_door_math_bits_deBruijn64tab_is_laid_by_its_own_initialiser_plain_data_look_11:FuncId:=150
abbrev n_var_s_door_strconv_ErrRange_is_laid_by_its_own_call_of_errors_New_on_one_literal_look_11:FuncId:=151
abbrev n_var_s_door_strconv_ErrSyntax_is_laid_by_its_own_call_of_errors_New_on_one_literal_look_11:FuncId:=152
abbrev n_var_s_door_the_look_of_gosem_cut_vars_went_over_the_folder_that_the_caller_named_as_the_repository_s_root_look_11:FuncId:=153
abbrev n_var_s_door_unicode_utf8_acceptRanges_is_laid_by_its_own_initialiser_plain_data_look_11:FuncId:=154
abbrev n_var_s_door_unicode_utf8_first_is_laid_by_its_text_alone_pinned_1:FuncId:=155
abbrev n_gosem_cut_vars:FuncId:=156
def Bz1i:AC:=(.kp [1,11] [1,5000] (.dn (.cond (.t 11) (.seq (.reg false [⟨(some 2),none,.i (.mov (.c (.bool true)))⟩]) (.dn .ret)) .skip)))
def Bz2y:AC:=(.kp [1,5,21] [1,5,16,1016,5000] (.dn (.cond (.t 21) (.seq (.reg false [⟨(some 2),none,.i (.mov (.c (.bool false)))⟩]) (.dn .ret)) .skip)))
def Bz2z:AC:=(.kp [26] [5000] (.dn (.cond (.t 26) (.seq (.reg false [⟨(some 2),none,.i (.mov (.c (.bool false)))⟩]) (.dn .ret)) .skip)))
def Bz30:AC:=(.kp [] [5000] (.dn (.seq (.reg false [⟨(some 2),none,.i (.mov (.c (.bool true)))⟩]) (.dn .ret))))
def Bz31:AC:=(.kp [1,5] [1,5,16,1016,5000] (.dn (.seq (.seq (.reg true [⟨(some 22),none,.i (.lda 4 (.t 5))⟩,⟨(some 23),none,.i (.lda 4 (.t 1))⟩,⟨(some 24),none,.call nz2 [(.t 23)]⟩,⟨(some 25),none,.calh nz10 [(.t 22),(.t 24)]⟩,⟨(some 26),none,.i (.un .not (.t 25))⟩]) Bz2z) Bz30)))
def Bz32:AC:=(.kp [1,4,5,6] [1,5,16,1016,5000] (.dn (.seq (.seq (.reg false [⟨(some 19),none,.i (.mov (.t 6))⟩,⟨(some 20),none,.i (.mov (.t 4))⟩,⟨(some 21),none,.i (.bin .neq (.t 19) (.t 20))⟩]) Bz2y) Bz31)))
def Bz33:AC:=(.kp [1,4,5] [1,5,16,1016,5000] (.dn (.seq (.reg false [⟨(some 17),none,.i (.lda 4 (.t 5))⟩,⟨(some 18),none,.call nzz [(.t 17)]⟩,⟨(some 6),none,.i (.mov (.t 18))⟩]) Bz32)))
def Bz34:AC:=(.kp [1,4] [1,5000] (.dn (.seq (.reg false [⟨(some 15),none,.i (.lda 4 (.t 1))⟩,⟨(some 16),none,.call nz2 [(.t 15)]⟩,⟨(some 5),none,.i (.new [.int .i64 0,.int .i64 0,.slice none 0 0,.slice none 0 0])⟩,⟨none,none,.i (.sto 4 (.t 5) (.t 16))⟩]) Bz33)))
def Bz35:AC:=(.kp [1] [1,5000] (.dn (.seq (.reg false [⟨(some 12),none,.i (.lda 4 (.t 1))⟩,⟨(some 13),none,.call nz2 [(.t 12)]⟩,⟨(some 14),none,.call nzy [(.t 13)]⟩,⟨(some 4),none,.i (.mov (.t 14))⟩]) Bz34)))
def Bz1j:AC:=(.kp [1,3] [1,5000] (.dn (.seq (.seq (.reg false [⟨(some 10),none,.i (.mov (.t 3))⟩,⟨(some 11),none,.i (.bin .lss (.t 10) (.c (.int .i64 0)))⟩]) Bz1i) Bz35)))
def Bz36:AC:=(.kp [1,3] [1,5000] (.dn (.seq (.reg false [⟨(some 7),none,.i (.lda 4 (.t 1))⟩,⟨(some 8),none,.i (.mov (.t 3))⟩,⟨(some 9),none,.call nzx [(.t 7),(.t 8)]⟩,⟨(some 3),none,.i (.mov (.t 9))⟩]) Bz1j)))
def Bz37:AC:=(.kp [1] [1,5000] (.dn (.seq (.reg false [⟨(some 3),none,.i (.mov (.c (.int .i64 1048576)))⟩]) Bz36)))
def Az38:AFn:=⟨27,1,(.seq (.reg false [⟨(some 1),none,.i (.box (.t 0))⟩,⟨(some 2),none,.i (.mov (.c (.bool false)))⟩]) Bz37),[.tmp 2]⟩
theorem cz7q:cFn (drV none) Tryd.prog nz2x Az38:=⟨_,_,Tryd.func3,rfl,by kernel_rfl,by decide,rfl,by kernel_rfl,by kernel_rfl⟩
def Bz1k:AC:=(.kp [1,2,10] [2,5000,5001] (.dn (.cond (.t 10) (.seq (.reg false [⟨(some 4),none,.i (.mov (.c (.int .i64 (-1))))⟩]) (.dn .ret)) .skip)))
def Bz1l:AC:=(.kp [1,16] [5000,5001] (.dn (.cond (.t 16) (.seq (.reg false [⟨(some 4),none,.i (.mov (.c (.int .i64 (-1))))⟩]) (.dn .ret)) .skip)))
def Bz39:AC:=(.kp [1] [5000,5001] (.dn (.seq (.reg false [⟨(some 17),none,.i (.mov (.t 1))⟩,⟨(some 4),none,.i (.mov (.t 17))⟩]) (.dn .ret))))
def Bz1m:AC:=(.kp [1] [5000,5001] (.dn (.seq (.seq (.reg false [⟨(some 15),none,.i (.mov (.t 1))⟩,⟨(some 16),none,.i (.bin .lss (.t 15) (.c (.int .i64 0)))⟩]) Bz1l) Bz39)))
def Bz3a:AC:=(.kp [1,2] [2,5000,5001] (.dn (.seq (.reg false [⟨(some 11),none,.i (.fad 3 (.t 2))⟩,⟨(some 12),none,.i (.ld (.t 11))⟩,⟨(some 13),none,.i (.mov (.t 1))⟩,⟨(some 14),none,.call nz6 [(.t 12),(.t 13)]⟩,⟨(some 1),none,.i (.mov (.t 14))⟩]) Bz1m)))
def Bz1n:AC:=(.kp [1,2] [2,5000,5001] (.dn (.seq (.seq (.reg false [⟨(some 9),none,.i (.mov (.t 1))⟩,⟨(some 10),none,.i (.bin .lss (.t 9) (.c (.int .i64 0)))⟩]) Bz1k) Bz3a)))
def Bz3b:AC:=(.kp [1,2] [2,5000,5001] (.dn (.seq (.reg false [⟨(some 5),none,.i (.fad 2 (.t 2))⟩,⟨(some 6),none,.i (.ld (.t 5))⟩,⟨(some 7),none,.i (.mov (.t 1))⟩,⟨(some 8),none,.call nz6 [(.t 6),(.t 7)]⟩,⟨(some 1),none,.i (.mov (.t 8))⟩]) Bz1n)))
def Az3c:AFn:=⟨18,2,(.seq (.reg false [⟨(some 2),none,.i (.box (.t 0))⟩,⟨(some 4),none,.i (.mov (.c (.int .i64 0)))⟩]) Bz3b),[.tmp 4]⟩
theorem cz7r:cFn (drV none) Tryd.prog nzx Az3c:=⟨_,_,Tryd.func6,rfl,by kernel_rfl,by decide,rfl,by kernel_rfl,by kernel_rfl⟩
def Bz1o:AC:=(.kp [1,4] [1,5000] (.dn (.cond (.t 4) (.seq (.reg false [⟨(some 2),none,.i (.mov (.c (.string (ByteArray.mk #[]))))⟩]) (.dn .ret)) .skip)))
def Bz1p:AC:=(.kp [1] [1,5000] (.dn (.seq (.reg false [⟨(some 5),none,.call nz12 [(.t 1)]⟩,⟨(some 2),none,.i (.mov (.t 5))⟩]) (.dn .ret))))
def Bz3d:AC:=(.kp [1] [1,5000] (.dn (.seq (.seq (.reg false [⟨(some 3),none,.call nz11 [(.t 1)]⟩,⟨(some 4),none,.i (.un .not (.t 3))⟩]) Bz1o) Bz1p)))
def Az3e:AFn:=⟨6,1,(.seq (.reg false [⟨(some 1),none,.i (.box (.t 0))⟩,⟨(some 2),none,.i (.mov (.c (.string (ByteArray.mk #[]))))⟩]) Bz3d),[.tmp 2]⟩
theorem cz7s:cFn (drV none) Tryd.prog nzy Az3e:=⟨_,_,Tryd.func7,rfl,by kernel_rfl,by decide,rfl,by kernel_rfl,by kernel_rfl⟩
def Bz3f:AC:=(.kp [2,3] [1,2,3,12,16,5000] (.seq (.regi false [⟨(some 18),none,.i (.lda 4 (.t 3))⟩,⟨none,none,.i (.sto 4 (.t 2) (.t 18))⟩]) .ret))
def Bz3g:AC:=(.kp [1,2,3] [1,2,3,12,16,5000] (.seq (.regi false [⟨(some 14),none,.i (.fad 3 (.t 1))⟩,⟨(some 15),none,.i (.ld (.t 14))⟩,⟨(some 16),none,.call nz7 [(.t 15)]⟩,⟨(some 17),none,.i (.fad 3 (.t 3))⟩,⟨none,none,.i (.sto 1 (.t 17) (.t 16))⟩]) Bz3f))
def Bz3h:AC:=(.kp [1,2,3] [1,2,3,12,16,5000] (.seq (.regi false [⟨(some 10),none,.i (.fad 2 (.t 1))⟩,⟨(some 11),none,.i (.ld (.t 10))⟩,⟨(some 12),none,.call nz7 [(.t 11)]⟩,⟨(some 13),none,.i (.fad 2 (.t 3))⟩,⟨none,none,.i (.sto 1 (.t 13) (.t 12))⟩]) Bz3g))
def Bz3i:AC:=(.kp [1,2,3] [1,2,3,12,16,5000] (.seq (.regi false [⟨(some 7),none,.i (.fad 1 (.t 1))⟩,⟨(some 8),none,.i (.ld (.t 7))⟩,⟨(some 9),none,.i (.fad 1 (.t 3))⟩,⟨none,none,.i (.sto 1 (.t 9) (.t 8))⟩]) Bz3h))
def Bz3j:AC:=(.kp [1,2,3] [1,2,3,12,16,5000] (.seq (.regi false [⟨(some 4),none,.i (.fad 0 (.t 1))⟩,⟨(some 5),none,.i (.ld (.t 4))⟩,⟨(some 6),none,.i (.fad 0 (.t 3))⟩,⟨none,none,.i (.sto 1 (.t 6) (.t 5))⟩]) Bz3i))
def Bz3k:AC:=(.kp [1,2] [1,2,3,12,16,5000] (.seq (.regi false [⟨(some 3),none,.i (.new [.int .i64 0,.int .i64 0,.slice none 0 0,.slice none 0 0])⟩]) Bz3j))
def Az3l:AFn:=⟨19,1,(.seq (.regi false [⟨(some 1),none,.i (.box (.t 0))⟩,⟨(some 2),none,.i (.new [.int .i64 0,.int .i64 0,.slice none 0 0,.slice none 0 0])⟩]) Bz3k),[.cell (some 4) 2]⟩
theorem cz7t:cFn (drV none) Tryd.prog nz2 Az3l:=⟨_,_,Tryd.func8,rfl,by kernel_rfl,by decide,rfl,by kernel_rfl,by kernel_rfl⟩
def Bz1q:AC:=(.kp [1,10] [1,5000] (.dn (.cond (.t 10) (.seq (.reg false [⟨(some 2),none,.i (.mov (.c (.string (ByteArray.mk #[]))))⟩]) (.dn .ret)) .skip)))
def Bz3m:AC:=(.kp [1,3,4,6,7,21,22,23,30,31,32] [1,5000] (.dn (.reg true [⟨(some 37),none,.i (.mov (.t 3))⟩,⟨(some 38),none,.i (.mov (.t 7))⟩,⟨(some 39),none,.call nz3 [(.t 38)]⟩,⟨(some 40),none,.i (.bin .add (.c (.string (ByteArray.mk #[32]))) (.t 39))⟩,⟨(some 41),none,.i (.bin .add (.t 40) (.c (.string (ByteArray.mk #[47]))))⟩,⟨(some 42),none,.i (.fad 3 (.t 1))⟩,⟨(some 43),none,.i (.ld (.t 42))⟩,⟨(some 44),none,.i (.mov (.t 4))⟩,⟨(some 45),none,.i (.iad 1 (.t 43) (.t 44))⟩,⟨(some 46),none,.i (.ld (.t 45))⟩,⟨(some 47),none,.i (.mov (.t 6))⟩,⟨(some 48),none,.i (.iad 1 (.t 46) (.t 47))⟩,⟨(some 49),none,.i (.ld (.t 48))⟩,⟨(some 50),none,.call nz3 [(.t 49)]⟩,⟨(some 51),none,.i (.bin .add (.t 41) (.t 50))⟩,⟨(some 52),none,.i (.bin .add (.t 37) (.t 51))⟩,⟨(some 3),none,.i (.mov (.t 52))⟩])))
def Bz3n:AC:=(.kp [1,3,4,21,22,23,30,31,32] [1,5000] (.dn (.reg false [⟨(some 53),none,.i (.bin .add (.t 32) (.c (.int .i64 1)))⟩,⟨(some 32),none,.i (.mov (.t 53))⟩])))
def Bz3o:AC:=(.kp [1,3,4,21,22,23,30,31,32] [1,5000] (.dn (.seq (.block 3 (.seq (.reg false [⟨(some 34),none,.i (.mov (.t 32))⟩,⟨(some 35),none,.i (.iad 1 (.t 30) (.t 32))⟩,⟨(some 36),none,.i (.ld (.t 35))⟩,⟨(some 6),none,.i (.mov (.t 34))⟩,⟨(some 7),none,.i (.mov (.t 36))⟩]) Bz3m)) Bz3n)))
def Bz1r:AC:=(.kp [1,3,4,21,22,23,30,31,32,33] [1,5000] (.dn (.seq (.cond (.t 33) .skip (.exit 2)) Bz3o)))
def Bzg:AC:=(.kp [1,3,4,21,22,23,30,31,32] [1,5000] (.dn (.seq (.reg false [⟨(some 33),none,.i (.bin .lss (.t 32) (.t 31))⟩]) Bz1r)))
def Bz3p:AC:=(.kp [1,3,4,21,22,23,30,31,32] [1,5000] (.dn (.block 2 (.loop Bzg))))
def Bz3q:AC:=(.kp [1,3,21,22,23] [1,5000] (.dn (.reg false [⟨(some 54),none,.i (.mov (.t 3))⟩,⟨(some 55),none,.i (.bin .add (.t 54) (.c (.string (ByteArray.mk #[10]))))⟩,⟨(some 3),none,.i (.mov (.t 55))⟩])))
def Bz3r:AC:=(.kp [1,3,4,5,21,22,23] [1,5000] (.dn (.seq (.seq (.reg false [⟨(some 30),none,.i (.mov (.t 5))⟩,⟨(some 31),none,.i (.len (.t 30))⟩,⟨(some 32),none,.i (.mov (.c (.int .i64 0)))⟩]) Bz3p) Bz3q)))
def Bz3s:AC:=(.kp [1,3,4,5,21,22,23] [1,5000] (.dn (.seq (.reg false [⟨(some 28),none,.i (.mov (.t 3))⟩,⟨(some 29),none,.i (.bin .add (.t 28) (.c (.string (ByteArray.mk #[108,101,116,116,101,114]))))⟩,⟨(some 3),none,.i (.mov (.t 29))⟩]) Bz3r)))
def Bz3t:AC:=(.kp [1,3,21,22,23] [1,5000] (.dn (.reg false [⟨(some 56),none,.i (.bin .add (.t 23) (.c (.int .i64 1)))⟩,⟨(some 23),none,.i (.mov (.t 56))⟩])))
def Bz3u:AC:=(.kp [1,3,21,22,23] [1,5000] (.dn (.seq (.block 1 (.seq (.reg false [⟨(some 25),none,.i (.mov (.t 23))⟩,⟨(some 26),none,.i (.iad 1 (.t 21) (.t 23))⟩,⟨(some 27),none,.i (.ld (.t 26))⟩,⟨(some 4),none,.i (.mov (.t 25))⟩,⟨(some 5),none,.i (.mov (.t 27))⟩]) Bz3s)) Bz3t)))
def Bz1s:AC:=(.kp [1,3,21,22,23,24] [1,5000] (.dn (.seq (.cond (.t 24) .skip (.exit 0)) Bz3u)))
def Bzh:AC:=(.kp [1,3,21,22,23] [1,5000] (.dn (.seq (.reg false [⟨(some 24),none,.i (.bin .lss (.t 23) (.t 22))⟩]) Bz1s)))
def Bz3v:AC:=(.kp [1,3,21,22,23] [1,5000] (.dn (.block 0 (.loop Bzh))))
def Bz3w:AC:=(.kp [3] [5000] (.dn (.seq (.reg false [⟨(some 57),none,.i (.mov (.t 3))⟩,⟨(some 2),none,.i (.mov (.t 57))⟩]) (.dn .ret))))
def Bz3x:AC:=(.kp [1,3] [1,5000] (.dn (.seq (.seq (.reg false [⟨(some 20),none,.i (.fad 2 (.t 1))⟩,⟨(some 21),none,.i (.ld (.t 20))⟩,⟨(some 22),none,.i (.len (.t 21))⟩,⟨(some 23),none,.i (.mov (.c (.int .i64 0)))⟩]) Bz3v) Bz3w)))
def Bz1t:AC:=(.kp [1] [1,5000] (.dn (.seq (.reg true [⟨(some 11),none,.i (.fad 0 (.t 1))⟩,⟨(some 12),none,.i (.ld (.t 11))⟩,⟨(some 13),none,.i (.fad 1 (.t 1))⟩,⟨(some 14),none,.i (.ld (.t 13))⟩,⟨(some 15),none,.i (.fad 2 (.t 1))⟩,⟨(some 16),none,.i (.ld (.t 15))⟩,⟨(some 17),none,.call nz8 [(.t 16)]⟩,⟨(some 18),none,.i (.bsl 1 false [(.t 12),(.t 14),(.t 17)])⟩,⟨(some 19),none,.calh nz14 [(.c (.string (ByteArray.mk #[109,97,99,104,105,110,101]))),(.t 18)]⟩,⟨(some 3),none,.i (.mov (.t 19))⟩]) Bz3x)))
def Bz3y:AC:=(.kp [1] [1,5000] (.dn (.seq (.seq (.reg false [⟨(some 8),none,.i (.lda 4 (.t 1))⟩,⟨(some 9),none,.call nz13 [(.t 8)]⟩,⟨(some 10),none,.i (.un .not (.t 9))⟩]) Bz1q) Bz1t)))
def Az3z:AFn:=⟨58,1,(.seq (.reg false [⟨(some 1),none,.i (.box (.t 0))⟩,⟨(some 2),none,.i (.mov (.c (.string (ByteArray.mk #[]))))⟩]) Bz3y),[.tmp 2]⟩
theorem cz7u:cFn (drV none) Tryd.prog nzz Az3z:=⟨_,_,Tryd.func9,rfl,by kernel_rfl,by decide,rfl,by kernel_rfl,by kernel_rfl⟩
def Bzi:AC:=(.kp [2,3,9] [2,3,5000,5001] (.dn (.cond (.t 9) (.seq (.reg false [⟨(some 4),none,.i (.mov (.c (.bool false)))⟩]) (.dn .ret)) .skip)))
def Bz1u:AC:=(.kp [2,3,14] [2,3,5000,5001] (.dn (.cond (.t 14) (.seq (.reg false [⟨(some 4),none,.i (.mov (.c (.bool false)))⟩]) (.dn .ret)) .skip)))
def Bz1v:AC:=(.kp [2,3,20] [2,3,5000,5001] (.dn (.cond (.t 20) (.seq (.reg false [⟨(some 4),none,.i (.mov (.c (.bool false)))⟩]) (.dn .ret)) .skip)))
def Bz1w:AC:=(.kp [26] [5000,5001] (.dn (.cond (.t 26) (.seq (.reg false [⟨(some 4),none,.i (.mov (.c (.bool false)))⟩]) (.dn .ret)) .skip)))
def Bz40:AC:=(.kp [] [5000,5001] (.dn (.seq (.reg false [⟨(some 4),none,.i (.mov (.c (.bool true)))⟩]) (.dn .ret))))
def Bz41:AC:=(.kp [2,3] [2,3,5000,5001] (.dn (.seq (.seq (.reg false [⟨(some 21),none,.i (.fad 3 (.t 2))⟩,⟨(some 22),none,.i (.ld (.t 21))⟩,⟨(some 23),none,.i (.fad 3 (.t 3))⟩,⟨(some 24),none,.i (.ld (.t 23))⟩,⟨(some 25),none,.call nz9 [(.t 22),(.t 24)]⟩,⟨(some 26),none,.i (.un .not (.t 25))⟩]) Bz1w) Bz40)))
def Bz42:AC:=(.kp [2,3] [2,3,5000,5001] (.dn (.seq (.seq (.reg false [⟨(some 15),none,.i (.fad 2 (.t 2))⟩,⟨(some 16),none,.i (.ld (.t 15))⟩,⟨(some 17),none,.i (.fad 2 (.t 3))⟩,⟨(some 18),none,.i (.ld (.t 17))⟩,⟨(some 19),none,.call nz9 [(.t 16),(.t 18)]⟩,⟨(some 20),none,.i (.un .not (.t 19))⟩]) Bz1v) Bz41)))
def Bz1x:AC:=(.kp [2,3] [2,3,5000,5001] (.dn (.seq (.seq (.reg false [⟨(some 10),none,.i (.fad 1 (.t 2))⟩,⟨(some 11),none,.i (.ld (.t 10))⟩,⟨(some 12),none,.i (.fad 1 (.t 3))⟩,⟨(some 13),none,.i (.ld (.t 12))⟩,⟨(some 14),none,.i (.bin .neq (.t 11) (.t 13))⟩]) Bz1u) Bz42)))
def Bz43:AC:=(.kp [2,3] [2,3,5000,5001] (.dn (.seq (.seq (.reg false [⟨(some 5),none,.i (.fad 0 (.t 2))⟩,⟨(some 6),none,.i (.ld (.t 5))⟩,⟨(some 7),none,.i (.fad 0 (.t 3))⟩,⟨(some 8),none,.i (.ld (.t 7))⟩,⟨(some 9),none,.i (.bin .neq (.t 6) (.t 8))⟩]) Bzi) Bz1x)))
def Az44:AFn:=⟨27,2,(.seq (.reg false [⟨(some 2),none,.i (.box (.t 0))⟩,⟨(some 3),none,.i (.box (.t 1))⟩,⟨(some 4),none,.i (.mov (.c (.bool false)))⟩]) Bz43),[.tmp 4]⟩
theorem cz7v:cFn (drV none) Tryd.prog nz10 Az44:=⟨_,_,Tryd.func10,rfl,by kernel_rfl,by decide,rfl,by kernel_rfl,by kernel_rfl⟩
def Bz1y:AC:=(.kp [0,1,11] [5000,5001] (.dn (.cond (.t 11) (.seq (.reg false [⟨(some 4),none,.i (.mov (.c (.int .i64 (-1))))⟩]) (.dn .ret)) .skip)))
def Bz1z:AC:=(.kp [0,1,5,15] [5000,5001] (.dn (.cond (.t 15) .skip (.exit 0))))
def Bz20:AC:=(.kp [0,1,5,25] [5000,5001] (.dn (.cond (.t 25) (.seq (.reg false [⟨(some 4),none,.i (.mov (.c (.int .i64 (-1))))⟩]) (.dn .ret)) .skip)))
def Bz21:AC:=(.kp [0,1,5] [5000,5001] (.dn (.seq (.reg false [⟨(some 24),none,.i (.mov (.t 1))⟩,⟨(some 25),none,.i (.bin .lss (.t 24) (.c (.int .i64 0)))⟩]) Bz20)))
def Bz45:AC:=(.kp [0,1,5] [5000,5001] (.dn (.reg false [⟨(some 16),none,.i (.mov (.t 5))⟩,⟨(some 17),none,.i (.bin .add (.t 16) (.c (.int .i64 1)))⟩,⟨(some 5),none,.i (.mov (.t 17))⟩])))
def Bz22:AC:=(.kp [0,1,5] [5000,5001] (.dn (.seq (.block 1 (.seq (.reg false [⟨(some 18),none,.i (.mov (.t 0))⟩,⟨(some 19),none,.i (.mov (.t 5))⟩,⟨(some 20),none,.i (.iad 1 (.t 18) (.t 19))⟩,⟨(some 21),none,.i (.ld (.t 20))⟩,⟨(some 22),none,.i (.mov (.t 1))⟩,⟨(some 23),none,.call nz18 [(.t 21),(.t 22)]⟩,⟨(some 1),none,.i (.mov (.t 23))⟩]) Bz21)) Bz45)))
def Bzj:AC:=(.kp [0,1,5] [5000,5001] (.dn (.seq (.seq (.reg false [⟨(some 12),none,.i (.mov (.t 5))⟩,⟨(some 13),none,.i (.mov (.t 0))⟩,⟨(some 14),none,.i (.len (.t 13))⟩,⟨(some 15),none,.i (.bin .lss (.t 12) (.t 14))⟩]) Bz1z) Bz22)))
def Bz46:AC:=(.kp [0,1,5] [5000,5001] (.dn (.block 0 (.loop Bzj))))
def Bz47:AC:=(.kp [1] [5000,5001] (.dn (.seq (.reg false [⟨(some 26),none,.i (.mov (.t 1))⟩,⟨(some 4),none,.i (.mov (.t 26))⟩]) (.dn .ret))))
def Bz48:AC:=(.kp [0,1] [5000,5001] (.dn (.seq (.seq (.reg false [⟨(some 5),none,.i (.mov (.c (.int .i64 0)))⟩]) Bz46) Bz47)))
def Bz23:AC:=(.kp [0,1] [5000,5001] (.dn (.seq (.seq (.reg false [⟨(some 10),none,.i (.mov (.t 1))⟩,⟨(some 11),none,.i (.bin .lss (.t 10) (.c (.int .i64 0)))⟩]) Bz1y) Bz48)))
def Bz49:AC:=(.kp [0,1] [5000,5001] (.dn (.seq (.reg false [⟨(some 6),none,.i (.mov (.t 1))⟩,⟨(some 7),none,.i (.mov (.t 0))⟩,⟨(some 8),none,.i (.len (.t 7))⟩,⟨(some 9),none,.i (.bin .sub (.t 6) (.t 8))⟩,⟨(some 1),none,.i (.mov (.t 9))⟩]) Bz23)))
def Az4a:AFn:=⟨27,2,(.seq (.reg false [⟨(some 4),none,.i (.mov (.c (.int .i64 0)))⟩]) Bz49),[.tmp 4]⟩
theorem cz7w:cFn (drV none) Tryd.prog nz6 Az4a:=⟨_,_,Tryd.func25,rfl,by kernel_rfl,by decide,rfl,by kernel_rfl,by kernel_rfl⟩
def Bz5:AC:=(.kp [0,30] [5000] (.dn (.cond (.t 30) (.seq (.reg false [⟨(some 2),none,.i (.mov (.c (.bool false)))⟩]) (.dn .ret)) .skip)))
def Bz24:AC:=(.kp [0,4,37] [5000] (.dn (.cond (.t 37) .skip (.exit 0))))
def Bz25:AC:=(.kp [0,4,52] [5000] (.dn (.cond (.t 52) (.seq (.reg false [⟨(some 2),none,.i (.mov (.c (.bool false)))⟩]) (.dn .ret)) .skip)))
def Bz26:AC:=(.kp [0,4,5,62] [5000] (.dn (.cond (.t 62) .skip (.exit 2))))
def Bz27:AC:=(.kp [0,4,5,81] [5000] (.dn (.cond (.t 81) (.seq (.reg false [⟨(some 2),none,.i (.mov (.c (.bool false)))⟩]) (.dn .ret)) .skip)))
def Bz4b:AC:=(.kp [0,4,5] [5000] (.dn (.reg false [⟨(some 63),none,.i (.mov (.t 5))⟩,⟨(some 64),none,.i (.bin .add (.t 63) (.c (.int .i64 1)))⟩,⟨(some 5),none,.i (.mov (.t 64))⟩])))
def Bz4c:AC:=(.kp [0,4,5] [5000] (.dn (.seq (.block 3 (.seq (.reg true [⟨(some 65),none,.i (.mov (.t 0))⟩,⟨(some 66),none,.i (.nilck (.t 65))⟩,⟨(some 67),none,.i (.fad 3 (.t 66))⟩,⟨(some 68),none,.i (.ld (.t 67))⟩,⟨(some 69),none,.i (.mov (.t 4))⟩,⟨(some 70),none,.i (.iad 1 (.t 68) (.t 69))⟩,⟨(some 71),none,.i (.ld (.t 70))⟩,⟨(some 72),none,.i (.mov (.t 5))⟩,⟨(some 73),none,.i (.iad 1 (.t 71) (.t 72))⟩,⟨(some 74),none,.i (.ld (.t 73))⟩,⟨(some 75),none,.i (.mov (.t 0))⟩,⟨(some 76),none,.i (.nilck (.t 75))⟩,⟨(some 77),none,.i (.fad 1 (.t 76))⟩,⟨(some 78),none,.i (.ld (.t 77))⟩,⟨(some 79),none,.i (.bin .sub (.t 78) (.c (.int .i64 1)))⟩,⟨(some 80),none,.calh nz1 [(.t 74),(.c (.int .i64 0)),(.t 79)]⟩,⟨(some 81),none,.i (.un .not (.t 80))⟩]) Bz27)) Bz4b)))
def Bzk:AC:=(.kp [0,4,5] [5000] (.dn (.seq (.seq (.reg false [⟨(some 53),none,.i (.mov (.t 5))⟩,⟨(some 54),none,.i (.mov (.t 0))⟩,⟨(some 55),none,.i (.nilck (.t 54))⟩,⟨(some 56),none,.i (.fad 3 (.t 55))⟩,⟨(some 57),none,.i (.ld (.t 56))⟩,⟨(some 58),none,.i (.mov (.t 4))⟩,⟨(some 59),none,.i (.iad 1 (.t 57) (.t 58))⟩,⟨(some 60),none,.i (.ld (.t 59))⟩,⟨(some 61),none,.i (.len (.t 60))⟩,⟨(some 62),none,.i (.bin .lss (.t 53) (.t 61))⟩]) Bz26) Bz4c)))
def Bz4d:AC:=(.kp [0,4,5] [5000] (.dn (.block 2 (.loop Bzk))))
def Bz4e:AC:=(.kp [0,4] [5000] (.dn (.seq (.reg false [⟨(some 5),none,.i (.mov (.c (.int .i64 0)))⟩]) Bz4d)))
def Bz4f:AC:=(.kp [0,4] [5000] (.dn (.reg false [⟨(some 38),none,.i (.mov (.t 4))⟩,⟨(some 39),none,.i (.bin .add (.t 38) (.c (.int .i64 1)))⟩,⟨(some 4),none,.i (.mov (.t 39))⟩])))
def Bz4g:AC:=(.kp [0,4] [5000] (.dn (.seq (.block 1 (.seq (.seq (.reg true [⟨(some 40),none,.i (.mov (.t 0))⟩,⟨(some 41),none,.i (.nilck (.t 40))⟩,⟨(some 42),none,.i (.fad 3 (.t 41))⟩,⟨(some 43),none,.i (.ld (.t 42))⟩,⟨(some 44),none,.i (.mov (.t 4))⟩,⟨(some 45),none,.i (.iad 1 (.t 43) (.t 44))⟩,⟨(some 46),none,.i (.ld (.t 45))⟩,⟨(some 47),none,.i (.len (.t 46))⟩,⟨(some 48),none,.i (.mov (.t 0))⟩,⟨(some 49),none,.i (.nilck (.t 48))⟩,⟨(some 50),none,.i (.fad 0 (.t 49))⟩,⟨(some 51),none,.i (.ld (.t 50))⟩,⟨(some 52),none,.i (.bin .neq (.t 47) (.t 51))⟩]) Bz25) Bz4e)) Bz4f)))
def Bzl:AC:=(.kp [0,4] [5000] (.dn (.seq (.seq (.reg false [⟨(some 31),none,.i (.mov (.t 4))⟩,⟨(some 32),none,.i (.mov (.t 0))⟩,⟨(some 33),none,.i (.nilck (.t 32))⟩,⟨(some 34),none,.i (.fad 3 (.t 33))⟩,⟨(some 35),none,.i (.ld (.t 34))⟩,⟨(some 36),none,.i (.len (.t 35))⟩,⟨(some 37),none,.i (.bin .lss (.t 31) (.t 36))⟩]) Bz24) Bz4g)))
def Bz4h:AC:=(.kp [0,4] [5000] (.dn (.block 0 (.loop Bzl))))
def Bz4i:AC:=(.kp [] [5000] (.dn (.seq (.reg false [⟨(some 2),none,.i (.mov (.c (.bool true)))⟩]) (.dn .ret))))
def Bz4j:AC:=(.kp [0] [5000] (.dn (.seq (.seq (.reg false [⟨(some 4),none,.i (.mov (.c (.int .i64 0)))⟩]) Bz4h) Bz4i)))
def Bz4k:AC:=(.kp [0,3] [3,7,5000] (.dn (.seq (.seq (.reg true [⟨(some 8),none,.calh nz15 [(.t 3)]⟩,⟨(some 9),none,.i (.un .not (.t 8))⟩,⟨(some 10),none,.i (.mov (.t 9))⟩,⟨(some 11),(some (10,false)),.i (.mov (.t 0))⟩,⟨(some 12),(some (10,false)),.i (.nilck (.t 11))⟩,⟨(some 13),(some (10,false)),.i (.fad 1 (.t 12))⟩,⟨(some 14),(some (10,false)),.i (.ld (.t 13))⟩,⟨(some 15),(some (10,false)),.calh nz1 [(.t 14),(.c (.int .i64 1)),(.c (.int .i64 3))]⟩,⟨(some 16),(some (10,false)),.i (.un .not (.t 15))⟩,⟨(some 17),none,.i (.pick (.t 10) (.c (.bool true)) (.t 16))⟩,⟨(some 18),none,.i (.mov (.t 17))⟩,⟨(some 19),(some (18,false)),.i (.mov (.t 0))⟩,⟨(some 20),(some (18,false)),.i (.nilck (.t 19))⟩,⟨(some 21),(some (18,false)),.i (.fad 3 (.t 20))⟩,⟨(some 22),(some (18,false)),.i (.ld (.t 21))⟩,⟨(some 23),(some (18,false)),.i (.len (.t 22))⟩,⟨(some 24),(some (18,false)),.i (.mov (.t 0))⟩,⟨(some 25),(some (18,false)),.i (.nilck (.t 24))⟩,⟨(some 26),(some (18,false)),.i (.fad 2 (.t 25))⟩,⟨(some 27),(some (18,false)),.i (.ld (.t 26))⟩,⟨(some 28),(some (18,false)),.i (.len (.t 27))⟩,⟨(some 29),(some (18,false)),.i (.bin .neq (.t 23) (.t 28))⟩,⟨(some 30),none,.i (.pick (.t 18) (.c (.bool true)) (.t 29))⟩]) Bz5) Bz4j)))
def Bz4l:AC:=(.kp [0] [5000] (.dn (.seq (.reg false [⟨(some 6),none,.i (.mov (.t 0))⟩,⟨(some 7),none,.call nz19 [(.t 6)]⟩,⟨(some 3),none,.i (.new [.int .i64 0,.slice none 0 0])⟩,⟨none,none,.i (.sto 2 (.t 3) (.t 7))⟩]) Bz4k)))
def Az4m:AFn:=⟨82,1,(.seq (.reg false [⟨(some 2),none,.i (.mov (.c (.bool false)))⟩]) Bz4l),[.tmp 2]⟩
theorem cz7x:cFn (drV none) Tryd.prog nz11 Az4m:=⟨_,_,Tryd.func26,rfl,by kernel_rfl,by decide,rfl,by kernel_rfl,by kernel_rfl⟩
def Bz28:AC:=(.kp [0,3,4,34] [5000] (.dn (.cond (.t 34) .skip (.exit 0))))
def Bz29:AC:=(.kp [0,3,4,5,48] [5000] (.dn (.cond (.t 48) .skip (.exit 2))))
def Bz4n:AC:=(.kp [0,3,4,5] [5000] (.dn (.reg false [⟨(some 49),none,.i (.mov (.t 5))⟩,⟨(some 50),none,.i (.bin .add (.t 49) (.c (.int .i64 1)))⟩,⟨(some 5),none,.i (.mov (.t 50))⟩])))
def Bz4o:AC:=(.kp [0,3,4,5] [5000] (.dn (.seq (.block 3 (.reg true [⟨(some 51),none,.i (.mov (.t 3))⟩,⟨(some 52),none,.i (.mov (.t 0))⟩,⟨(some 53),none,.i (.nilck (.t 52))⟩,⟨(some 54),none,.i (.fad 2 (.t 53))⟩,⟨(some 55),none,.i (.ld (.t 54))⟩,⟨(some 56),none,.i (.mov (.t 4))⟩,⟨(some 57),none,.i (.iad 1 (.t 55) (.t 56))⟩,⟨(some 58),none,.i (.ld (.t 57))⟩,⟨(some 59),none,.i (.mov (.t 5))⟩,⟨(some 60),none,.i (.iad 1 (.t 58) (.t 59))⟩,⟨(some 61),none,.i (.ld (.t 60))⟩,⟨(some 62),none,.call nz0 [(.t 61)]⟩,⟨(some 63),none,.i (.bin .add (.c (.string (ByteArray.mk #[32]))) (.t 62))⟩,⟨(some 64),none,.i (.bin .add (.t 63) (.c (.string (ByteArray.mk #[47]))))⟩,⟨(some 65),none,.i (.mov (.t 0))⟩,⟨(some 66),none,.i (.nilck (.t 65))⟩,⟨(some 67),none,.i (.fad 3 (.t 66))⟩,⟨(some 68),none,.i (.ld (.t 67))⟩,⟨(some 69),none,.i (.mov (.t 4))⟩,⟨(some 70),none,.i (.iad 1 (.t 68) (.t 69))⟩,⟨(some 71),none,.i (.ld (.t 70))⟩,⟨(some 72),none,.i (.mov (.t 5))⟩,⟨(some 73),none,.i (.iad 1 (.t 71) (.t 72))⟩,⟨(some 74),none,.i (.ld (.t 73))⟩,⟨(some 75),none,.call nz0 [(.t 74)]⟩,⟨(some 76),none,.i (.bin .add (.t 64) (.t 75))⟩,⟨(some 77),none,.i (.bin .add (.t 51) (.t 76))⟩,⟨(some 3),none,.i (.mov (.t 77))⟩])) Bz4n)))
def Bzm:AC:=(.kp [0,3,4,5] [5000] (.dn (.seq (.seq (.reg false [⟨(some 39),none,.i (.mov (.t 5))⟩,⟨(some 40),none,.i (.mov (.t 0))⟩,⟨(some 41),none,.i (.nilck (.t 40))⟩,⟨(some 42),none,.i (.fad 2 (.t 41))⟩,⟨(some 43),none,.i (.ld (.t 42))⟩,⟨(some 44),none,.i (.mov (.t 4))⟩,⟨(some 45),none,.i (.iad 1 (.t 43) (.t 44))⟩,⟨(some 46),none,.i (.ld (.t 45))⟩,⟨(some 47),none,.i (.len (.t 46))⟩,⟨(some 48),none,.i (.bin .lss (.t 39) (.t 47))⟩]) Bz29) Bz4o)))
def Bz4p:AC:=(.kp [0,3,4,5] [5000] (.dn (.block 2 (.loop Bzm))))
def Bz4q:AC:=(.kp [0,3,4] [5000] (.dn (.reg false [⟨(some 78),none,.i (.mov (.t 3))⟩,⟨(some 79),none,.i (.bin .add (.t 78) (.c (.string (ByteArray.mk #[10]))))⟩,⟨(some 3),none,.i (.mov (.t 79))⟩])))
def Bz4r:AC:=(.kp [0,3,4] [5000] (.dn (.seq (.seq (.reg false [⟨(some 5),none,.i (.mov (.c (.int .i64 0)))⟩]) Bz4p) Bz4q)))
def Bz4s:AC:=(.kp [0,3,4] [5000] (.dn (.reg false [⟨(some 35),none,.i (.mov (.t 4))⟩,⟨(some 36),none,.i (.bin .add (.t 35) (.c (.int .i64 1)))⟩,⟨(some 4),none,.i (.mov (.t 36))⟩])))
def Bz4t:AC:=(.kp [0,3,4] [5000] (.dn (.seq (.block 1 (.seq (.reg false [⟨(some 37),none,.i (.mov (.t 3))⟩,⟨(some 38),none,.i (.bin .add (.t 37) (.c (.string (ByteArray.mk #[108,101,116,116,101,114]))))⟩,⟨(some 3),none,.i (.mov (.t 38))⟩]) Bz4r)) Bz4s)))
def Bzn:AC:=(.kp [0,3,4] [5000] (.dn (.seq (.seq (.reg false [⟨(some 28),none,.i (.mov (.t 4))⟩,⟨(some 29),none,.i (.mov (.t 0))⟩,⟨(some 30),none,.i (.nilck (.t 29))⟩,⟨(some 31),none,.i (.fad 2 (.t 30))⟩,⟨(some 32),none,.i (.ld (.t 31))⟩,⟨(some 33),none,.i (.len (.t 32))⟩,⟨(some 34),none,.i (.bin .lss (.t 28) (.t 33))⟩]) Bz28) Bz4t)))
def Bz4u:AC:=(.kp [0,3,4] [5000] (.dn (.block 0 (.loop Bzn))))
def Bz4v:AC:=(.kp [3] [5000] (.dn (.seq (.reg false [⟨(some 80),none,.i (.mov (.t 3))⟩,⟨(some 2),none,.i (.mov (.t 80))⟩]) (.dn .ret))))
def Bz4w:AC:=(.kp [0,3] [5000] (.dn (.seq (.seq (.reg false [⟨(some 4),none,.i (.mov (.c (.int .i64 0)))⟩]) Bz4u) Bz4v)))
def Bz4x:AC:=(.kp [0] [5000] (.dn (.seq (.reg true [⟨(some 6),none,.i (.mov (.t 0))⟩,⟨(some 7),none,.i (.nilck (.t 6))⟩,⟨(some 8),none,.i (.fad 0 (.t 7))⟩,⟨(some 9),none,.i (.ld (.t 8))⟩,⟨(some 10),none,.call nz0 [(.t 9)]⟩,⟨(some 11),none,.i (.bin .add (.c (.string (ByteArray.mk #[109,97,99,104,105,110,101,32]))) (.t 10))⟩,⟨(some 12),none,.i (.bin .add (.t 11) (.c (.string (ByteArray.mk #[32]))))⟩,⟨(some 13),none,.i (.mov (.t 0))⟩,⟨(some 14),none,.i (.nilck (.t 13))⟩,⟨(some 15),none,.i (.fad 1 (.t 14))⟩,⟨(some 16),none,.i (.ld (.t 15))⟩,⟨(some 17),none,.call nz0 [(.t 16)]⟩,⟨(some 18),none,.i (.bin .add (.t 12) (.t 17))⟩,⟨(some 19),none,.i (.bin .add (.t 18) (.c (.string (ByteArray.mk #[32]))))⟩,⟨(some 20),none,.i (.mov (.t 0))⟩,⟨(some 21),none,.i (.nilck (.t 20))⟩,⟨(some 22),none,.i (.fad 2 (.t 21))⟩,⟨(some 23),none,.i (.ld (.t 22))⟩,⟨(some 24),none,.i (.len (.t 23))⟩,⟨(some 25),none,.call nz0 [(.t 24)]⟩,⟨(some 26),none,.i (.bin .add (.t 19) (.t 25))⟩,⟨(some 27),none,.i (.bin .add (.t 26) (.c (.string (ByteArray.mk #[10]))))⟩,⟨(some 3),none,.i (.mov (.t 27))⟩]) Bz4w)))
def Az4y:AFn:=⟨81,1,(.seq (.reg false [⟨(some 2),none,.i (.mov (.c (.string (ByteArray.mk #[]))))⟩]) Bz4x),[.tmp 2]⟩
theorem cz7y:cFn (drV none) Tryd.prog nz12 Az4y:=⟨_,_,Tryd.func27,rfl,by kernel_rfl,by decide,rfl,by kernel_rfl,by kernel_rfl⟩
def Bz2a:AC:=(.kp [0,3,4,11] [7,20,5000] (.cond (.t 11) .skip (.exit 0)))
def Bz4z:AC:=(.kp [0,3,4] [7,20,5000] (.regi false [⟨(some 12),none,.i (.mov (.t 4))⟩,⟨(some 13),none,.i (.bin .add (.t 12) (.c (.int .i64 1)))⟩,⟨(some 4),none,.i (.mov (.t 13))⟩]))
def Bz2b:AC:=(.kp [0,3,4] [7,20,5000] (.seq (.block 1 (.regi false [⟨(some 14),none,.i (.mov (.t 3))⟩,⟨(some 15),none,.i (.mov (.t 4))⟩,⟨(some 16),none,.i (.mov (.t 0))⟩,⟨(some 17),none,.i (.mov (.t 4))⟩,⟨(some 18),none,.i (.iad 1 (.t 16) (.t 17))⟩,⟨(some 19),none,.i (.ld (.t 18))⟩,⟨(some 20),none,.call nz1a [(.t 19)]⟩,⟨(some 21),none,.i (.iad 1 (.t 14) (.t 15))⟩,⟨none,none,.i (.sto 1 (.t 21) (.t 20))⟩])) Bz4z))
def Bz50:AC:=(.kp [0,3,4] [7,20,5000] (.seq (.seq (.regi false [⟨(some 8),none,.i (.mov (.t 4))⟩,⟨(some 9),none,.i (.mov (.t 0))⟩,⟨(some 10),none,.i (.len (.t 9))⟩,⟨(some 11),none,.i (.bin .lss (.t 8) (.t 10))⟩]) Bz2a) Bz2b))
def Bz51:AC:=(.kp [0,3,4] [7,20,5000] (.block 0 (.loop Bz50)))
def Bz52:AC:=(.kp [3] [7,20,5000] (.seq (.regi false [⟨(some 22),none,.i (.mov (.t 3))⟩,⟨(some 2),none,.i (.mov (.t 22))⟩]) .ret))
def Bz53:AC:=(.kp [0,3] [7,20,5000] (.seq (.seq (.regi false [⟨(some 4),none,.i (.mov (.c (.int .i64 0)))⟩]) Bz51) Bz52))
def Bz54:AC:=(.kp [0] [5000] (.seq (.regi false [⟨(some 5),none,.i (.mov (.t 0))⟩,⟨(some 6),none,.i (.len (.t 5))⟩,⟨(some 7),none,.i (.mks 1 24 [.slice none 0 0] (.t 6) (.t 6))⟩,⟨(some 3),none,.i (.mov (.t 7))⟩]) Bz53))
def Az55:AFn:=⟨23,1,(.seq (.regi false [⟨(some 2),none,.i (.mov (.c (.slice none 0 0)))⟩]) Bz54),[.tmp 2]⟩
theorem cz7z:cFn (drV none) Tryd.prog nz7 Az55:=⟨_,_,Tryd.func28,rfl,by kernel_rfl,by decide,rfl,by kernel_rfl,by kernel_rfl⟩
def Bz56:AC:=(.kp [1] [1,5000] (.dn (.seq (.reg false [⟨(some 3),none,.i (.lda 4 (.t 1))⟩,⟨(some 4),none,.call nz1b [(.t 3)]⟩,⟨(some 5),none,.call nz16 [(.t 4)]⟩,⟨(some 6),none,.i (.mov (.t 5))⟩,⟨(some 7),(some (6,true)),.i (.fad 1 (.t 1))⟩,⟨(some 8),(some (6,true)),.i (.ld (.t 7))⟩,⟨(some 9),(some (6,true)),.call nz4 [(.t 8),(.c (.int .i64 1)),(.c (.int .i64 3))]⟩,⟨(some 10),none,.i (.pick (.t 6) (.t 9) (.c (.bool false)))⟩,⟨(some 11),none,.i (.mov (.t 10))⟩,⟨(some 12),(some (11,true)),.i (.fad 3 (.t 1))⟩,⟨(some 13),(some (11,true)),.i (.ld (.t 12))⟩,⟨(some 14),(some (11,true)),.i (.len (.t 13))⟩,⟨(some 15),(some (11,true)),.i (.fad 2 (.t 1))⟩,⟨(some 16),(some (11,true)),.i (.ld (.t 15))⟩,⟨(some 17),(some (11,true)),.i (.len (.t 16))⟩,⟨(some 18),(some (11,true)),.i (.bin .eql (.t 14) (.t 17))⟩,⟨(some 19),none,.i (.pick (.t 11) (.t 18) (.c (.bool false)))⟩,⟨(some 20),none,.i (.mov (.t 19))⟩,⟨(some 21),(some (20,true)),.i (.fad 3 (.t 1))⟩,⟨(some 22),(some (20,true)),.i (.ld (.t 21))⟩,⟨(some 23),(some (20,true)),.i (.mkf nzc [(.t 1)])⟩,⟨(some 24),(some (20,true)),.call nzb [(.t 22),(.t 23)]⟩,⟨(some 25),(some (20,true)),.i (.un .not (.t 24))⟩,⟨(some 26),none,.i (.pick (.t 20) (.t 25) (.c (.bool false)))⟩,⟨(some 2),none,.i (.mov (.t 26))⟩]) (.dn .ret))))
def Az57:AFn:=⟨27,1,(.seq (.reg false [⟨(some 1),none,.i (.box (.t 0))⟩,⟨(some 2),none,.i (.mov (.c (.bool false)))⟩]) Bz56),[.tmp 2]⟩
theorem cz80:cFn (drV none) Tryd.prog nz13 Az57:=⟨_,_,Tryd.func29,rfl,by kernel_rfl,by decide,rfl,by kernel_rfl,by kernel_rfl⟩
def Bz58:AC:=(.kp [0,6,7,8,9] [5000,5001] (.dn (.reg false [⟨(some 13),none,.i (.mov (.t 0))⟩,⟨(some 14),none,.i (.mov (.t 6))⟩,⟨(some 15),none,.call nz3 [(.t 14)]⟩,⟨(some 16),none,.i (.bin .add (.c (.string (ByteArray.mk #[32]))) (.t 15))⟩,⟨(some 17),none,.i (.bin .add (.t 13) (.t 16))⟩,⟨(some 0),none,.i (.mov (.t 17))⟩])))
def Bz59:AC:=(.kp [0,7,8,9] [5000,5001] (.dn (.reg false [⟨(some 18),none,.i (.bin .add (.t 9) (.c (.int .i64 1)))⟩,⟨(some 9),none,.i (.mov (.t 18))⟩])))
def Bz5a:AC:=(.kp [0,7,8,9] [5000,5001] (.dn (.seq (.block 1 (.seq (.reg false [⟨(some 11),none,.i (.iad 1 (.t 7) (.t 9))⟩,⟨(some 12),none,.i (.ld (.t 11))⟩,⟨(some 6),none,.i (.mov (.t 12))⟩]) Bz58)) Bz59)))
def Bz2c:AC:=(.kp [0,7,8,9,10] [5000,5001] (.dn (.seq (.cond (.t 10) .skip (.exit 0)) Bz5a)))
def Bzo:AC:=(.kp [0,7,8,9] [5000,5001] (.dn (.seq (.reg false [⟨(some 10),none,.i (.bin .lss (.t 9) (.t 8))⟩]) Bz2c)))
def Bz5b:AC:=(.kp [0,7,8,9] [5000,5001] (.dn (.block 0 (.loop Bzo))))
def Bz5c:AC:=(.kp [0] [5000,5001] (.dn (.seq (.reg false [⟨(some 19),none,.i (.mov (.t 0))⟩,⟨(some 20),none,.i (.bin .add (.t 19) (.c (.string (ByteArray.mk #[10]))))⟩,⟨(some 4),none,.i (.mov (.t 20))⟩]) (.dn .ret))))
def Bz5d:AC:=(.kp [0,1] [5000,5001] (.dn (.seq (.seq (.reg false [⟨(some 7),none,.i (.mov (.t 1))⟩,⟨(some 8),none,.i (.len (.t 7))⟩,⟨(some 9),none,.i (.mov (.c (.int .i64 0)))⟩]) Bz5b) Bz5c)))
def Az5e:AFn:=⟨21,2,(.seq (.reg false [⟨(some 4),none,.i (.mov (.c (.string (ByteArray.mk #[]))))⟩]) Bz5d),[.tmp 4]⟩
theorem cz81:cFn (drV none) Tryd.prog nz14 Az5e:=⟨_,_,Tryd.func30,rfl,by kernel_rfl,by decide,rfl,by kernel_rfl,by kernel_rfl⟩
def Bz5f:AC:=(.kp [0] [5000] (.dn (.seq (.reg false [⟨(some 3),none,.i (.mov (.t 0))⟩,⟨(some 4),none,.i (.len (.t 3))⟩,⟨(some 2),none,.i (.mov (.t 4))⟩]) (.dn .ret))))
def Az5g:AFn:=⟨5,1,(.seq (.reg false [⟨(some 2),none,.i (.mov (.c (.int .i64 0)))⟩]) Bz5f),[.tmp 2]⟩
theorem cz82:cFn (drV none) Tryd.prog nz8 Az5g:=⟨_,_,Tryd.func31,rfl,by kernel_rfl,by decide,rfl,by kernel_rfl,by kernel_rfl⟩
def Bz5h:AC:=(.kp [0] [5000] (.dn (.seq (.reg false [⟨(some 3),none,.i (.mov (.t 0))⟩,⟨(some 4),none,.call nz1c [(.t 3),(.c (.int .i64 10))]⟩,⟨(some 2),none,.i (.mov (.t 4))⟩]) (.dn .ret))))
def Az5i:AFn:=⟨5,1,(.seq (.reg false [⟨(some 2),none,.i (.mov (.c (.string (ByteArray.mk #[]))))⟩]) Bz5h),[.tmp 2]⟩
theorem cz83:cFn (drV none) Tryd.prog nz3 Az5i:=⟨_,_,Tryd.func32,rfl,by kernel_rfl,by decide,rfl,by kernel_rfl,by kernel_rfl⟩
def Bz2d:AC:=(.kp [0,1,10] [5000,5001] (.dn (.cond (.t 10) (.seq (.reg false [⟨(some 4),none,.i (.mov (.c (.bool false)))⟩]) (.dn .ret)) .skip)))
def Bz2e:AC:=(.kp [0,1,5,14] [5000,5001] (.dn (.cond (.t 14) .skip (.exit 0))))
def Bz5j:AC:=(.kp [0,1,5,26] [5000,5001] (.dn (.cond (.t 26) (.seq (.reg false [⟨(some 4),none,.i (.mov (.c (.bool false)))⟩]) (.dn .ret)) .skip)))
def Bz5k:AC:=(.kp [0,1,5] [5000,5001] (.dn (.reg false [⟨(some 15),none,.i (.mov (.t 5))⟩,⟨(some 16),none,.i (.bin .add (.t 15) (.c (.int .i64 1)))⟩,⟨(some 5),none,.i (.mov (.t 16))⟩])))
def Bz2f:AC:=(.kp [0,1,5] [5000,5001] (.dn (.seq (.block 1 (.seq (.reg true [⟨(some 17),none,.i (.mov (.t 0))⟩,⟨(some 18),none,.i (.mov (.t 5))⟩,⟨(some 19),none,.i (.iad 1 (.t 17) (.t 18))⟩,⟨(some 20),none,.i (.ld (.t 19))⟩,⟨(some 21),none,.i (.mov (.t 1))⟩,⟨(some 22),none,.i (.mov (.t 5))⟩,⟨(some 23),none,.i (.iad 1 (.t 21) (.t 22))⟩,⟨(some 24),none,.i (.ld (.t 23))⟩,⟨(some 25),none,.calh nz1d [(.t 20),(.t 24)]⟩,⟨(some 26),none,.i (.un .not (.t 25))⟩]) Bz5j)) Bz5k)))
def Bzp:AC:=(.kp [0,1,5] [5000,5001] (.dn (.seq (.seq (.reg false [⟨(some 11),none,.i (.mov (.t 5))⟩,⟨(some 12),none,.i (.mov (.t 0))⟩,⟨(some 13),none,.i (.len (.t 12))⟩,⟨(some 14),none,.i (.bin .lss (.t 11) (.t 13))⟩]) Bz2e) Bz2f)))
def Bz5l:AC:=(.kp [0,1,5] [5000,5001] (.dn (.block 0 (.loop Bzp))))
def Bz5m:AC:=(.kp [] [5000,5001] (.dn (.seq (.reg false [⟨(some 4),none,.i (.mov (.c (.bool true)))⟩]) (.dn .ret))))
def Bz5n:AC:=(.kp [0,1] [5000,5001] (.dn (.seq (.seq (.reg false [⟨(some 5),none,.i (.mov (.c (.int .i64 0)))⟩]) Bz5l) Bz5m)))
def Bz5o:AC:=(.kp [0,1] [5000,5001] (.dn (.seq (.seq (.reg false [⟨(some 6),none,.i (.mov (.t 0))⟩,⟨(some 7),none,.i (.len (.t 6))⟩,⟨(some 8),none,.i (.mov (.t 1))⟩,⟨(some 9),none,.i (.len (.t 8))⟩,⟨(some 10),none,.i (.bin .neq (.t 7) (.t 9))⟩]) Bz2d) Bz5n)))
def Az5p:AFn:=⟨27,2,(.seq (.reg false [⟨(some 4),none,.i (.mov (.c (.bool false)))⟩]) Bz5o),[.tmp 4]⟩
theorem cz84:cFn (drV none) Tryd.prog nz9 Az5p:=⟨_,_,Tryd.func33,rfl,by kernel_rfl,by decide,rfl,by kernel_rfl,by kernel_rfl⟩
def Bzq:AC:=(.kp [0,18] [5000] (.dn (.cond (.t 18) (.seq (.reg false [⟨(some 2),none,.i (.mov (.c (.bool false)))⟩]) (.dn .ret)) .skip)))
def Bz2g:AC:=(.kp [0,3,25] [5000] (.dn (.cond (.t 25) .skip (.exit 0))))
def Bz5q:AC:=(.kp [0,3,40] [5000] (.dn (.cond (.t 40) (.seq (.reg false [⟨(some 2),none,.i (.mov (.c (.bool false)))⟩]) (.dn .ret)) .skip)))
def Bz5r:AC:=(.kp [0,3] [5000] (.dn (.reg false [⟨(some 26),none,.i (.mov (.t 3))⟩,⟨(some 27),none,.i (.bin .add (.t 26) (.c (.int .i64 1)))⟩,⟨(some 3),none,.i (.mov (.t 27))⟩])))
def Bz2h:AC:=(.kp [0,3] [5000] (.dn (.seq (.block 1 (.seq (.reg true [⟨(some 28),none,.i (.mov (.t 0))⟩,⟨(some 29),none,.i (.nilck (.t 28))⟩,⟨(some 30),none,.i (.fad 1 (.t 29))⟩,⟨(some 31),none,.i (.ld (.t 30))⟩,⟨(some 32),none,.i (.mov (.t 3))⟩,⟨(some 33),none,.i (.iad 1 (.t 31) (.t 32))⟩,⟨(some 34),none,.i (.ld (.t 33))⟩,⟨(some 35),none,.i (.mov (.t 0))⟩,⟨(some 36),none,.i (.nilck (.t 35))⟩,⟨(some 37),none,.i (.fad 0 (.t 36))⟩,⟨(some 38),none,.i (.ld (.t 37))⟩,⟨(some 39),none,.calh nz1e [(.t 34),(.t 38)]⟩,⟨(some 40),none,.i (.un .not (.t 39))⟩]) Bz5q)) Bz5r)))
def Bzr:AC:=(.kp [0,3] [5000] (.dn (.seq (.seq (.reg false [⟨(some 19),none,.i (.mov (.t 3))⟩,⟨(some 20),none,.i (.mov (.t 0))⟩,⟨(some 21),none,.i (.nilck (.t 20))⟩,⟨(some 22),none,.i (.fad 1 (.t 21))⟩,⟨(some 23),none,.i (.ld (.t 22))⟩,⟨(some 24),none,.i (.len (.t 23))⟩,⟨(some 25),none,.i (.bin .lss (.t 19) (.t 24))⟩]) Bz2g) Bz2h)))
def Bz5s:AC:=(.kp [0,3] [5000] (.dn (.block 0 (.loop Bzr))))
def Bz5t:AC:=(.kp [] [5000] (.dn (.seq (.reg false [⟨(some 2),none,.i (.mov (.c (.bool true)))⟩]) (.dn .ret))))
def Bz5u:AC:=(.kp [0] [5000] (.dn (.seq (.seq (.reg false [⟨(some 3),none,.i (.mov (.c (.int .i64 0)))⟩]) Bz5s) Bz5t)))
def Bz5v:AC:=(.kp [0] [5000] (.dn (.seq (.seq (.reg false [⟨(some 4),none,.i (.mov (.t 0))⟩,⟨(some 5),none,.i (.nilck (.t 4))⟩,⟨(some 6),none,.i (.fad 0 (.t 5))⟩,⟨(some 7),none,.i (.ld (.t 6))⟩,⟨(some 8),none,.call nz1 [(.t 7),(.c (.int .i64 1)),(.c (.int .i64 10))]⟩,⟨(some 9),none,.i (.un .not (.t 8))⟩,⟨(some 10),none,.i (.mov (.t 9))⟩,⟨(some 11),(some (10,false)),.i (.mov (.t 0))⟩,⟨(some 12),(some (10,false)),.i (.nilck (.t 11))⟩,⟨(some 13),(some (10,false)),.i (.fad 1 (.t 12))⟩,⟨(some 14),(some (10,false)),.i (.ld (.t 13))⟩,⟨(some 15),(some (10,false)),.i (.len (.t 14))⟩,⟨(some 16),(some (10,false)),.call nz1 [(.t 15),(.c (.int .i64 1)),(.c (.int .i64 3))]⟩,⟨(some 17),(some (10,false)),.i (.un .not (.t 16))⟩,⟨(some 18),none,.i (.pick (.t 10) (.c (.bool true)) (.t 17))⟩]) Bzq) Bz5u)))
def Az5w:AFn:=⟨41,1,(.seq (.reg false [⟨(some 2),none,.i (.mov (.c (.bool false)))⟩]) Bz5v),[.tmp 2]⟩
theorem cz85:cFn (drV none) Tryd.prog nz15 Az5w:=⟨_,_,Tryd.func36,rfl,by kernel_rfl,by decide,rfl,by kernel_rfl,by kernel_rfl⟩
def Bz5x:AC:=(.kp [1] [1,5000] (.dn (.seq (.reg false [⟨(some 3),none,.i (.fad 0 (.t 1))⟩,⟨(some 4),none,.i (.ld (.t 3))⟩,⟨(some 5),none,.call nz4 [(.t 4),(.c (.int .i64 1)),(.c (.int .i64 10))]⟩,⟨(some 6),none,.i (.mov (.t 5))⟩,⟨(some 7),(some (6,true)),.i (.lda 2 (.t 1))⟩,⟨(some 8),(some (6,true)),.call nz17 [(.t 7)]⟩,⟨(some 9),(some (6,true)),.call nz4 [(.t 8),(.c (.int .i64 1)),(.c (.int .i64 3))]⟩,⟨(some 10),none,.i (.pick (.t 6) (.t 9) (.c (.bool false)))⟩,⟨(some 11),none,.i (.mov (.t 10))⟩,⟨(some 12),(some (11,true)),.i (.fad 1 (.t 1))⟩,⟨(some 13),(some (11,true)),.i (.ld (.t 12))⟩,⟨(some 14),(some (11,true)),.i (.mkf nze [(.t 1)])⟩,⟨(some 15),(some (11,true)),.call nzb [(.t 13),(.t 14)]⟩,⟨(some 16),(some (11,true)),.i (.un .not (.t 15))⟩,⟨(some 17),none,.i (.pick (.t 11) (.t 16) (.c (.bool false)))⟩,⟨(some 2),none,.i (.mov (.t 17))⟩]) (.dn .ret))))
def Az5y:AFn:=⟨18,1,(.seq (.reg false [⟨(some 1),none,.i (.box (.t 0))⟩,⟨(some 2),none,.i (.mov (.c (.bool false)))⟩]) Bz5x),[.tmp 2]⟩
theorem cz86:cFn (drV none) Tryd.prog nz16 Az5y:=⟨_,_,Tryd.func39,rfl,by kernel_rfl,by decide,rfl,by kernel_rfl,by kernel_rfl⟩
def Bz5z:AC:=(.kp [1] [1,5000] (.dn (.seq (.reg false [⟨(some 3),none,.i (.fad 1 (.t 1))⟩,⟨(some 4),none,.i (.ld (.t 3))⟩,⟨(some 5),none,.call nz8 [(.t 4)]⟩,⟨(some 2),none,.i (.mov (.t 5))⟩]) (.dn .ret))))
def Az60:AFn:=⟨6,1,(.seq (.reg false [⟨(some 1),none,.i (.box (.t 0))⟩,⟨(some 2),none,.i (.mov (.c (.int .i64 0)))⟩]) Bz5z),[.tmp 2]⟩
theorem cz87:cFn (drV none) Tryd.prog nz17 Az60:=⟨_,_,Tryd.func40,rfl,by kernel_rfl,by decide,rfl,by kernel_rfl,by kernel_rfl⟩
def Bz61:AC:=(.kp [0,4,5] [4,5,5000,5001,5002] (.dn (.seq (.reg false [⟨(some 7),none,.i (.mov (.t 0))⟩,⟨(some 8),none,.i (.mkf nzf [(.t 4),(.t 5)])⟩,⟨(some 9),none,.call nz1f [(.t 7),(.t 8)]⟩,⟨(some 10),none,.i (.un .not (.t 9))⟩,⟨(some 6),none,.i (.mov (.t 10))⟩]) (.dn .ret))))
def Az62:AFn:=⟨11,3,(.seq (.reg false [⟨(some 4),none,.i (.box (.t 1))⟩,⟨(some 5),none,.i (.box (.t 2))⟩,⟨(some 6),none,.i (.mov (.c (.bool false)))⟩]) Bz61),[.tmp 6]⟩
theorem cz88:cFn (drV none) Tryd.prog nza Az62:=⟨_,_,Tryd.func43,rfl,by kernel_rfl,by decide,rfl,by kernel_rfl,by kernel_rfl⟩
def Bz63:AC:=(.kp [1,10] [5000,5001] (.dn (.cond (.t 10) (.seq (.reg false [⟨(some 4),none,.i (.mov (.c (.int .i64 (-1))))⟩]) (.dn .ret)) .skip)))
def Bz64:AC:=(.kp [1] [5000,5001] (.dn (.seq (.reg false [⟨(some 11),none,.i (.mov (.t 1))⟩,⟨(some 4),none,.i (.mov (.t 11))⟩]) (.dn .ret))))
def Bz65:AC:=(.kp [1] [5000,5001] (.dn (.seq (.seq (.reg false [⟨(some 9),none,.i (.mov (.t 1))⟩,⟨(some 10),none,.i (.bin .lss (.t 9) (.c (.int .i64 0)))⟩]) Bz63) Bz64)))
def Bz66:AC:=(.kp [0,1] [5000,5001] (.dn (.seq (.reg false [⟨(some 5),none,.i (.mov (.t 1))⟩,⟨(some 6),none,.i (.mov (.t 0))⟩,⟨(some 7),none,.i (.len (.t 6))⟩,⟨(some 8),none,.i (.bin .sub (.t 5) (.t 7))⟩,⟨(some 1),none,.i (.mov (.t 8))⟩]) Bz65)))
def Az67:AFn:=⟨12,2,(.seq (.reg false [⟨(some 4),none,.i (.mov (.c (.int .i64 0)))⟩]) Bz66),[.tmp 4]⟩
theorem cz89:cFn (drV none) Tryd.prog nz18 Az67:=⟨_,_,Tryd.func54,rfl,by kernel_rfl,by decide,rfl,by kernel_rfl,by kernel_rfl⟩
def Bz68:AC:=(.kp [0,2] [2,5000] (.dn (.seq (.reg true [⟨(some 3),none,.i (.mov (.t 0))⟩,⟨(some 4),none,.i (.nilck (.t 3))⟩,⟨(some 5),none,.i (.fad 0 (.t 4))⟩,⟨(some 6),none,.i (.ld (.t 5))⟩,⟨(some 7),none,.i (.mov (.t 0))⟩,⟨(some 8),none,.i (.nilck (.t 7))⟩,⟨(some 9),none,.i (.fad 2 (.t 8))⟩,⟨(some 10),none,.i (.ld (.t 9))⟩,⟨(some 11),none,.i (.bst [.int .i64 0,.slice none 0 0] [(0,1,(.t 6)),(1,1,(.t 10))])⟩,⟨none,none,.i (.sto 2 (.t 2) (.t 11))⟩]) (.dn .ret))))
def Az69:AFn:=⟨12,1,(.seq (.reg false [⟨(some 2),none,.i (.new [.int .i64 0,.slice none 0 0])⟩]) Bz68),[.cell (some 2) 2]⟩
theorem cz8a:cFn (drV none) Tryd.prog nz19 Az69:=⟨_,_,Tryd.func55,rfl,by kernel_rfl,by decide,rfl,by kernel_rfl,by kernel_rfl⟩
def Bz6a:AC:=(.kp [0,1,2] [5000,5001,5002] (.dn (.seq (.reg false [⟨(some 7),none,.i (.mov (.t 0))⟩,⟨(some 8),none,.i (.mov (.t 1))⟩,⟨(some 9),none,.i (.bin .geq (.t 7) (.t 8))⟩,⟨(some 10),none,.i (.mov (.t 9))⟩,⟨(some 11),(some (10,true)),.i (.mov (.t 0))⟩,⟨(some 12),(some (10,true)),.i (.mov (.t 2))⟩,⟨(some 13),(some (10,true)),.i (.bin .leq (.t 11) (.t 12))⟩,⟨(some 14),none,.i (.pick (.t 10) (.t 13) (.c (.bool false)))⟩,⟨(some 6),none,.i (.mov (.t 14))⟩]) (.dn .ret))))
def Az6b:AFn:=⟨15,3,(.seq (.reg false [⟨(some 6),none,.i (.mov (.c (.bool false)))⟩]) Bz6a),[.tmp 6]⟩
theorem cz8b:cFn (drV none) Tryd.prog nz1 Az6b:=⟨_,_,Tryd.func56,rfl,by kernel_rfl,by decide,rfl,by kernel_rfl,by kernel_rfl⟩
def Bz2i:AC:=(.kp [0,4] [5000] (.dn (.cond (.t 4) (.seq (.reg true [⟨(some 5),none,.i (.mov (.t 0))⟩,⟨(some 6),none,.i (.bin .quo (.t 5) (.c (.int .i64 10)))⟩,⟨(some 7),none,.call nz0 [(.t 6)]⟩,⟨(some 8),none,.i (.mov (.t 0))⟩,⟨(some 9),none,.i (.bin .rem (.t 8) (.c (.int .i64 10)))⟩,⟨(some 10),none,.i (.bin .add (.c (.int .i64 48)) (.t 9))⟩,⟨(some 11),none,.i (.cvi .u8 (.t 10))⟩,⟨(some 12),none,.i (.bsl 1 false [(.t 11)])⟩,⟨(some 13),none,.i (.cvbs (.t 12))⟩,⟨(some 14),none,.i (.bin .add (.t 7) (.t 13))⟩,⟨(some 2),none,.i (.mov (.t 14))⟩]) (.dn .ret)) .skip)))
def Bz2j:AC:=(.kp [0] [5000] (.dn (.seq (.reg false [⟨(some 15),none,.i (.mov (.t 0))⟩,⟨(some 16),none,.i (.bin .add (.c (.int .i64 48)) (.t 15))⟩,⟨(some 17),none,.i (.cvi .u8 (.t 16))⟩,⟨(some 18),none,.i (.bsl 1 false [(.t 17)])⟩,⟨(some 19),none,.i (.cvbs (.t 18))⟩,⟨(some 2),none,.i (.mov (.t 19))⟩]) (.dn .ret))))
def Bz2k:AC:=(.kp [0] [5000] (.dn (.seq (.seq (.reg false [⟨(some 3),none,.i (.mov (.t 0))⟩,⟨(some 4),none,.i (.bin .geq (.t 3) (.c (.int .i64 10)))⟩]) Bz2i) Bz2j)))
def Az2l:AFn:=⟨20,1,(.seq (.reg false [⟨(some 2),none,.i (.mov (.c (.string (ByteArray.mk #[]))))⟩]) Bz2k),[.tmp 2]⟩
theorem cz6c:cFn (drV none) Tryd.prog nz0 Az2l:=⟨_,_,Tryd.func57,rfl,by kernel_rfl,by decide,rfl,by kernel_rfl,by kernel_rfl⟩
def Bz2m:AC:=(.kp [0,3,4,11] [7,5000] (.dn (.cond (.t 11) .skip (.exit 0))))
def Bz6d:AC:=(.kp [0,3,4] [7,5000] (.dn (.reg false [⟨(some 12),none,.i (.mov (.t 4))⟩,⟨(some 13),none,.i (.bin .add (.t 12) (.c (.int .i64 1)))⟩,⟨(some 4),none,.i (.mov (.t 13))⟩])))
def Bz2n:AC:=(.kp [0,3,4] [7,5000] (.dn (.seq (.block 1 (.reg false [⟨(some 14),none,.i (.mov (.t 3))⟩,⟨(some 15),none,.i (.mov (.t 4))⟩,⟨(some 16),none,.i (.mov (.t 0))⟩,⟨(some 17),none,.i (.mov (.t 4))⟩,⟨(some 18),none,.i (.iad 1 (.t 16) (.t 17))⟩,⟨(some 19),none,.i (.ld (.t 18))⟩,⟨(some 20),none,.i (.iad 1 (.t 14) (.t 15))⟩,⟨none,none,.i (.sto 1 (.t 20) (.t 19))⟩])) Bz6d)))
def Bzs:AC:=(.kp [0,3,4] [7,5000] (.dn (.seq (.seq (.reg false [⟨(some 8),none,.i (.mov (.t 4))⟩,⟨(some 9),none,.i (.mov (.t 0))⟩,⟨(some 10),none,.i (.len (.t 9))⟩,⟨(some 11),none,.i (.bin .lss (.t 8) (.t 10))⟩]) Bz2m) Bz2n)))
def Bz6e:AC:=(.kp [0,3,4] [7,5000] (.dn (.block 0 (.loop Bzs))))
def Bz6f:AC:=(.kp [3] [7,5000] (.dn (.seq (.reg false [⟨(some 21),none,.i (.mov (.t 3))⟩,⟨(some 2),none,.i (.mov (.t 21))⟩]) (.dn .ret))))
def Bz6g:AC:=(.kp [0,3] [7,5000] (.dn (.seq (.seq (.reg false [⟨(some 4),none,.i (.mov (.c (.int .i64 0)))⟩]) Bz6e) Bz6f)))
def Bz6h:AC:=(.kp [0] [5000] (.dn (.seq (.reg false [⟨(some 5),none,.i (.mov (.t 0))⟩,⟨(some 6),none,.i (.len (.t 5))⟩,⟨(some 7),none,.i (.mks 1 8 [.int .i64 0] (.t 6) (.t 6))⟩,⟨(some 3),none,.i (.mov (.t 7))⟩]) Bz6g)))
def Az6i:AFn:=⟨22,1,(.seq (.reg false [⟨(some 2),none,.i (.mov (.c (.slice none 0 0)))⟩]) Bz6h),[.tmp 2]⟩
theorem cz8c:cFn (drV none) Tryd.prog nz1a Az6i:=⟨_,_,Tryd.func58,rfl,by kernel_rfl,by decide,rfl,by kernel_rfl,by kernel_rfl⟩
def Bz6j:AC:=(.kp [1,2] [1,2,5000] (.dn (.seq (.reg false [⟨(some 3),none,.i (.fad 0 (.t 1))⟩,⟨(some 4),none,.i (.ld (.t 3))⟩,⟨(some 5),none,.i (.fad 2 (.t 1))⟩,⟨(some 6),none,.i (.ld (.t 5))⟩,⟨(some 7),none,.i (.bst [.int .i64 0,.slice none 0 0] [(0,1,(.t 4)),(1,1,(.t 6))])⟩,⟨none,none,.i (.sto 2 (.t 2) (.t 7))⟩]) (.dn .ret))))
def Az6k:AFn:=⟨8,1,(.seq (.reg false [⟨(some 1),none,.i (.box (.t 0))⟩,⟨(some 2),none,.i (.new [.int .i64 0,.slice none 0 0])⟩]) Bz6j),[.cell (some 2) 2]⟩
theorem cz8d:cFn (drV none) Tryd.prog nz1b Az6k:=⟨_,_,Tryd.func59,rfl,by kernel_rfl,by decide,rfl,by kernel_rfl,by kernel_rfl⟩
def Bz6l:AC:=(.kp [0,1,2] [5000,5001,5002] (.dn (.seq (.reg false [⟨(some 7),none,.i (.mov (.t 0))⟩,⟨(some 8),none,.i (.mov (.t 1))⟩,⟨(some 9),none,.i (.bin .geq (.t 7) (.t 8))⟩,⟨(some 10),none,.i (.mov (.t 9))⟩,⟨(some 11),(some (10,true)),.i (.mov (.t 0))⟩,⟨(some 12),(some (10,true)),.i (.mov (.t 2))⟩,⟨(some 13),(some (10,true)),.i (.bin .leq (.t 11) (.t 12))⟩,⟨(some 14),none,.i (.pick (.t 10) (.t 13) (.c (.bool false)))⟩,⟨(some 6),none,.i (.mov (.t 14))⟩]) (.dn .ret))))
def Az6m:AFn:=⟨15,3,(.seq (.reg false [⟨(some 6),none,.i (.mov (.c (.bool false)))⟩]) Bz6l),[.tmp 6]⟩
theorem cz8e:cFn (drV none) Tryd.prog nz4 Az6m:=⟨_,_,Tryd.func60,rfl,by kernel_rfl,by decide,rfl,by kernel_rfl,by kernel_rfl⟩
def Bz6n:AC:=(.kp [0,1] [5000,5001] (.dn (.seq (.reg false [⟨(some 5),none,.i (.mov (.t 0))⟩,⟨(some 6),none,.i (.mov (.t 1))⟩,⟨(some 7),none,.call nz1g [(.t 5),(.t 6)]⟩,⟨(some 8),none,.i (.bin .geq (.t 7) (.c (.int .i64 0)))⟩,⟨(some 4),none,.i (.mov (.t 8))⟩]) (.dn .ret))))
def Az6o:AFn:=⟨9,2,(.seq (.reg false [⟨(some 4),none,.i (.mov (.c (.bool false)))⟩]) Bz6n),[.tmp 4]⟩
theorem cz8f:cFn (drV none) Tryd.prog nzb Az6o:=⟨_,_,Tryd.func61,rfl,by kernel_rfl,by decide,rfl,by kernel_rfl,by kernel_rfl⟩
def Bz6p:AC:=(.kp [0,1] [5000,5001] (.dn (.seq (.reg true [⟨(some 4),none,.i (.mov (.t 0))⟩,⟨(some 5),none,.call nzd [(.t 4)]⟩,⟨(some 6),none,.i (.fad 0 (.t 1))⟩,⟨(some 7),none,.i (.ld (.t 6))⟩,⟨(some 8),none,.i (.bin .neq (.t 5) (.t 7))⟩,⟨(some 9),none,.i (.mov (.t 8))⟩,⟨(some 10),(some (9,false)),.i (.mov (.t 0))⟩,⟨(some 11),(some (9,false)),.i (.fad 1 (.t 1))⟩,⟨(some 12),(some (9,false)),.i (.ld (.t 11))⟩,⟨(some 13),(some (9,false)),.i (.bin .sub (.t 12) (.c (.int .i64 1)))⟩,⟨(some 14),(some (9,false)),.calh nza [(.t 10),(.c (.int .i64 0)),(.t 13)]⟩,⟨(some 15),(some (9,false)),.i (.un .not (.t 14))⟩,⟨(some 16),none,.i (.pick (.t 9) (.c (.bool true)) (.t 15))⟩,⟨(some 3),none,.i (.mov (.t 16))⟩]) (.dn .ret))))
def Az6q:AFn:=⟨17,2,(.seq (.reg false [⟨(some 3),none,.i (.mov (.c (.bool false)))⟩]) Bz6p),[.tmp 3]⟩
theorem cz8g:cFn (drV none) Tryd.prog nzc Az6q:=⟨_,_,Tryd.func62,rfl,by kernel_rfl,by decide,rfl,by kernel_rfl,by kernel_rfl⟩
def Bz6r:AC:=(.kp [0] [5000] (.dn (.seq (.reg false [⟨(some 3),none,.i (.mov (.t 0))⟩,⟨(some 4),none,.i (.len (.t 3))⟩,⟨(some 2),none,.i (.mov (.t 4))⟩]) (.dn .ret))))
def Az6s:AFn:=⟨5,1,(.seq (.reg false [⟨(some 2),none,.i (.mov (.c (.int .i64 0)))⟩]) Bz6r),[.tmp 2]⟩
theorem cz8h:cFn (drV none) Tryd.prog nzd Az6s:=⟨_,_,Tryd.func63,rfl,by kernel_rfl,by decide,rfl,by kernel_rfl,by kernel_rfl⟩
theorem x_strconv_FormatInt:∃ fn,Tryd.prog.funcs[nz1c]?=some fn∧fn.body.isSome=true∧isNumG fn=false:=⟨_,Tryd.func64,by kernel_rfl,by decide⟩
def Bz2o:AC:=(.kp [0,1,10] [5000,5001] (.dn (.cond (.t 10) (.seq (.reg false [⟨(some 4),none,.i (.mov (.c (.bool false)))⟩]) (.dn .ret)) .skip)))
def Bz2p:AC:=(.kp [0,1,5,14] [5000,5001] (.dn (.cond (.t 14) .skip (.exit 0))))
def Bz6t:AC:=(.kp [0,1,5,25] [5000,5001] (.dn (.cond (.t 25) (.seq (.reg false [⟨(some 4),none,.i (.mov (.c (.bool false)))⟩]) (.dn .ret)) .skip)))
def Bz6u:AC:=(.kp [0,1,5] [5000,5001] (.dn (.reg false [⟨(some 15),none,.i (.mov (.t 5))⟩,⟨(some 16),none,.i (.bin .add (.t 15) (.c (.int .i64 1)))⟩,⟨(some 5),none,.i (.mov (.t 16))⟩])))
def Bz2q:AC:=(.kp [0,1,5] [5000,5001] (.dn (.seq (.block 1 (.seq (.reg true [⟨(some 17),none,.i (.mov (.t 0))⟩,⟨(some 18),none,.i (.mov (.t 5))⟩,⟨(some 19),none,.i (.iad 1 (.t 17) (.t 18))⟩,⟨(some 20),none,.i (.ld (.t 19))⟩,⟨(some 21),none,.i (.mov (.t 1))⟩,⟨(some 22),none,.i (.mov (.t 5))⟩,⟨(some 23),none,.i (.iad 1 (.t 21) (.t 22))⟩,⟨(some 24),none,.i (.ld (.t 23))⟩,⟨(some 25),none,.i (.bin .neq (.t 20) (.t 24))⟩]) Bz6t)) Bz6u)))
def Bzt:AC:=(.kp [0,1,5] [5000,5001] (.dn (.seq (.seq (.reg false [⟨(some 11),none,.i (.mov (.t 5))⟩,⟨(some 12),none,.i (.mov (.t 0))⟩,⟨(some 13),none,.i (.len (.t 12))⟩,⟨(some 14),none,.i (.bin .lss (.t 11) (.t 13))⟩]) Bz2p) Bz2q)))
def Bz6v:AC:=(.kp [0,1,5] [5000,5001] (.dn (.block 0 (.loop Bzt))))
def Bz6w:AC:=(.kp [] [5000,5001] (.dn (.seq (.reg false [⟨(some 4),none,.i (.mov (.c (.bool true)))⟩]) (.dn .ret))))
def Bz6x:AC:=(.kp [0,1] [5000,5001] (.dn (.seq (.seq (.reg false [⟨(some 5),none,.i (.mov (.c (.int .i64 0)))⟩]) Bz6v) Bz6w)))
def Bz6y:AC:=(.kp [0,1] [5000,5001] (.dn (.seq (.seq (.reg false [⟨(some 6),none,.i (.mov (.t 0))⟩,⟨(some 7),none,.i (.len (.t 6))⟩,⟨(some 8),none,.i (.mov (.t 1))⟩,⟨(some 9),none,.i (.len (.t 8))⟩,⟨(some 10),none,.i (.bin .neq (.t 7) (.t 9))⟩]) Bz2o) Bz6x)))
def Az6z:AFn:=⟨26,2,(.seq (.reg false [⟨(some 4),none,.i (.mov (.c (.bool false)))⟩]) Bz6y),[.tmp 4]⟩
theorem cz8i:cFn (drV none) Tryd.prog nz1d Az6z:=⟨_,_,Tryd.func65,rfl,by kernel_rfl,by decide,rfl,by kernel_rfl,by kernel_rfl⟩
def Bz2r:AC:=(.kp [0,1,5,9] [5000,5001] (.dn (.cond (.t 9) .skip (.exit 0))))
def Bz70:AC:=(.kp [0,1,5,19] [5000,5001] (.dn (.cond (.t 19) (.seq (.reg false [⟨(some 4),none,.i (.mov (.c (.bool false)))⟩]) (.dn .ret)) .skip)))
def Bz71:AC:=(.kp [0,1,5] [5000,5001] (.dn (.reg false [⟨(some 10),none,.i (.mov (.t 5))⟩,⟨(some 11),none,.i (.bin .add (.t 10) (.c (.int .i64 1)))⟩,⟨(some 5),none,.i (.mov (.t 11))⟩])))
def Bz2s:AC:=(.kp [0,1,5] [5000,5001] (.dn (.seq (.block 1 (.seq (.reg false [⟨(some 12),none,.i (.mov (.t 0))⟩,⟨(some 13),none,.i (.mov (.t 5))⟩,⟨(some 14),none,.i (.iad 1 (.t 12) (.t 13))⟩,⟨(some 15),none,.i (.ld (.t 14))⟩,⟨(some 16),none,.i (.mov (.t 1))⟩,⟨(some 17),none,.i (.bin .sub (.t 16) (.c (.int .i64 1)))⟩,⟨(some 18),none,.call nz1 [(.t 15),(.c (.int .i64 0)),(.t 17)]⟩,⟨(some 19),none,.i (.un .not (.t 18))⟩]) Bz70)) Bz71)))
def Bzu:AC:=(.kp [0,1,5] [5000,5001] (.dn (.seq (.seq (.reg false [⟨(some 6),none,.i (.mov (.t 5))⟩,⟨(some 7),none,.i (.mov (.t 0))⟩,⟨(some 8),none,.i (.len (.t 7))⟩,⟨(some 9),none,.i (.bin .lss (.t 6) (.t 8))⟩]) Bz2r) Bz2s)))
def Bz72:AC:=(.kp [0,1,5] [5000,5001] (.dn (.block 0 (.loop Bzu))))
def Bz73:AC:=(.kp [0,1] [5000,5001] (.dn (.seq (.reg false [⟨(some 20),none,.i (.mov (.t 0))⟩,⟨(some 21),none,.i (.len (.t 20))⟩,⟨(some 22),none,.i (.mov (.t 1))⟩,⟨(some 23),none,.i (.bin .eql (.t 21) (.t 22))⟩,⟨(some 4),none,.i (.mov (.t 23))⟩]) (.dn .ret))))
def Bz74:AC:=(.kp [0,1] [5000,5001] (.dn (.seq (.seq (.reg false [⟨(some 5),none,.i (.mov (.c (.int .i64 0)))⟩]) Bz72) Bz73)))
def Az75:AFn:=⟨24,2,(.seq (.reg false [⟨(some 4),none,.i (.mov (.c (.bool false)))⟩]) Bz74),[.tmp 4]⟩
theorem cz8j:cFn (drV none) Tryd.prog nz1e Az75:=⟨_,_,Tryd.func68,rfl,by kernel_rfl,by decide,rfl,by kernel_rfl,by kernel_rfl⟩
def Bz76:AC:=(.kp [0,1] [5000,5001] (.dn (.seq (.reg true [⟨(some 4),none,.i (.mov (.t 0))⟩,⟨(some 5),none,.call nzd [(.t 4)]⟩,⟨(some 6),none,.i (.fad 0 (.t 1))⟩,⟨(some 7),none,.i (.ld (.t 6))⟩,⟨(some 8),none,.i (.bin .neq (.t 5) (.t 7))⟩,⟨(some 9),none,.i (.mov (.t 8))⟩,⟨(some 10),(some (9,false)),.i (.mov (.t 0))⟩,⟨(some 11),(some (9,false)),.i (.fad 0 (.t 1))⟩,⟨(some 12),(some (9,false)),.i (.ld (.t 11))⟩,⟨(some 13),(some (9,false)),.i (.bin .sub (.t 12) (.c (.int .i64 1)))⟩,⟨(some 14),(some (9,false)),.calh nza [(.t 10),(.c (.int .i64 0)),(.t 13)]⟩,⟨(some 15),(some (9,false)),.i (.un .not (.t 14))⟩,⟨(some 16),none,.i (.pick (.t 9) (.c (.bool true)) (.t 15))⟩,⟨(some 3),none,.i (.mov (.t 16))⟩]) (.dn .ret))))
def Az77:AFn:=⟨17,2,(.seq (.reg false [⟨(some 3),none,.i (.mov (.c (.bool false)))⟩]) Bz76),[.tmp 3]⟩
theorem cz8k:cFn (drV none) Tryd.prog nze Az77:=⟨_,_,Tryd.func70,rfl,by kernel_rfl,by decide,rfl,by kernel_rfl,by kernel_rfl⟩
def Bz78:AC:=(.kp [0,1] [5000,5001] (.dn (.seq (.reg false [⟨(some 5),none,.i (.mov (.t 0))⟩,⟨(some 6),none,.i (.mov (.t 1))⟩,⟨(some 7),none,.call nz1h [(.t 5),(.t 6)]⟩,⟨(some 8),none,.i (.bin .geq (.t 7) (.c (.int .i64 0)))⟩,⟨(some 4),none,.i (.mov (.t 8))⟩]) (.dn .ret))))
def Az79:AFn:=⟨9,2,(.seq (.reg false [⟨(some 4),none,.i (.mov (.c (.bool false)))⟩]) Bz78),[.tmp 4]⟩
theorem cz8l:cFn (drV none) Tryd.prog nz1f Az79:=⟨_,_,Tryd.func72,rfl,by kernel_rfl,by decide,rfl,by kernel_rfl,by kernel_rfl⟩
def Bz7a:AC:=(.kp [0,1,2] [5000,5001,5002] (.dn (.seq (.reg false [⟨(some 5),none,.i (.mov (.t 0))⟩,⟨(some 6),none,.i (.ld (.t 1))⟩,⟨(some 7),none,.i (.ld (.t 2))⟩,⟨(some 8),none,.call nz4 [(.t 5),(.t 6),(.t 7)]⟩,⟨(some 9),none,.i (.un .not (.t 8))⟩,⟨(some 4),none,.i (.mov (.t 9))⟩]) (.dn .ret))))
def Az7b:AFn:=⟨10,3,(.seq (.reg false [⟨(some 4),none,.i (.mov (.c (.bool false)))⟩]) Bz7a),[.tmp 4]⟩
theorem cz8m:cFn (drV none) Tryd.prog nzf Az7b:=⟨_,_,Tryd.func73,rfl,by kernel_rfl,by decide,rfl,by kernel_rfl,by kernel_rfl⟩
def Bz7c:AC:=(.kp [0,1,5,7,8,16] [16,1016,5000,5001] (.dn (.cond (.t 16) (.seq (.reg false [⟨(some 17),none,.i (.mov (.t 5))⟩,⟨(some 4),none,.i (.mov (.t 17))⟩]) (.dn .ret)) .skip)))
def Bz7d:AC:=(.kp [0,1,5,7,8] [5000,5001] (.dn (.seq (.reg false [⟨(some 11),none,.i (.mov (.t 1))⟩,⟨(some 12),none,.i (.mov (.t 0))⟩,⟨(some 13),none,.i (.mov (.t 5))⟩,⟨(some 14),none,.i (.iad 1 (.t 12) (.t 13))⟩,⟨(some 15),none,.i (.ld (.t 14))⟩,⟨(some 16),none,.calv (.t 11) [(.t 15)]⟩]) Bz7c)))
def Bz7e:AC:=(.kp [0,1,7,8] [5000,5001] (.dn (.reg false [⟨(some 18),none,.i (.bin .add (.t 8) (.c (.int .i64 1)))⟩,⟨(some 8),none,.i (.mov (.t 18))⟩])))
def Bz2t:AC:=(.kp [0,1,7,8] [5000,5001] (.dn (.seq (.block 1 (.seq (.reg false [⟨(some 10),none,.i (.mov (.t 8))⟩,⟨(some 5),none,.i (.mov (.t 10))⟩]) Bz7d)) Bz7e)))
def Bz2u:AC:=(.kp [0,1,7,8,9] [5000,5001] (.dn (.seq (.cond (.t 9) .skip (.exit 0)) Bz2t)))
def Bzv:AC:=(.kp [0,1,7,8] [5000,5001] (.dn (.seq (.reg false [⟨(some 9),none,.i (.bin .lss (.t 8) (.t 7))⟩]) Bz2u)))
def Bz7f:AC:=(.kp [0,1,7,8] [5000,5001] (.dn (.block 0 (.loop Bzv))))
def Bz7g:AC:=(.kp [] [5000,5001] (.dn (.seq (.reg false [⟨(some 4),none,.i (.mov (.c (.int .i64 (-1))))⟩]) (.dn .ret))))
def Bz7h:AC:=(.kp [0,1] [5000,5001] (.dn (.seq (.seq (.reg false [⟨(some 6),none,.i (.mov (.t 0))⟩,⟨(some 7),none,.i (.len (.t 6))⟩,⟨(some 8),none,.i (.mov (.c (.int .i64 0)))⟩]) Bz7f) Bz7g)))
def Az7i:AFn:=⟨19,2,(.seq (.reg false [⟨(some 4),none,.i (.mov (.c (.int .i64 0)))⟩]) Bz7h),[.tmp 4]⟩
theorem cz8n:cFn (drV none) Tryd.prog nz1g Az7i:=⟨_,_,Tryd.func81,rfl,by kernel_rfl,by decide,rfl,by kernel_rfl,by kernel_rfl⟩
def Bz7j:AC:=(.kp [0,1,5,7,8,16] [16,1016,5000,5001] (.dn (.cond (.t 16) (.seq (.reg false [⟨(some 17),none,.i (.mov (.t 5))⟩,⟨(some 4),none,.i (.mov (.t 17))⟩]) (.dn .ret)) .skip)))
def Bz7k:AC:=(.kp [0,1,5,7,8] [5000,5001] (.dn (.seq (.reg false [⟨(some 11),none,.i (.mov (.t 1))⟩,⟨(some 12),none,.i (.mov (.t 0))⟩,⟨(some 13),none,.i (.mov (.t 5))⟩,⟨(some 14),none,.i (.iad 1 (.t 12) (.t 13))⟩,⟨(some 15),none,.i (.ld (.t 14))⟩,⟨(some 16),none,.calv (.t 11) [(.t 15)]⟩]) Bz7j)))
def Bz7l:AC:=(.kp [0,1,7,8] [5000,5001] (.dn (.reg false [⟨(some 18),none,.i (.bin .add (.t 8) (.c (.int .i64 1)))⟩,⟨(some 8),none,.i (.mov (.t 18))⟩])))
def Bz2v:AC:=(.kp [0,1,7,8] [5000,5001] (.dn (.seq (.block 1 (.seq (.reg false [⟨(some 10),none,.i (.mov (.t 8))⟩,⟨(some 5),none,.i (.mov (.t 10))⟩]) Bz7k)) Bz7l)))
def Bz2w:AC:=(.kp [0,1,7,8,9] [5000,5001] (.dn (.seq (.cond (.t 9) .skip (.exit 0)) Bz2v)))
def Bzw:AC:=(.kp [0,1,7,8] [5000,5001] (.dn (.seq (.reg false [⟨(some 9),none,.i (.bin .lss (.t 8) (.t 7))⟩]) Bz2w)))
def Bz7m:AC:=(.kp [0,1,7,8] [5000,5001] (.dn (.block 0 (.loop Bzw))))
def Bz7n:AC:=(.kp [] [5000,5001] (.dn (.seq (.reg false [⟨(some 4),none,.i (.mov (.c (.int .i64 (-1))))⟩]) (.dn .ret))))
def Bz7o:AC:=(.kp [0,1] [5000,5001] (.dn (.seq (.seq (.reg false [⟨(some 6),none,.i (.mov (.t 0))⟩,⟨(some 7),none,.i (.len (.t 6))⟩,⟨(some 8),none,.i (.mov (.c (.int .i64 0)))⟩]) Bz7m) Bz7n)))
def Az7p:AFn:=⟨19,2,(.seq (.reg false [⟨(some 4),none,.i (.mov (.c (.int .i64 0)))⟩]) Bz7o),[.tmp 4]⟩
theorem cz8o:cFn (drV none) Tryd.prog nz1h Az7p:=⟨_,_,Tryd.func89,rfl,by kernel_rfl,by decide,rfl,by kernel_rfl,by kernel_rfl⟩
end Go.Ab
namespace Go.Ab
def wpD (P:Program):AC→(AEx→St→Prop)→St→Prop
  | .skip,Q,σ=>Q .normal σ
  | .reg draw ops,Q,σ=>∀ vs,Ab.wpOps (!draw) (wpCk P draw) vs 0 ops σ (Q .normal)
  | .kp ts hs a,Q,σ=>wpD P a Q (σ.keep ts hs)
  | .regi draw ops,Q,σ=>∀ vs U,New vs U σ→Ab.wpOps (!draw) (wpCk P draw) vs 0 ops σ (Q .normal)
  | .gh a,Q,σ=>σ.Dist→∃ gs,gwp gs (fun σ'=>wpD P a Q σ') σ
  | .mv x y a,Q,σ=>∀ m,wpD P a Q (σ.mv x y m)
  | .dn a,Q,σ=>wpD P a Q σ.dn
  | .ad b off r k a,Q,σ=>∀ ver,wpD P a Q (σ.adopt b off r k ver)
  | .seq a b,Q,σ=>wpD P a (fun e σ'=>match e with | .normal=>wpD P b Q σ' | e=>Q e σ') σ
  | .cond c a b,Q,σ=>match σ.ev c with
    | .val (.bool t)=>(t=true→wpD P a Q σ)∧(t=false→wpD P b Q σ)
    | _=>False
  | .block id a,Q,σ=>wpD P a (fun e σ'=>match e with | .exit i=>if i=id then Q .normal σ' else Q (.exit i) σ' | e=>Q e σ') σ
  | .loop a,Q,σ=>∃ I:Nat→St→Prop,(∃ n,I n σ)∧∀ n σ',I n σ'→wpD P a (fun e σ''=>match e with | .normal=>∃ k,k<n∧I k σ'' | e=>Q e σ'') σ'
  | .exit id,Q,σ=>Q (.exit id) σ
  | .ret,Q,σ=>Q .ret σ
  | .stuck,_,_=>False
theorem wpOps_mono {P:Program} {fa pu:Bool} {vs:Nat→Nat→Nat} {K K':St→Prop} (h:∀ σ,K σ→K' σ):∀ (ops:List AOp) (i:Nat) (σ:St),Ab.wpOps fa (wpCk P pu) vs i ops σ K→Ab.wpOps fa (wpCk P pu) vs i ops σ K'
  | [],_,_,hh=>h _ hh
  | _ :: ops,i,_,hh=>wpOp_monoX (fun σ'=>wpOps_mono h ops (i+1) σ') hh
theorem wpC_of_wpD {P:Program}:∀ (a:AC) (Q Q':AEx→St→Prop) (σ:St),(∀ e σ,Q e σ→Q' e σ)→wpD P a Q σ→wpC P a Q' σ
  | .skip,_,_,_,hq,h=>hq _ _ h
  | .reg draw ops,_,_,_,hq,h=>fun vs _ _=>wpOps_mono (hq _) ops 0 _ (h vs)
  | .kp ts hs a,Q,Q',σ,hq,h=>wpC_of_wpD a Q Q' _ hq h
  | .regi draw ops,_,_,_,hq,h=>fun vs U hN=>wpOps_mono (hq _) ops 0 _ (h vs U hN)
  | .gh a,Q,Q',σ,hq,h=>fun hd=>by
    obtain ⟨gs,hg⟩:=h hd
    exact ⟨gs,gwp_mono (fun σ' h'=>wpC_of_wpD a Q Q' σ' hq h') gs σ hg⟩
  | .mv x y a,Q,Q',σ,hq,h=>fun m=>wpC_of_wpD a Q Q' _ hq (h m)
  | .dn a,Q,Q',σ,hq,h=>wpC_of_wpD a Q Q' _ hq h
  | .ad b off r k a,Q,Q',σ,hq,h=>fun ver=>wpC_of_wpD a Q Q' _ hq (h ver)
  | .seq a b,Q,Q',σ,hq,h=>by
    refine wpC_of_wpD a _ _ σ (fun e σ' he=>?_) h
    cases e with
    | normal=>exact wpC_of_wpD b Q Q' σ' hq he
    | _=>exact hq _ _ he
  | .cond c a b,Q,Q',σ,hq,h=>by
    simp only [wpD,wpC] at h ⊢
    split at h
    · rename_i t ht
      simp only [ht]
      exact ⟨fun e=>wpC_of_wpD a Q Q' σ hq (h.1 e),fun e=>wpC_of_wpD b Q Q' σ hq (h.2 e)⟩
    · exact h.elim
  | .block id a,Q,Q',σ,hq,h=>by
    refine wpC_of_wpD a _ _ σ (fun e σ' he=>?_) h
    cases e with
    | exit i =>
      simp only [] at he ⊢
      split
      · rename_i hi;rw [if_pos hi] at he;exact hq _ _ he
      · rename_i hi;rw [if_neg hi] at he;exact hq _ _ he
    | _=>exact hq _ _ he
  | .loop a,Q,Q',σ,hq,h=>by
    simp only [wpD,wpC] at h ⊢
    obtain ⟨I,h0,h1⟩:=h
    refine ⟨I,h0,fun n σ' hI=>wpC_of_wpD a _ _ σ' (fun e σ'' he=>?_) (h1 n σ' hI)⟩
    cases e with
    | normal=>exact he
    | _=>exact hq _ _ he
  | .exit id,_,_,_,hq,h=>hq _ _ h
  | .ret,_,_,_,hq,h=>hq _ _ h
  | .stuck,_,_,_,_,h=>h.elim
theorem wpD_mono {P:Program}:∀ (a:AC) (Q Q':AEx→St→Prop) (σ:St),(∀ e σ,Q e σ→Q' e σ)→wpD P a Q σ→wpD P a Q' σ
  | .skip,_,_,_,hq,h=>hq _ _ h
  | .reg draw ops,_,_,_,hq,h=>fun vs=>wpOps_mono (hq _) ops 0 _ (h vs)
  | .kp ts hs a,Q,Q',σ,hq,h=>wpD_mono a Q Q' _ hq h
  | .regi draw ops,_,_,_,hq,h=>fun vs U hN=>wpOps_mono (hq _) ops 0 _ (h vs U hN)
  | .gh a,Q,Q',σ,hq,h=>fun hd=>by
    obtain ⟨gs,hg⟩:=h hd
    exact ⟨gs,gwp_mono (fun σ' h'=>wpD_mono a Q Q' σ' hq h') gs σ hg⟩
  | .mv x y a,Q,Q',σ,hq,h=>fun m=>wpD_mono a Q Q' _ hq (h m)
  | .dn a,Q,Q',σ,hq,h=>wpD_mono a Q Q' _ hq h
  | .ad b off r k a,Q,Q',σ,hq,h=>fun ver=>wpD_mono a Q Q' _ hq (h ver)
  | .seq a b,Q,Q',σ,hq,h=>by
    refine wpD_mono a _ _ σ (fun e σ' he=>?_) h
    cases e with
    | normal=>exact wpD_mono b Q Q' σ' hq he
    | _=>exact hq _ _ he
  | .cond c a b,Q,Q',σ,hq,h=>by
    simp only [wpD] at h ⊢
    split at h
    · rename_i t ht
      try simp only [ht]
      exact ⟨fun e=>wpD_mono a Q Q' σ hq (h.1 e),fun e=>wpD_mono b Q Q' σ hq (h.2 e)⟩
    · exact h.elim
  | .block id a,Q,Q',σ,hq,h=>by
    refine wpD_mono a _ _ σ (fun e σ' he=>?_) h
    cases e with
    | exit i =>
      simp only [] at he ⊢
      split
      · rename_i hi;rw [if_pos hi] at he;exact hq _ _ he
      · rename_i hi;rw [if_neg hi] at he;exact hq _ _ he
    | _=>exact hq _ _ he
  | .loop a,Q,Q',σ,hq,h=>by
    simp only [wpD] at h ⊢
    obtain ⟨I,h0,h1⟩:=h
    refine ⟨I,h0,fun n σ' hI=>wpD_mono a _ _ σ' (fun e σ'' he=>?_) (h1 n σ' hI)⟩
    cases e with
    | normal=>exact he
    | _=>exact hq _ _ he
  | .exit id,_,_,_,hq,h=>hq _ _ h
  | .ret,_,_,_,hq,h=>hq _ _ h
  | .stuck,_,_,_,_,h=>h.elim
def AVal.plain:AVal→Prop
  | .val _=>True
  | .tup cs=>∀ A∈cs,∃ v,A=.val v
  | _=>False
def Fun (P:Program) (g:FuncId) (args:List AVal) (v:AVal):Prop:=Con P g [] args false fun outs rows res=>outs=[]∧rows=[]∧res=v
theorem fun_of_wp {P:Program} {g:FuncId} {F:AFn} (hm:P.follows .mixedOrders=true) {no:Option (List Nat×List FuncId)} (hF:cFn (drV no) P g F) {args:List AVal} {v:AVal} (hargs:args.length=F.nparams)
    (hv:v.ren (expo []) id=v∧v.fresh)
    (h:wpD P F.code (fun e σ=>match e with | .exit _=>False | _=>(∀ x∈F.res,σ.there x)∧σ.value F.res=v) (St.init args [])):Fun P g args v:=by
  refine con_of_wp (draw_ok hm) hF hargs (by simp) (wpC_of_wpD _ _ _ _ (fun e σ he=>?_) h)
  have:(∀ x∈F.res,σ.there x)∧σ.value F.res=v→∃ ids,Ret 0 false ids (fun outs rows res=>outs=[]∧rows=[]∧res=v) F.res σ:=by
    rintro ⟨h1,h2⟩
    refine ⟨[],h1,⟨rfl,rfl,by rw [h2];exact hv.1⟩,by omega,by simp,by simp,by simp,fun _=>⟨by rw [h2];exact hv.2,by simp,fun j hj=>by omega⟩⟩
  cases e with
  | exit _=>exact he
  | normal=>exact this he
  | ret=>exact this he
theorem callHp_nil {hp:Nat→AObj} {d:Nat} {s:Nat→Nat}:callHp hp [] d s [] []=hp:=by
  funext n
  refine callHp_not ?_
  rintro ⟨q,hq⟩
  obtain ⟨i,hi,_⟩:=rid_nil hq
  simp at hi
theorem yz1 {P:Program} {pu:Bool} {σ:St} {g:FuncId} {As args:List AVal} {v:AVal} {d:Option Nat} {s:Nat→Nat} {K:St→Prop} (h:Fun P g args v) (hco:CoeL σ.hp [] true args As)
    (hv:v.plain) (hk:K (St.put σ d v)):wpCall P pu σ g As d s K:=by
  refine .inl ⟨[],[],args,false,_,h,⟨by simp,rfl,by simp,by simp,by simp⟩,hco,fun _=>⟨rfl,[],[],v,rfl,rfl,rfl⟩,?_⟩
  rintro outs rows res ⟨rfl,rfl,rfl⟩
  refine ⟨rfl,by simp,by simp,?_⟩
  rw [callHp_nil]
  have:res.ren (rid [] (d.getD 0) 0) (sv σ.hp [] s)=res:=by
    cases res with
    | val x=>rfl
    | tup cs =>
      simp only [AVal.ren]
      congr 1
      have hv':∀ A∈cs,∃ v,A=.val v:=hv
      clear hv
      clear hk h
      induction cs with
      | nil=>simp [renL]
      | cons A cs ih =>
        obtain ⟨x,rfl⟩:=hv' A (by simp)
        simp only [renL,AVal.ren]
        rw [ih fun A hA=>hv' A (List.mem_cons_of_mem _ hA)]
    | _=>exact hv.elim
  exact (congrArg (fun z=>K (St.put σ d z)) this).mpr hk
theorem wpD_loop {P:Program} {α:Type} {ts hs:List Nat} {a:AC} {Q:AEx→St→Prop} {σ:St} (m:α→Nat) (inv:α→Prop) (S:α→St) (x0:α) (h0:inv x0) (hS:σ.keep ts hs=S x0)
    (h:∀ x,inv x→wpD P a (fun e σ'=>match e with | .normal=>∃ y,m y<m x∧inv y∧σ'.keep ts hs=S y | e=>Q e σ') (S x)):wpD P (.loop (.kp ts hs a)) Q σ:=by
  refine ⟨fun n σ=>∃ x,m x=n∧inv x∧σ.keep ts hs=S x,⟨m x0,x0,rfl,h0,hS⟩,?_⟩
  rintro n σ' ⟨x,rfl,hx,hS⟩
  show wpD P a _ (σ'.keep ts hs)
  rw [hS]
  refine wpD_mono _ _ _ _ (fun e σ'' he=>?_) (h x hx)
  cases e with
  | normal =>
    obtain ⟨y,h1,h2,h3⟩:=he
    exact ⟨m y,h1,y,rfl,h2,h3⟩
  | exit i=>exact he
  | ret=>exact he
def seqQ (W:(AEx→St→Prop)→St→Prop) (Q:AEx→St→Prop):AEx→St→Prop
  | .normal,σ=>W Q σ
  | .exit i,σ=>Q (.exit i) σ
  | .ret,σ=>Q .ret σ
def blockQ (id:Nat) (Q:AEx→St→Prop):AEx→St→Prop
  | .normal,σ=>Q .normal σ
  | .exit i,σ=>if i=id then Q .normal σ else Q (.exit i) σ
  | .ret,σ=>Q .ret σ
def loopQ (N:St→Prop) (Q:AEx→St→Prop):AEx→St→Prop
  | .normal,σ=>N σ
  | .exit i,σ=>Q (.exit i) σ
  | .ret,σ=>Q .ret σ
def finQ (N:St→Prop):AEx→St→Prop
  | .exit _,_=>False
  | .normal,σ=>N σ
  | .ret,σ=>N σ
section
variable {P:Program} {Q:AEx→St→Prop} {σ:St} {W:(AEx→St→Prop)→St→Prop} {N:St→Prop} {a b:AC}
theorem seqQ_n:seqQ W Q .normal σ=W Q σ:=rfl
theorem seqQ_e {i:Nat}:seqQ W Q (.exit i) σ=Q (.exit i) σ:=rfl
theorem seqQ_r:seqQ W Q .ret σ=Q .ret σ:=rfl
theorem blockQ_n {id:Nat}:blockQ id Q .normal σ=Q .normal σ:=rfl
theorem blockQ_e {id i:Nat}:blockQ id Q (.exit i) σ=if i=id then Q .normal σ else Q (.exit i) σ:=rfl
theorem blockQ_r {id:Nat}:blockQ id Q .ret σ=Q .ret σ:=rfl
theorem loopQ_n:loopQ N Q .normal σ=N σ:=rfl
theorem loopQ_e {i:Nat}:loopQ N Q (.exit i) σ=Q (.exit i) σ:=rfl
theorem loopQ_r:loopQ N Q .ret σ=Q .ret σ:=rfl
theorem finQ_n:finQ N .normal σ=N σ:=rfl
theorem finQ_e {i:Nat}:finQ N (.exit i) σ=False:=rfl
theorem finQ_r:finQ N .ret σ=N σ:=rfl
theorem wpD_skip:wpD P .skip Q σ=Q .normal σ:=rfl
theorem wpD_reg {draw:Bool} {ops:List AOp}:wpD P (.reg draw ops) Q σ=∀ vs,Ab.wpOps (!draw) (wpCk P draw) vs 0 ops σ (Q .normal):=rfl
theorem wpD_kp {ts hs:List Nat}:wpD P (.kp ts hs a) Q σ=wpD P a Q (σ.keep ts hs):=rfl
theorem wpD_regi {draw:Bool} {ops:List AOp}:wpD P (.regi draw ops) Q σ=∀ vs U,New vs U σ→Ab.wpOps (!draw) (wpCk P draw) vs 0 ops σ (Q .normal):=rfl
theorem wpD_ad {x off r k:Nat}:wpD P (.ad x off r k a) Q σ=∀ ver,wpD P a Q (σ.adopt x off r k ver):=rfl
theorem wpD_seq:wpD P (.seq a b) Q σ=wpD P a (seqQ (wpD P b) Q) σ:=by
  show wpD P a _ σ=_
  congr 1
  funext e σ'
  cases e <;> rfl
theorem wpD_block {id:Nat}:wpD P (.block id a) Q σ=wpD P a (blockQ id Q) σ:=by
  show wpD P a _ σ=_
  congr 1
  funext e σ'
  cases e <;> rfl
theorem wpD_exit {i:Nat}:wpD P (.exit i) Q σ=Q (.exit i) σ:=rfl
theorem wpD_ret:wpD P .ret Q σ=Q .ret σ:=rfl
theorem wpD_stuck:wpD P .stuck Q σ=False:=rfl
theorem wpD_lp {α:Type} {ts hs:List Nat} (m:α→Nat) (inv:α→Prop) (S:α→St) (x0:α) (h0:inv x0) (hS:σ.keep ts hs=S x0)
    (h:∀ x,inv x→wpD P a (loopQ (fun σ'=>∃ y,m y<m x∧inv y∧σ'.keep ts hs=S y) Q) (S x)):wpD P (.loop (.kp ts hs a)) Q σ:=by
  refine wpD_loop m inv S x0 h0 hS fun x hx=>wpD_mono _ _ _ _ (fun e σ' he=>?_) (h x hx)
  cases e <;> exact he
theorem fun_of {g:FuncId} {F:AFn} (hm:P.follows .mixedOrders=true) {no:Option (List Nat×List FuncId)} (hF:cFn (drV no) P g F) {args:List AVal} {v:AVal} (hargs:args.length=F.nparams)
    (hv:v.ren (expo []) id=v∧v.fresh) (h:wpD P F.code (finQ fun σ=>(∀ x∈F.res,σ.there x)∧σ.value F.res=v) (St.init args [])):Fun P g args v:=by
  refine fun_of_wp hm hF hargs hv (wpD_mono _ _ _ _ (fun e σ he=>?_) h)
  cases e <;> exact he
end
theorem put_L {l:List (Nat×AVal)} {hp:Nat→AObj} {d:Nat} {A:AVal}:St.put ⟨L .any l,hp⟩ (some d) A=⟨L .any ((d,A) :: l),hp⟩:=rfl
theorem L_hit {α:Type} {z a:α} {k:Nat} {l:List (Nat×α)}:L z ((k,a) :: l) k=a:=by simp [L]
theorem L_miss {α:Type} {z a:α} {k n:Nat} {l:List (Nat×α)} (h:n≠k):L z ((k,a) :: l) n=L z l n:=by simp [L,h]
theorem L_nil {α:Type} {z:α} {n:Nat}:L z ([]:List (Nat×α)) n=z:=rfl
theorem put_none {σ:St} {A:AVal}:St.put σ none A=σ:=rfl
end Go.Ab
namespace Go.Ab
abbrev iv (n:Int):AVal:=.val (.int .i64 n)
abbrev bv (b:Bool):AVal:=.val (.bool b)
abbrev ints (xs:List Int):List AVal:=xs.map fun x=>.val (.int .i64 x)
theorem w64 {n:Int} (h:-9223372036854775808≤n∧n≤9223372036854775807):IntKind.i64.wrap n=n:=IntWalk.i64_in n h
theorem maxLen_le:maxLen≤9223372036854775807:=by decide
theorem i2n (i:Nat):((i:Int)).toNat=i:=by simp
end Go.Ab
namespace Go.Ab
theorem upd_L {l:List (Nat×AObj)} {d:Nat} {o:AObj}:upd (L .gone l) d o=L .gone ((d,o) :: l):=rfl
def goneL (hp:Nat→AObj):List Nat→Nat→AObj
  | []=>hp
  | r :: rs=>upd (goneL hp rs) r .gone
theorem goneL_nil {hp:Nat→AObj}:goneL hp []=hp:=rfl
theorem goneL_cons {hp:Nat→AObj} {r:Nat} {rs:List Nat}:goneL hp (r :: rs)=upd (goneL hp rs) r .gone:=rfl
theorem goneL_eq {hp:Nat→AObj}:∀ (rs:List Nat),(fun n=>if n∈rs then .gone else hp n)=goneL hp rs
  | []=>by funext n;simp [goneL]
  | r :: rs=>by
    rw [goneL_cons,← goneL_eq rs]
    funext n
    unfold upd
    by_cases h:n=r
    · subst h;simp
    · simp [h]
def AI.hq (σ:St) (ver:Nat) (d:Nat):AI→Nat→AObj
  | .box x=>upd σ.hp d (.box ver (σ.ev x).cells)
  | .new z=>upd σ.hp d (.box ver (z.map .val))
  | .bsl k _ xs=>upd (goneL σ.hp (owned (xs.flatMap fun x=>(σ.ev x).cells))) d (.row ver k true ((xs.flatMap fun x=>(σ.ev x).cells).map (frz σ.hp)))
  | .bsln _ k xs=>upd (goneL σ.hp (owned (xs.flatMap fun x=>(σ.ev x).cells))) d (.row ver k true ((xs.flatMap fun x=>(σ.ev x).cells).map (frz σ.hp)))
  | .bslm _ k xs=>upd (goneL σ.hp (owned (xs.flatMap fun x=>(σ.ev x).cells))) d (.row ver k true ((xs.flatMap fun x=>(σ.ev x).cells).map (frz σ.hp)))
  | .ston _ _ x v=>match σ.ev x with
    | .ptr r _ off=>(match σ.hp r with
      | .box ver' cs=>upd σ.hp r (.box ver' (putAt cs off (σ.ev v).cells))
      | _=>σ.hp)
    | _=>σ.hp
  | .appn _ k _ s x=>match σ.ev s with
    | .own r _=>(match σ.hp r with
      | .row _ _ nn cs=>upd σ.hp r (.row ver k (nn || decide ((σ.slc (σ.ev x)).length≠0)) (cs ++ σ.slc (σ.ev x)))
      | _=>σ.hp)
    | _=>σ.hp
  | .sto _ x v=>match σ.ev x with
    | .ptr r _ off=>(match σ.hp r with
      | .box ver' cs=>upd σ.hp r (.box ver' (putAt cs off (σ.ev v).cells))
      | .row ver' k nn cs=>upd (goneL σ.hp (owned (σ.ev v).cells)) r (.row ver' k nn (putAt cs off ((σ.ev v).cells.map (frz σ.hp))))
      | _=>σ.hp)
    | _=>σ.hp
  | .app k _ s x=>match σ.ev s with
    | .own r _=>(match σ.hp r with
      | .row _ _ nn cs=>upd σ.hp r (.row ver k (nn || decide ((σ.slc (σ.ev x)).length≠0)) (cs ++ σ.slc (σ.ev x)))
      | _=>σ.hp)
    | _=>if (σ.slc (σ.ev x)).length=0 then σ.hp else upd σ.hp d (.row ver k true (σ.slc (σ.ev x)))
  | .mks k _ z l _=>match σ.ev l with
    | .val (.int _ n)=>upd σ.hp d (.row ver k true (List.replicate n.toNat (z.map .val)).flatten)
    | _=>σ.hp
  | .slc k x lo hi=>match σ.ev x with
    | .own r _=>(match σ.hp r with
      | .row _ _ nn cs=>(match σ.bound 0 lo,σ.bound (cs.length / k) hi with | some l,some h=>upd σ.hp r (.row ver k nn ((cs.take (h * k)).drop (l * k))) | _,_=>σ.hp)
      | _=>σ.hp)
    | _=>σ.hp
  | .slc0 k x=>upd σ.hp d (.row ver k (σ.nn (σ.ev x)) [])
  | .mkm=>upd σ.hp d (.map ver [] [])
  | .mup _ x i v=>match σ.ev x,(σ.ev i).keyV with
    | .mp r _,.val k=>(match σ.hp r with
      | .map ver' ks vs=>(match findKeyAt k ks 0 with
        | some (some j)=>upd (goneL σ.hp (owned [σ.ev v])) r (.map ver' ks (vs.set j (frz σ.hp (σ.ev v))))
        | _=>upd (goneL σ.hp (owned [σ.ev v])) r (.map ver' (ks ++ [k]) (vs ++ [frz σ.hp (σ.ev v)])))
      | _=>σ.hp)
    | _,_=>σ.hp
  | _=>σ.hp
theorem upd_gone {hp:Nat→AObj} {r:Nat} {o:AObj} {rs:List Nat}:(fun n=>if n=r then o else if n∈rs then .gone else hp n)=upd (goneL hp rs) r o:=by
  rw [← goneL_eq];rfl
theorem hpw_eq (σ:St) (ver d:Nat) (x:AI):x.hpw σ ver d=x.hq σ ver d:=by
  cases x with
  | bsl k fz xs=>exact upd_gone
  | bsln nos k xs=>exact upd_gone
  | bslm nos k xs=>exact upd_gone
  | sto n x v =>
    simp only [AI.hpw,AI.hq]
    cases hx:σ.ev x with
    | ptr r v' off =>
      simp only []
      cases hr:σ.hp r with
      | row v k nn cs=>exact upd_gone
      | _=>rfl
    | _=>rfl
  | mup kd x i v =>
    simp only [AI.hpw,AI.hq]
    cases hx:σ.ev x with
    | mp r v' =>
      cases hi:(σ.ev i).keyV with
      | val k =>
        simp only []
        cases hr:σ.hp r with
        | map v ks vs =>
          simp only []
          cases hk:findKeyAt k ks 0 with
          | none=>exact upd_gone
          | some q=>cases q <;> exact upd_gone
        | _=>rfl
      | _=>rfl
    | _=>rfl
  | _=>rfl
mutual
def AVal.flat:AVal→Prop
  | .any=>True
  | .val _=>True
  | .ro nm _ cs=>(nm=none∨nm=some none∨nm=some (some 0))∧flatL cs
  | .own _ _=>False
  | .st cs=>flatL cs
  | .tup cs=>flatL cs
  | .ptr _ _ _=>False
  | .rp cs _=>flatL cs
  | .mp _ _=>False
  | .clo _ cs=>flatL cs
def flatL:List AVal→Prop
  | []=>True
  | A :: cs=>A.flat∧flatL cs
end
mutual
theorem ren_flat {f:Nat→Option Nat} {s:Nat→Nat}:∀ (A:AVal),A.flat→A.ren f s=A
  | .any,_=>by simp only [AVal.ren]
  | .val _,_=>by simp only [AVal.ren]
  | .ro nm k cs,h=>by
    simp only [AVal.flat] at h
    obtain ⟨rfl | rfl | rfl,h⟩:=h <;> simp only [AVal.ren,renL_flat cs h,rnNm]
  | .own _ _,h=>by simp only [AVal.flat] at h
  | .st cs,h=>by simp only [AVal.flat] at h;simp only [AVal.ren,renL_flat cs h]
  | .tup cs,h=>by simp only [AVal.flat] at h;simp only [AVal.ren,renL_flat cs h]
  | .ptr _ _ _,h=>by simp only [AVal.flat] at h
  | .rp cs _,h=>by simp only [AVal.flat] at h;simp only [AVal.ren,renL_flat cs h]
  | .mp _ _,h=>by simp only [AVal.flat] at h
  | .clo _ cs,h=>by simp only [AVal.flat] at h;simp only [AVal.ren,renL_flat cs h]
theorem renL_flat {f:Nat→Option Nat} {s:Nat→Nat}:∀ (cs:List AVal),flatL cs→renL f s cs=cs
  | [],_=>by simp only [renL]
  | A :: cs,h=>by
    simp only [flatL] at h
    simp only [renL,ren_flat A h.1,renL_flat cs h.2]
end
theorem fresh_vals {cs:List AVal} (h:∀ A∈cs,∃ x,A=.val x):freshL cs:=(freshL_iff cs).2 fun A hA=>by obtain ⟨x,rfl⟩:=h A hA;simp [AVal.fresh]
theorem flat_vals:∀ {cs:List AVal},(∀ A∈cs,∃ x,A=.val x)→flatL cs
  | [],_=>by simp [flatL]
  | A :: cs,h=>by
    obtain ⟨x,hx⟩:=h A (by simp)
    subst hx
    simp only [flatL,AVal.flat,true_and]
    exact flat_vals fun B hB=>h B (by simp [hB])
theorem ev_t {σ:St} {n:Nat}:St.ev σ (.t n)=σ.tm n:=rfl
theorem ev_c {σ:St} {v:Value}:St.ev σ (.c v)=.val v:=rfl
theorem ev_f {σ:St} {g:FuncId}:St.ev σ (.f g)=.clo g []:=rfl
theorem frz_ints {hp:Nat→AObj} {xs:List Int}:(ints xs).map (frz hp)=ints xs:=by simp [ints,frz]
theorem one_ints {hp:Nat→AObj} {xs:List Int}:(∀ A∈ints xs,One hp A)=True:=by
  refine eq_true ?_
  intro A hA
  simp only [ints,List.mem_map] at hA
  obtain ⟨x,_,rfl⟩:=hA
  rfl
theorem owned_ints {xs:List Int}:owned (ints xs)=[]:=by
  induction xs with
  | nil=>rfl
  | cons x xs ih=>exact ih
def itT {α:Type} (cur:Bool) (l:List α):List α:=if cur then l.tail else l
theorem itT_t {α:Type} {a:α} {l:List α}:itT true (a :: l)=l:=rfl
theorem itT_f {α:Type} {l:List α}:itT false l=l:=rfl
theorem wpIt_0 {ver d:Nat} {σ:St} {K:St→Prop} {r v:Nat}:wpIt ver (some d) σ K 0 (.mp r v)=(match σ.hp r with
    | .map v' ks vs=>v'=v∧σ.hp d=.gone∧K (St.put ⟨σ.tm,upd (upd σ.hp r .gone) d (.it ver (some (false,ks,vs)))⟩ (some d) (.own d ver))
    | _=>False):=rfl
theorem wpIt_1 {ver:Nat} {d:Option Nat} {σ:St} {K:St→Prop} {r v:Nat}:wpIt ver d σ K 1 (.own r v)=(match σ.hp r with
    | .it v' (some (cur,ks,vs))=>v'=v∧(itT cur ks=[]→K (σ.put d (.tup [.val (.bool false)]))) ∧
      ∀ (j:Nat) (k:Value) (A:AVal),(itT cur ks)[j]?=some k→(itT cur vs)[j]?=some A →
        K (St.put ⟨σ.tm,upd σ.hp r (.it v (some (true,k :: (itT cur ks).eraseIdx j,A :: (itT cur vs).eraseIdx j)))⟩ d (.tup [.val (.bool true),.val k,A]))
    | _=>False):=rfl
theorem wpIt_2 {ver:Nat} {d:Option Nat} {σ:St} {K:St→Prop} {r v:Nat}:wpIt ver d σ K 2 (.own r v)=(match σ.hp r with
    | .it v' (some (true,k :: _,A :: _))=>v'=v∧K (σ.put d (.tup [.val k,A]))
    | _=>False):=rfl
theorem odn_it {v:Nat} {d:Option (Bool×List Value×List AVal)}:AObj.dn (.it v d)=.it v (itd dnL d):=rfl
theorem upd_hit {hp:Nat→AObj} {d:Nat} {o:AObj}:upd hp d o d=o:=by simp [upd]
theorem one_iv {hp:Nat→AObj} {k:IntKind} {n:Int}:One hp (.val (.int k n))=True:=by simp [One,Value.oneCell']
theorem one_bv {hp:Nat→AObj} {b:Bool}:One hp (.val (.bool b))=True:=by simp [One,Value.oneCell']
theorem one_str {hp:Nat→AObj} {b:ByteArray}:One hp (.val (.string b))=True:=by simp [One,Value.oneCell']
theorem one_nil {hp:Nat→AObj}:One hp (.val (.slice none 0 0))=True:=by simp [One,Value.oneCell']
theorem one_ro {hp:Nat→AObj} {nm:Option (Option Nat)} {k:Nat} {cs:List AVal}:One hp (.ro nm k cs)=True:=by simp [One]
theorem ints_app {xs ys:List Int}:ints xs ++ ints ys=ints (xs ++ ys):=by simp [ints]
theorem ints_rep {n:Nat} {x:Int}:(List.replicate n [AVal.val (.int .i64 x)]).flatten=ints (List.replicate n x):=by
  induction n with
  | zero=>rfl
  | succ n ih=>rw [List.replicate_succ,List.replicate_succ,List.flatten_cons,ih];rfl
theorem callHp_one {hp:Nat→AObj} {d:Nat} {s:Nat→Nat} {o:AObj}:callHp hp [] d s [] [o]=upd hp d (o.ren (rid [] d 1) s):=by
  funext n
  by_cases h:n=d
  · have h1:rid [] d [o].length 6000=some n:=by
      have:=rid_new (m:=[]) (d:=d) (nr:=1) (i:=0) (by omega)
      simpa [newId,h] using this
    rw [callHp_at (by simp) (by simp) h1,sv_nil]
    simp [upd,h,outHp]
  · rw [callHp_not]
    · simp [upd,h]
    · rintro ⟨q,hq⟩
      obtain ⟨i,hi,e⟩:=rid_nil hq
      simp at hi
      subst hi
      exact h (by simpa [newId] using e)
end Go.Ab
namespace Go.Ab
abbrev intsK (k:IntKind) (xs:List Int):List AVal:=xs.map fun x=>.val (.int k x)
def rws (xss:List (List Int)):List AVal:=xss.map fun xs=>.ro (some none) 1 (ints xs)
def rwn (xss:List (List Int)):List AVal:=xss.map fun xs=>.ro none 1 (ints xs)
def pickT (f:Nat→AVal):List Nat→List (Nat×AVal)
  | []=>[]
  | k :: ks=>(k,(f k).dn) :: pickT f ks
def pickO (f:Nat→AObj):List Nat→List (Nat×AObj)
  | []=>[]
  | k :: ks=>match f k with
    | .gone=>pickO f ks
    | o=>(k,o.dn) :: pickO f ks
def St.kd (σ:St) (ts hs:List Nat):St:=⟨L .any (pickT σ.tm ts),L .gone (pickO σ.hp hs)⟩
theorem yz0 {h:List (Nat×AObj)} {b r:Nat} {o o':AObj}:(fun n=>if n=b then o else if n=r then o' else L .gone h n)=L .gone ((b,o) :: (r,o') :: h):=rfl
theorem kd_L {l:List (Nat×AVal)} {h:List (Nat×AObj)} {ts hs:List Nat}:St.kd ⟨L .any l,L .gone h⟩ ts hs=⟨L .any (pickT (L .any l) ts),L .gone (pickO (L .gone h) hs)⟩:=rfl
theorem wpOps_nil {fa:Bool} {CK:CM→St→FuncId→List AVal→Option Nat→(Nat→Nat)→(St→Prop)→Prop} {vs:Nat→Nat→Nat} {i:Nat} {σ:St} {K:St→Prop}:Ab.wpOps fa CK vs i [] σ K=K σ:=rfl
theorem wpOps_L {fa:Bool} {CK:CM→St→FuncId→List AVal→Option Nat→(Nat→Nat)→(St→Prop)→Prop} {vs:Nat→Nat→Nat} {i:Nat} {o:AOp} {os:List AOp} {l:List (Nat×AVal)} {h:List (Nat×AObj)} {K:St→Prop} :
    Ab.wpOps fa CK vs i (o :: os) ⟨L .any l,L .gone h⟩ K=Ab.wpOp fa CK (vs i) o ⟨L .any l,L .gone h⟩ (fun σ'=>Ab.wpOps fa CK vs (i+1) os σ' K):=rfl
def grdP (A:AVal) (w:Bool) (f g:Unit→Prop):Prop :=
  match A with
  | .val (.bool b)=>(b=w→f ())∧(b≠w→g ())
  | .val (.tuple _)=>g ()
  | _=>False
def cndP (A:AVal) (f g:Unit→Prop):Prop :=
  match A with
  | .val (.bool t)=>(t=true→f ())∧(t=false→g ())
  | _=>False
@[congr] theorem grdP_congr {A A':AVal} {w:Bool} {f g:Unit→Prop} (h:A=A'):grdP A w f g=grdP A' w f g:=by rw [h]
@[congr] theorem cndP_congr {A A':AVal} {f g:Unit→Prop} (h:A=A'):cndP A f g=cndP A' f g:=by rw [h]
theorem wpOp_n {fa:Bool} {CK:CM→St→FuncId→List AVal→Option Nat→(Nat→Nat)→(St→Prop)→Prop} {s:Nat→Nat} {d:Option Nat} {y:AIns} {σ:St} {K:St→Prop}:Ab.wpOp fa CK s ⟨d,none,y⟩ σ K=Ab.wpIns fa CK s d σ K y:=rfl
theorem wpOp_g {fa:Bool} {CK:CM→St→FuncId→List AVal→Option Nat→(Nat→Nat)→(St→Prop)→Prop} {s:Nat→Nat} {d:Option Nat} {y:AIns} {σ:St} {K:St→Prop} {t:Nat} {w:Bool} :
    Ab.wpOp fa CK s ⟨d,some (t,w),y⟩ σ K=grdP (σ.tm t) w (fun _=>Ab.wpIns fa CK s d σ K y) (fun _=>K (σ.put d (.val (.tuple #[])))):=rfl
theorem grd_tt {f g:Unit→Prop}:grdP (.val (.bool true)) true f g=f ():=by simp [grdP]
theorem grd_ff {f g:Unit→Prop}:grdP (.val (.bool false)) false f g=f ():=by simp [grdP]
theorem grd_tf {f g:Unit→Prop}:grdP (.val (.bool true)) false f g=g ():=by simp [grdP]
theorem grd_ft {f g:Unit→Prop}:grdP (.val (.bool false)) true f g=g ():=by simp [grdP]
theorem grd_u {f g:Unit→Prop} {w:Bool} {x:Array Value}:grdP (.val (.tuple x)) w f g=g ():=rfl
theorem grd_b {f g:Unit→Prop} {w b:Bool}:grdP (.val (.bool b)) w f g=((b=w→f ())∧(b≠w→g ())):=rfl
theorem cnd_t {f g:Unit→Prop}:cndP (.val (.bool true)) f g=f ():=by simp [cndP]
theorem cnd_f {f g:Unit→Prop}:cndP (.val (.bool false)) f g=g ():=by simp [cndP]
theorem cnd_b {f g:Unit→Prop} {b:Bool}:cndP (.val (.bool b)) f g=((b=true→f ())∧(b=false→g ())):=rfl
theorem wpD_condL {P:Program} {Q:AEx→St→Prop} {σ:St} {a b:AC} {c:AOpd}:wpD P (.cond c a b) Q σ=cndP (σ.ev c) (fun _=>wpD P a Q σ) (fun _=>wpD P b Q σ):=rfl
theorem pickT_eq {f:Nat→AVal}:∀ (ks:List Nat) (n:Nat),(L .any (pickL .any f ks) n).dn=L .any (pickT f ks) n
  | [],n=>by simp [pickL,pickT,L,AVal.dn]
  | k :: ks,n=>by
    simp only [pickL,pickT,L]
    by_cases h:n=k
    · simp [h]
    · simp only [h,if_false];exact pickT_eq ks n
theorem pickO_miss {f:Nat→AObj}:∀ (ks:List Nat) (n:Nat),f n=.gone→L .gone (pickO f ks) n=.gone
  | [],n,_=>rfl
  | k :: ks,n,h=>by
    simp only [pickO]
    split
    · exact pickO_miss ks n h
    · rename_i hk
      simp only [L]
      by_cases e:n=k
      · subst e;exact absurd h hk
      · rw [if_neg e];exact pickO_miss ks n h
theorem pickO_eq {f:Nat→AObj}:∀ (ks:List Nat) (n:Nat),(L .gone (pickL .gone f ks) n).dn=L .gone (pickO f ks) n
  | [],n=>by simp [pickL,pickO,L,AObj.dn]
  | k :: ks,n=>by
    simp only [pickL,pickO,L]
    by_cases h:n=k
    · subst h
      simp only [if_true]
      split
      · rename_i e;rw [pickO_miss ks n e,e];rfl
      · simp only [L,if_true]
    · simp only [h,if_false]
      split
      · exact pickO_eq ks n
      · simp only [L,h,if_false];exact pickO_eq ks n
theorem kd_eq (σ:St) (ts hs:List Nat):(σ.keep ts hs).dn=σ.kd ts hs:=by
  unfold St.keep St.dn St.kd
  congr 1
  · funext n;exact pickT_eq ts n
  · funext n;exact pickO_eq hs n
section
variable {P:Program} {Q:AEx→St→Prop} {σ:St} {a b:AC}
theorem wpD_kpd {ts hs:List Nat}:wpD P (.kp ts hs (.dn a)) Q σ=wpD P a Q (σ.kd ts hs):=by rw [← kd_eq];rfl
theorem wpD_dnret:wpD P (.dn .ret) Q σ=Q .ret σ.dn:=rfl
theorem wpD_lo {α:Type} {ts hs:List Nat} (m:α→Nat) (inv:α→Prop) (S:α→St) (x0:α) (h0:inv x0) (hS:σ.kd ts hs=S x0)
    (h:∀ x,inv x→wpD P a (loopQ (fun σ'=>∃ y,m y<m x∧inv y∧σ'.kd ts hs=S y) Q) (S x)):wpD P (.loop (.kp ts hs (.dn a))) Q σ:=by
  refine ⟨fun n σ=>∃ x,m x=n∧inv x∧σ.kd ts hs=S x,⟨m x0,x0,rfl,h0,hS⟩,?_⟩
  rintro n σ' ⟨x,rfl,hx,hS⟩
  show wpD P a _ (σ'.keep ts hs).dn
  rw [kd_eq,hS]
  refine wpD_mono _ _ _ _ (fun e σ'' he=>?_) (h x hx)
  cases e with
  | normal =>
    obtain ⟨y,h1,h2,h3⟩:=he
    exact ⟨m y,h1,y,rfl,h2,h3⟩
  | exit i=>exact he
  | ret=>exact he
end
def mvT (a v b m:Nat):List (Nat×AVal)→List (Nat×AVal)
  | []=>[]
  | (k,A) :: l=>(k,A.mv a v b m) :: mvT a v b m l
def mvO (a v b m:Nat):List (Nat×AObj)→List (Nat×AObj)
  | []=>[]
  | (k,o) :: l=>(k,o.mv a v b m) :: mvO a v b m l
theorem mvT_eq {a v b m:Nat}:∀ (l:List (Nat×AVal)) (n:Nat),L .any (mvT a v b m l) n=(L .any l n).mv a v b m
  | [],n=>by simp [mvT,L,AVal.mv]
  | (k,A) :: l,n=>by
    simp only [mvT,L]
    split
    · rfl
    · exact mvT_eq l n
theorem mvO_eq {a v b m:Nat}:∀ (l:List (Nat×AObj)) (n:Nat),L .gone (mvO a v b m l) n=(L .gone l n).mv a v b m
  | [],n=>by simp [mvO,L,AObj.mv]
  | (k,A) :: l,n=>by
    simp only [mvO,L]
    split
    · rfl
    · exact mvO_eq l n
theorem mv_L {l:List (Nat×AVal)} {h:List (Nat×AObj)} {a b m:Nat}:St.mv ⟨L .any l,L .gone h⟩ a b m=match (L .gone h a).ver with
    | none=>⟨L .any l,L .gone h⟩
    | some v=>if a=b then ⟨L .any l,L .gone h⟩ else ⟨L .any (mvT a v b m l),L .gone ((a,.gone) :: (b,((L .gone h a).mv a v b m).wv m) :: mvO a v b m h)⟩:=by
  unfold St.mv
  show (match (L .gone h a).ver with | none=>_ | some v=>_)=_
  cases (L .gone h a).ver with
  | none=>rfl
  | some v =>
    simp only []
    split
    · rfl
    · congr 1
      · funext n;exact (mvT_eq l n).symm
      · funext n
        simp only [L]
        split
        · rfl
        · split
          · rfl
          · exact (mvO_eq h n).symm
theorem mvV_any {a v b m:Nat}:AVal.mv a v b m .any=.any:=by simp only [AVal.mv]
theorem mvV_val {a v b m:Nat} {x:Value}:AVal.mv a v b m (.val x)=.val x:=by simp only [AVal.mv]
theorem mvV_ro {a v b m:Nat} {nm:Option (Option Nat)} {k:Nat} {cs:List AVal}:AVal.mv a v b m (.ro nm k cs)=.ro nm k (mvL a v b m cs):=by simp only [AVal.mv]
theorem mvV_own {a v b m r u:Nat}:AVal.mv a v b m (.own r u)=if r=a then (if u=v then .own b m else .any) else if r=b then .any else .own r u:=by simp only [AVal.mv]
theorem mvV_ptr {a v b m r u off:Nat}:AVal.mv a v b m (.ptr r u off)=if r=a then (if u=v then .ptr b m off else .any) else if r=b then .any else .ptr r u off:=by simp only [AVal.mv]
theorem mvV_mp {a v b m r u:Nat}:AVal.mv a v b m (.mp r u)=if r=a then (if u=v then .mp b m else .any) else if r=b then .any else .mp r u:=by simp only [AVal.mv]
theorem mvV_st {a v b m:Nat} {cs:List AVal}:AVal.mv a v b m (.st cs)=.st (mvL a v b m cs):=by simp only [AVal.mv]
theorem mvV_tup {a v b m:Nat} {cs:List AVal}:AVal.mv a v b m (.tup cs)=.tup (mvL a v b m cs):=by simp only [AVal.mv]
theorem mvV_rp {a v b m o:Nat} {cs:List AVal}:AVal.mv a v b m (.rp cs o)=.rp (mvL a v b m cs) o:=by simp only [AVal.mv]
theorem mvV_clo {a v b m:Nat} {g:FuncId} {cs:List AVal}:AVal.mv a v b m (.clo g cs)=.clo g (mvL a v b m cs):=by simp only [AVal.mv]
theorem mvL_nil {a v b m:Nat}:mvL a v b m []=[]:=by simp only [mvL]
theorem mvL_cons {a v b m:Nat} {A:AVal} {cs:List AVal}:mvL a v b m (A :: cs)=A.mv a v b m :: mvL a v b m cs:=by simp only [mvL]
theorem mvL_ints {a v b m:Nat} {k:IntKind} {xs:List Int}:mvL a v b m (intsK k xs)=intsK k xs:=by simp [mvL_eq,intsK,AVal.mv]
theorem mvL_rws {a v b m:Nat} {xss:List (List Int)}:mvL a v b m (rws xss)=rws xss:=by
  simp only [mvL_eq,rws,List.map_map]
  exact List.map_congr_left fun xs _=>by simp [AVal.mv,ints,mvL_eq]
theorem mvL_rwn {a v b m:Nat} {xss:List (List Int)}:mvL a v b m (rwn xss)=rwn xss:=by
  simp only [mvL_eq,rwn,List.map_map]
  exact List.map_congr_left fun xs _=>by simp [AVal.mv,ints,mvL_eq]
theorem dn_tm {σ:St} {n:Nat}:σ.dn.tm n=(σ.tm n).dn:=rfl
theorem dn_hp {σ:St} {n:Nat}:σ.dn.hp n=(σ.hp n).dn:=rfl
theorem dn_any:AVal.dn .any=.any:=by simp only [AVal.dn]
theorem dn_val {v:Value}:AVal.dn (.val v)=.val v:=by simp only [AVal.dn]
theorem dn_ro {nm:Option (Option Nat)} {k:Nat} {cs:List AVal}:AVal.dn (.ro nm k cs)=.ro (dnNm nm) k (dnL cs):=by simp only [AVal.dn]
theorem dn_own {r v:Nat}:AVal.dn (.own r v)=.own r v:=by simp only [AVal.dn]
theorem dn_st {cs:List AVal}:AVal.dn (.st cs)=.st (dnL cs):=by simp only [AVal.dn]
theorem dn_tup {cs:List AVal}:AVal.dn (.tup cs)=.tup (dnL cs):=by simp only [AVal.dn]
theorem dn_ptr {r v o:Nat}:AVal.dn (.ptr r v o)=.ptr r v o:=by simp only [AVal.dn]
theorem dn_rp {cs:List AVal} {o:Nat}:AVal.dn (.rp cs o)=.rp (dnL cs) o:=by simp only [AVal.dn]
theorem dn_mp {r v:Nat}:AVal.dn (.mp r v)=.mp r v:=by simp only [AVal.dn]
theorem dn_clo {g:FuncId} {cs:List AVal}:AVal.dn (.clo g cs)=.clo g (dnL cs):=by simp only [AVal.dn]
theorem dnL_nil:dnL []=[]:=by simp only [dnL]
theorem dnL_cons {A:AVal} {cs:List AVal}:dnL (A :: cs)=A.dn :: dnL cs:=by simp only [dnL]
theorem dnL_app {cs ds:List AVal}:dnL (cs ++ ds)=dnL cs ++ dnL ds:=by simp [dnL_eq]
theorem dnL_ints {k:IntKind} {xs:List Int}:dnL (intsK k xs)=intsK k xs:=by simp [dnL_eq,intsK,AVal.dn]
theorem dnNm_n:dnNm none=none:=rfl
theorem dnNm_sn:dnNm (some none)=some none:=rfl
theorem dnNm_o:dnNm (some (some 0))=some (some 0):=rfl
theorem dnNm_s {n:Nat}:dnNm (some (some (n+1)))=some none:=rfl
theorem isNew_sn:isNew (some none)=true:=rfl
theorem isNew_s {n:Nat}:isNew (some (some (n+1)))=true:=rfl
theorem rnNm_n {s:Nat→Nat}:rnNm s none=none:=rfl
theorem rnNm_sn {s:Nat→Nat}:rnNm s (some none)=some none:=rfl
theorem rnNm_o {s:Nat→Nat}:rnNm s (some (some 0))=some (some 0):=rfl
theorem rnNm_s {s:Nat→Nat} {n:Nat}:rnNm s (some (some (n+1)))=some (some (s n+1)):=rfl
theorem dnL_rws {xss:List (List Int)}:dnL (rws xss)=rws xss:=by
  simp only [dnL_eq,rws,List.map_map]
  exact List.map_congr_left fun xs _=>by simp [AVal.dn,ints,dnL_eq,dnNm]
theorem dnL_rwn {xss:List (List Int)}:dnL (rwn xss)=rwn xss:=by
  simp only [dnL_eq,rwn,List.map_map]
  exact List.map_congr_left fun xs _=>by simp [AVal.dn,ints,dnL_eq,dnNm]
theorem odn_box {v:Nat} {cs:List AVal}:AObj.dn (.box v cs)=.box v (dnL cs):=rfl
theorem odn_row {v k:Nat} {nn:Bool} {cs:List AVal}:AObj.dn (.row v k nn cs)=.row v k nn (dnL cs):=rfl
theorem odn_map {v:Nat} {ks:List Value} {vs:List AVal}:AObj.dn (.map v ks vs)=.map v ks (dnL vs):=rfl
theorem rws_snoc {xss:List (List Int)} {xs:List Int}:rws xss ++ [.ro (some none) 1 (ints xs)]=rws (xss ++ [xs]):=by simp [rws]
theorem rws_nil:rws []=[]:=rfl
theorem rws_app {xss yss:List (List Int)}:rws xss ++ rws yss=rws (xss ++ yss):=by simp [rws]
theorem rws_len {xss:List (List Int)}:(rws xss).length=xss.length:=by simp [rws]
theorem rwn_len {xss:List (List Int)}:(rwn xss).length=xss.length:=by simp [rwn]
theorem rwn_getD {xss:List (List Int)} {i:Nat} (h:i<xss.length):(rwn xss).getD i .any=.ro none 1 (ints (xss.getD i [])):=by
  simp [rwn,List.getD_eq_getElem?_getD,h]
theorem intsK_getD {k:IntKind} {xs:List Int} {i:Nat} (h:i<xs.length):(intsK k xs).getD i .any=.val (.int k (xs.getD i 0)):=by
  simp [List.getD_eq_getElem?_getD,h]
theorem intsK_snoc {k:IntKind} {xs:List Int} {x:Int}:intsK k xs ++ [AVal.val (.int k x)]=intsK k (xs ++ [x]):=by simp
theorem one_intsK {hp:Nat→AObj} {k:IntKind} {xs:List Int}:(∀ A∈intsK k xs,One hp A)=True:=by
  refine eq_true ?_
  intro A hA
  simp only [List.mem_map] at hA
  obtain ⟨x,_,rfl⟩:=hA
  rfl
theorem one_rws {hp:Nat→AObj} {xss:List (List Int)}:(∀ A∈rws xss,One hp A)=True:=by
  refine eq_true ?_
  intro A hA
  simp only [rws,List.mem_map] at hA
  obtain ⟨x,_,rfl⟩:=hA
  exact trivial
theorem one_rwn {hp:Nat→AObj} {xss:List (List Int)}:(∀ A∈rwn xss,One hp A)=True:=by
  refine eq_true ?_
  intro A hA
  simp only [rwn,List.mem_map] at hA
  obtain ⟨x,_,rfl⟩:=hA
  exact trivial
theorem frz_intsK {hp:Nat→AObj} {k:IntKind} {xs:List Int}:(intsK k xs).map (frz hp)=intsK k xs:=by simp [frz]
theorem frz_rws {hp:Nat→AObj} {xss:List (List Int)}:(rws xss).map (frz hp)=rws xss:=by simp [rws,frz]
theorem owned_intsK {k:IntKind} {xs:List Int}:owned (intsK k xs)=[]:=by
  induction xs with
  | nil=>rfl
  | cons x xs ih=>exact ih
theorem owned_rws {xss:List (List Int)}:owned (rws xss)=[]:=by
  induction xss with
  | nil=>rfl
  | cons x xs ih=>exact ih
theorem range1:List.range 1=[0]:=rfl
theorem nodup_one {a:Nat}:[a].Nodup=True:=by simp
def isRow:AObj→Nat→Prop
  | .row v' _ _ _,v=>v'=v
  | _,_=>False
def isMap:AObj→Nat→Prop
  | .map v' _ _,v=>v'=v
  | _,_=>False
theorem one_own {hp:Nat→AObj} {r v:Nat}:One hp (.own r v)=isRow (hp r) v:=by
  simp only [One]
  cases hp r with
  | row v' k nn cs =>
    simp only [isRow,AObj.row.injEq]
    exact propext ⟨fun ⟨_,_,_,h⟩=>h.1,fun h=>⟨k,nn,cs,h,rfl,rfl,rfl⟩⟩
  | _=>simp [isRow]
theorem one_mp {hp:Nat→AObj} {r v:Nat}:One hp (.mp r v)=isMap (hp r) v:=by
  simp only [One]
  cases hp r with
  | map v' ks vs =>
    simp only [isMap,AObj.map.injEq]
    exact propext ⟨fun ⟨_,_,h⟩=>h.1,fun h=>⟨ks,vs,h,rfl,rfl⟩⟩
  | _=>simp [isMap]
theorem one_ptr {hp:Nat→AObj} {r v o:Nat}:One hp (.ptr r v o)=((hp r).ver=some v):=rfl
theorem one_rp {hp:Nat→AObj} {cs:List AVal} {o:Nat}:One hp (.rp cs o)=True:=by simp [One]
theorem one_clo {hp:Nat→AObj} {g:FuncId} {cs:List AVal}:One hp (.clo g cs)=True:=by simp [One]
section
variable {hp:Nat→AObj} {m:List Nat} {len:Bool}
theorem coeL_nil:CoeL hp m len [] []=True:=by simp [CoeL]
theorem coeL_cons {B A:AVal} {Bs As:List AVal}:CoeL hp m len (B :: Bs) (A :: As)=(Coe hp m len B A∧CoeL hp m len Bs As):=by
  simp only [CoeL]
  refine propext ⟨?_,fun h=>⟨A,As,rfl,h.1,h.2⟩⟩
  rintro ⟨A',As',e,h1,h2⟩
  simp only [List.cons.injEq] at e
  obtain ⟨rfl,rfl⟩:=e
  exact ⟨h1,h2⟩
theorem coe_any {A:AVal}:Coe hp m len .any A=True:=by simp [Coe]
theorem coe_val {x y:Value}:Coe hp m len (.val x) (.val y)=(y=x):=by simp [Coe]
theorem coe_ro {k:Nat} {nm:Option (Option Nat)} {cs cs':List AVal}:Coe hp m len (.ro none k cs) (.ro nm k cs')=(0<k∧CoeL hp m len cs cs'):=by
  simp only [Coe]
  refine propext ⟨?_,fun h=>⟨.inl trivial,h.1,.inl ⟨nm,cs',rfl,h.2⟩⟩⟩
  rintro ⟨_,hk,⟨nm',cs'',e,h⟩ | ⟨e,_⟩ | ⟨_,r,v,nn,cs'',e,_⟩⟩
  · cases e;exact ⟨hk,h⟩
  · cases e
  · cases e
theorem coe_ro_nil {k:Nat} {cs:List AVal}:Coe hp m len (.ro none k cs) (.val (.slice none 0 0))=(0<k∧cs=[]):=by
  simp [Coe]
def rowIs:AObj→Nat→Nat→(List AVal→Prop)→Prop
  | .row v' k' _ cs,v,k,p=>v'=v∧k'=k∧p cs
  | _,_,_,_=>False
def boxIs:AObj→Nat→(List AVal→Prop)→Prop
  | .box v' cs,v,p=>v'=v∧p cs
  | _,_,_=>False
theorem rowIs_ex {o:AObj} {v k:Nat} {p:List AVal→Prop}:rowIs o v k p↔∃ nn cs,o=.row v k nn cs∧p cs:=by
  cases o with
  | row v' k' nn cs =>
    simp only [rowIs,AObj.row.injEq]
    exact ⟨fun ⟨h1,h2,h3⟩=>⟨nn,cs,⟨h1,h2,rfl,rfl⟩,h3⟩,fun ⟨_,_,⟨h1,h2,_,h4⟩,h5⟩=>⟨h1,h2,h4 ▸ h5⟩⟩
  | _=>simp [rowIs]
theorem boxIs_ex {o:AObj} {v:Nat} {p:List AVal→Prop}:boxIs o v p↔∃ cs,o=.box v cs∧p cs:=by
  cases o with
  | box v' cs =>
    simp only [boxIs,AObj.box.injEq]
    exact ⟨fun ⟨h1,h3⟩=>⟨cs,⟨h1,rfl⟩,h3⟩,fun ⟨_,⟨h1,h4⟩,h5⟩=>⟨h1,h4 ▸ h5⟩⟩
  | _=>simp [boxIs]
theorem coe_ro_own {k r v:Nat} {cs:List AVal}:Coe hp m true (.ro none k cs) (.own r v)=(0<k∧r ∉ m∧rowIs (hp r) v k (CoeL hp m true cs)):=by
  rw [propext rowIs_ex]
  simp only [Coe]
  refine propext ⟨?_,fun ⟨hk,hr,nn,cs',h1,h2⟩=>⟨.inl trivial,hk,.inr (.inr ⟨trivial,r,v,nn,cs',rfl,hr,h1,h2⟩)⟩⟩
  rintro ⟨_,hk,⟨nm',cs'',e,h⟩ | ⟨e,_⟩ | ⟨_,r',v',nn,cs'',e,h1,h2,h3⟩⟩
  · cases e
  · cases e
  · cases e;exact ⟨hk,h1,nn,cs'',h2,h3⟩
theorem coeL_self:∀ {cs:List AVal},(∀ A∈cs,∃ x,A=.val x)→CoeL hp m len cs cs
  | [],_=>by simp [CoeL]
  | A :: cs,h=>by
    rw [coeL_cons]
    obtain ⟨x,rfl⟩:=h A (by simp)
    exact ⟨by simp [Coe],coeL_self fun B hB=>h B (by simp [hB])⟩
def argN {α:Type} (xs:List α):Option (Option Nat):=if xs.length=0 then some none else none
theorem dn_argN {α:Type} {xs:List α}:dnNm (argN xs)=argN xs:=by unfold argN;split <;> rfl
theorem argN_nn {α:Type} {xs:List α}:(isNew (argN xs)=true∨0<xs.length)=True:=by
  refine eq_true ?_
  unfold argN
  by_cases h:xs.length=0
  · left;rw [if_pos h];rfl
  · right;omega
theorem coe_argN' {xs:List Int} {x:Option Nat} (hx:isNew (some x)=true):Coe hp m len (.ro (argN xs) 1 (ints xs)) (.ro (some x) 1 (ints xs))=True:=by
  refine eq_true ?_
  simp only [Coe]
  refine ⟨?_,by omega,.inl ⟨some x,ints xs,rfl,coeL_self fun A hA=>?_⟩⟩
  · unfold argN
    by_cases h:xs.length=0
    · rw [if_pos h]
      have:xs=[]:=List.eq_nil_of_length_eq_zero h
      subst this
      exact .inr (.inr ⟨rfl,rfl,.inl ⟨some x,1,ints [],rfl,hx⟩⟩)
    · rw [if_neg h];exact .inl rfl
  · simp only [List.mem_map] at hA
    obtain ⟨x,_,rfl⟩:=hA
    exact ⟨_,rfl⟩
theorem coe_argN {xs:List Int}:Coe hp m len (.ro (argN xs) 1 (ints xs)) (.ro (some none) 1 (ints xs))=True:=coe_argN' rfl
theorem coe_argNs {xs:List Int} {x:Nat}:Coe hp m len (.ro (argN xs) 1 (ints xs)) (.ro (some (some (x+1))) 1 (ints xs))=True:=coe_argN' rfl
theorem coe_ro_o {k:Nat} {cs cs':List AVal}:Coe hp m len (.ro (some (some 0)) k cs) (.ro (some (some 0)) k cs')=(0<k∧CoeL hp m len cs cs'):=by
  simp only [Coe]
  refine propext ⟨?_,fun h=>⟨.inr (.inl ⟨trivial,.inr ⟨k,cs',rfl⟩⟩),h.1,.inl ⟨some (some 0),cs',rfl,h.2⟩⟩⟩
  rintro ⟨_,hk,⟨nm',cs'',e,h⟩ | ⟨e,_⟩ | ⟨_,r,v,nn,cs'',e,_⟩⟩
  · cases e;exact ⟨hk,h⟩
  · cases e
  · cases e
theorem coe_st {cs cs':List AVal}:Coe hp m len (.st cs) (.st cs')=CoeL hp m len cs cs':=by
  simp only [Coe]
  refine propext ⟨?_,fun h=>.inl ⟨cs',rfl,h⟩⟩
  rintro (⟨cs'',e,h⟩ | ⟨vs,e,_⟩)
  · cases e;exact h
  · cases e
theorem coe_st_agg {cs:List AVal} {vs:Array Value}:Coe hp m len (.st cs) (.val (.agg vs))=CoeL hp m len cs (vs.toList.map .val):=by
  simp only [Coe]
  refine propext ⟨?_,fun h=>.inr ⟨vs,rfl,h⟩⟩
  rintro (⟨cs'',e,h⟩ | ⟨vs',e,h⟩)
  · cases e
  · cases e;exact h
theorem coe_rp {cs cs':List AVal} {off:Nat}:Coe hp m len (.rp cs off) (.rp cs' off)=CoeL hp m len cs cs':=by
  simp only [Coe]
  refine propext ⟨?_,fun h=>.inl ⟨cs',rfl,h⟩⟩
  rintro (⟨cs'',e,h⟩ | ⟨_,r,v,cs'',e,_⟩)
  · cases e;exact h
  · cases e
theorem coe_rp_ptr {cs:List AVal} {r v off:Nat}:Coe hp m true (.rp cs off) (.ptr r v off)=(r ∉ m∧boxIs (hp r) v (CoeL hp m true cs)):=by
  rw [propext boxIs_ex]
  simp only [Coe]
  refine propext ⟨?_,fun ⟨h1,cs',h2,h3⟩=>.inr ⟨trivial,r,v,cs',rfl,h1,h2,h3⟩⟩
  rintro (⟨cs'',e,h⟩ | ⟨_,r',v',cs'',e,h1,h2,h3⟩)
  · cases e
  · cases e;exact ⟨h1,cs'',h2,h3⟩
theorem coe_clo {g:FuncId} {cs cs':List AVal}:Coe hp m len (.clo g cs) (.clo g cs')=CoeL hp m len cs cs':=by
  simp only [Coe]
  refine propext ⟨?_,fun h=>⟨cs',rfl,h⟩⟩
  rintro ⟨cs'',e,h⟩
  cases e;exact h
theorem coe_own0 {r v:Nat}:Coe hp [r] len (.own 5000 0) (.own r v)=((hp r).ver=some v):=by
  simp only [Coe]
  refine propext ⟨?_,fun h=>⟨0,r,v,rfl,rfl,rfl,rfl,h⟩⟩
  rintro ⟨j,r',v',h1,h2,h3,e,h4⟩
  cases e;exact h4
theorem coe_ptr0 {r v off:Nat}:Coe hp [r] len (.ptr 5000 0 off) (.ptr r v off)=((hp r).ver=some v):=by
  simp only [Coe]
  refine propext ⟨?_,fun h=>⟨0,r,v,rfl,rfl,rfl,rfl,h⟩⟩
  rintro ⟨j,r',v',h1,h2,h3,e,h4⟩
  cases e;exact h4
theorem coeL_intsK {k:IntKind} {xs:List Int}:CoeL hp m len (intsK k xs) (intsK k xs)=True:=by
  refine eq_true (coeL_self fun A hA=>?_)
  simp only [List.mem_map] at hA
  obtain ⟨x,_,rfl⟩:=hA
  exact ⟨_,rfl⟩
theorem coeL_rws:∀ {xss:List (List Int)},CoeL hp m len (rwn xss) (rws xss)=True
  | []=>coeL_nil
  | xs :: xss=>by
    have h:=coeL_rws (xss:=xss)
    simp only [rws,rwn,List.map_cons] at h ⊢
    rw [coeL_cons,h,coe_ro]
    simp [coeL_intsK (k:=.i64)]
theorem coeL_rwn:∀ {xss:List (List Int)},CoeL hp m len (rwn xss) (rwn xss)=True
  | []=>coeL_nil
  | xs :: xss=>by
    have h:=coeL_rwn (xss:=xss)
    simp only [rwn,List.map_cons] at h ⊢
    rw [coeL_cons,h,coe_ro]
    simp [coeL_intsK (k:=.i64)]
end
theorem fresh_intsK {k:IntKind} {xs:List Int}:freshL (intsK k xs)=True:=by
  refine eq_true (fresh_vals fun A hA=>?_)
  simp only [List.mem_map] at hA
  obtain ⟨x,_,rfl⟩:=hA
  exact ⟨_,rfl⟩
theorem fresh_rws {xss:List (List Int)}:freshL (rws xss)=True:=by
  refine eq_true ((freshL_iff _).2 fun A hA=>?_)
  simp only [rws,List.mem_map] at hA
  obtain ⟨x,_,rfl⟩:=hA
  simp only [AVal.fresh]
  exact ⟨.inr rfl,of_eq_true (fresh_intsK (k:=.i64) (xs:=x))⟩
theorem ren_val {f:Nat→Option Nat} {s:Nat→Nat} {v:Value}:AVal.ren f s (.val v)=.val v:=by simp only [AVal.ren]
theorem ren_any {f:Nat→Option Nat} {s:Nat→Nat}:AVal.ren f s .any=.any:=by simp only [AVal.ren]
theorem ren_ro {f:Nat→Option Nat} {s:Nat→Nat} {nm:Option (Option Nat)} {k:Nat} {cs:List AVal}:AVal.ren f s (.ro nm k cs)=.ro (rnNm s nm) k (renL f s cs):=by simp only [AVal.ren]
theorem ren_st {f:Nat→Option Nat} {s:Nat→Nat} {cs:List AVal}:AVal.ren f s (.st cs)=.st (renL f s cs):=by simp only [AVal.ren]
theorem ren_tup {f:Nat→Option Nat} {s:Nat→Nat} {cs:List AVal}:AVal.ren f s (.tup cs)=.tup (renL f s cs):=by simp only [AVal.ren]
theorem ren_own {f:Nat→Option Nat} {s:Nat→Nat} {r v r':Nat} (h:f r=some r'):AVal.ren f s (.own r v)=.own r' (s v):=by simp only [AVal.ren,h]
theorem ren_ptr {f:Nat→Option Nat} {s:Nat→Nat} {r v r' o:Nat} (h:f r=some r'):AVal.ren f s (.ptr r v o)=.ptr r' (s v) o:=by simp only [AVal.ren,h]
theorem ren_mp {f:Nat→Option Nat} {s:Nat→Nat} {r v r':Nat} (h:f r=some r'):AVal.ren f s (.mp r v)=.mp r' (s v):=by simp only [AVal.ren,h]
theorem renL_nil {f:Nat→Option Nat} {s:Nat→Nat}:renL f s []=[]:=by simp only [renL]
theorem renL_cons {f:Nat→Option Nat} {s:Nat→Nat} {A:AVal} {cs:List AVal}:renL f s (A :: cs)=A.ren f s :: renL f s cs:=by simp only [renL]
theorem renL_intsK {f:Nat→Option Nat} {s:Nat→Nat} {k:IntKind} {xs:List Int}:renL f s (intsK k xs)=intsK k xs:=by simp [renL_eq,AVal.ren]
theorem renL_rws {f:Nat→Option Nat} {s:Nat→Nat} {xss:List (List Int)}:renL f s (rws xss)=rws xss:=by
  simp only [renL_eq,rws,List.map_map]
  exact List.map_congr_left fun xs _=>by simp [AVal.ren,ints,renL_eq,rnNm]
theorem renL_rwn {f:Nat→Option Nat} {s:Nat→Nat} {xss:List (List Int)}:renL f s (rwn xss)=rwn xss:=by
  simp only [renL_eq,rwn,List.map_map]
  exact List.map_congr_left fun xs _=>by simp [AVal.ren,ints,renL_eq,rnNm]
theorem oren_box {f:Nat→Option Nat} {s:Nat→Nat} {v:Nat} {cs:List AVal}:AObj.ren f s (.box v cs)=.box (s v) (renL f s cs):=rfl
theorem oren_row {f:Nat→Option Nat} {s:Nat→Nat} {v k:Nat} {nn:Bool} {cs:List AVal}:AObj.ren f s (.row v k nn cs)=.row (s v) k nn (renL f s cs):=rfl
theorem oren_map {f:Nat→Option Nat} {s:Nat→Nat} {v:Nat} {ks:List Value} {vs:List AVal}:AObj.ren f s (.map v ks vs)=.map (s v) ks (renL f s vs):=rfl
theorem rid0 {m:List Nat} {d n:Nat}:rid m d (n+1) 6000=some d:=by
  have:=rid_new (m:=m) (d:=d) (nr:=n+1) (i:=0) (by omega)
  simpa [newId] using this
theorem rid1 {m:List Nat} {d n:Nat}:rid m d (n+2) 6001=some (d+1000):=by
  have:=rid_new (m:=m) (d:=d) (nr:=n+2) (i:=1) (by omega)
  simpa [newId] using this
theorem rid2 {m:List Nat} {d n:Nat}:rid m d (n+3) 6002=some (d+2000):=by
  have:=rid_new (m:=m) (d:=d) (nr:=n+3) (i:=2) (by omega)
  simpa [newId] using this
theorem expo0 {r:Nat} {l:List Nat} (h:r<5000):expo (r :: l) r=some 6000:=by
  unfold expo
  rw [if_neg (by omega)]
  simp [List.idxOf?,List.findIdx?,List.findIdx?.go]
theorem expo1 {r r0:Nat} {l:List Nat} (h:r<5000) (h0:r0≠r):expo (r0 :: r :: l) r=some 6001:=by
  unfold expo
  rw [if_neg (by omega)]
  simp [List.idxOf?,List.findIdx?,List.findIdx?.go,h0]
theorem expo2 {r r0 r1:Nat} {l:List Nat} (h:r<5000) (h0:r0≠r) (h1:r1≠r):expo (r0 :: r1 :: r :: l) r=some 6002:=by
  unfold expo
  rw [if_neg (by omega)]
  simp [List.idxOf?,List.findIdx?,List.findIdx?.go,h0,h1]
theorem ren_own_e0 {r v:Nat} {l:List Nat} {s:Nat→Nat} (h:r<5000):AVal.ren (expo (r :: l)) s (.own r v)=.own 6000 (s v):=ren_own (expo0 h)
theorem ren_own_e1 {r r0 v:Nat} {l:List Nat} {s:Nat→Nat} (h:r<5000) (h0:r0≠r):AVal.ren (expo (r0 :: r :: l)) s (.own r v)=.own 6001 (s v):=ren_own (expo1 h h0)
theorem ren_own_e2 {r r0 r1 v:Nat} {l:List Nat} {s:Nat→Nat} (h:r<5000) (h0:r0≠r) (h1:r1≠r):AVal.ren (expo (r0 :: r1 :: r :: l)) s (.own r v)=.own 6002 (s v):=ren_own (expo2 h h0 h1)
theorem ren_ptr_e0 {r v o:Nat} {l:List Nat} {s:Nat→Nat} (h:r<5000):AVal.ren (expo (r :: l)) s (.ptr r v o)=.ptr 6000 (s v) o:=ren_ptr (expo0 h)
theorem ren_mp_e0 {r v:Nat} {l:List Nat} {s:Nat→Nat} (h:r<5000):AVal.ren (expo (r :: l)) s (.mp r v)=.mp 6000 (s v):=ren_mp (expo0 h)
theorem ren_mp_e1 {r r0 v:Nat} {l:List Nat} {s:Nat→Nat} (h:r<5000) (h0:r0≠r):AVal.ren (expo (r0 :: r :: l)) s (.mp r v)=.mp 6001 (s v):=ren_mp (expo1 h h0)
theorem ren_own_r0 {m:List Nat} {d n v:Nat} {s:Nat→Nat}:AVal.ren (rid m d (n+1)) s (.own 6000 v)=.own d (s v):=ren_own rid0
theorem ren_own_r1 {m:List Nat} {d n v:Nat} {s:Nat→Nat}:AVal.ren (rid m d (n+2)) s (.own 6001 v)=.own (d+1000) (s v):=ren_own rid1
theorem ren_own_r2 {m:List Nat} {d n v:Nat} {s:Nat→Nat}:AVal.ren (rid m d (n+3)) s (.own 6002 v)=.own (d+2000) (s v):=ren_own rid2
theorem ren_ptr_r0 {m:List Nat} {d n v o:Nat} {s:Nat→Nat}:AVal.ren (rid m d (n+1)) s (.ptr 6000 v o)=.ptr d (s v) o:=ren_ptr rid0
theorem ren_mp_r0 {m:List Nat} {d n v:Nat} {s:Nat→Nat}:AVal.ren (rid m d (n+1)) s (.mp 6000 v)=.mp d (s v):=ren_mp rid0
theorem ren_mp_r1 {m:List Nat} {d n v:Nat} {s:Nat→Nat}:AVal.ren (rid m d (n+2)) s (.mp 6001 v)=.mp (d+1000) (s v):=ren_mp rid1
theorem gone_one {hp:Nat→AObj} {d:Nat} {o:AObj}:(∀ i,i<[o].length→hp (newId d i)=.gone)=(hp d=.gone):=by
  refine propext ⟨fun h=>by simpa [newId] using h 0 (by simp),fun h i hi=>?_⟩
  have:i=0:=by simpa using hi
  subst this;simpa [newId] using h
theorem gone_two {hp:Nat→AObj} {d:Nat} {o o':AObj}:(∀ i,i<[o,o'].length→hp (newId d i)=.gone)=(hp d=.gone∧hp (d+1000)=.gone):=by
  refine propext ⟨fun h=>⟨by simpa [newId] using h 0 (by simp),by simpa [newId] using h 1 (by simp)⟩,fun h i hi=>?_⟩
  have hi':i<2:=by simpa using hi
  have:i=0∨i=1:=by omega
  rcases this with rfl | rfl
  · simpa [newId] using h.1
  · simpa [newId] using h.2
theorem gone_nil {hp:Nat→AObj} {d:Nat}:(∀ i,i<([]:List AObj).length→hp (newId d i)=.gone)=True:=by simp
end Go.Ab
namespace Go.Ab
theorem con_of {P:Program} {g:FuncId} {F:AFn} (hm:P.follows .mixedOrders=true) {no:Option (List Nat×List FuncId)} (hF:cFn (drV no) P g F) {ins:List AObj} {args:List AVal} (hargs:args.length=F.nparams) (hins:ins.length≤1000)
    {R:List AObj→List AObj→AVal→Prop}
    (h:wpD P F.code (finQ fun σ=>(∀ x∈F.res,σ.there x)∧∃ ids:List Nat,ids.length≤1000∧ids.Nodup∧(∀ n∈ids,n<5000)∧(σ.value F.res).fresh∧(∀ n∈ids,(σ.hp n).fresh)∧(∀ j,j<ins.length→(σ.hp (5000+j)).fresh) ∧
      R ((List.range ins.length).map fun j=>(σ.hp (5000+j)).ren (expo ids) id) (ids.map fun n=>(σ.hp n).ren (expo ids) id) ((σ.value F.res).ren (expo ids) id)) (St.init args ins)):Con P g ins args false R:=by
  refine con_of_wp (draw_ok hm) hF hargs hins (wpC_of_wpD _ _ _ _ (fun e σ he=>?_) h)
  have:(∀ x∈F.res,σ.there x)∧(∃ ids:List Nat,ids.length≤1000∧ids.Nodup∧(∀ n∈ids,n<5000)∧(σ.value F.res).fresh∧(∀ n∈ids,(σ.hp n).fresh)∧(∀ j,j<ins.length→(σ.hp (5000+j)).fresh) ∧
      R ((List.range ins.length).map fun j=>(σ.hp (5000+j)).ren (expo ids) id) (ids.map fun n=>(σ.hp n).ren (expo ids) id) ((σ.value F.res).ren (expo ids) id))→∃ ids,Ret ins.length false ids R F.res σ:=by
    rintro ⟨h1,ids,h2,h3,h4,h5,h6,h7,h8⟩
    exact ⟨ids,h1,h8,hins,h2,h3,h4,fun _=>⟨h5,h6,h7⟩⟩
  cases e with
  | exit _=>exact he
  | normal=>exact this he
  | ret=>exact this he
theorem con_sh {P:Program} {g:FuncId} {F:AFn} (hm:P.follows .mixedOrders=true) {no:Option (List Nat×List FuncId)} (hF:cFn (drV no) P g F) {ins:List AObj} {args:List AVal} (hargs:args.length=F.nparams) (hins:ins.length≤1000)
    {R:List AObj→List AObj→AVal→Prop}
    (h:wpD P F.code (finQ fun σ=>(∀ x∈F.res,σ.there x)∧∃ ids:List Nat,ids.length≤1000∧ids.Nodup∧(∀ n∈ids,n<5000) ∧
      R ((List.range ins.length).map fun j=>(σ.hp (5000+j)).ren (expo ids) id) (ids.map fun n=>(σ.hp n).ren (expo ids) id) ((σ.value F.res).ren (expo ids) id)) (St.init args ins)):Con P g ins args true R:=by
  refine con_of_wp (draw_ok hm) hF hargs hins (wpC_of_wpD _ _ _ _ (fun e σ he=>?_) h)
  have:(∀ x∈F.res,σ.there x)∧(∃ ids:List Nat,ids.length≤1000∧ids.Nodup∧(∀ n∈ids,n<5000) ∧
      R ((List.range ins.length).map fun j=>(σ.hp (5000+j)).ren (expo ids) id) (ids.map fun n=>(σ.hp n).ren (expo ids) id) ((σ.value F.res).ren (expo ids) id))→∃ ids,Ret ins.length true ids R F.res σ:=by
    rintro ⟨h1,ids,h2,h3,h4,h8⟩
    exact ⟨ids,h1,h8,hins,h2,h3,h4,fun e=>by cases e⟩
  cases e with
  | exit _=>exact he
  | normal=>exact this he
  | ret=>exact this he
def AC.kts:AC→List Nat
  | .kp ts _ _=>ts
  | _=>[]
def AC.khs:AC→List Nat
  | .kp _ hs _=>hs
  | _=>[]
def AC.kin:AC→AC
  | .kp _ _ (.dn a)=>a
  | a=>a
theorem Con.mono {P:Program} {g:FuncId} {ins:List AObj} {args:List AVal} {sh:Bool} {R R':List AObj→List AObj→AVal→Prop} (h:Con P g ins args sh R) (hR:∀ o r x,R o r x→R' o r x):Con P g ins args sh R':=by
  refine ⟨h.1,fun c0 outsB vs h1 h2 h3=>(h.2 c0 outsB vs h1 h2 h3).mono ?_⟩
  rintro e w' ⟨v,c1,outs,rows,res,hr,h⟩
  exact ⟨v,c1,outs,rows,res,hR _ _ _ hr,h⟩
abbrev Fn (P:Program) (g:FuncId) (args:List AVal) (Q:List AObj→AVal→Prop):Prop:=Con P g [] args false fun outs rows res=>outs=[]∧Q rows res
section
variable {P:Program} {pu:Bool} {σ:St} {g:FuncId} {As args:List AVal} {d:Option Nat} {s:Nat→Nat} {K:St→Prop}
theorem call_fn {Q:List AObj→AVal→Prop} (h:Fn P g args Q) (hco:CoeL σ.hp [] true args As) (hex:pu=true→∃ rows res,Q rows res)
    (hk:∀ rows res,Q rows res→rows.length≤1000∧(∀ i,i<rows.length→σ.hp (newId (d.getD 0) i)=.gone)∧K (St.put ⟨σ.tm,callHp σ.hp [] (d.getD 0) s [] rows⟩ d (res.ren (rid [] (d.getD 0) rows.length) s))) :
    wpCall P pu σ g As d s K:=by
  refine .inl ⟨[],[],args,false,_,h,⟨by simp,rfl,by simp,by simp,by simp⟩,hco,fun e=>⟨rfl,?_⟩,?_⟩
  · obtain ⟨rows,res,hq⟩:=hex e
    exact ⟨[],rows,res,rfl,hq⟩
  · rintro outs rows res ⟨rfl,hq⟩
    obtain ⟨h1,h2,h3⟩:=hk rows res hq
    refine ⟨rfl,h1,h2,?_⟩
    rw [sv_nil];exact h3
theorem callHp_two {hp:Nat→AObj} {d:Nat} {s:Nat→Nat} {o0 o1:AObj}:callHp hp [] d s [] [o0,o1]=upd (upd hp d (o0.ren (rid [] d 2) s)) (d+1000) (o1.ren (rid [] d 2) s):=by
  funext n
  by_cases h:n=d+1000
  · have h1:rid [] d [o0,o1].length 6001=some n:=by rw [h];exact rid1
    rw [callHp_at (by simp) (by simp) h1,sv_nil]
    simp [upd,h,outHp]
  · by_cases h':n=d
    · have h1:rid [] d [o0,o1].length 6000=some n:=by rw [h'];exact rid0
      rw [callHp_at (by simp) (by simp) h1,sv_nil]
      have hne:d≠d+1000:=by omega
      simp [upd,h',outHp,hne]
    · rw [callHp_not]
      · simp [upd,h,h']
      · rintro ⟨q,hq⟩
        obtain ⟨i,hi,e⟩:=rid_nil hq
        simp at hi
        unfold newId at e
        have:i=0∨i=1:=by omega
        rcases this with rfl | rfl
        · exact h' (by simpa using e)
        · exact h (by simpa using e)
end
theorem call_sh {P:Program} {pu:Bool} {σ:St} {g:FuncId} {As args:List AVal} {d:Option Nat} {s:Nat→Nat} {K:St→Prop} {R:List AObj→List AObj→AVal→Prop} (h:Con P g [] args true R)
    (hco:CoeL σ.hp [] false args As) (hex:pu=true→∃ outs rows res,R outs rows res)
    (hk:∀ outs rows res,R outs rows res→outs=[]∧rows.length≤1000∧(∀ i,i<rows.length→σ.hp (newId (d.getD 0) i)=.gone) ∧
      K (St.put ⟨σ.tm,callHp σ.hp [] (d.getD 0) s [] rows⟩ d (res.ren (rid [] (d.getD 0) rows.length) s))):wpCall P pu σ g As d s K:=by
  refine .inl ⟨[],[],args,true,R,h,⟨by simp,rfl,by simp,by simp,by simp⟩,hco,fun e=>⟨rfl,hex e⟩,?_⟩
  intro outs rows res hR
  obtain ⟨h1,h2,h3,h4⟩:=hk outs rows res hR
  subst h1
  refine ⟨rfl,h2,h3,?_⟩
  rw [sv_nil];exact h4
end Go.Ab
namespace Go.Ab
def Cz.start (W:World):Cz :=
  { w:=W,base:=W.heap.size,ext:=fun b=>b<W.heap.size,hp:=fun _=>.gone,loc:=fun _=>undef,names:=fun _=>none,used:=fun _=>False,old:=fun b=>b<W.heap.size }
theorem start_taken {W:World} {b:Nat}:¬ (Cz.start W).taken b:=by rintro ⟨r,h,_⟩;exact h rfl
theorem start_imm {W:World} {b:Nat} (h:b<W.heap.size):(Cz.start W).imm b:=⟨.inl h,h,start_taken⟩
theorem start_good (W:World):Good W (fun _=>False) (Cz.start W):=by
  refine ⟨⟨rfl,fun _ h=>h⟩,fun _=>trivial,?_,?_,?_,?_,?_,?_,?_,⟨0,fun v h=>h.elim⟩,rfl,⟨rfl,Nat.le_refl _⟩,rfl,Nat.le_refl _,fun _ _ _=>rfl⟩
  · intro r r' b h;exact absurd rfl h
  · intro r b h;exact absurd rfl h
  · intro r v h;simp [Cz.start,AObj.ver] at h
  · intro r r' v h;simp [Cz.start,AObj.ver] at h
  · intro b h;exact h.elim
  · intro n b h;simp [Cz.start] at h
  · intro n n' b h;simp [Cz.start] at h
theorem start_outHp (W:World):(Cz.start W).hp=outHp [] []:=by
  funext n
  simp [Cz.start,outHp]
theorem cell_lt {W:World} {b off:Nat} {v:Value} (h:W.cell? ⟨b,off,none⟩=some v):b<W.heap.size:=by
  unfold World.cell? at h
  by_cases hb:b<W.heap.size
  · exact hb
  · have h1:W.heap[b]?=none:=Array.getElem?_eq_none (by omega)
    simp only [h1] at h;cases h
mutual
inductive Shp (P:Program):TypeId→List AVal→Prop where
  | int {t:TypeId} {k:IntKind} {n:Int}:P.underlying t=some (.int k)→(Lit.int k n).wf=true→Shp P t [.val (.int k n)]
  | bool {t:TypeId} {b:Bool}:P.underlying t=some .bool→Shp P t [.val (.bool b)]
  | string {t:TypeId} {s:ByteArray}:P.underlying t=some .string→s.size≤maxLen→Shp P t [.val (.string s)]
  | slice {t e:TypeId} {xss:List (List AVal)}:P.underlying t=some (.slice e)→(∀ xs∈xss,Shp P e xs)→(∀ xs∈xss,xs.length=P.cellsOf e)→xss.length≤maxLen→Shp P t [.ro (some (some 0)) (P.cellsOf e) xss.flatten]
  | struct {t:TypeId} {fs:Array Field} {As:List AVal}:P.underlying t=some (.struct fs)→ShpF P fs.toList As→Shp P t As
inductive ShpF (P:Program):List Field→List AVal→Prop where
  | nil:ShpF P [] []
  | cons {f:Field} {fs:List Field} {As Bs:List AVal}:Shp P f.type As→ShpF P fs Bs→ShpF P (f :: fs) (As ++ Bs)
end
def contig (P:Program):List Field→Nat→Nat→Bool
  | [],off,n=>off == n
  | f :: fs,off,n=>f.offset == off && contig P fs (off+P.cellsOf f.type) n
section
variable {H:Type} {enc:TypeId×Value→H} {P:Program} {W:World} {sp:Nat→Bool} {held:Bool}
theorem RepAt.append {c:Cz} {b:Nat}:∀ {xs ys:List AVal} {off:Nat},RepAt c b off xs→RepAt c b (off+xs.length) ys→RepAt c b off (xs ++ ys)
  | [],_,_,_,h=>by simpa using h
  | x :: xs,ys,off,h,h'=>by
    simp only [RepAt,List.cons_append] at h ⊢
    refine ⟨h.1,RepAt.append h.2 ?_⟩
    have e:off+1+xs.length=off+(x :: xs).length:=by simp;omega
    rw [e];exact h'
theorem RepAt.flatten {c:Cz} {b k:Nat}:∀ {xss:List (List AVal)} {off:Nat},(∀ i xs,xss[i]?=some xs→xs.length=k∧RepAt c b (off+i * k) xs)→RepAt c b off xss.flatten
  | [],_,_=>by simp [RepAt]
  | xs :: xss,off,h=>by
    obtain ⟨h1,h2⟩:=h 0 xs rfl
    rw [List.flatten_cons]
    refine RepAt.append (by simpa using h2) (RepAt.flatten (k:=k) fun i ys hi=>?_)
    obtain ⟨h3,h4⟩:=h (i+1) ys (by simpa using hi)
    refine ⟨h3,?_⟩
    rw [h1]
    have e:off+k+i * k=off+(i+1) * k:=by rw [Nat.add_mul];omega
    rw [e];exact h4
theorem cells_at {a:Addr} {k:Nat} {cs:List Value} {As:List AVal} (ha:a.spot=none) (h:W.cells? 0 a k=some cs) (hr:RepL (Cz.start W) As cs):RepAt (Cz.start W) a.block a.off As:=by
  have h1:(List.range k).mapM (fun i=>W.cell? (a.add i))=some cs:=by
    unfold World.cells? at h;simpa using h
  have h2:∀ i v,cs[i]?=some v→W.cell? ⟨a.block,a.off+i,none⟩=some v:=by
    intro i v hi
    have hlt:=(List.getElem?_eq_some_iff.1 hi).1
    have hl:=mapM_some_length h1
    have:=mapM_some_get h1 i i (by rw [List.getElem?_range];rw [List.length_range] at hl;omega)
    rw [hi] at this
    have e:a.add i=⟨a.block,a.off+i,none⟩:=by obtain ⟨b,o,q⟩:=a;simp only at ha;subst ha;exact addr_add _ _ _
    rw [e] at this;exact this
  have key:∀ (As:List AVal) (cs:List Value) (off:Nat),RepL (Cz.start W) As cs→(∀ i v,cs[i]?=some v→W.cell? ⟨a.block,off+i,none⟩=some v)→RepAt (Cz.start W) a.block off As:=by
    intro As
    induction As with
    | nil=>intro cs off _ _;simp [RepAt]
    | cons A As ih =>
      intro cs off hr hc
      cases cs with
      | nil=>simp [RepL] at hr
      | cons v cs =>
        simp only [RepL] at hr
        simp only [RepAt]
        refine ⟨⟨v,(by have:=hc 0 v rfl;exact this),hr.1⟩,ih cs (off+1) hr.2 fun i u hi=>?_⟩
        have:=hc (i+1) u (by simpa using hi)
        rw [← this];congr 2;omega
  exact key As cs a.off hr h2
theorem flat_len {α:Type} {k:Nat}:∀ {xss:List (List α)},(∀ (i:Nat) (As:List α),xss[i]?=some As→As.length=k)→xss.flatten.length=xss.length * k
  | [],_=>by simp
  | x :: xss,h=>by
    rw [List.flatten_cons,List.length_append,h 0 x rfl,flat_len (k:=k) fun i As hi=>h (i+1) As (by simpa using hi),List.length_cons,Nat.add_mul]
    omega
theorem trod_rep (good:TypeId→Bool) (hgood:∀ t,good t=true→(∃ k,P.underlying t=some (.int k))∨P.underlying t=some .bool∨P.underlying t=some .string∨(∃ e,P.underlying t=some (.slice e)∧good e=true∧0<P.cellsOf e)∨∃ fs,P.underlying t=some (.struct fs)∧(∀ f∈fs.toList,good f.type=true)∧contig P fs.toList 0 (P.cellsOf t)=true) :
    ∀ (fuel:Nat) (t:TypeId) (cs:List Value) (x:DataW H×List MemPlace),good t=true→DataW.trod enc P W 0 sp held fuel t cs=some x→∃ As,Shp P t As∧RepL (Cz.start W) As cs:=by
  intro fuel
  induction fuel with
  | zero=>intro t cs x _ h;simp [DataW.trod] at h
  | succ fuel ih =>
    intro t cs x hg h
    rcases hgood t hg with ⟨k,ht⟩ | ht | ht | ⟨e,ht,hge,hpos⟩ | ⟨fs,ht,hgf,hcon⟩
    · unfold DataW.trod at h
      rw [ht] at h
      split at h <;> simp_all
      rename_i k' n hk
      obtain ⟨⟨rfl,hw⟩,_⟩:=h
      exact ⟨[.val (.int _ n)],.int ht hw,by simp [RepL,Rep]⟩
    · unfold DataW.trod at h
      rw [ht] at h
      split at h <;> simp_all
      rename_i b
      exact ⟨[.val (.bool b)],.bool ht,by simp [RepL,Rep]⟩
    · unfold DataW.trod at h
      rw [ht] at h
      split at h <;> simp_all
      rename_i s
      exact ⟨[.val (.string s)],.string ht h.1,by simp [RepL,Rep]⟩
    · rcases DataW.trod_slice ht h with ⟨rfl,_⟩ | ⟨a,len,cap,elems,rest,n,hn,rfl,_,_,hl,hc,hel,helem,_,_⟩
      · refine ⟨[.ro (some (some 0)) (P.cellsOf e) ([]:List (List AVal)).flatten],.slice ht (by simp) (by simp) (by simp),?_⟩
        simp only [RepL,Rep,and_true]
        exact ⟨none,0,0,rfl,hpos,by simp,⟨Nat.le_refl _,by simp⟩,(by intro n e;cases e;exact ⟨fun h=>(by cases h),.inl (by simp)⟩),.inl (by simp)⟩
      · have hn':n=fuel:=by omega
        subst hn'
        have hel2:∀ i,i<len→∃ cs As,W.cells? 0 (a.add (i * P.cellsOf e)) (P.cellsOf e)=some cs∧Shp P e As∧RepL (Cz.start W) As cs:=by
          intro i hi
          have h1:=helem i hi
          rw [List.getElem?_eq_getElem (by omega),Option.bind_eq_some_iff] at h1
          obtain ⟨cs,h2,h3⟩:=h1
          obtain ⟨As,h4,h5⟩:=ih e cs _ hge h3
          exact ⟨cs,As,h2,h4,h5⟩
        have hex:∃ xss:List (List AVal),xss.length=len∧∀ i As,xss[i]?=some As→∃ cs,W.cells? 0 (a.add (i * P.cellsOf e)) (P.cellsOf e)=some cs∧Shp P e As∧RepL (Cz.start W) As cs:=by
          have:∀ m,m≤len→∃ xss:List (List AVal),xss.length=m∧∀ i As,xss[i]?=some As→∃ cs,W.cells? 0 (a.add (i * P.cellsOf e)) (P.cellsOf e)=some cs∧Shp P e As∧RepL (Cz.start W) As cs:=by
            intro m
            induction m with
            | zero=>intro _;exact ⟨[],rfl,by simp⟩
            | succ m ihm =>
              intro hm
              obtain ⟨xss,h1,h2⟩:=ihm (by omega)
              obtain ⟨cs,As,h3,h4,h5⟩:=hel2 m (by omega)
              refine ⟨xss ++ [As],by simp [h1],fun i Bs hi=>?_⟩
              by_cases hlt:i<xss.length
              · rw [List.getElem?_append_left hlt] at hi;exact h2 i Bs hi
              · have hi2:=(List.getElem?_eq_some_iff.1 hi).1
                have:i=m:=by simp at hi2;omega
                subst this
                rw [List.getElem?_append_right (by omega),h1,Nat.sub_self] at hi
                simp only [List.getElem?_cons_zero,Option.some.injEq] at hi
                subst hi
                exact ⟨cs,h3,h4,h5⟩
          exact this len (Nat.le_refl _)
        obtain ⟨xss,hxl,hxs⟩:=hex
        have hlen:∀ (i:Nat) (As:List AVal),xss[i]?=some As→As.length=P.cellsOf e:=by
          intro i As hi
          obtain ⟨cs,h1,_,h2⟩:=hxs i As hi
          rw [h2.length]
          unfold World.cells? at h1
          simp only [Nat.zero_le,if_true] at h1
          rw [mapM_some_length h1,List.length_range]
        have hflat:xss.flatten.length=len * P.cellsOf e:=by
          rw [flat_len hlen,hxl]
        refine ⟨[.ro (some (some 0)) (P.cellsOf e) xss.flatten],.slice ht ?_ ?_ (by omega),?_⟩
        · intro xs hm
          obtain ⟨i,hi⟩:=List.getElem?_of_mem hm
          obtain ⟨_,_,h2,_⟩:=hxs i xs hi
          exact h2
        · intro xs hm
          obtain ⟨i,hi⟩:=List.getElem?_of_mem hm
          exact hlen i xs hi
        · simp only [RepL,Rep,and_true]
          have key:xss.flatten.length=0∨∃ b off,some a=some (⟨b,off,none⟩:Addr)∧(Cz.start W).imm b∧RepAt (Cz.start W) b off xss.flatten:=?_
          · refine ⟨some a,len,cap,rfl,hpos,hflat,⟨hl,hc⟩,?_,key⟩
            intro n e;cases e
            refine ⟨fun h=>(by cases h),?_⟩
            rcases key with h | ⟨b,off,h1,h2,_⟩
            · exact .inl h
            · exact .inr ⟨b,off,h1,h2.2.1⟩
          by_cases h0:len=0
          · left;rw [hflat,h0,Nat.zero_mul]
          · right
            obtain ⟨cs0,As0,h1,_,h2⟩:=hel2 0 (by omega)
            have hfirst:∃ v,W.cell? (a.add 0)=some v:=by
              unfold World.cells? at h1
              simp only [Nat.zero_le,if_true] at h1
              have h3:=mapM_some_length h1
              rw [List.length_range] at h3
              have h4:=mapM_some_get h1 0 0 (by rw [List.getElem?_range];exact hpos)
              rw [List.getElem?_eq_getElem (by omega)] at h4
              refine ⟨cs0[0]'(by omega),?_⟩
              rw [← h4];simp [Addr.add]
            obtain ⟨v,hv⟩:=hfirst
            obtain ⟨b,off,spot⟩:=a
            have hs:spot=none:=by simpa [Addr.add] using World.cell?_spot hv
            subst hs
            rw [addr_add,Nat.add_zero] at hv
            refine ⟨b,off,rfl,start_imm (cell_lt hv),RepAt.flatten (k:=P.cellsOf e) fun i As hi=>⟨hlen i As hi,?_⟩⟩
            obtain ⟨cs,h3,_,h4⟩:=hxs i As hi
            rw [addr_add] at h3
            exact cells_at rfl h3 h4
    · unfold DataW.trod at h
      rw [ht] at h
      simp only [] at h
      split at h
      · rename_i hlen
        simp only [Option.map_eq_some_iff] at h
        obtain ⟨xs,hxs,_⟩:=h
        have key:∀ (fl:List Field) (off:Nat) (ys:List (DataW H×List MemPlace)),(∀ f∈fl,good f.type=true)→contig P fl off (P.cellsOf t)=true →
            fl.mapM (fun f=>DataW.trod enc P W 0 sp held fuel f.type ((cs.drop f.offset).take (P.cellsOf f.type)))=some ys→off≤cs.length→∃ As,ShpF P fl As∧RepL (Cz.start W) As (cs.drop off):=by
          intro fl
          induction fl with
          | nil =>
            intro off ys _ hc _ _
            simp only [contig,beq_iff_eq] at hc
            refine ⟨[],.nil,?_⟩
            rw [List.drop_of_length_le (by omega)];simp [RepL]
          | cons f fl ihf =>
            intro off ys hg hc hm hoff
            simp only [contig,Bool.and_eq_true,beq_iff_eq] at hc
            obtain ⟨hc1,hc2⟩:=hc
            rw [List.mapM_cons] at hm
            simp only [Option.bind_eq_bind,Option.bind_eq_some_iff] at hm
            obtain ⟨y,hy,ys',hys,_⟩:=hm
            obtain ⟨As,hA,hR⟩:=ih f.type _ _ (hg f (by simp)) hy
            have hle:off+P.cellsOf f.type≤cs.length:=by
              have:∀ (fl:List Field) (o n:Nat),contig P fl o n=true→o≤n:=by
                intro fl
                induction fl with
                | nil=>intro o n h;simp only [contig,beq_iff_eq] at h;omega
                | cons g fl ihg =>
                  intro o n h
                  simp only [contig,Bool.and_eq_true] at h
                  have:=ihg _ _ h.2;omega
              have:=this _ _ _ hc2;omega
            obtain ⟨Bs,hB,hS⟩:=ihf (off+P.cellsOf f.type) ys' (fun g hgm=>hg g (by simp [hgm])) hc2 hys hle
            refine ⟨As ++ Bs,.cons hA hB,?_⟩
            rw [hc1] at hR
            have e:cs.drop off=(cs.drop off).take (P.cellsOf f.type) ++ cs.drop (off+P.cellsOf f.type):=by
              rw [← List.drop_drop,List.take_append_drop]
            rw [e]
            exact RepL.append hR hS
        obtain ⟨As,h1,h2⟩:=key fs.toList 0 xs hgf hcon hxs (Nat.zero_le _)
        exact ⟨As,.struct ht h1,by simpa using h2⟩
      · cases h
end
end Go.Ab
namespace Go.Ab
section
variable {H:Type} {enc:TypeId×Value→H} {P:Program}
def ArgShp (P:Program) (t:TypeId) (A:AVal):Prop:=Shp P t [A]∧(∀ fs,P.underlying t≠some (.struct fs))∨∃ As fs,P.underlying t=some (.struct fs)∧A=.st As∧Shp P t As
inductive ArgsShp (P:Program):List TypeId→List AVal→Prop where
  | nil:ArgsShp P [] []
  | cons {t:TypeId} {ts:List TypeId} {A:AVal} {As:List AVal}:ArgShp P t A→ArgsShp P ts As→ArgsShp P (t :: ts) (A :: As)
theorem start_below {W:World} {c1:Cz} (G:Good W (fun _=>False) c1):RowKit.Below W.heap.size W c1.w :=
  ⟨G.os,G.tape.1,G.output,G.size,fun k hk=>G.frame k hk (fun h=>h)⟩
theorem law_calls {W:World} {ts:List TypeId} {args:Array Value} {ds:List (DataW H)} {ps:List MemPlace}
    (hread:∀ (j:Nat) (t:TypeId) (v:Value) (d:DataW H) (p:List MemPlace),ts[j]?=some t→args[j]?=some v→DataW.Trod enc P W 0 (fun _=>true) true t v d p→∃ A,ArgShp P t A∧Rep (Cz.start W) A v)
    (hA:DataW.TrodAll enc P W 0 (fun _=>true) true ts args.toList ds ps):∃ As,ArgsShp P ts As∧RepL (Cz.start W) As args.toList:=by
  have key:∀ (ts':List TypeId) (vs:List Value) (off:Nat) (ds:List (DataW H)) (ps:List MemPlace),(∀ (i:Nat) t,ts'[i]?=some t→ts[off+i]?=some t)→(∀ (i:Nat) v,vs[i]?=some v→args[off+i]?=some v) →
      DataW.TrodAll enc P W 0 (fun _=>true) true ts' vs ds ps→∃ As,ArgsShp P ts' As∧RepL (Cz.start W) As vs:=by
    intro ts'
    induction ts' with
    | nil =>
      intro vs off ds ps _ _ h
      cases vs with
      | nil=>exact ⟨[],.nil,by simp [RepL]⟩
      | cons v vs=>cases ds <;> simp [DataW.TrodAll] at h
    | cons t ts' ih =>
      intro vs off ds ps ht hv h
      cases vs with
      | nil=>simp [DataW.TrodAll] at h
      | cons v vs =>
        cases ds with
        | nil=>simp [DataW.TrodAll] at h
        | cons d ds =>
          simp only [DataW.TrodAll] at h
          obtain ⟨p,q,h1,h2,_⟩:=h
          obtain ⟨A,hA,hR⟩:=hread off t v d p (by simpa using ht 0 t rfl) (by simpa using hv 0 v rfl) h1
          obtain ⟨As,hAs,hRs⟩:=ih vs (off+1) ds q (fun i t' ht'=>by have:=ht (i+1) t' (by simpa using ht');rw [← this];congr 1;omega)
            (fun i v' hv'=>by have:=hv (i+1) v' (by simpa using hv');rw [← this];congr 1;omega) h2
          exact ⟨A :: As,.cons hA hAs,by simp only [RepL];exact ⟨hR,hRs⟩⟩
  exact key ts args.toList 0 ds ps (fun i t h=>by simpa using h) (fun i v hv=>by simpa using hv) hA
def GoodTypes (P:Program) (good:TypeId→Bool):Prop:=∀ t,good t=true→(∃ k,P.underlying t=some (.int k))∨P.underlying t=some .bool∨P.underlying t=some .string ∨
  (∃ e,P.underlying t=some (.slice e)∧good e=true∧0<P.cellsOf e)∨∃ fs,P.underlying t=some (.struct fs)∧(∀ f∈fs.toList,good f.type=true)∧contig P fs.toList 0 (P.cellsOf t)=true
def goodOK (P:Program) (l:List TypeId):Bool:=l.all fun t=>match P.underlying t with
  | some (.int _)=>true
  | some .bool=>true
  | some .string=>true
  | some (.slice e)=>l.contains e && decide (0<P.cellsOf e)
  | some (.struct fs)=>fs.toList.all (fun f=>l.contains f.type) && contig P fs.toList 0 (P.cellsOf t)
  | _=>false
theorem good_of {l:List TypeId} (h:goodOK P l=true):GoodTypes P (fun t=>l.contains t):=by
  intro t ht
  unfold goodOK at h
  rw [List.all_eq_true] at h
  have h1:=h t (by simpa using ht)
  split at h1
  · rename_i k hk;exact .inl ⟨k,hk⟩
  · rename_i hk;exact .inr (.inl hk)
  · rename_i hk;exact .inr (.inr (.inl hk))
  · rename_i e hk
    simp only [Bool.and_eq_true,decide_eq_true_eq] at h1
    exact .inr (.inr (.inr (.inl ⟨e,hk,h1.1,h1.2⟩)))
  · rename_i fs hk
    simp only [Bool.and_eq_true,List.all_eq_true] at h1
    exact .inr (.inr (.inr (.inr ⟨fs,hk,h1.1,h1.2⟩)))
  · cases h1
theorem read_arg {W:World} {r:Reach} {base:Nat} {good:TypeId→Bool} (hgood:GoodTypes P good) {t:TypeId} (hg:good t=true) {v:Value} (hok:Value.okWide P W r base t v) {d:DataW H} {p:List MemPlace}
    (h:DataW.Trod enc P W 0 (fun _=>true) true t v d p):∃ A,ArgShp P t A∧Rep (Cz.start W) A v:=by
  obtain ⟨fuel,h⟩:=h
  obtain ⟨As,hS,hR⟩:=trod_rep good hgood fuel t _ _ hg h
  have one:(∀ cs,v≠.agg cs)→(∀ fs,P.underlying t≠some (.struct fs))→∃ A,ArgShp P t A∧Rep (Cz.start W) A v:=by
    intro hv hns
    have e:v.cells.toList=[v]:=by
      cases v with
      | agg cs=>exact absurd rfl (hv cs)
      | _=>rfl
    rw [e] at hR
    match As,hS,hR with
    | [A],hS,hR=>exact ⟨A,.inl ⟨hS,hns⟩,by simpa [RepL] using hR⟩
    | [],_,hR=>simp [RepL] at hR
    | _ :: _ :: _,_,hR=>simp [RepL] at hR
  rcases hgood t hg with ⟨k,ht⟩ | ht | ht | ⟨e,ht,_⟩ | ⟨fs,ht,_⟩
  · obtain ⟨n,rfl⟩:=WideShapes.okWide_int ht hok
    exact one (fun _ h=>by cases h) (fun fs h=>by rw [ht] at h;cases h)
  · obtain ⟨b,rfl,_⟩:=RowKit.open_bool ht hok ⟨fuel,h⟩
    exact one (fun _ h=>by cases h) (fun fs h=>by rw [ht] at h;cases h)
  · obtain ⟨s,rfl⟩:=WideShapes.okWide_string ht hok
    exact one (fun _ h=>by cases h) (fun fs h=>by rw [ht] at h;cases h)
  · obtain ⟨a,len,cap,rfl⟩:=WideShapes.okWide_slice ht hok
    exact one (fun _ h=>by cases h) (fun fs h=>by rw [ht] at h;cases h)
  · obtain ⟨cs,rfl,_⟩:=WideShapes.okWide_struct ht hok
    exact ⟨.st As,.inr ⟨As,fs,ht,rfl,hS⟩,by simp only [Rep];exact ⟨cs,rfl,hR⟩⟩
theorem law_true {W:World} {f:FuncId} {args:Array Value} {As:List AVal} (hcon:Fun P f As (bv true)) (hR:RepL (Cz.start W) As args.toList) :
    Calls P f args W fun e W'=>e=.returned (.bool true)∧RowKit.Below W.heap.size W W':=by
  have h:=hcon.2 (Cz.start W) (fun _=>False) args.toList (start_good W) (start_outHp W) hR
  have e:args.toList.toArray=args:=by simp
  rw [e] at h
  refine h.mono ?_
  rintro e W' ⟨v,c1,outs,rows,res,⟨_,_,rfl⟩,he,rfl,G,_,hrep,_⟩
  have:v=.bool true:=by simpa [Rep] using hrep
  subst this
  exact ⟨he,start_below G⟩
theorem below_all (hl:laidOutB P=true) {W W':World} (hb:RowKit.Below W.heap.size W W'):∀ (ts:List TypeId) (vs:List Value) (ds:List (DataW H)) (ps:List MemPlace),(∀ t∈ts,P.readableRec t=true∧t<P.types.size)→(∀ x∈ps,x.block<W.heap.size) →
    DataW.TrodAll enc P W 0 (fun _=>true) true ts vs ds ps→DataW.TrodAll enc P W' 0 (fun b=>decide (b<W.heap.size)) true ts vs ds ps
  | [],[],[],ps,_,_,h=>h
  | [],_ :: _,_,_,_,_,h=>by simp [DataW.TrodAll] at h
  | [],[],_ :: _,_,_,_,h=>by simp [DataW.TrodAll] at h
  | _ :: _,[],_,_,_,_,h=>by simp [DataW.TrodAll] at h
  | _ :: _,_ :: _,[],_,_,_,h=>by simp [DataW.TrodAll] at h
  | t :: ts,v :: vs,d :: ds,ps,hr,hlt,h=>by
    simp only [DataW.TrodAll] at h ⊢
    obtain ⟨p,q,h1,h2,rfl⟩:=h
    obtain ⟨r1,r2⟩:=hr t (by simp)
    exact ⟨p,q,RowKit.Below.trod hl r1 r2 h1 hb fun x hx=>hlt x (by simp [hx]),below_all hl hb ts vs ds q (fun t' ht=>hr t' (by simp [ht])) (fun x hx=>hlt x (by simp [hx])) h2,rfl⟩
theorem law_post {fn:Func} {s:ChangeSpec} {f:FuncId} {W:World} {args:Array Value} {ds gs:List (DataW H)} {before:List MemPlace} {tb:TypeId} {fresh handsOn:Bool} (hv:s.vars=[]) (hl:laidOutB P=true)
    (hr:∀ t∈fn.params.toList,P.readableRec t=true∧t<P.types.size) (hres:fn.resultTypes=#[tb]) (hb:P.underlying tb=some .bool)
    (hs:ds.length=fn.params.size→(s.fn H ds).results=[.lit (.bool true)]∧(s.fn H ds).args=ds∧(s.fn H ds).vars=[])
    (hW:DataW.Whole enc P fn.params.toList s.vars false W args.toList ds gs before)
    {good:TypeId→Bool} (hgood:GoodTypes P good) (hgp:∀ t∈fn.params.toList,good t=true) {base:Nat} (hval:∀ (j:Nat) t v,fn.params[j]?=some t→args[j]?=some v→Value.okWide P W .any base t v)
    (hcon:∀ As,ArgsShp P fn.params.toList As→Fun P f As (bv true)) :
    Calls P f args W fun e W'=>∃ v,e=.returned v∧s.post enc P fn false fresh handsOn false W args v W':=by
  have hW':=hW
  obtain ⟨p,q,hA,hV,rfl,_,_⟩:=hW
  rw [hv] at hV
  have hgs:gs=[]∧q=[]:=by
    cases gs with
    | nil=>exact ⟨rfl,hV⟩
    | cons g gs=>simp [DataW.TrodVars] at hV
  obtain ⟨rfl,rfl⟩:=hgs
  obtain ⟨As,h1,h2⟩:=law_calls (fun j t v d p ht hv h=>read_arg hgood (hgp t (List.mem_of_getElem? ht)) (hval j t v (by simpa using ht) hv) h) hA
  refine (law_true (hcon As h1) h2).mono ?_
  rintro e W' ⟨he,hbel⟩
  have hlen:ds.length=fn.params.size:=by
    have:=(trodAll_length hA).2
    simpa using this
  obtain ⟨s1,s2,s3⟩:=hs hlen
  refine ⟨_,he,ds,[],p ++ [],[],p,[],hW',?_,?_,?_,hbel.frame _,fun h=>by cases h⟩
  · rw [List.append_nil,s1,hres]
    exact trodAll_cons_mk (RowKit.shut_bool hb _) ChangeShapes.trodAll_mk0
  · rw [List.append_nil,s2]
    exact below_all hl hbel _ _ _ _ hr (fun x hx=>hA.lt x hx) hA
  · rw [List.append_nil,s3,hv];rfl
end
end Go.Ab
