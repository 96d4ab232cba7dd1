/- Contracts and what they lean on, part 6. Conditions: none. -/
import Derived.Test.YtmmpllmppgelgaaDoorChecked
import Derived.ChangeArms
import Derived.ChangeSlices
import Derived.Below
import Derived.Carry
import Derived.ChangeOld
import Derived.OpenShut
import Derived.ChangeCalls
import Derived.RowKit
import Derived.Sort.Grow
import Derived.Test.YtmmpllmppgelgaaDoorZ5
set_option maxRecDepth 100000
set_option maxHeartbeats 4000000
set_option linter.all false
open Nat renaming reduceLeDiff → xx0, reduceMul → xx1, reduceSub → xx2, reduceEqDiff → xx3, reduceAdd → xx4, reduceLT → xx5
open Int renaming reduceToNat → xx6, reduceNeg → xx7, reduceLE → xx8, reduceLT → xx9
namespace Go.Ab
open Go.Proofs
theorem mixed:Tryd.prog.follows .mixedOrders=true:=by kernel_rfl
abbrev n_main_main:FuncId:=0
abbrev n_gosem_cut:FuncId:=1
abbrev n_gosem_cut_init:FuncId:=2
abbrev nzcr:FuncId:=3
abbrev nz4v:FuncId:=4
abbrev nzcs:FuncId:=5
abbrev nzct:FuncId:=6
abbrev nzcu:FuncId:=7
abbrev nzcv:FuncId:=8
abbrev nzcw:FuncId:=9
abbrev nzcx:FuncId:=10
abbrev nz1z:FuncId:=11
abbrev nz20:FuncId:=12
abbrev nz21:FuncId:=13
abbrev nzu:FuncId:=14
abbrev nzv:FuncId:=15
abbrev nz22:FuncId:=16
abbrev nzw:FuncId:=17
abbrev nz23:FuncId:=18
abbrev nz24:FuncId:=19
abbrev nz25:FuncId:=20
abbrev nzcy:FuncId:=21
abbrev nzcz:FuncId:=22
abbrev nzd0:FuncId:=23
abbrev nzd1:FuncId:=24
abbrev nzd2:FuncId:=25
abbrev nzd3:FuncId:=26
abbrev nzd4:FuncId:=27
abbrev nzd5:FuncId:=28
abbrev nzd6:FuncId:=29
abbrev nzx:FuncId:=30
abbrev nz26:FuncId:=31
abbrev nz27:FuncId:=32
abbrev nzd7:FuncId:=33
abbrev nzy:FuncId:=34
abbrev nzz:FuncId:=35
abbrev nz10:FuncId:=36
abbrev nzc:FuncId:=37
abbrev nz0:FuncId:=38
abbrev nzd:FuncId:=39
abbrev nze:FuncId:=40
abbrev nzf:FuncId:=41
abbrev nz11:FuncId:=42
abbrev nzg:FuncId:=43
abbrev nz28:FuncId:=44
abbrev nz29:FuncId:=45
abbrev nzd8:FuncId:=46
abbrev nzd9:FuncId:=47
abbrev nzda:FuncId:=48
abbrev nzdb:FuncId:=49
abbrev nzdc:FuncId:=50
abbrev nz2a:FuncId:=51
abbrev nzdd:FuncId:=52
abbrev nzde:FuncId:=53
abbrev nzdf:FuncId:=54
abbrev nzdg:FuncId:=55
abbrev nzh:FuncId:=56
abbrev nzdh:FuncId:=57
abbrev nzdi:FuncId:=58
abbrev nzdj:FuncId:=59
abbrev nzi:FuncId:=60
abbrev nz2b:FuncId:=61
abbrev nzdk:FuncId:=62
abbrev nz2c:FuncId:=63
abbrev nz2d:FuncId:=64
abbrev nzdl:FuncId:=65
abbrev nz2e:FuncId:=66
abbrev nz4:FuncId:=67
abbrev nz2f:FuncId:=68
abbrev nz12:FuncId:=69
abbrev nz13:FuncId:=70
abbrev nzdm:FuncId:=71
abbrev nz2g:FuncId:=72
abbrev nz14:FuncId:=73
abbrev nzdn:FuncId:=74
abbrev nzdo:FuncId:=75
abbrev n_internal_stringslite_Cut:FuncId:=76
abbrev n_internal_strconv_ParseInt:FuncId:=77
abbrev nzdp:FuncId:=78
abbrev nzdq:FuncId:=79
abbrev nzdr:FuncId:=80
abbrev nz2h:FuncId:=81
abbrev n_internal_strconv_FormatInt:FuncId:=82
abbrev nz2i:FuncId:=83
abbrev nz2j:FuncId:=84
abbrev nza:FuncId:=85
abbrev nzds:FuncId:=86
abbrev nzdt:FuncId:=87
abbrev nzdu:FuncId:=88
abbrev nz2k:FuncId:=89
abbrev n_internal_stringslite_Index:FuncId:=90
abbrev n_internal_strconv_ParseUint:FuncId:=91
abbrev nzdv:FuncId:=92
abbrev nzdw:FuncId:=93
abbrev nzdx:FuncId:=94
abbrev nzdy:FuncId:=95
abbrev n_internal_strconv_small:FuncId:=96
abbrev n_internal_strconv_numDigits:FuncId:=97
abbrev n_internal_strconv_formatBase10:FuncId:=98
abbrev n_internal_strconv_formatBits:FuncId:=99
abbrev nz2l:FuncId:=100
abbrev nzj:FuncId:=101
abbrev nz2m:FuncId:=102
abbrev n_unicode_utf8_RuneCountInString:FuncId:=103
abbrev n_unicode_utf8_DecodeRuneInString:FuncId:=104
abbrev n_internal_bytealg_CountString:FuncId:=105
abbrev n_internal_stringslite_IndexByte:FuncId:=106
abbrev n_internal_bytealg_IndexString:FuncId:=107
abbrev n_internal_bytealg_Cutover:FuncId:=108
abbrev n_internal_bytealg_IndexRabinKarp_S:FuncId:=109
abbrev n_internal_strconv_lower:FuncId:=110
abbrev n_internal_strconv_underscoreOK:FuncId:=111
abbrev n_internal_stringslite_Clone:FuncId:=112
abbrev n_errors_New:FuncId:=113
abbrev nzdz:FuncId:=114
abbrev n_internal_strconv_log10Pow2:FuncId:=115
abbrev n_math_bits_Len64:FuncId:=116
abbrev n_internal_strconv_bool2_int:FuncId:=117
abbrev n_internal_strconv_isPowerOfTwo:FuncId:=118
abbrev n_math_bits_TrailingZeros:FuncId:=119
abbrev n_unicode_utf8_decodeRuneInStringSlow:FuncId:=120
abbrev n_internal_bytealg_IndexByteString:FuncId:=121
abbrev n_internal_bytealg_hashStr_S:FuncId:=122
abbrev n_internal_strconv_Itoa:FuncId:=123
abbrev n_math_bits_TrailingZeros32:FuncId:=124
abbrev n_math_bits_TrailingZeros64:FuncId:=125
abbrev n_runtime_boundsError_Error:FuncId:=126
abbrev n_runtime_boundsError_RuntimeError:FuncId:=127
abbrev n_runtime_errorString_Error:FuncId:=128
abbrev n_runtime_errorString_RuntimeError:FuncId:=129
abbrev n_runtime_plainError_Error:FuncId:=130
abbrev n_runtime_plainError_RuntimeError:FuncId:=131
abbrev n_runtime_errorAddressString_Error:FuncId:=132
abbrev n_runtime_errorAddressString_RuntimeError:FuncId:=133
abbrev n_runtime_TypeAssertionError_Error:FuncId:=134
abbrev n_runtime_TypeAssertionError_RuntimeError:FuncId:=135
abbrev n_runtime_PanicNilError_Error:FuncId:=136
abbrev n_runtime_PanicNilError_RuntimeError:FuncId:=137
abbrev n_internal_abi_Type_Align:FuncId:=138
abbrev n_internal_runtime_maps_unhashableTypeError_Error:FuncId:=139
abbrev n_internal_runtime_maps_unhashableTypeError_RuntimeError:FuncId:=140
abbrev nze0:FuncId:=141
abbrev nze1:FuncId:=142
abbrev n_internal_strconv_Error_Error:FuncId:=143
abbrev nze2:FuncId:=144
abbrev n_errors_errorString_Error:FuncId:=145
abbrev n_internal_abi_Kind_String:FuncId:=146
abbrev n_var_s_door_gosem_cut_vars_holds_initialisers_alone_see_the_manifest_s_row_cutvarsword_look_11_test_files_too:FuncId:=147
abbrev n_var_s_door_internal_strconv_uint64pow10_is_laid_by_its_own_initialiser_plain_data_look_11:FuncId:=148
abbrev n_var_s_door_math_bits_deBruijn32tab_is_laid_by_its_own_initialiser_plain_data_look_11:FuncId:=149
abbrev n_var_s_door_math_bits_deBruijn64tab_is_laid_by_its_own_initialiser_plain_data_look_11:FuncId:=150
abbrev n_var_s_door_strconv_ErrRange_is_laid_by_its_own_call_of_errors_New_on_one_literal_look_11:FuncId:=151
abbrev n_var_s_door_strconv_ErrSyntax_is_laid_by_its_own_call_of_errors_New_on_one_literal_look_11:FuncId:=152
abbrev n_var_s_door_the_look_of_gosem_cut_vars_went_over_the_folder_that_the_caller_named_as_the_repository_s_root_look_11:FuncId:=153
abbrev n_var_s_door_unicode_utf8_acceptRanges_is_laid_by_its_own_initialiser_plain_data_look_11:FuncId:=154
abbrev n_var_s_door_unicode_utf8_first_is_laid_by_its_text_alone_pinned_1:FuncId:=155
abbrev n_gosem_cut_vars:FuncId:=156
def Bz4w:AC:=(.kp [0,1,16] [5000,5001] (.dn (.cond (.t 16) (.seq (.reg false [⟨(some 4),none,.i (.mov (.c (.bool true)))⟩]) (.dn .ret)) .skip)))
def Bz4x:AC:=(.kp [5,6,7,57] [5,18,21,26,32,5000,5001] (.dn (.cond (.t 57) (.seq (.reg false [⟨(some 4),none,.i (.mov (.c (.bool false)))⟩]) (.dn .ret)) .skip)))
def Bz4y:AC:=(.kp [5,6,13] [5,18,21,64,5000,5001] (.dn (.seq (.reg false [⟨(some 67),none,.i (.mov (.t 13))⟩,⟨(some 68),none,.i (.bin .eql (.t 67) (.c (.int .i64 5)))⟩,⟨(some 69),none,.i (.mov (.t 68))⟩,⟨(some 70),(some (69,true)),.i (.lda 2 (.t 5))⟩,⟨(some 71),(some (69,true)),.i (.mov (.t 6))⟩,⟨(some 72),(some (69,true)),.call nz25 [(.t 70),(.t 71)]⟩,⟨(some 73),none,.i (.pick (.t 69) (.t 72) (.c (.bool false)))⟩,⟨(some 4),none,.i (.mov (.t 73))⟩]) (.dn .ret))))
def Bz4z:AC:=(.kp [5,6,7] [5,18,21,5000,5001] (.dn (.seq (.reg false [⟨(some 59),none,.i (.mov (.t 7))⟩,⟨(some 60),none,.i (.mov (.t 7))⟩,⟨(some 61),none,.i (.lens (.t 60))⟩,⟨(some 62),none,.i (.bin .sub (.t 61) (.c (.int .i64 1)))⟩,⟨(some 63),none,.i (.sls (.t 59) none (some (.t 62)))⟩,⟨(some 64),none,.call nzv [(.t 63)]⟩,⟨(some 58),none,.i (.mov (.t 64))⟩,⟨(some 65),none,.i (.ext 0 (.t 58))⟩,⟨(some 66),none,.i (.ext 1 (.t 58))⟩,⟨(some 12),none,.i (.new [.int .i64 0,.slice none 0 0])⟩,⟨none,none,.i (.sto 2 (.t 12) (.t 65))⟩,⟨(some 13),none,.i (.mov (.t 66))⟩]) Bz4y)))
def Bz50:AC:=(.kp [5,6,7,8,9,10,11] [5,8,18,21,26,32,5000,5001] (.dn (.seq (.seq (.reg false [⟨(some 35),none,.i (.mov (.t 9))⟩,⟨(some 36),none,.i (.bin .neq (.t 35) (.c (.int .i64 0)))⟩,⟨(some 37),none,.i (.mov (.t 36))⟩,⟨(some 38),(some (37,false)),.i (.mov (.t 11))⟩,⟨(some 39),(some (37,false)),.i (.bin .neq (.t 38) (.c (.int .i64 0)))⟩,⟨(some 40),none,.i (.pick (.t 37) (.c (.bool true)) (.t 39))⟩,⟨(some 41),none,.i (.mov (.t 40))⟩,⟨(some 42),(some (41,false)),.i (.mov (.t 7))⟩,⟨(some 43),(some (41,false)),.i (.lens (.t 42))⟩,⟨(some 44),(some (41,false)),.i (.bin .lss (.t 43) (.c (.int .i64 1)))⟩,⟨(some 45),none,.i (.pick (.t 41) (.c (.bool true)) (.t 44))⟩,⟨(some 46),none,.i (.mov (.t 45))⟩,⟨(some 47),(some (46,false)),.i (.lda 2 (.t 5))⟩,⟨(some 48),(some (46,false)),.i (.lda 2 (.t 8))⟩,⟨(some 49),(some (46,false)),.call nz23 [(.t 47),(.t 48)]⟩,⟨(some 50),(some (46,false)),.i (.un .not (.t 49))⟩,⟨(some 51),none,.i (.pick (.t 46) (.c (.bool true)) (.t 50))⟩,⟨(some 52),none,.i (.mov (.t 51))⟩,⟨(some 53),(some (52,false)),.i (.mov (.t 10))⟩,⟨(some 54),(some (52,false)),.i (.mov (.t 6))⟩,⟨(some 55),(some (52,false)),.call nz24 [(.t 53),(.t 54)]⟩,⟨(some 56),(some (52,false)),.i (.un .not (.t 55))⟩,⟨(some 57),none,.i (.pick (.t 52) (.c (.bool true)) (.t 56))⟩]) Bz4x) Bz4z)))
def Bz51:AC:=(.kp [5,6,7,8,9] [5,8,18,21,26,5000,5001] (.dn (.seq (.reg false [⟨(some 30),none,.i (.mov (.t 6))⟩,⟨(some 31),none,.call nzw [(.t 30)]⟩,⟨(some 32),none,.call nz22 [(.t 31)]⟩,⟨(some 29),none,.i (.mov (.t 32))⟩,⟨(some 33),none,.i (.ext 0 (.t 29))⟩,⟨(some 34),none,.i (.ext 1 (.t 29))⟩,⟨(some 10),none,.i (.mov (.t 33))⟩,⟨(some 11),none,.i (.mov (.t 34))⟩]) Bz50)))
def Bz52:AC:=(.kp [5,6,7] [5,18,21,5000,5001] (.dn (.seq (.reg false [⟨(some 25),none,.i (.mov (.t 7))⟩,⟨(some 26),none,.call nzv [(.t 25)]⟩,⟨(some 24),none,.i (.mov (.t 26))⟩,⟨(some 27),none,.i (.ext 0 (.t 24))⟩,⟨(some 28),none,.i (.ext 1 (.t 24))⟩,⟨(some 8),none,.i (.new [.int .i64 0,.slice none 0 0])⟩,⟨none,none,.i (.sto 2 (.t 8) (.t 27))⟩,⟨(some 9),none,.i (.mov (.t 28))⟩]) Bz51)))
def Bz53:AC:=(.kp [5,6] [5,18,21,5000,5001] (.dn (.seq (.reg false [⟨(some 22),none,.i (.lda 2 (.t 5))⟩,⟨(some 23),none,.call nzu [(.t 22)]⟩,⟨(some 7),none,.i (.mov (.t 23))⟩]) Bz52)))
def Bz54:AC:=(.kp [1,5] [5,18,5000,5001] (.dn (.seq (.reg false [⟨(some 19),none,.i (.mov (.t 1))⟩,⟨(some 20),none,.i (.lda 2 (.t 5))⟩,⟨(some 21),none,.call nz21 [(.t 19),(.t 20)]⟩,⟨(some 6),none,.i (.mov (.t 21))⟩]) Bz53)))
def Bz55:AC:=(.kp [0,1] [5000,5001] (.dn (.seq (.reg false [⟨(some 17),none,.i (.mov (.t 0))⟩,⟨(some 18),none,.call nz20 [(.t 17)]⟩,⟨(some 5),none,.i (.new [.int .i64 0,.slice none 0 0])⟩,⟨none,none,.i (.sto 2 (.t 5) (.t 18))⟩]) Bz54)))
def Bz56:AC:=(.kp [0,1] [5000,5001] (.dn (.seq (.seq (.reg false [⟨(some 14),none,.i (.mov (.t 0))⟩,⟨(some 15),none,.i (.mov (.t 1))⟩,⟨(some 16),none,.call nz1z [(.t 14),(.t 15)]⟩]) Bz4w) Bz55)))
def Az57:AFn:=⟨74,2,(.seq (.reg false [⟨(some 4),none,.i (.mov (.c (.bool false)))⟩]) Bz56),[.tmp 4]⟩
theorem czbj:cFn (drV none) Tryd.prog nz4v Az57:=⟨_,_,Tryd.func4,rfl,by kernel_rfl,by decide,rfl,by kernel_rfl,by kernel_rfl⟩
def Bz58:AC:=(.kp [0,1] [5000,5001] (.dn (.seq (.reg false [⟨(some 5),none,.i (.mov (.t 0))⟩,⟨(some 6),none,.i (.len (.t 5))⟩,⟨(some 7),none,.i (.bin .gtr (.t 6) (.c (.int .i64 3000)))⟩,⟨(some 8),none,.i (.mov (.t 7))⟩,⟨(some 9),(some (8,false)),.i (.mov (.t 1))⟩,⟨(some 10),(some (8,false)),.i (.len (.t 9))⟩,⟨(some 11),(some (8,false)),.i (.bin .gtr (.t 10) (.c (.int .i64 3000)))⟩,⟨(some 12),none,.i (.pick (.t 8) (.c (.bool true)) (.t 11))⟩,⟨(some 4),none,.i (.mov (.t 12))⟩]) (.dn .ret))))
def Az59:AFn:=⟨13,2,(.seq (.reg false [⟨(some 4),none,.i (.mov (.c (.bool false)))⟩]) Bz58),[.tmp 4]⟩
theorem czbk:cFn (drV none) Tryd.prog nz1z Az59:=⟨_,_,Tryd.func11,rfl,by kernel_rfl,by decide,rfl,by kernel_rfl,by kernel_rfl⟩
def Bz15:AC:=(.kp [2,4,14] [2,4,6,8,16,5000] (.dn (.cond (.t 14) (.seq (.reg false [⟨(some 15),none,.i (.lda 2 (.t 4))⟩,⟨none,none,.i (.sto 2 (.t 2) (.t 15))⟩]) (.dn .ret)) .skip)))
def Bz2n:AC:=(.kp [2] [2,4,6,8,16,5000] (.dn (.seq (.reg false [⟨(some 16),none,.call nzc [(.c (.int .i64 4))]⟩,⟨none,none,.i (.sto 2 (.t 2) (.t 16))⟩]) (.dn .ret))))
def Bz5a:AC:=(.kp [2,4] [2,4,6,8,16,5000] (.dn (.seq (.seq (.reg false [⟨(some 9),none,.call nz10 [(.t 4)]⟩,⟨(some 10),none,.i (.mov (.t 9))⟩,⟨(some 11),(some (10,true)),.i (.fad 0 (.t 4))⟩,⟨(some 12),(some (10,true)),.i (.ld (.t 11))⟩,⟨(some 13),(some (10,true)),.i (.bin .leq (.t 12) (.c (.int .i64 7)))⟩,⟨(some 14),none,.i (.pick (.t 10) (.t 13) (.c (.bool false)))⟩]) Bz15) Bz2n)))
def Bz5b:AC:=(.kp [2,3] [2,4,6,8,16,5000] (.dn (.seq (.reg false [⟨(some 7),none,.i (.mov (.t 3))⟩,⟨(some 8),none,.call nzz [(.t 7)]⟩,⟨(some 4),none,.i (.new [.int .i64 0,.slice none 0 0])⟩,⟨none,none,.i (.sto 2 (.t 4) (.t 8))⟩]) Bz5a)))
def Bz5c:AC:=(.kp [0,2] [2,4,6,8,16,5000] (.dn (.seq (.reg false [⟨(some 5),none,.i (.mov (.t 0))⟩,⟨(some 6),none,.call nzy [(.t 5)]⟩,⟨(some 3),none,.i (.mov (.t 6))⟩]) Bz5b)))
def Azk:AFn:=⟨17,1,(.seq (.reg false [⟨(some 2),none,.i (.new [.int .i64 0,.slice none 0 0])⟩]) Bz5c),[.cell (some 2) 2]⟩
theorem czbl:cFn (drV none) Tryd.prog nz20 Azk:=⟨_,_,Tryd.func12,rfl,by kernel_rfl,by decide,rfl,by kernel_rfl,by kernel_rfl⟩
def Bz5d:AC:=(.kp [3,5,6,7,14] [3,9,10,24,5000,5001] (.dn (.cond (.t 14) .skip (.exit 0))))
def Bz5e:AC:=(.kp [3,5,6,7] [3,9,10,24,5000,5001] (.dn (.reg false [⟨(some 15),none,.i (.mov (.t 7))⟩,⟨(some 16),none,.i (.bin .sub (.t 15) (.c (.int .i64 1)))⟩,⟨(some 7),none,.i (.mov (.t 16))⟩])))
def Bz5f:AC:=(.kp [3,5,6,7] [3,9,10,24,5000,5001] (.dn (.seq (.block 1 (.reg false [⟨(some 17),none,.i (.mov (.t 6))⟩,⟨(some 18),none,.i (.mov (.t 5))⟩,⟨(some 19),none,.i (.fad 1 (.t 3))⟩,⟨(some 20),none,.i (.ld (.t 19))⟩,⟨(some 21),none,.i (.len (.t 20))⟩,⟨(some 22),none,.call nz0 [(.t 18),(.t 21)]⟩,⟨(some 23),none,.i (.bsl 1 false [(.t 22)])⟩,⟨(some 24),none,.i (.app 1 8 (.t 17) (.t 23))⟩,⟨(some 6),none,.i (.mov (.t 24))⟩])) Bz5e)))
def Bz5g:AC:=(.kp [3,5,6,7] [3,9,10,24,5000,5001] (.dn (.seq (.seq (.reg false [⟨(some 13),none,.i (.mov (.t 7))⟩,⟨(some 14),none,.i (.bin .gtr (.t 13) (.c (.int .i64 0)))⟩]) Bz5d) Bz5f)))
def Bz5h:AC:=(.kp [3,5,6,7] [3,9,10,24,5000,5001] (.dn (.block 0 (.loop Bz5g))))
def Bz5i:AC:=(.kp [6] [10,24,5000,5001] (.dn (.seq (.reg false [⟨(some 25),none,.i (.mov (.t 6))⟩,⟨(some 4),none,.i (.mov (.t 25))⟩]) (.dn .ret))))
def Bz5j:AC:=(.kp [3,5,6] [3,9,10,24,5000,5001] (.dn (.seq (.seq (.reg false [⟨(some 11),none,.i (.mov (.t 5))⟩,⟨(some 12),none,.call nz0 [(.t 11),(.c (.int .i64 9))]⟩,⟨(some 7),none,.i (.mov (.t 12))⟩]) Bz5h) Bz5i)))
def Bz5k:AC:=(.kp [3,5] [3,9,5000,5001] (.dn (.seq (.reg false [⟨(some 10),none,.i (.bsl 1 false [])⟩,⟨(some 6),none,.i (.mov (.t 10))⟩]) Bz5j)))
def Bz5l:AC:=(.kp [0,3] [3,5000,5001] (.dn (.seq (.reg false [⟨(some 8),none,.i (.mov (.t 0))⟩,⟨(some 9),none,.call nzy [(.t 8)]⟩,⟨(some 5),none,.i (.mov (.t 9))⟩]) Bz5k)))
def Az5m:AFn:=⟨26,2,(.seq (.reg false [⟨(some 3),none,.i (.box (.t 1))⟩,⟨(some 4),none,.i (.mov (.c (.slice none 0 0)))⟩]) Bz5l),[.tmp 4]⟩
theorem czbm:cFn (drV none) Tryd.prog nz21 Az5m:=⟨_,_,Tryd.func13,rfl,by kernel_rfl,by decide,rfl,by kernel_rfl,by kernel_rfl⟩
def Bz2o:AC:=(.kp [1,8] [1,5000] (.dn (.cond (.t 8) (.seq (.reg false [⟨(some 2),none,.i (.mov (.c (.string (ByteArray.mk #[]))))⟩]) (.dn .ret)) .skip)))
def Bz5n:AC:=(.kp [3,5,16,17,18] [1,5000] (.dn (.reg false [⟨(some 22),none,.i (.mov (.t 3))⟩,⟨(some 23),none,.i (.mov (.t 5))⟩,⟨(some 24),none,.call nzx [(.c (.string (ByteArray.mk #[108,101,116,116,101,114]))),(.t 23)]⟩,⟨(some 25),none,.i (.bin .add (.t 22) (.t 24))⟩,⟨(some 3),none,.i (.mov (.t 25))⟩])))
def Bz5o:AC:=(.kp [3,16,17,18] [1,5000] (.dn (.reg false [⟨(some 26),none,.i (.bin .add (.t 18) (.c (.int .i64 1)))⟩,⟨(some 18),none,.i (.mov (.t 26))⟩])))
def Bz5p:AC:=(.kp [3,16,17,18] [1,5000] (.dn (.seq (.block 1 (.seq (.reg false [⟨(some 20),none,.i (.iad 1 (.t 16) (.t 18))⟩,⟨(some 21),none,.i (.ld (.t 20))⟩,⟨(some 5),none,.i (.mov (.t 21))⟩]) Bz5n)) Bz5o)))
def Bz2p:AC:=(.kp [3,16,17,18,19] [1,5000] (.dn (.seq (.cond (.t 19) .skip (.exit 0)) Bz5p)))
def Bz16:AC:=(.kp [3,16,17,18] [1,5000] (.dn (.seq (.reg false [⟨(some 19),none,.i (.bin .lss (.t 18) (.t 17))⟩]) Bz2p)))
def Bz5q:AC:=(.kp [3,16,17,18] [1,5000] (.dn (.block 0 (.loop Bz16))))
def Bz5r:AC:=(.kp [3] [5000] (.dn (.seq (.reg false [⟨(some 27),none,.i (.mov (.t 3))⟩,⟨(some 2),none,.i (.mov (.t 27))⟩]) (.dn .ret))))
def Bz5s:AC:=(.kp [1,3] [1,5000] (.dn (.seq (.seq (.reg false [⟨(some 15),none,.i (.fad 1 (.t 1))⟩,⟨(some 16),none,.i (.ld (.t 15))⟩,⟨(some 17),none,.i (.len (.t 16))⟩,⟨(some 18),none,.i (.mov (.c (.int .i64 0)))⟩]) Bz5q) Bz5r)))
def Bz2q:AC:=(.kp [1] [1,5000] (.dn (.seq (.reg true [⟨(some 9),none,.i (.fad 0 (.t 1))⟩,⟨(some 10),none,.i (.ld (.t 9))⟩,⟨(some 11),none,.i (.lda 2 (.t 1))⟩,⟨(some 12),none,.call nze [(.t 11)]⟩,⟨(some 13),none,.i (.bsl 1 false [(.t 10),(.t 12)])⟩,⟨(some 14),none,.calh nzx [(.c (.string (ByteArray.mk #[97,117,116,111,109,97,116,111,110]))),(.t 13)]⟩,⟨(some 3),none,.i (.mov (.t 14))⟩]) Bz5s)))
def Bz5t:AC:=(.kp [1] [1,5000] (.dn (.seq (.seq (.reg false [⟨(some 6),none,.i (.lda 2 (.t 1))⟩,⟨(some 7),none,.call nzd [(.t 6)]⟩,⟨(some 8),none,.i (.un .not (.t 7))⟩]) Bz2o) Bz2q)))
def Az5u:AFn:=⟨28,1,(.seq (.reg false [⟨(some 1),none,.i (.box (.t 0))⟩,⟨(some 2),none,.i (.mov (.c (.string (ByteArray.mk #[]))))⟩]) Bz5t),[.tmp 2]⟩
theorem czbn:cFn (drV none) Tryd.prog nzu Az5u:=⟨_,_,Tryd.func14,rfl,by kernel_rfl,by decide,rfl,by kernel_rfl,by kernel_rfl⟩
def Bz5v:AC:=(.kp [0,2,11] [2,6,14,18,41,5000] (.dn (.cond (.t 11) (.seq (.reg false [⟨(some 12),none,.i (.bst [.int .i64 0,.slice none 0 0] [])⟩,⟨none,none,.i (.sto 2 (.t 2) (.t 12))⟩,⟨(some 3),none,.i (.mov (.c (.int .i64 2)))⟩]) (.dn .ret)) .skip)))
def Bz5w:AC:=(.kp [0,2,4,5,6,22] [2,6,14,18,41,5000] (.dn (.cond (.t 22) (.reg false [⟨(some 23),none,.i (.mov (.t 5))⟩,⟨(some 24),none,.i (.iad 1 (.t 23) (.c (.int .i64 0)))⟩,⟨(some 25),none,.i (.ld (.t 24))⟩,⟨(some 26),none,.i (.fad 0 (.t 6))⟩,⟨none,none,.i (.sto 1 (.t 26) (.t 25))⟩]) .skip)))
def Bz2r:AC:=(.kp [0,2,6,8,28,29,30,35] [2,6,14,18,41,5000] (.dn (.cond (.t 35) (.reg true [⟨(some 36),none,.i (.fadb 1 (.t 6))⟩,⟨(some 37),none,.i (.ldb (.t 36))⟩,⟨(some 38),none,.i (.mov (.t 8))⟩,⟨(some 39),none,.call nz11 [(.t 38)]⟩,⟨(some 40),none,.i (.bsln [] 1 [(.t 39)])⟩,⟨(some 41),none,.i (.app 1 24 (.t 37) (.t 40))⟩,⟨(some 42),none,.i (.fad 1 (.t 6))⟩,⟨none,none,.i (.sto 1 (.t 42) (.t 41))⟩]) .skip)))
def Bz2s:AC:=(.kp [0,2,6,8,28,29,30] [2,6,14,18,41,5000] (.dn (.seq (.reg false [⟨(some 34),none,.i (.mov (.t 8))⟩,⟨(some 35),none,.i (.bin .neq (.t 34) (.c (.string (ByteArray.mk #[]))))⟩]) Bz2r)))
def Bz2t:AC:=(.kp [0,2,6,28,29,30] [2,6,14,18,41,5000] (.dn (.reg false [⟨(some 43),none,.i (.bin .add (.t 30) (.c (.int .i64 1)))⟩,⟨(some 30),none,.i (.mov (.t 43))⟩])))
def Bz5x:AC:=(.kp [0,2,6,28,29,30] [2,6,14,18,41,5000] (.dn (.seq (.block 1 (.seq (.reg false [⟨(some 32),none,.i (.iad 1 (.t 28) (.t 30))⟩,⟨(some 33),none,.i (.ld (.t 32))⟩,⟨(some 8),none,.i (.mov (.t 33))⟩]) Bz2s)) Bz2t)))
def Bz2u:AC:=(.kp [0,2,6,28,29,30,31] [2,6,14,18,41,5000] (.dn (.seq (.cond (.t 31) .skip (.exit 0)) Bz5x)))
def Bz17:AC:=(.kp [0,2,6,28,29,30] [2,6,14,18,41,5000] (.dn (.seq (.reg false [⟨(some 31),none,.i (.bin .lss (.t 30) (.t 29))⟩]) Bz2u)))
def Bz5y:AC:=(.kp [0,2,6,28,29,30] [2,6,14,18,41,5000] (.dn (.ad 6 1 41 1 (.block 0 (.loop Bz17)))))
def Bz2v:AC:=(.kp [2,6,52] [2,6,14,18,41,5000] (.dn (.cond (.t 52) (.seq (.reg false [⟨(some 53),none,.i (.bst [.int .i64 0,.slice none 0 0] [])⟩,⟨none,none,.i (.sto 2 (.t 2) (.t 53))⟩,⟨(some 3),none,.i (.mov (.c (.int .i64 5)))⟩]) (.dn .ret)) .skip)))
def Bz5z:AC:=(.kp [2,6] [2,6,14,18,41,5000] (.dn (.seq (.reg false [⟨(some 54),none,.i (.lda 2 (.t 6))⟩,⟨none,none,.i (.sto 2 (.t 2) (.t 54))⟩,⟨(some 3),none,.i (.mov (.c (.int .i64 0)))⟩]) (.dn .ret))))
def Bz60:AC:=(.kp [0,2,6] [2,6,14,18,41,5000] (.dn (.seq (.seq (.reg false [⟨(some 44),none,.i (.lda 2 (.t 6))⟩,⟨(some 45),none,.call nzd [(.t 44)]⟩,⟨(some 46),none,.i (.un .not (.t 45))⟩,⟨(some 47),none,.i (.mov (.t 46))⟩,⟨(some 48),(some (47,false)),.i (.lda 2 (.t 6))⟩,⟨(some 49),(some (47,false)),.call nzu [(.t 48)]⟩,⟨(some 50),(some (47,false)),.i (.mov (.t 0))⟩,⟨(some 51),(some (47,false)),.i (.bin .neq (.t 49) (.t 50))⟩,⟨(some 52),none,.i (.pick (.t 47) (.c (.bool true)) (.t 51))⟩]) Bz2v) Bz5z)))
def Bz61:AC:=(.kp [0,2,4,6] [2,6,14,18,41,5000] (.dn (.seq (.seq (.reg false [⟨(some 27),none,.i (.mov (.t 4))⟩,⟨(some 28),none,.i (.slc 1 (.t 27) (some (.c (.int .i64 1))) none)⟩,⟨(some 29),none,.i (.len (.t 28))⟩,⟨(some 30),none,.i (.mov (.c (.int .i64 0)))⟩]) Bz5y) Bz60)))
def Bz62:AC:=(.kp [0,2,4,5,6] [2,6,14,18,41,5000] (.dn (.seq (.seq (.reg false [⟨(some 20),none,.i (.mov (.t 5))⟩,⟨(some 21),none,.i (.len (.t 20))⟩,⟨(some 22),none,.i (.bin .gtr (.t 21) (.c (.int .i64 0)))⟩]) Bz5w) Bz61)))
def Bz63:AC:=(.kp [0,2,4] [2,6,14,18,41,5000] (.dn (.seq (.reg false [⟨(some 15),none,.i (.mov (.t 4))⟩,⟨(some 16),none,.i (.iad 1 (.t 15) (.c (.int .i64 0)))⟩,⟨(some 17),none,.i (.ld (.t 16))⟩,⟨(some 18),none,.call nz11 [(.t 17)]⟩,⟨(some 19),none,.i (.bst [.int .i64 0,.slice none 0 0] [])⟩,⟨(some 6),none,.i (.new [.int .i64 0,.slice none 0 0])⟩,⟨(some 5),none,.i (.mov (.t 18))⟩,⟨none,none,.i (.sto 2 (.t 6) (.t 19))⟩]) Bz62)))
def Bz64:AC:=(.kp [0,2] [2,6,14,18,41,5000] (.dn (.seq (.reg false [⟨(some 13),none,.i (.mov (.t 0))⟩,⟨(some 14),none,.call nzf [(.t 13),(.c (.string (ByteArray.mk #[10])))]⟩,⟨(some 4),none,.i (.mov (.t 14))⟩]) Bz63)))
def Bz65:AC:=(.kp [0,2] [2,6,14,18,41,5000] (.dn (.seq (.seq (.reg false [⟨(some 9),none,.i (.mov (.t 0))⟩,⟨(some 10),none,.i (.lens (.t 9))⟩,⟨(some 11),none,.i (.bin .gtr (.t 10) (.c (.int .i64 2000)))⟩]) Bz5v) Bz64)))
def Az18:AFn:=⟨55,1,(.seq (.reg false [⟨(some 2),none,.i (.new [.int .i64 0,.slice none 0 0])⟩,⟨(some 3),none,.i (.mov (.c (.int .i64 0)))⟩]) Bz65),[.cell (some 2) 2,.tmp 3]⟩
theorem czbo:cFn (drV none) Tryd.prog nzv Az18:=⟨_,_,Tryd.func15,rfl,by kernel_rfl,by decide,rfl,by kernel_rfl,by kernel_rfl⟩
def Bz2w:AC:=(.kp [0,4,5,8,9,13] [6,21,5000] (.dn (.cond (.t 13) (.reg false [⟨(some 14),none,.i (.mov (.t 4))⟩,⟨(some 15),none,.i (.mov (.t 0))⟩,⟨(some 16),none,.i (.mov (.t 5))⟩,⟨(some 17),none,.i (.idx (.t 15) (.t 16))⟩,⟨(some 18),none,.i (.cvi .i64 (.t 17))⟩,⟨(some 19),none,.i (.bin .sub (.t 18) (.c (.int .i64 97)))⟩,⟨(some 20),none,.i (.bsl 1 false [(.t 19)])⟩,⟨(some 21),none,.i (.app 1 8 (.t 14) (.t 20))⟩,⟨(some 4),none,.i (.mov (.t 21))⟩]) .skip)))
def Bz2x:AC:=(.kp [0,4,5,8,9] [6,21,5000] (.dn (.seq (.reg false [⟨(some 12),none,.i (.mov (.t 0))⟩,⟨(some 13),none,.i (.bin .neq (.t 12) (.c (.string (ByteArray.mk #[45]))))⟩]) Bz2w)))
def Bz2y:AC:=(.kp [0,4,8,9] [6,21,5000] (.dn (.reg false [⟨(some 22),none,.i (.bin .add (.t 9) (.c (.int .i64 1)))⟩,⟨(some 9),none,.i (.mov (.t 22))⟩])))
def Bz2z:AC:=(.kp [0,4,8,9] [6,21,5000] (.dn (.seq (.block 1 (.seq (.reg false [⟨(some 11),none,.i (.mov (.t 9))⟩,⟨(some 5),none,.i (.mov (.t 11))⟩]) Bz2x)) Bz2y)))
def Bzl:AC:=(.kp [0,4,8,9,10] [6,21,5000] (.dn (.seq (.cond (.t 10) .skip (.exit 0)) Bz2z)))
def Bz6:AC:=(.kp [0,4,8,9] [6,21,5000] (.dn (.seq (.reg false [⟨(some 10),none,.i (.bin .lss (.t 9) (.t 8))⟩]) Bzl)))
def Bz30:AC:=(.kp [0,4,8,9] [6,21,5000] (.dn (.block 0 (.loop Bz6))))
def Bz31:AC:=(.kp [4,30] [6,21,5000] (.dn (.cond (.t 30) (.seq (.reg false [⟨(some 2),none,.i (.mov (.c (.slice none 0 0)))⟩,⟨(some 3),none,.i (.mov (.c (.int .i64 5)))⟩]) (.dn .ret)) .skip)))
def Bz32:AC:=(.kp [4] [6,21,5000] (.dn (.seq (.reg false [⟨(some 31),none,.i (.mov (.t 4))⟩,⟨(some 2),none,.i (.mov (.t 31))⟩,⟨(some 3),none,.i (.mov (.c (.int .i64 0)))⟩]) (.dn .ret))))
def Bz33:AC:=(.kp [0,4] [6,21,5000] (.dn (.seq (.seq (.reg false [⟨(some 23),none,.i (.mov (.t 0))⟩,⟨(some 24),none,.i (.bin .eql (.t 23) (.c (.string (ByteArray.mk #[]))))⟩,⟨(some 25),none,.i (.mov (.t 24))⟩,⟨(some 26),(some (25,false)),.i (.mov (.t 4))⟩,⟨(some 27),(some (25,false)),.call nzw [(.t 26)]⟩,⟨(some 28),(some (25,false)),.i (.mov (.t 0))⟩,⟨(some 29),(some (25,false)),.i (.bin .neq (.t 27) (.t 28))⟩,⟨(some 30),none,.i (.pick (.t 25) (.c (.bool true)) (.t 29))⟩]) Bz31) Bz32)))
def Bz34:AC:=(.kp [0,4] [6,21,5000] (.dn (.seq (.seq (.reg false [⟨(some 7),none,.i (.mov (.t 0))⟩,⟨(some 8),none,.i (.lens (.t 7))⟩,⟨(some 9),none,.i (.mov (.c (.int .i64 0)))⟩]) Bz30) Bz33)))
def Bz35:AC:=(.kp [0] [5000] (.dn (.seq (.reg false [⟨(some 6),none,.i (.bsl 1 false [])⟩,⟨(some 4),none,.i (.mov (.t 6))⟩]) Bz34)))
def Azm:AFn:=⟨32,1,(.seq (.reg false [⟨(some 2),none,.i (.mov (.c (.slice none 0 0)))⟩,⟨(some 3),none,.i (.mov (.c (.int .i64 0)))⟩]) Bz35),[.tmp 2,.tmp 3]⟩
theorem czbp:cFn (drV none) Tryd.prog nz22 Azm:=⟨_,_,Tryd.func16,rfl,by kernel_rfl,by decide,rfl,by kernel_rfl,by kernel_rfl⟩
def Bz66:AC:=(.kp [0,13] [5000] (.dn (.cond (.t 13) (.seq (.reg false [⟨(some 2),none,.i (.mov (.c (.string (ByteArray.mk #[]))))⟩]) (.dn .ret)) .skip)))
def Bz36:AC:=(.kp [0,16] [5000] (.dn (.cond (.t 16) (.seq (.reg false [⟨(some 2),none,.i (.mov (.c (.string (ByteArray.mk #[45]))))⟩]) (.dn .ret)) .skip)))
def Bz67:AC:=(.kp [3,5,18,19,20] [17,29,5000] (.dn (.reg false [⟨(some 24),none,.i (.mov (.t 3))⟩,⟨(some 25),none,.i (.mov (.t 5))⟩,⟨(some 26),none,.i (.bin .add (.c (.int .i64 97)) (.t 25))⟩,⟨(some 27),none,.i (.cvi .u8 (.t 26))⟩,⟨(some 28),none,.i (.bsl 1 false [(.t 27)])⟩,⟨(some 29),none,.i (.app 1 1 (.t 24) (.t 28))⟩,⟨(some 3),none,.i (.mov (.t 29))⟩])))
def Bz68:AC:=(.kp [3,18,19,20] [17,29,5000] (.dn (.reg false [⟨(some 30),none,.i (.bin .add (.t 20) (.c (.int .i64 1)))⟩,⟨(some 20),none,.i (.mov (.t 30))⟩])))
def Bz69:AC:=(.kp [3,18,19,20] [17,29,5000] (.dn (.seq (.block 1 (.seq (.reg false [⟨(some 22),none,.i (.iad 1 (.t 18) (.t 20))⟩,⟨(some 23),none,.i (.ld (.t 22))⟩,⟨(some 5),none,.i (.mov (.t 23))⟩]) Bz67)) Bz68)))
def Bz37:AC:=(.kp [3,18,19,20,21] [17,29,5000] (.dn (.seq (.cond (.t 21) .skip (.exit 0)) Bz69)))
def Bz19:AC:=(.kp [3,18,19,20] [17,29,5000] (.dn (.seq (.reg false [⟨(some 21),none,.i (.bin .lss (.t 20) (.t 19))⟩]) Bz37)))
def Bz6a:AC:=(.kp [3,18,19,20] [17,29,5000] (.dn (.block 0 (.loop Bz19))))
def Bz6b:AC:=(.kp [3] [17,29,5000] (.dn (.seq (.reg false [⟨(some 31),none,.i (.mov (.t 3))⟩,⟨(some 32),none,.i (.cvbs (.t 31))⟩,⟨(some 2),none,.i (.mov (.t 32))⟩]) (.dn .ret))))
def Bz6c:AC:=(.kp [0,3] [17,29,5000] (.dn (.seq (.seq (.reg false [⟨(some 18),none,.i (.mov (.t 0))⟩,⟨(some 19),none,.i (.len (.t 18))⟩,⟨(some 20),none,.i (.mov (.c (.int .i64 0)))⟩]) Bz6a) Bz6b)))
def Bz6d:AC:=(.kp [0] [5000] (.dn (.seq (.reg false [⟨(some 17),none,.i (.bsl 1 false [])⟩,⟨(some 3),none,.i (.mov (.t 17))⟩]) Bz6c)))
def Bz6e:AC:=(.kp [0] [5000] (.dn (.seq (.seq (.reg false [⟨(some 14),none,.i (.mov (.t 0))⟩,⟨(some 15),none,.i (.len (.t 14))⟩,⟨(some 16),none,.i (.bin .eql (.t 15) (.c (.int .i64 0)))⟩]) Bz36) Bz6d)))
def Bz6f:AC:=(.kp [0] [5000] (.dn (.seq (.seq (.reg false [⟨(some 6),none,.i (.mov (.t 0))⟩,⟨(some 7),none,.i (.len (.t 6))⟩,⟨(some 8),none,.i (.bin .gtr (.t 7) (.c (.int .i64 400)))⟩,⟨(some 9),none,.i (.mov (.t 8))⟩,⟨(some 10),(some (9,false)),.i (.mov (.t 0))⟩,⟨(some 11),(some (9,false)),.call nzg [(.t 10),(.c (.int .i64 0)),(.c (.int .i64 2))]⟩,⟨(some 12),(some (9,false)),.i (.un .not (.t 11))⟩,⟨(some 13),none,.i (.pick (.t 9) (.c (.bool true)) (.t 12))⟩]) Bz66) Bz6e)))
def Az6g:AFn:=⟨33,1,(.seq (.reg false [⟨(some 2),none,.i (.mov (.c (.string (ByteArray.mk #[]))))⟩]) Bz6f),[.tmp 2]⟩
theorem czbq:cFn (drV none) Tryd.prog nzw Az6g:=⟨_,_,Tryd.func17,rfl,by kernel_rfl,by decide,rfl,by kernel_rfl,by kernel_rfl⟩
def Bz6h:AC:=(.kp [2,3,19] [2,3,5000,5001] (.dn (.cond (.t 19) (.seq (.reg false [⟨(some 4),none,.i (.mov (.c (.bool false)))⟩]) (.dn .ret)) .skip)))
def Bz38:AC:=(.kp [2,3,5,24] [2,3,5000,5001] (.dn (.cond (.t 24) .skip (.exit 0))))
def Bz6i:AC:=(.kp [2,3,5,38] [2,3,5000,5001] (.dn (.cond (.t 38) (.seq (.reg false [⟨(some 4),none,.i (.mov (.c (.bool false)))⟩]) (.dn .ret)) .skip)))
def Bz6j:AC:=(.kp [2,3,5] [2,3,5000,5001] (.dn (.reg false [⟨(some 25),none,.i (.mov (.t 5))⟩,⟨(some 26),none,.i (.bin .add (.t 25) (.c (.int .i64 1)))⟩,⟨(some 5),none,.i (.mov (.t 26))⟩])))
def Bz6k:AC:=(.kp [2,3,5] [2,3,5000,5001] (.dn (.seq (.block 1 (.seq (.reg true [⟨(some 27),none,.i (.fad 1 (.t 2))⟩,⟨(some 28),none,.i (.ld (.t 27))⟩,⟨(some 29),none,.i (.mov (.t 5))⟩,⟨(some 30),none,.i (.iad 1 (.t 28) (.t 29))⟩,⟨(some 31),none,.i (.ld (.t 30))⟩,⟨(some 32),none,.i (.fad 1 (.t 3))⟩,⟨(some 33),none,.i (.ld (.t 32))⟩,⟨(some 34),none,.i (.mov (.t 5))⟩,⟨(some 35),none,.i (.iad 1 (.t 33) (.t 34))⟩,⟨(some 36),none,.i (.ld (.t 35))⟩,⟨(some 37),none,.calh nz28 [(.t 31),(.t 36)]⟩,⟨(some 38),none,.i (.un .not (.t 37))⟩]) Bz6i)) Bz6j)))
def Bz1a:AC:=(.kp [2,3,5] [2,3,5000,5001] (.dn (.seq (.seq (.reg false [⟨(some 20),none,.i (.mov (.t 5))⟩,⟨(some 21),none,.i (.fad 1 (.t 2))⟩,⟨(some 22),none,.i (.ld (.t 21))⟩,⟨(some 23),none,.i (.len (.t 22))⟩,⟨(some 24),none,.i (.bin .lss (.t 20) (.t 23))⟩]) Bz38) Bz6k)))
def Bz6l:AC:=(.kp [2,3,5] [2,3,5000,5001] (.dn (.block 0 (.loop Bz1a))))
def Bz6m:AC:=(.kp [] [5000,5001] (.dn (.seq (.reg false [⟨(some 4),none,.i (.mov (.c (.bool true)))⟩]) (.dn .ret))))
def Bz6n:AC:=(.kp [2,3] [2,3,5000,5001] (.dn (.seq (.seq (.reg false [⟨(some 5),none,.i (.mov (.c (.int .i64 0)))⟩]) Bz6l) Bz6m)))
def Bz6o:AC:=(.kp [2,3] [2,3,5000,5001] (.dn (.seq (.seq (.reg false [⟨(some 6),none,.i (.fad 0 (.t 2))⟩,⟨(some 7),none,.i (.ld (.t 6))⟩,⟨(some 8),none,.i (.fad 0 (.t 3))⟩,⟨(some 9),none,.i (.ld (.t 8))⟩,⟨(some 10),none,.i (.bin .neq (.t 7) (.t 9))⟩,⟨(some 11),none,.i (.mov (.t 10))⟩,⟨(some 12),(some (11,false)),.i (.fad 1 (.t 2))⟩,⟨(some 13),(some (11,false)),.i (.ld (.t 12))⟩,⟨(some 14),(some (11,false)),.i (.len (.t 13))⟩,⟨(some 15),(some (11,false)),.i (.fad 1 (.t 3))⟩,⟨(some 16),(some (11,false)),.i (.ld (.t 15))⟩,⟨(some 17),(some (11,false)),.i (.len (.t 16))⟩,⟨(some 18),(some (11,false)),.i (.bin .neq (.t 14) (.t 17))⟩,⟨(some 19),none,.i (.pick (.t 11) (.c (.bool true)) (.t 18))⟩]) Bz6h) Bz6n)))
def Az6p:AFn:=⟨39,2,(.seq (.reg false [⟨(some 2),none,.i (.box (.t 0))⟩,⟨(some 3),none,.i (.box (.t 1))⟩,⟨(some 4),none,.i (.mov (.c (.bool false)))⟩]) Bz6o),[.tmp 4]⟩
theorem czbr:cFn (drV none) Tryd.prog nz23 Az6p:=⟨_,_,Tryd.func18,rfl,by kernel_rfl,by decide,rfl,by kernel_rfl,by kernel_rfl⟩
def Bz39:AC:=(.kp [0,1,10] [5000,5001] (.dn (.cond (.t 10) (.seq (.reg false [⟨(some 4),none,.i (.mov (.c (.bool false)))⟩]) (.dn .ret)) .skip)))
def Bz3a:AC:=(.kp [0,1,5,14] [5000,5001] (.dn (.cond (.t 14) .skip (.exit 0))))
def Bz6q:AC:=(.kp [0,1,5,25] [5000,5001] (.dn (.cond (.t 25) (.seq (.reg false [⟨(some 4),none,.i (.mov (.c (.bool false)))⟩]) (.dn .ret)) .skip)))
def Bz6r:AC:=(.kp [0,1,5] [5000,5001] (.dn (.reg false [⟨(some 15),none,.i (.mov (.t 5))⟩,⟨(some 16),none,.i (.bin .add (.t 15) (.c (.int .i64 1)))⟩,⟨(some 5),none,.i (.mov (.t 16))⟩])))
def Bz3b:AC:=(.kp [0,1,5] [5000,5001] (.dn (.seq (.block 1 (.seq (.reg true [⟨(some 17),none,.i (.mov (.t 0))⟩,⟨(some 18),none,.i (.mov (.t 5))⟩,⟨(some 19),none,.i (.iad 1 (.t 17) (.t 18))⟩,⟨(some 20),none,.i (.ld (.t 19))⟩,⟨(some 21),none,.i (.mov (.t 1))⟩,⟨(some 22),none,.i (.mov (.t 5))⟩,⟨(some 23),none,.i (.iad 1 (.t 21) (.t 22))⟩,⟨(some 24),none,.i (.ld (.t 23))⟩,⟨(some 25),none,.i (.bin .neq (.t 20) (.t 24))⟩]) Bz6q)) Bz6r)))
def Bz1b:AC:=(.kp [0,1,5] [5000,5001] (.dn (.seq (.seq (.reg false [⟨(some 11),none,.i (.mov (.t 5))⟩,⟨(some 12),none,.i (.mov (.t 0))⟩,⟨(some 13),none,.i (.len (.t 12))⟩,⟨(some 14),none,.i (.bin .lss (.t 11) (.t 13))⟩]) Bz3a) Bz3b)))
def Bz6s:AC:=(.kp [0,1,5] [5000,5001] (.dn (.block 0 (.loop Bz1b))))
def Bz6t:AC:=(.kp [] [5000,5001] (.dn (.seq (.reg false [⟨(some 4),none,.i (.mov (.c (.bool true)))⟩]) (.dn .ret))))
def Bz6u:AC:=(.kp [0,1] [5000,5001] (.dn (.seq (.seq (.reg false [⟨(some 5),none,.i (.mov (.c (.int .i64 0)))⟩]) Bz6s) Bz6t)))
def Bz6v:AC:=(.kp [0,1] [5000,5001] (.dn (.seq (.seq (.reg false [⟨(some 6),none,.i (.mov (.t 0))⟩,⟨(some 7),none,.i (.len (.t 6))⟩,⟨(some 8),none,.i (.mov (.t 1))⟩,⟨(some 9),none,.i (.len (.t 8))⟩,⟨(some 10),none,.i (.bin .neq (.t 7) (.t 9))⟩]) Bz39) Bz6u)))
def Az6w:AFn:=⟨26,2,(.seq (.reg false [⟨(some 4),none,.i (.mov (.c (.bool false)))⟩]) Bz6v),[.tmp 4]⟩
theorem czbs:cFn (drV none) Tryd.prog nz24 Az6w:=⟨_,_,Tryd.func19,rfl,by kernel_rfl,by decide,rfl,by kernel_rfl,by kernel_rfl⟩
def Bz6x:AC:=(.kp [1,2] [2,5000,5001] (.dn (.seq (.reg false [⟨(some 5),none,.i (.lda 2 (.t 2))⟩,⟨(some 6),none,.call nzd [(.t 5)]⟩,⟨(some 7),none,.i (.mov (.t 6))⟩,⟨(some 8),(some (7,true)),.i (.lda 2 (.t 2))⟩,⟨(some 9),(some (7,true)),.i (.mov (.t 1))⟩,⟨(some 10),(some (7,true)),.call nz29 [(.t 8),(.t 9)]⟩,⟨(some 11),none,.i (.pick (.t 7) (.t 10) (.c (.bool false)))⟩,⟨(some 4),none,.i (.mov (.t 11))⟩]) (.dn .ret))))
def Az6y:AFn:=⟨12,2,(.seq (.reg false [⟨(some 2),none,.i (.box (.t 0))⟩,⟨(some 4),none,.i (.mov (.c (.bool false)))⟩]) Bz6x),[.tmp 4]⟩
theorem czbt:cFn (drV none) Tryd.prog nz25 Az6y:=⟨_,_,Tryd.func20,rfl,by kernel_rfl,by decide,rfl,by kernel_rfl,by kernel_rfl⟩
def Bz6z:AC:=(.kp [0,6,7,8,9] [5000,5001] (.dn (.reg false [⟨(some 13),none,.i (.mov (.t 0))⟩,⟨(some 14),none,.i (.mov (.t 6))⟩,⟨(some 15),none,.call nz27 [(.t 14)]⟩,⟨(some 16),none,.i (.bin .add (.c (.string (ByteArray.mk #[32]))) (.t 15))⟩,⟨(some 17),none,.i (.bin .add (.t 13) (.t 16))⟩,⟨(some 0),none,.i (.mov (.t 17))⟩])))
def Bz70:AC:=(.kp [0,7,8,9] [5000,5001] (.dn (.reg false [⟨(some 18),none,.i (.bin .add (.t 9) (.c (.int .i64 1)))⟩,⟨(some 9),none,.i (.mov (.t 18))⟩])))
def Bz71:AC:=(.kp [0,7,8,9] [5000,5001] (.dn (.seq (.block 1 (.seq (.reg false [⟨(some 11),none,.i (.iad 1 (.t 7) (.t 9))⟩,⟨(some 12),none,.i (.ld (.t 11))⟩,⟨(some 6),none,.i (.mov (.t 12))⟩]) Bz6z)) Bz70)))
def Bz3c:AC:=(.kp [0,7,8,9,10] [5000,5001] (.dn (.seq (.cond (.t 10) .skip (.exit 0)) Bz71)))
def Bz1c:AC:=(.kp [0,7,8,9] [5000,5001] (.dn (.seq (.reg false [⟨(some 10),none,.i (.bin .lss (.t 9) (.t 8))⟩]) Bz3c)))
def Bz72:AC:=(.kp [0,7,8,9] [5000,5001] (.dn (.block 0 (.loop Bz1c))))
def Bz73:AC:=(.kp [0] [5000,5001] (.dn (.seq (.reg false [⟨(some 19),none,.i (.mov (.t 0))⟩,⟨(some 20),none,.i (.bin .add (.t 19) (.c (.string (ByteArray.mk #[10]))))⟩,⟨(some 4),none,.i (.mov (.t 20))⟩]) (.dn .ret))))
def Bz74:AC:=(.kp [0,1] [5000,5001] (.dn (.seq (.seq (.reg false [⟨(some 7),none,.i (.mov (.t 1))⟩,⟨(some 8),none,.i (.len (.t 7))⟩,⟨(some 9),none,.i (.mov (.c (.int .i64 0)))⟩]) Bz72) Bz73)))
def Az75:AFn:=⟨21,2,(.seq (.reg false [⟨(some 4),none,.i (.mov (.c (.string (ByteArray.mk #[]))))⟩]) Bz74),[.tmp 4]⟩
theorem czbu:cFn (drV none) Tryd.prog nzx Az75:=⟨_,_,Tryd.func30,rfl,by kernel_rfl,by decide,rfl,by kernel_rfl,by kernel_rfl⟩
def Bz76:AC:=(.kp [0] [5000] (.dn (.seq (.reg false [⟨(some 3),none,.i (.mov (.t 0))⟩,⟨(some 4),none,.i (.len (.t 3))⟩,⟨(some 2),none,.i (.mov (.t 4))⟩]) (.dn .ret))))
def Az77:AFn:=⟨5,1,(.seq (.reg false [⟨(some 2),none,.i (.mov (.c (.int .i64 0)))⟩]) Bz76),[.tmp 2]⟩
theorem czbv:cFn (drV none) Tryd.prog nz26 Az77:=⟨_,_,Tryd.func31,rfl,by kernel_rfl,by decide,rfl,by kernel_rfl,by kernel_rfl⟩
def Bz78:AC:=(.kp [0] [5000] (.dn (.seq (.reg false [⟨(some 3),none,.i (.mov (.t 0))⟩,⟨(some 4),none,.call nz2d [(.t 3),(.c (.int .i64 10))]⟩,⟨(some 2),none,.i (.mov (.t 4))⟩]) (.dn .ret))))
def Az79:AFn:=⟨5,1,(.seq (.reg false [⟨(some 2),none,.i (.mov (.c (.string (ByteArray.mk #[]))))⟩]) Bz78),[.tmp 2]⟩
theorem czbw:cFn (drV none) Tryd.prog nz27 Az79:=⟨_,_,Tryd.func32,rfl,by kernel_rfl,by decide,rfl,by kernel_rfl,by kernel_rfl⟩
def Bz7a:AC:=(.kp [0] [5000] (.dn (.seq (.reg false [⟨(some 3),none,.i (.mov (.t 0))⟩,⟨(some 4),none,.i (.bst [.slice none 0 0,.int .i64 0,.int .u64 0] [(0,1,(.t 3))])⟩,⟨(some 5),none,.i (.box (.t 4))⟩,⟨(some 2),none,.i (.mov (.t 5))⟩]) (.dn .ret))))
def Az7b:AFn:=⟨6,1,(.seq (.reg false [⟨(some 2),none,.i (.mov (.c (.pointer none)))⟩]) Bz7a),[.tmp 2]⟩
theorem czbx:cFn (drV none) Tryd.prog nzy Az7b:=⟨_,_,Tryd.func34,rfl,by kernel_rfl,by decide,rfl,by kernel_rfl,by kernel_rfl⟩
def Bz3d:AC:=(.kp [2,3,4,16] [2,3,6,5000,901] (.cond (.t 16) .skip (.exit 0)))
def Bz7c:AC:=(.kp [2,3,4] [2,3,6,5000,901] (.regi false [⟨(some 17),none,.i (.mov (.t 4))⟩,⟨(some 18),none,.i (.bin .add (.t 17) (.c (.int .i64 1)))⟩,⟨(some 4),none,.i (.mov (.t 18))⟩]))
def Bz7d:AC:=(.kp [2,3,4] [2,3,6,5000,901] (.seq (.block 1 (.regi true [⟨(some 19),none,.i (.fad 1 (.t 3))⟩,⟨(some 20),none,.i (.ld (.t 19))⟩,⟨(some 21),none,.i (.iad 1 (.t 20) (.c (.int .i64 0)))⟩,⟨(some 22),none,.i (.ld (.t 21))⟩,⟨(some 23),none,.i (.mov (.t 4))⟩,⟨(some 24),none,.i (.mov (.t 4))⟩,⟨(some 25),none,.i (.bin .add (.t 24) (.c (.int .i64 1)))⟩,⟨(some 26),none,.i (.fad 0 (.t 3))⟩,⟨(some 27),none,.i (.ld (.t 26))⟩,⟨(some 28),none,.i (.bin .rem (.t 25) (.t 27))⟩,⟨(some 29),none,.i (.iad 1 (.t 22) (.t 23))⟩,⟨none,none,.i (.sto 1 (.t 29) (.t 28))⟩])) Bz7c))
def Bz1d:AC:=(.kp [2,3,4] [2,3,6,5000,901] (.seq (.seq (.regi false [⟨(some 13),none,.i (.mov (.t 4))⟩,⟨(some 14),none,.i (.fad 0 (.t 3))⟩,⟨(some 15),none,.i (.ld (.t 14))⟩,⟨(some 16),none,.i (.bin .lss (.t 13) (.t 15))⟩]) Bz3d) Bz7d))
def Bz7e:AC:=(.kp [2,3,4] [2,3,6,5000,901] (.gh (.block 0 (.loop Bz1d))))
def Bz1e:AC:=(.kp [2,3,12] [2,3,6,5000,901] (.cond (.t 12) (.seq (.regi false [⟨(some 4),none,.i (.mov (.c (.int .i64 0)))⟩]) Bz7e) .skip))
def Bz1f:AC:=(.kp [2,3] [2,3,6,5000,901] (.gh (.seq (.regi false [⟨(some 30),none,.i (.lda 2 (.t 3))⟩,⟨none,none,.i (.sto 2 (.t 2) (.t 30))⟩]) .ret)))
def Bz7f:AC:=(.kp [0,2,3] [2,3,6,5000,901] (.seq (.seq (.regi false [⟨(some 7),none,.call nz10 [(.t 3)]⟩,⟨(some 8),none,.i (.mov (.t 7))⟩,⟨(some 9),(some (8,true)),.i (.mov (.t 0))⟩,⟨(some 10),(some (8,true)),.call nz4 [(.t 9),(.c (.int .i64 4))]⟩,⟨(some 11),(some (8,true)),.i (.un .not (.t 10))⟩,⟨(some 12),none,.i (.pick (.t 8) (.t 11) (.c (.bool false)))⟩]) Bz1e) Bz1f))
def Bz7g:AC:=(.kp [0,2] [2,3,6,5000,901] (.seq (.regi false [⟨(some 5),none,.i (.mov (.t 0))⟩,⟨(some 6),none,.call nz2e [(.t 5)]⟩,⟨(some 3),none,.i (.new [.int .i64 0,.slice none 0 0])⟩,⟨none,none,.i (.sto 2 (.t 3) (.t 6))⟩]) Bz7f))
def Az1g:AFn:=⟨31,1,(.seq (.regi false [⟨(some 2),none,.i (.new [.int .i64 0,.slice none 0 0])⟩]) Bz7g),[.cell (some 2) 2]⟩
theorem czby:cFn (drV none) Tryd.prog nzz Az1g:=⟨_,_,Tryd.func35,rfl,by kernel_rfl,by decide,rfl,by kernel_rfl,by kernel_rfl⟩
def Bz1h:AC:=(.kp [0,18] [5000] (.dn (.cond (.t 18) (.seq (.reg false [⟨(some 2),none,.i (.mov (.c (.bool false)))⟩]) (.dn .ret)) .skip)))
def Bz3e:AC:=(.kp [0,3,25] [5000] (.dn (.cond (.t 25) .skip (.exit 0))))
def Bz7h:AC:=(.kp [0,3,40] [5000] (.dn (.cond (.t 40) (.seq (.reg false [⟨(some 2),none,.i (.mov (.c (.bool false)))⟩]) (.dn .ret)) .skip)))
def Bz7i:AC:=(.kp [0,3] [5000] (.dn (.reg false [⟨(some 26),none,.i (.mov (.t 3))⟩,⟨(some 27),none,.i (.bin .add (.t 26) (.c (.int .i64 1)))⟩,⟨(some 3),none,.i (.mov (.t 27))⟩])))
def Bz3f:AC:=(.kp [0,3] [5000] (.dn (.seq (.block 1 (.seq (.reg true [⟨(some 28),none,.i (.mov (.t 0))⟩,⟨(some 29),none,.i (.nilck (.t 28))⟩,⟨(some 30),none,.i (.fad 1 (.t 29))⟩,⟨(some 31),none,.i (.ld (.t 30))⟩,⟨(some 32),none,.i (.mov (.t 3))⟩,⟨(some 33),none,.i (.iad 1 (.t 31) (.t 32))⟩,⟨(some 34),none,.i (.ld (.t 33))⟩,⟨(some 35),none,.i (.mov (.t 0))⟩,⟨(some 36),none,.i (.nilck (.t 35))⟩,⟨(some 37),none,.i (.fad 0 (.t 36))⟩,⟨(some 38),none,.i (.ld (.t 37))⟩,⟨(some 39),none,.calh nz2f [(.t 34),(.t 38)]⟩,⟨(some 40),none,.i (.un .not (.t 39))⟩]) Bz7h)) Bz7i)))
def Bz1i:AC:=(.kp [0,3] [5000] (.dn (.seq (.seq (.reg false [⟨(some 19),none,.i (.mov (.t 3))⟩,⟨(some 20),none,.i (.mov (.t 0))⟩,⟨(some 21),none,.i (.nilck (.t 20))⟩,⟨(some 22),none,.i (.fad 1 (.t 21))⟩,⟨(some 23),none,.i (.ld (.t 22))⟩,⟨(some 24),none,.i (.len (.t 23))⟩,⟨(some 25),none,.i (.bin .lss (.t 19) (.t 24))⟩]) Bz3e) Bz3f)))
def Bz7j:AC:=(.kp [0,3] [5000] (.dn (.block 0 (.loop Bz1i))))
def Bz7k:AC:=(.kp [] [5000] (.dn (.seq (.reg false [⟨(some 2),none,.i (.mov (.c (.bool true)))⟩]) (.dn .ret))))
def Bz7l:AC:=(.kp [0] [5000] (.dn (.seq (.seq (.reg false [⟨(some 3),none,.i (.mov (.c (.int .i64 0)))⟩]) Bz7j) Bz7k)))
def Bz7m:AC:=(.kp [0] [5000] (.dn (.seq (.seq (.reg false [⟨(some 4),none,.i (.mov (.t 0))⟩,⟨(some 5),none,.i (.nilck (.t 4))⟩,⟨(some 6),none,.i (.fad 0 (.t 5))⟩,⟨(some 7),none,.i (.ld (.t 6))⟩,⟨(some 8),none,.call nzh [(.t 7),(.c (.int .i64 1)),(.c (.int .i64 10))]⟩,⟨(some 9),none,.i (.un .not (.t 8))⟩,⟨(some 10),none,.i (.mov (.t 9))⟩,⟨(some 11),(some (10,false)),.i (.mov (.t 0))⟩,⟨(some 12),(some (10,false)),.i (.nilck (.t 11))⟩,⟨(some 13),(some (10,false)),.i (.fad 1 (.t 12))⟩,⟨(some 14),(some (10,false)),.i (.ld (.t 13))⟩,⟨(some 15),(some (10,false)),.i (.len (.t 14))⟩,⟨(some 16),(some (10,false)),.call nzh [(.t 15),(.c (.int .i64 1)),(.c (.int .i64 3))]⟩,⟨(some 17),(some (10,false)),.i (.un .not (.t 16))⟩,⟨(some 18),none,.i (.pick (.t 10) (.c (.bool true)) (.t 17))⟩]) Bz1h) Bz7l)))
def Az7n:AFn:=⟨41,1,(.seq (.reg false [⟨(some 2),none,.i (.mov (.c (.bool false)))⟩]) Bz7m),[.tmp 2]⟩
theorem czbz:cFn (drV none) Tryd.prog nz10 Az7n:=⟨_,_,Tryd.func36,rfl,by kernel_rfl,by decide,rfl,by kernel_rfl,by kernel_rfl⟩
def Bz3g:AC:=(.kp [0,2,3,4,5,10] [2,6,7,19,26,30,5000] (.cond (.t 10) .skip (.exit 0)))
def Bz7o:AC:=(.kp [0,2,3,4,5] [2,6,7,19,26,30,5000] (.regi false [⟨(some 20),none,.i (.mov (.t 4))⟩,⟨(some 21),none,.i (.mov (.t 5))⟩,⟨(some 22),none,.i (.mov (.t 0))⟩,⟨(some 23),none,.i (.bin .sub (.t 22) (.c (.int .i64 1)))⟩,⟨(some 24),none,.i (.bin .rem (.t 21) (.t 23))⟩,⟨(some 25),none,.i (.bsl 1 false [(.t 24)])⟩,⟨(some 26),none,.i (.app 1 8 (.t 20) (.t 25))⟩,⟨(some 4),none,.i (.mov (.t 26))⟩]))
def Bz7p:AC:=(.kp [0,2,3,4,5] [2,6,7,19,26,30,5000] (.regi false [⟨(some 11),none,.i (.mov (.t 5))⟩,⟨(some 12),none,.i (.bin .add (.t 11) (.c (.int .i64 1)))⟩,⟨(some 5),none,.i (.mov (.t 12))⟩]))
def Bz7q:AC:=(.kp [0,2,3,4,5] [2,6,7,19,26,30,5000] (.seq (.block 1 (.seq (.regi false [⟨(some 13),none,.i (.mov (.t 3))⟩,⟨(some 14),none,.i (.mov (.t 5))⟩,⟨(some 15),none,.i (.bin .add (.t 14) (.c (.int .i64 1)))⟩,⟨(some 16),none,.i (.mov (.t 0))⟩,⟨(some 17),none,.i (.bin .rem (.t 15) (.t 16))⟩,⟨(some 18),none,.i (.bsl 1 false [(.t 17)])⟩,⟨(some 19),none,.i (.app 1 8 (.t 13) (.t 18))⟩,⟨(some 3),none,.i (.mov (.t 19))⟩]) Bz7o)) Bz7p))
def Bz1j:AC:=(.kp [0,2,3,4,5] [2,6,7,19,26,30,5000] (.seq (.seq (.regi false [⟨(some 8),none,.i (.mov (.t 5))⟩,⟨(some 9),none,.i (.mov (.t 0))⟩,⟨(some 10),none,.i (.bin .lss (.t 8) (.t 9))⟩]) Bz3g) Bz7q))
def Bz7r:AC:=(.kp [0,2,3,4,5] [2,6,7,19,26,30,5000] (.block 0 (.loop Bz1j)))
def Bz7s:AC:=(.kp [0,2,3,4] [2,6,7,19,26,30,5000] (.seq (.regi false [⟨(some 27),none,.i (.mov (.t 0))⟩,⟨(some 28),none,.i (.mov (.t 3))⟩,⟨(some 29),none,.i (.mov (.t 4))⟩,⟨(some 30),none,.i (.bsl 1 true [(.t 28),(.t 29)])⟩,⟨(some 31),none,.i (.bst [.int .i64 0,.slice none 0 0] [(0,1,(.t 27)),(1,1,(.t 30))])⟩,⟨none,none,.i (.sto 2 (.t 2) (.t 31))⟩]) .ret))
def Bz7t:AC:=(.kp [0,2,3,4] [2,6,7,19,26,30,5000] (.seq (.seq (.regi false [⟨(some 5),none,.i (.mov (.c (.int .i64 0)))⟩]) Bz7r) Bz7s))
def Bz7u:AC:=(.kp [0,2,3] [2,6,19,30,5000] (.seq (.regi false [⟨(some 7),none,.i (.bsl 1 false [])⟩,⟨(some 4),none,.i (.mov (.t 7))⟩]) Bz7t))
def Bz7v:AC:=(.kp [0,2] [2,30,5000] (.seq (.regi false [⟨(some 6),none,.i (.bsl 1 false [])⟩,⟨(some 3),none,.i (.mov (.t 6))⟩]) Bz7u))
def Az3h:AFn:=⟨32,1,(.seq (.regi false [⟨(some 2),none,.i (.new [.int .i64 0,.slice none 0 0])⟩]) Bz7v),[.cell (some 2) 2]⟩
theorem czc0:cFn (drV none) Tryd.prog nzc Az3h:=⟨_,_,Tryd.func37,rfl,by kernel_rfl,by decide,rfl,by kernel_rfl,by kernel_rfl⟩
def Bz3i:AC:=(.kp [0,1,7] [5000,5001] (.dn (.cond (.t 7) (.seq (.reg false [⟨(some 4),none,.i (.mov (.c (.int .i64 0)))⟩]) (.dn .ret)) .skip)))
def Bz3j:AC:=(.kp [0,1,5,11] [5000,5001] (.dn (.cond (.t 11) (.reg false [⟨(some 12),none,.i (.mov (.t 5))⟩,⟨(some 13),none,.i (.bin .mul (.t 12) (.c (.int .i64 256)))⟩,⟨(some 14),none,.i (.mov (.t 0))⟩,⟨(some 15),none,.call nz12 [(.t 14)]⟩,⟨(some 16),none,.i (.bin .add (.t 13) (.t 15))⟩,⟨(some 5),none,.i (.mov (.t 16))⟩]) .skip)))
def Bz3k:AC:=(.kp [1,5] [5000,5001] (.dn (.seq (.reg false [⟨(some 17),none,.i (.mov (.t 5))⟩,⟨(some 18),none,.i (.mov (.t 1))⟩,⟨(some 19),none,.i (.bin .rem (.t 17) (.t 18))⟩,⟨(some 4),none,.i (.mov (.t 19))⟩]) (.dn .ret))))
def Bz3l:AC:=(.kp [0,1,5] [5000,5001] (.dn (.seq (.seq (.reg false [⟨(some 10),none,.i (.mov (.t 1))⟩,⟨(some 11),none,.i (.bin .gtr (.t 10) (.c (.int .i64 200)))⟩]) Bz3j) Bz3k)))
def Bz3m:AC:=(.kp [0,1] [5000,5001] (.dn (.seq (.reg false [⟨(some 8),none,.i (.mov (.t 0))⟩,⟨(some 9),none,.call nz12 [(.t 8)]⟩,⟨(some 5),none,.i (.mov (.t 9))⟩]) Bz3l)))
def Bz3n:AC:=(.kp [0,1] [5000,5001] (.dn (.seq (.seq (.reg false [⟨(some 6),none,.i (.mov (.t 1))⟩,⟨(some 7),none,.i (.bin .leq (.t 6) (.c (.int .i64 1)))⟩]) Bz3i) Bz3m)))
def Az3o:AFn:=⟨20,2,(.seq (.reg false [⟨(some 4),none,.i (.mov (.c (.int .i64 0)))⟩]) Bz3n),[.tmp 4]⟩
theorem czc1:cFn (drV none) Tryd.prog nz0 Az3o:=⟨_,_,Tryd.func38,rfl,by kernel_rfl,by decide,rfl,by kernel_rfl,by kernel_rfl⟩
def Bz7w:AC:=(.kp [1] [1,5000] (.dn (.seq (.reg false [⟨(some 3),none,.i (.fad 0 (.t 1))⟩,⟨(some 4),none,.i (.ld (.t 3))⟩,⟨(some 5),none,.call nzi [(.t 4),(.c (.int .i64 1)),(.c (.int .i64 10))]⟩,⟨(some 6),none,.i (.mov (.t 5))⟩,⟨(some 7),(some (6,true)),.i (.lda 2 (.t 1))⟩,⟨(some 8),(some (6,true)),.call nze [(.t 7)]⟩,⟨(some 9),(some (6,true)),.call nzi [(.t 8),(.c (.int .i64 1)),(.c (.int .i64 3))]⟩,⟨(some 10),none,.i (.pick (.t 6) (.t 9) (.c (.bool false)))⟩,⟨(some 11),none,.i (.mov (.t 10))⟩,⟨(some 12),(some (11,true)),.i (.fad 1 (.t 1))⟩,⟨(some 13),(some (11,true)),.i (.ld (.t 12))⟩,⟨(some 14),(some (11,true)),.i (.mkf nz13 [(.t 1)])⟩,⟨(some 15),(some (11,true)),.call nz2b [(.t 13),(.t 14)]⟩,⟨(some 16),(some (11,true)),.i (.un .not (.t 15))⟩,⟨(some 17),none,.i (.pick (.t 11) (.t 16) (.c (.bool false)))⟩,⟨(some 2),none,.i (.mov (.t 17))⟩]) (.dn .ret))))
def Az7x:AFn:=⟨18,1,(.seq (.reg false [⟨(some 1),none,.i (.box (.t 0))⟩,⟨(some 2),none,.i (.mov (.c (.bool false)))⟩]) Bz7w),[.tmp 2]⟩
theorem czc2:cFn (drV none) Tryd.prog nzd Az7x:=⟨_,_,Tryd.func39,rfl,by kernel_rfl,by decide,rfl,by kernel_rfl,by kernel_rfl⟩
def Bz7y:AC:=(.kp [1] [1,5000] (.dn (.seq (.reg false [⟨(some 3),none,.i (.fad 1 (.t 1))⟩,⟨(some 4),none,.i (.ld (.t 3))⟩,⟨(some 5),none,.call nz26 [(.t 4)]⟩,⟨(some 2),none,.i (.mov (.t 5))⟩]) (.dn .ret))))
def Az7z:AFn:=⟨6,1,(.seq (.reg false [⟨(some 1),none,.i (.box (.t 0))⟩,⟨(some 2),none,.i (.mov (.c (.int .i64 0)))⟩]) Bz7y),[.tmp 2]⟩
theorem czc3:cFn (drV none) Tryd.prog nze Az7z:=⟨_,_,Tryd.func40,rfl,by kernel_rfl,by decide,rfl,by kernel_rfl,by kernel_rfl⟩
theorem x_strings_Split:∃ fn,Tryd.prog.funcs[nzf]?=some fn∧fn.body.isSome=true∧isNumG fn=false:=⟨_,Tryd.func41,by kernel_rfl,by decide⟩
def Bz80:AC:=(.kp [3,6,11,12,13] [8,10,25,5000] (.dn (.reg false [⟨(some 22),none,.i (.mov (.t 3))⟩,⟨(some 23),none,.i (.mov (.t 6))⟩,⟨(some 24),none,.i (.bsl 1 false [(.t 23)])⟩,⟨(some 25),none,.i (.app 1 8 (.t 22) (.t 24))⟩,⟨(some 3),none,.i (.mov (.t 25))⟩])))
def Bz81:AC:=(.kp [3,5,11,12,13] [8,10,25,5000] (.dn (.seq (.reg false [⟨(some 18),none,.i (.mov (.t 5))⟩,⟨(some 19),none,.call nz2a [(.t 18),(.c (.int .i64 10)),(.c (.int .i64 64))]⟩,⟨(some 17),none,.i (.mov (.t 19))⟩,⟨(some 20),none,.i (.ext 0 (.t 17))⟩,⟨(some 21),none,.i (.ext 1 (.t 17))⟩,⟨(some 6),none,.i (.mov (.t 20))⟩,⟨(some 7),none,.i (.mov (.t 21))⟩]) Bz80)))
def Bz82:AC:=(.kp [3,11,12,13] [8,10,25,5000] (.dn (.reg false [⟨(some 26),none,.i (.bin .add (.t 13) (.c (.int .i64 1)))⟩,⟨(some 13),none,.i (.mov (.t 26))⟩])))
def Bz83:AC:=(.kp [3,11,12,13] [8,10,25,5000] (.dn (.seq (.block 1 (.seq (.reg false [⟨(some 15),none,.i (.iad 1 (.t 11) (.t 13))⟩,⟨(some 16),none,.i (.ld (.t 15))⟩,⟨(some 5),none,.i (.mov (.t 16))⟩]) Bz81)) Bz82)))
def Bz3p:AC:=(.kp [3,11,12,13,14] [8,10,25,5000] (.dn (.seq (.cond (.t 14) .skip (.exit 0)) Bz83)))
def Bz1k:AC:=(.kp [3,11,12,13] [8,10,25,5000] (.dn (.seq (.reg false [⟨(some 14),none,.i (.bin .lss (.t 13) (.t 12))⟩]) Bz3p)))
def Bz84:AC:=(.kp [3,11,12,13] [8,10,25,5000] (.dn (.block 0 (.loop Bz1k))))
def Bz85:AC:=(.kp [3] [8,25,5000] (.dn (.seq (.reg false [⟨(some 27),none,.i (.mov (.t 3))⟩,⟨(some 2),none,.i (.mov (.t 27))⟩]) (.dn .ret))))
def Bz86:AC:=(.kp [0,3] [8,25,5000] (.dn (.seq (.seq (.reg false [⟨(some 9),none,.i (.mov (.t 0))⟩,⟨(some 10),none,.call nzf [(.t 9),(.c (.string (ByteArray.mk #[32])))]⟩,⟨(some 11),none,.i (.slc 1 (.t 10) (some (.c (.int .i64 1))) none)⟩,⟨(some 12),none,.i (.len (.t 11))⟩,⟨(some 13),none,.i (.mov (.c (.int .i64 0)))⟩]) Bz84) Bz85)))
def Bz87:AC:=(.kp [0] [5000] (.dn (.seq (.reg false [⟨(some 8),none,.i (.bsl 1 false [])⟩,⟨(some 3),none,.i (.mov (.t 8))⟩]) Bz86)))
def Az88:AFn:=⟨28,1,(.seq (.reg false [⟨(some 2),none,.i (.mov (.c (.slice none 0 0)))⟩]) Bz87),[.tmp 2]⟩
theorem czc4:cFn (drV none) Tryd.prog nz11 Az88:=⟨_,_,Tryd.func42,rfl,by kernel_rfl,by decide,rfl,by kernel_rfl,by kernel_rfl⟩
def Bz89:AC:=(.kp [0,4,5] [4,5,5000,5001,5002] (.dn (.seq (.reg false [⟨(some 7),none,.i (.mov (.t 0))⟩,⟨(some 8),none,.i (.mkf nz14 [(.t 4),(.t 5)])⟩,⟨(some 9),none,.call nz2g [(.t 7),(.t 8)]⟩,⟨(some 10),none,.i (.un .not (.t 9))⟩,⟨(some 6),none,.i (.mov (.t 10))⟩]) (.dn .ret))))
def Az8a:AFn:=⟨11,3,(.seq (.reg false [⟨(some 4),none,.i (.box (.t 1))⟩,⟨(some 5),none,.i (.box (.t 2))⟩,⟨(some 6),none,.i (.mov (.c (.bool false)))⟩]) Bz89),[.tmp 6]⟩
theorem czc5:cFn (drV none) Tryd.prog nzg Az8a:=⟨_,_,Tryd.func43,rfl,by kernel_rfl,by decide,rfl,by kernel_rfl,by kernel_rfl⟩
def Bz8b:AC:=(.kp [0,1,10] [5000,5001] (.dn (.cond (.t 10) (.seq (.reg false [⟨(some 4),none,.i (.mov (.c (.bool false)))⟩]) (.dn .ret)) .skip)))
def Bz8c:AC:=(.kp [0,1,5,14] [5000,5001] (.dn (.cond (.t 14) .skip (.exit 0))))
def Bz8d:AC:=(.kp [0,1,5,25] [5000,5001] (.dn (.cond (.t 25) (.seq (.reg false [⟨(some 4),none,.i (.mov (.c (.bool false)))⟩]) (.dn .ret)) .skip)))
def Bz8e:AC:=(.kp [0,1,5] [5000,5001] (.dn (.reg false [⟨(some 15),none,.i (.mov (.t 5))⟩,⟨(some 16),none,.i (.bin .add (.t 15) (.c (.int .i64 1)))⟩,⟨(some 5),none,.i (.mov (.t 16))⟩])))
def Bz8f:AC:=(.kp [0,1,5] [5000,5001] (.dn (.seq (.block 1 (.seq (.reg true [⟨(some 17),none,.i (.mov (.t 0))⟩,⟨(some 18),none,.i (.mov (.t 5))⟩,⟨(some 19),none,.i (.iad 1 (.t 17) (.t 18))⟩,⟨(some 20),none,.i (.ld (.t 19))⟩,⟨(some 21),none,.i (.mov (.t 1))⟩,⟨(some 22),none,.i (.mov (.t 5))⟩,⟨(some 23),none,.i (.iad 1 (.t 21) (.t 22))⟩,⟨(some 24),none,.i (.ld (.t 23))⟩,⟨(some 25),none,.i (.bin .neq (.t 20) (.t 24))⟩]) Bz8d)) Bz8e)))
def Bz8g:AC:=(.kp [0,1,5] [5000,5001] (.dn (.seq (.seq (.reg false [⟨(some 11),none,.i (.mov (.t 5))⟩,⟨(some 12),none,.i (.mov (.t 0))⟩,⟨(some 13),none,.i (.len (.t 12))⟩,⟨(some 14),none,.i (.bin .lss (.t 11) (.t 13))⟩]) Bz8c) Bz8f)))
def Bz8h:AC:=(.kp [0,1,5] [5000,5001] (.dn (.block 0 (.loop Bz8g))))
def Bz8i:AC:=(.kp [] [5000,5001] (.dn (.seq (.reg false [⟨(some 4),none,.i (.mov (.c (.bool true)))⟩]) (.dn .ret))))
def Bz8j:AC:=(.kp [0,1] [5000,5001] (.dn (.seq (.seq (.reg false [⟨(some 5),none,.i (.mov (.c (.int .i64 0)))⟩]) Bz8h) Bz8i)))
def Bz8k:AC:=(.kp [0,1] [5000,5001] (.dn (.seq (.seq (.reg false [⟨(some 6),none,.i (.mov (.t 0))⟩,⟨(some 7),none,.i (.len (.t 6))⟩,⟨(some 8),none,.i (.mov (.t 1))⟩,⟨(some 9),none,.i (.len (.t 8))⟩,⟨(some 10),none,.i (.bin .neq (.t 7) (.t 9))⟩]) Bz8b) Bz8j)))
def Az8l:AFn:=⟨26,2,(.seq (.reg false [⟨(some 4),none,.i (.mov (.c (.bool false)))⟩]) Bz8k),[.tmp 4]⟩
theorem czc6:cFn (drV none) Tryd.prog nz28 Az8l:=⟨_,_,Tryd.func44,rfl,by kernel_rfl,by decide,rfl,by kernel_rfl,by kernel_rfl⟩
def Bz8m:AC:=(.kp [1,2] [2,5000,5001] (.dn (.seq (.reg false [⟨(some 5),none,.i (.mov (.t 1))⟩,⟨(some 6),none,.i (.len (.t 5))⟩,⟨(some 7),none,.i (.bin .leq (.t 6) (.c (.int .i64 400)))⟩,⟨(some 8),none,.i (.mov (.t 7))⟩,⟨(some 9),(some (8,true)),.i (.mov (.t 1))⟩,⟨(some 10),(some (8,true)),.i (.lda 2 (.t 2))⟩,⟨(some 11),(some (8,true)),.call nze [(.t 10)]⟩,⟨(some 12),(some (8,true)),.i (.bin .sub (.t 11) (.c (.int .i64 1)))⟩,⟨(some 13),(some (8,true)),.call nzg [(.t 9),(.c (.int .i64 0)),(.t 12)]⟩,⟨(some 14),none,.i (.pick (.t 8) (.t 13) (.c (.bool false)))⟩,⟨(some 4),none,.i (.mov (.t 14))⟩]) (.dn .ret))))
def Az8n:AFn:=⟨15,2,(.seq (.reg false [⟨(some 2),none,.i (.box (.t 0))⟩,⟨(some 4),none,.i (.mov (.c (.bool false)))⟩]) Bz8m),[.tmp 4]⟩
theorem czc7:cFn (drV none) Tryd.prog nz29 Az8n:=⟨_,_,Tryd.func45,rfl,by kernel_rfl,by decide,rfl,by kernel_rfl,by kernel_rfl⟩
theorem x_strconv_ParseInt:∃ fn,Tryd.prog.funcs[nz2a]?=some fn∧fn.body.isSome=true∧isNumG fn=false:=⟨_,Tryd.func51,by kernel_rfl,by decide⟩
def Bz8o:AC:=(.kp [0,1,2] [5000,5001,5002] (.dn (.seq (.reg false [⟨(some 7),none,.i (.mov (.t 0))⟩,⟨(some 8),none,.i (.mov (.t 1))⟩,⟨(some 9),none,.i (.bin .geq (.t 7) (.t 8))⟩,⟨(some 10),none,.i (.mov (.t 9))⟩,⟨(some 11),(some (10,true)),.i (.mov (.t 0))⟩,⟨(some 12),(some (10,true)),.i (.mov (.t 2))⟩,⟨(some 13),(some (10,true)),.i (.bin .leq (.t 11) (.t 12))⟩,⟨(some 14),none,.i (.pick (.t 10) (.t 13) (.c (.bool false)))⟩,⟨(some 6),none,.i (.mov (.t 14))⟩]) (.dn .ret))))
def Az8p:AFn:=⟨15,3,(.seq (.reg false [⟨(some 6),none,.i (.mov (.c (.bool false)))⟩]) Bz8o),[.tmp 6]⟩
theorem czc8:cFn (drV none) Tryd.prog nzh Az8p:=⟨_,_,Tryd.func56,rfl,by kernel_rfl,by decide,rfl,by kernel_rfl,by kernel_rfl⟩
def Bz8q:AC:=(.kp [0,1,2] [5000,5001,5002] (.dn (.seq (.reg false [⟨(some 7),none,.i (.mov (.t 0))⟩,⟨(some 8),none,.i (.mov (.t 1))⟩,⟨(some 9),none,.i (.bin .geq (.t 7) (.t 8))⟩,⟨(some 10),none,.i (.mov (.t 9))⟩,⟨(some 11),(some (10,true)),.i (.mov (.t 0))⟩,⟨(some 12),(some (10,true)),.i (.mov (.t 2))⟩,⟨(some 13),(some (10,true)),.i (.bin .leq (.t 11) (.t 12))⟩,⟨(some 14),none,.i (.pick (.t 10) (.t 13) (.c (.bool false)))⟩,⟨(some 6),none,.i (.mov (.t 14))⟩]) (.dn .ret))))
def Az8r:AFn:=⟨15,3,(.seq (.reg false [⟨(some 6),none,.i (.mov (.c (.bool false)))⟩]) Bz8q),[.tmp 6]⟩
theorem czc9:cFn (drV none) Tryd.prog nzi Az8r:=⟨_,_,Tryd.func60,rfl,by kernel_rfl,by decide,rfl,by kernel_rfl,by kernel_rfl⟩
def Bz8s:AC:=(.kp [0,1] [5000,5001] (.dn (.seq (.reg false [⟨(some 5),none,.i (.mov (.t 0))⟩,⟨(some 6),none,.i (.mov (.t 1))⟩,⟨(some 7),none,.call nz2h [(.t 5),(.t 6)]⟩,⟨(some 8),none,.i (.bin .geq (.t 7) (.c (.int .i64 0)))⟩,⟨(some 4),none,.i (.mov (.t 8))⟩]) (.dn .ret))))
def Az8t:AFn:=⟨9,2,(.seq (.reg false [⟨(some 4),none,.i (.mov (.c (.bool false)))⟩]) Bz8s),[.tmp 4]⟩
theorem czca:cFn (drV none) Tryd.prog nz2b Az8t:=⟨_,_,Tryd.func61,rfl,by kernel_rfl,by decide,rfl,by kernel_rfl,by kernel_rfl⟩
def Bz8u:AC:=(.kp [0] [5000] (.dn (.seq (.reg false [⟨(some 3),none,.i (.mov (.t 0))⟩,⟨(some 4),none,.i (.len (.t 3))⟩,⟨(some 2),none,.i (.mov (.t 4))⟩]) (.dn .ret))))
def Az8v:AFn:=⟨5,1,(.seq (.reg false [⟨(some 2),none,.i (.mov (.c (.int .i64 0)))⟩]) Bz8u),[.tmp 2]⟩
theorem czcb:cFn (drV none) Tryd.prog nz2c Az8v:=⟨_,_,Tryd.func63,rfl,by kernel_rfl,by decide,rfl,by kernel_rfl,by kernel_rfl⟩
theorem x_strconv_FormatInt:∃ fn,Tryd.prog.funcs[nz2d]?=some fn∧fn.body.isSome=true∧isNumG fn=false:=⟨_,Tryd.func64,by kernel_rfl,by decide⟩
def Bz8w:AC:=(.kp [2,3] [2,3,5,14,19,26,28,1019,5000,901] (.seq (.regi false [⟨(some 22),none,.i (.lda 2 (.t 3))⟩,⟨none,none,.i (.sto 2 (.t 2) (.t 22))⟩]) .ret))
def Bz3q:AC:=(.kp [0,2,23] [2,3,5,14,19,26,28,1019,5000,901] (.cond (.t 23) (.seq (.regi false [⟨(some 25),none,.i (.mov (.t 0))⟩,⟨(some 26),none,.call nz2j [(.t 25)]⟩,⟨none,none,.i (.sto 2 (.t 2) (.t 26))⟩]) .ret) .skip))
def Bz1l:AC:=(.kp [0,2,8,15] [2,3,5,14,19,26,28,1019,5000,901] (.cond (.t 15) (.seq (.regi false [⟨(some 18),none,.i (.mov (.t 0))⟩,⟨(some 19),none,.call nz2i [(.t 18)]⟩,⟨(some 17),none,.i (.mov (.t 19))⟩,⟨(some 20),none,.i (.ext 0 (.t 17))⟩,⟨(some 21),none,.i (.ext 1 (.t 17))⟩,⟨(some 3),none,.i (.new [.int .i64 0,.slice none 0 0])⟩,⟨none,none,.i (.sto 2 (.t 3) (.t 20))⟩,⟨(some 4),none,.i (.mov (.t 21))⟩]) Bz8w) (.seq (.regi false [⟨(some 24),none,.i (.bin .eql (.t 8) (.c (.int .i64 2)))⟩,⟨(some 23),none,.i (.mov (.t 24))⟩]) Bz3q)))
def Bzn:AC:=(.kp [0,2,8,9] [2,3,5,14,19,26,28,1019,5000,901] (.cond (.t 9) (.seq (.regi false [⟨(some 11),none,.i (.mov (.t 0))⟩,⟨(some 12),none,.call nz0 [(.t 11),(.c (.int .i64 6))]⟩,⟨(some 13),none,.i (.bin .add (.c (.int .i64 2)) (.t 12))⟩,⟨(some 14),none,.call nzc [(.t 13)]⟩,⟨none,none,.i (.sto 2 (.t 2) (.t 14))⟩]) .ret) (.seq (.regi false [⟨(some 16),none,.i (.bin .eql (.t 8) (.c (.int .i64 1)))⟩,⟨(some 15),none,.i (.mov (.t 16))⟩]) Bz1l)))
def Bzo:AC:=(.kp [0,2,8] [2,3,5,14,19,26,28,1019,5000,901] (.block 0 (.seq (.regi false [⟨(some 10),none,.i (.bin .eql (.t 8) (.c (.int .i64 0)))⟩,⟨(some 9),none,.i (.mov (.t 10))⟩]) Bzn)))
def Bz8x:AC:=(.kp [0,2,5,6] [2,3,5,14,19,26,28,1019,5000,901] (.gh (.regi true [⟨(some 36),none,.r [5000] (.fad 1 (.t 5))⟩,⟨(some 37),none,.r [5000] (.ld (.t 36))⟩,⟨(some 38),none,.i (.mov (.t 6))⟩,⟨(some 39),none,.r [5000] (.iad 1 (.t 37) (.t 38))⟩,⟨(some 40),none,.r [5000] (.ld (.t 39))⟩,⟨(some 41),none,.i (.mov (.t 0))⟩,⟨(some 42),none,.r [5000] (.fad 0 (.t 5))⟩,⟨(some 43),none,.r [5000] (.ld (.t 42))⟩,⟨(some 44),none,.calm [5000] nz0 [(.t 41),(.t 43)]⟩,⟨(some 45),none,.r [5000] (.fad 1 (.t 5))⟩,⟨(some 46),none,.r [5000] (.ld (.t 45))⟩,⟨(some 47),none,.i (.mov (.t 6))⟩,⟨(some 48),none,.r [5000] (.iad 1 (.t 46) (.t 47))⟩,⟨(some 49),none,.r [5000] (.ld (.t 48))⟩,⟨(some 50),none,.i (.mov (.t 0))⟩,⟨(some 51),none,.r [5000] (.fad 0 (.t 5))⟩,⟨(some 52),none,.r [5000] (.ld (.t 51))⟩,⟨(some 53),none,.calm [5000] nz0 [(.t 50),(.t 52)]⟩,⟨(some 54),none,.r [5000] (.iad 1 (.t 49) (.t 53))⟩,⟨(some 55),none,.r [5000] (.ld (.t 54))⟩,⟨(some 56),none,.r [5000] (.iad 1 (.t 40) (.t 44))⟩,⟨none,none,.i (.sto 1 (.t 56) (.t 55))⟩])))
def Bz3r:AC:=(.kp [0,2,5,30] [2,3,5,14,19,26,28,1019,5000,901] (.cond (.t 30) (.seq (.regi false [⟨(some 31),none,.i (.mov (.t 0))⟩,⟨(some 32),none,.i (.fad 1 (.t 5))⟩,⟨(some 33),none,.i (.ld (.t 32))⟩,⟨(some 34),none,.i (.len (.t 33))⟩,⟨(some 35),none,.call nz0 [(.t 31),(.t 34)]⟩,⟨(some 6),none,.i (.mov (.t 35))⟩]) Bz8x) .skip))
def Bz1m:AC:=(.kp [2,5] [2,3,5,14,19,26,28,1019,5000,901] (.gh (.seq (.regi false [⟨(some 57),none,.i (.lda 2 (.t 5))⟩,⟨none,none,.i (.sto 2 (.t 2) (.t 57))⟩]) .ret)))
def Bz8y:AC:=(.kp [0,2,5] [2,3,5,14,19,26,28,1019,5000,901] (.seq (.seq (.regi false [⟨(some 29),none,.i (.mov (.t 0))⟩,⟨(some 30),none,.call nz4 [(.t 29),(.c (.int .i64 2))]⟩]) Bz3r) Bz1m))
def Bz8z:AC:=(.kp [0,2] [2,3,5,14,19,26,28,1019,5000,901] (.seq (.regi false [⟨(some 27),none,.i (.mov (.t 0))⟩,⟨(some 28),none,.call nza [(.t 27),(.c (.int .i64 6))]⟩,⟨(some 5),none,.i (.new [.int .i64 0,.slice none 0 0])⟩,⟨none,none,.i (.sto 2 (.t 5) (.t 28))⟩]) Bz8y))
def Bz90:AC:=(.kp [0,2] [2,3,5,14,19,26,28,1019,5000,901] (.seq (.seq (.regi false [⟨(some 7),none,.i (.mov (.t 0))⟩,⟨(some 8),none,.call nz0 [(.t 7),(.c (.int .i64 6))]⟩]) Bzo) Bz8z))
def Az7:AFn:=⟨58,1,(.seq (.regi false [⟨(some 2),none,.i (.new [.int .i64 0,.slice none 0 0])⟩]) Bz90),[.cell (some 2) 2]⟩
theorem czcc:cFn (drV (some ([5000],[nz0]))) Tryd.prog nz2e Az7:=⟨_,_,Tryd.func66,rfl,by kernel_rfl,by decide,rfl,by kernel_rfl,by kernel_rfl⟩
def Bz91:AC:=(.kp [0,1] [5000,5001] (.dn (.seq (.reg false [⟨(some 5),none,.i (.mov (.t 0))⟩,⟨(some 6),none,.i (.mov (.t 1))⟩,⟨(some 7),none,.call nz0 [(.t 5),(.t 6)]⟩,⟨(some 8),none,.i (.bin .eql (.t 7) (.c (.int .i64 0)))⟩,⟨(some 4),none,.i (.mov (.t 8))⟩]) (.dn .ret))))
def Az92:AFn:=⟨9,2,(.seq (.reg false [⟨(some 4),none,.i (.mov (.c (.bool false)))⟩]) Bz91),[.tmp 4]⟩
theorem czcd:cFn (drV none) Tryd.prog nz4 Az92:=⟨_,_,Tryd.func67,rfl,by kernel_rfl,by decide,rfl,by kernel_rfl,by kernel_rfl⟩
def Bz3s:AC:=(.kp [0,1,5,9] [5000,5001] (.dn (.cond (.t 9) .skip (.exit 0))))
def Bz93:AC:=(.kp [0,1,5,19] [5000,5001] (.dn (.cond (.t 19) (.seq (.reg false [⟨(some 4),none,.i (.mov (.c (.bool false)))⟩]) (.dn .ret)) .skip)))
def Bz94:AC:=(.kp [0,1,5] [5000,5001] (.dn (.reg false [⟨(some 10),none,.i (.mov (.t 5))⟩,⟨(some 11),none,.i (.bin .add (.t 10) (.c (.int .i64 1)))⟩,⟨(some 5),none,.i (.mov (.t 11))⟩])))
def Bz3t:AC:=(.kp [0,1,5] [5000,5001] (.dn (.seq (.block 1 (.seq (.reg false [⟨(some 12),none,.i (.mov (.t 0))⟩,⟨(some 13),none,.i (.mov (.t 5))⟩,⟨(some 14),none,.i (.iad 1 (.t 12) (.t 13))⟩,⟨(some 15),none,.i (.ld (.t 14))⟩,⟨(some 16),none,.i (.mov (.t 1))⟩,⟨(some 17),none,.i (.bin .sub (.t 16) (.c (.int .i64 1)))⟩,⟨(some 18),none,.call nzh [(.t 15),(.c (.int .i64 0)),(.t 17)]⟩,⟨(some 19),none,.i (.un .not (.t 18))⟩]) Bz93)) Bz94)))
def Bz1n:AC:=(.kp [0,1,5] [5000,5001] (.dn (.seq (.seq (.reg false [⟨(some 6),none,.i (.mov (.t 5))⟩,⟨(some 7),none,.i (.mov (.t 0))⟩,⟨(some 8),none,.i (.len (.t 7))⟩,⟨(some 9),none,.i (.bin .lss (.t 6) (.t 8))⟩]) Bz3s) Bz3t)))
def Bz95:AC:=(.kp [0,1,5] [5000,5001] (.dn (.block 0 (.loop Bz1n))))
def Bz96:AC:=(.kp [0,1] [5000,5001] (.dn (.seq (.reg false [⟨(some 20),none,.i (.mov (.t 0))⟩,⟨(some 21),none,.i (.len (.t 20))⟩,⟨(some 22),none,.i (.mov (.t 1))⟩,⟨(some 23),none,.i (.bin .eql (.t 21) (.t 22))⟩,⟨(some 4),none,.i (.mov (.t 23))⟩]) (.dn .ret))))
def Bz97:AC:=(.kp [0,1] [5000,5001] (.dn (.seq (.seq (.reg false [⟨(some 5),none,.i (.mov (.c (.int .i64 0)))⟩]) Bz95) Bz96)))
def Az98:AFn:=⟨24,2,(.seq (.reg false [⟨(some 4),none,.i (.mov (.c (.bool false)))⟩]) Bz97),[.tmp 4]⟩
theorem czce:cFn (drV none) Tryd.prog nz2f Az98:=⟨_,_,Tryd.func68,rfl,by kernel_rfl,by decide,rfl,by kernel_rfl,by kernel_rfl⟩
def Bz3u:AC:=(.kp [0,3,13] [5000] (.dn (.cond (.t 13) (.reg true [⟨(some 14),none,.i (.mov (.t 0))⟩,⟨(some 15),none,.i (.nilck (.t 14))⟩,⟨(some 16),none,.i (.fad 0 (.t 15))⟩,⟨(some 17),none,.i (.ld (.t 16))⟩,⟨(some 18),none,.i (.mov (.t 0))⟩,⟨(some 19),none,.i (.nilck (.t 18))⟩,⟨(some 20),none,.i (.fad 1 (.t 19))⟩,⟨(some 21),none,.i (.ld (.t 20))⟩,⟨(some 22),none,.i (.iad 1 (.t 17) (.t 21))⟩,⟨(some 23),none,.i (.ld (.t 22))⟩,⟨(some 24),none,.i (.cvi .i64 (.t 23))⟩,⟨(some 3),none,.i (.mov (.t 24))⟩]) .skip)))
def Bz3v:AC:=(.kp [0,3,53] [5000] (.dn (.cond (.t 53) (.seq (.reg false [⟨(some 54),none,.i (.mov (.t 3))⟩,⟨(some 2),none,.i (.mov (.t 54))⟩]) (.dn .ret)) .skip)))
def Bz3w:AC:=(.kp [0] [5000] (.dn (.seq (.reg false [⟨(some 55),none,.i (.mov (.t 0))⟩,⟨(some 56),none,.i (.nilck (.t 55))⟩,⟨(some 57),none,.i (.fad 2 (.t 56))⟩,⟨(some 58),none,.i (.ld (.t 57))⟩,⟨(some 59),none,.i (.bin .shr (.t 58) (.c (.int .u64 40)))⟩,⟨(some 60),none,.i (.bin .and (.t 59) (.c (.int .u64 255)))⟩,⟨(some 61),none,.i (.cvi .i64 (.t 60))⟩,⟨(some 2),none,.i (.mov (.t 61))⟩]) (.dn .ret))))
def Bz3x:AC:=(.kp [0,3] [5000] (.dn (.seq (.seq (.reg true [⟨(some 44),none,.i (.mov (.t 0))⟩,⟨(some 45),none,.i (.nilck (.t 44))⟩,⟨(some 46),none,.i (.fad 1 (.t 45))⟩,⟨(some 47),none,.i (.ld (.t 46))⟩,⟨(some 48),none,.i (.mov (.t 0))⟩,⟨(some 49),none,.i (.nilck (.t 48))⟩,⟨(some 50),none,.i (.fad 0 (.t 49))⟩,⟨(some 51),none,.i (.ld (.t 50))⟩,⟨(some 52),none,.i (.len (.t 51))⟩,⟨(some 53),none,.i (.bin .leq (.t 47) (.t 52))⟩]) Bz3v) Bz3w)))
def Bz3y:AC:=(.kp [0,3] [5000] (.dn (.seq (.reg false [⟨(some 32),none,.i (.mov (.t 0))⟩,⟨(some 33),none,.i (.mov (.t 0))⟩,⟨(some 34),none,.i (.nilck (.t 33))⟩,⟨(some 35),none,.i (.fad 2 (.t 34))⟩,⟨(some 36),none,.i (.ld (.t 35))⟩,⟨(some 37),none,.i (.bin .mul (.t 36) (.c (.int .u64 6364136223846793005)))⟩,⟨(some 38),none,.i (.mov (.t 3))⟩,⟨(some 39),none,.i (.cvi .u64 (.t 38))⟩,⟨(some 40),none,.i (.bin .add (.t 37) (.t 39))⟩,⟨(some 41),none,.i (.bin .add (.t 40) (.c (.int .u64 1442695040888963407)))⟩,⟨(some 42),none,.i (.nilck (.t 32))⟩,⟨(some 43),none,.i (.fad 2 (.t 42))⟩,⟨none,none,.i (.sto 1 (.t 43) (.t 41))⟩]) Bz3x)))
def Bz3z:AC:=(.kp [0,3] [5000] (.dn (.seq (.reg false [⟨(some 25),none,.i (.mov (.t 0))⟩,⟨(some 26),none,.i (.nilck (.t 25))⟩,⟨(some 27),none,.i (.fad 1 (.t 26))⟩,⟨(some 28),none,.i (.ld (.t 27))⟩,⟨(some 29),none,.i (.bin .add (.t 28) (.c (.int .i64 1)))⟩,⟨(some 30),none,.i (.nilck (.t 25))⟩,⟨(some 31),none,.i (.fad 1 (.t 30))⟩,⟨none,none,.i (.sto 1 (.t 31) (.t 29))⟩]) Bz3y)))
def Bz40:AC:=(.kp [0,3] [5000] (.dn (.seq (.seq (.reg true [⟨(some 4),none,.i (.mov (.t 0))⟩,⟨(some 5),none,.i (.nilck (.t 4))⟩,⟨(some 6),none,.i (.fad 1 (.t 5))⟩,⟨(some 7),none,.i (.ld (.t 6))⟩,⟨(some 8),none,.i (.mov (.t 0))⟩,⟨(some 9),none,.i (.nilck (.t 8))⟩,⟨(some 10),none,.i (.fad 0 (.t 9))⟩,⟨(some 11),none,.i (.ld (.t 10))⟩,⟨(some 12),none,.i (.len (.t 11))⟩,⟨(some 13),none,.i (.bin .lss (.t 7) (.t 12))⟩]) Bz3u) Bz3z)))
def Bz41:AC:=(.kp [0] [5000] (.dn (.seq (.reg false [⟨(some 3),none,.i (.mov (.c (.int .i64 0)))⟩]) Bz40)))
def Az42:AFn:=⟨62,1,(.seq (.reg false [⟨(some 2),none,.i (.mov (.c (.int .i64 0)))⟩]) Bz41),[.tmp 2]⟩
theorem czcf:cFn (drV none) Tryd.prog nz12 Az42:=⟨_,_,Tryd.func69,rfl,by kernel_rfl,by decide,rfl,by kernel_rfl,by kernel_rfl⟩
def Bz99:AC:=(.kp [0,1] [5000,5001] (.dn (.seq (.reg true [⟨(some 4),none,.i (.mov (.t 0))⟩,⟨(some 5),none,.call nz2c [(.t 4)]⟩,⟨(some 6),none,.i (.fad 0 (.t 1))⟩,⟨(some 7),none,.i (.ld (.t 6))⟩,⟨(some 8),none,.i (.bin .neq (.t 5) (.t 7))⟩,⟨(some 9),none,.i (.mov (.t 8))⟩,⟨(some 10),(some (9,false)),.i (.mov (.t 0))⟩,⟨(some 11),(some (9,false)),.i (.fad 0 (.t 1))⟩,⟨(some 12),(some (9,false)),.i (.ld (.t 11))⟩,⟨(some 13),(some (9,false)),.i (.bin .sub (.t 12) (.c (.int .i64 1)))⟩,⟨(some 14),(some (9,false)),.calh nzg [(.t 10),(.c (.int .i64 0)),(.t 13)]⟩,⟨(some 15),(some (9,false)),.i (.un .not (.t 14))⟩,⟨(some 16),none,.i (.pick (.t 9) (.c (.bool true)) (.t 15))⟩,⟨(some 3),none,.i (.mov (.t 16))⟩]) (.dn .ret))))
def Az9a:AFn:=⟨17,2,(.seq (.reg false [⟨(some 3),none,.i (.mov (.c (.bool false)))⟩]) Bz99),[.tmp 3]⟩
theorem czcg:cFn (drV none) Tryd.prog nz13 Az9a:=⟨_,_,Tryd.func70,rfl,by kernel_rfl,by decide,rfl,by kernel_rfl,by kernel_rfl⟩
def Bz9b:AC:=(.kp [0,1] [5000,5001] (.dn (.seq (.reg false [⟨(some 5),none,.i (.mov (.t 0))⟩,⟨(some 6),none,.i (.mov (.t 1))⟩,⟨(some 7),none,.call nz2k [(.t 5),(.t 6)]⟩,⟨(some 8),none,.i (.bin .geq (.t 7) (.c (.int .i64 0)))⟩,⟨(some 4),none,.i (.mov (.t 8))⟩]) (.dn .ret))))
def Az9c:AFn:=⟨9,2,(.seq (.reg false [⟨(some 4),none,.i (.mov (.c (.bool false)))⟩]) Bz9b),[.tmp 4]⟩
theorem czch:cFn (drV none) Tryd.prog nz2g Az9c:=⟨_,_,Tryd.func72,rfl,by kernel_rfl,by decide,rfl,by kernel_rfl,by kernel_rfl⟩
def Bz9d:AC:=(.kp [0,1,2] [5000,5001,5002] (.dn (.seq (.reg false [⟨(some 5),none,.i (.mov (.t 0))⟩,⟨(some 6),none,.i (.ld (.t 1))⟩,⟨(some 7),none,.i (.ld (.t 2))⟩,⟨(some 8),none,.call nzi [(.t 5),(.t 6),(.t 7)]⟩,⟨(some 9),none,.i (.un .not (.t 8))⟩,⟨(some 4),none,.i (.mov (.t 9))⟩]) (.dn .ret))))
def Az9e:AFn:=⟨10,3,(.seq (.reg false [⟨(some 4),none,.i (.mov (.c (.bool false)))⟩]) Bz9d),[.tmp 4]⟩
theorem czci:cFn (drV none) Tryd.prog nz14 Az9e:=⟨_,_,Tryd.func73,rfl,by kernel_rfl,by decide,rfl,by kernel_rfl,by kernel_rfl⟩
def Bz9f:AC:=(.kp [0,1,5,7,8,16] [16,1016,5000,5001] (.dn (.cond (.t 16) (.seq (.reg false [⟨(some 17),none,.i (.mov (.t 5))⟩,⟨(some 4),none,.i (.mov (.t 17))⟩]) (.dn .ret)) .skip)))
def Bz9g:AC:=(.kp [0,1,5,7,8] [5000,5001] (.dn (.seq (.reg false [⟨(some 11),none,.i (.mov (.t 1))⟩,⟨(some 12),none,.i (.mov (.t 0))⟩,⟨(some 13),none,.i (.mov (.t 5))⟩,⟨(some 14),none,.i (.iad 1 (.t 12) (.t 13))⟩,⟨(some 15),none,.i (.ld (.t 14))⟩,⟨(some 16),none,.calv (.t 11) [(.t 15)]⟩]) Bz9f)))
def Bz9h:AC:=(.kp [0,1,7,8] [5000,5001] (.dn (.reg false [⟨(some 18),none,.i (.bin .add (.t 8) (.c (.int .i64 1)))⟩,⟨(some 8),none,.i (.mov (.t 18))⟩])))
def Bz43:AC:=(.kp [0,1,7,8] [5000,5001] (.dn (.seq (.block 1 (.seq (.reg false [⟨(some 10),none,.i (.mov (.t 8))⟩,⟨(some 5),none,.i (.mov (.t 10))⟩]) Bz9g)) Bz9h)))
def Bz44:AC:=(.kp [0,1,7,8,9] [5000,5001] (.dn (.seq (.cond (.t 9) .skip (.exit 0)) Bz43)))
def Bz1o:AC:=(.kp [0,1,7,8] [5000,5001] (.dn (.seq (.reg false [⟨(some 9),none,.i (.bin .lss (.t 8) (.t 7))⟩]) Bz44)))
def Bz9i:AC:=(.kp [0,1,7,8] [5000,5001] (.dn (.block 0 (.loop Bz1o))))
def Bz9j:AC:=(.kp [] [5000,5001] (.dn (.seq (.reg false [⟨(some 4),none,.i (.mov (.c (.int .i64 (-1))))⟩]) (.dn .ret))))
def Bz9k:AC:=(.kp [0,1] [5000,5001] (.dn (.seq (.seq (.reg false [⟨(some 6),none,.i (.mov (.t 0))⟩,⟨(some 7),none,.i (.len (.t 6))⟩,⟨(some 8),none,.i (.mov (.c (.int .i64 0)))⟩]) Bz9i) Bz9j)))
def Az9l:AFn:=⟨19,2,(.seq (.reg false [⟨(some 4),none,.i (.mov (.c (.int .i64 0)))⟩]) Bz9k),[.tmp 4]⟩
theorem czcj:cFn (drV none) Tryd.prog nz2h Az9l:=⟨_,_,Tryd.func81,rfl,by kernel_rfl,by decide,rfl,by kernel_rfl,by kernel_rfl⟩
def Bz45:AC:=(.kp [0,2,4,5,6,7,26] [2,4,8,17,23,36,43,93,5000] (.cond (.t 26) .skip (.exit 0)))
def Bz46:AC:=(.kp [0,2,4,5,6,7,32] [2,4,8,17,23,36,43,93,5000] (.cond (.t 32) (.regi false [⟨(some 33),none,.i (.mov (.t 6))⟩,⟨(some 34),none,.i (.mov (.t 7))⟩,⟨(some 35),none,.i (.bsl 1 false [(.t 34)])⟩,⟨(some 36),none,.i (.app 1 8 (.t 33) (.t 35))⟩,⟨(some 6),none,.i (.mov (.t 36))⟩]) (.regi false [⟨(some 37),none,.i (.mov (.t 6))⟩,⟨(some 38),none,.i (.mov (.t 0))⟩,⟨(some 39),none,.i (.fad 0 (.t 4))⟩,⟨(some 40),none,.i (.ld (.t 39))⟩,⟨(some 41),none,.call nz0 [(.t 38),(.t 40)]⟩,⟨(some 42),none,.i (.bsl 1 false [(.t 41)])⟩,⟨(some 43),none,.i (.app 1 8 (.t 37) (.t 42))⟩,⟨(some 6),none,.i (.mov (.t 43))⟩])))
def Bz47:AC:=(.kp [0,2,4,5,6,7] [2,4,8,17,23,36,43,93,5000] (.regi false [⟨(some 27),none,.i (.mov (.t 7))⟩,⟨(some 28),none,.i (.bin .add (.t 27) (.c (.int .i64 1)))⟩,⟨(some 7),none,.i (.mov (.t 28))⟩]))
def Bz9m:AC:=(.kp [0,2,4,5,6,7] [2,4,8,17,23,36,43,93,5000] (.seq (.block 1 (.seq (.regi false [⟨(some 29),none,.i (.mov (.t 7))⟩,⟨(some 30),none,.i (.fad 0 (.t 4))⟩,⟨(some 31),none,.i (.ld (.t 30))⟩,⟨(some 32),none,.i (.bin .lss (.t 29) (.t 31))⟩]) Bz46)) Bz47))
def Bz1p:AC:=(.kp [0,2,4,5,6,7] [2,4,8,17,23,36,43,93,5000] (.seq (.seq (.regi false [⟨(some 24),none,.i (.mov (.t 7))⟩,⟨(some 25),none,.i (.mov (.t 5))⟩,⟨(some 26),none,.i (.bin .lss (.t 24) (.t 25))⟩]) Bz45) Bz9m))
def Bz9n:AC:=(.kp [0,2,4,5,6,7] [2,4,8,17,23,36,43,93,5000] (.block 0 (.loop Bz1p)))
def Bz48:AC:=(.kp [0,2,4,5,6,8,9,50] [2,4,8,17,23,36,43,93,5000] (.cond (.t 50) .skip (.exit 2)))
def Bz49:AC:=(.kp [0,2,4,5,6,8,9,10,11,56] [2,4,8,17,23,36,43,53,88,93,5000] (.cond (.t 56) .skip (.exit 4)))
def Bz4a:AC:=(.kp [0,2,4,5,6,8,9,10,11,12,13,14,72] [2,4,8,17,23,36,43,53,88,93,5000] (.cond (.t 72) .skip (.exit 6)))
def Bz9o:AC:=(.kp [0,2,4,5,6,8,9,10,11,12,13,14,15,83] [2,4,8,17,23,36,43,53,88,93,5000] (.cond (.t 83) (.regi false [⟨(some 84),none,.i (.mov (.t 15))⟩,⟨(some 13),none,.i (.mov (.t 84))⟩]) .skip))
def Bz9p:AC:=(.kp [0,2,4,5,6,8,9,10,11,12,13,14,15] [2,4,8,17,23,36,43,53,88,93,5000] (.seq (.regi false [⟨(some 78),none,.i (.mov (.t 6))⟩,⟨(some 79),none,.i (.mov (.t 15))⟩,⟨(some 80),none,.i (.iad 1 (.t 78) (.t 79))⟩,⟨(some 81),none,.i (.ld (.t 80))⟩,⟨(some 82),none,.i (.mov (.t 12))⟩,⟨(some 83),none,.i (.bin .eql (.t 81) (.t 82))⟩]) Bz9o))
def Bz9q:AC:=(.kp [0,2,4,5,6,8,9,10,11,12,13,14] [2,4,8,17,23,36,43,53,88,93,5000] (.regi false [⟨(some 73),none,.i (.mov (.t 14))⟩,⟨(some 74),none,.i (.bin .add (.t 73) (.c (.int .i64 1)))⟩,⟨(some 14),none,.i (.mov (.t 74))⟩]))
def Bz9r:AC:=(.kp [0,2,4,5,6,8,9,10,11,12,13,14] [2,4,8,17,23,36,43,53,88,93,5000] (.seq (.block 7 (.seq (.regi false [⟨(some 75),none,.i (.mov (.t 0))⟩,⟨(some 76),none,.i (.mov (.t 5))⟩,⟨(some 77),none,.call nz0 [(.t 75),(.t 76)]⟩,⟨(some 15),none,.i (.mov (.t 77))⟩]) Bz9p)) Bz9q))
def Bz1q:AC:=(.kp [0,2,4,5,6,8,9,10,11,12,13,14] [2,4,8,17,23,36,43,53,88,93,5000] (.seq (.seq (.regi false [⟨(some 71),none,.i (.mov (.t 14))⟩,⟨(some 72),none,.i (.bin .lss (.t 71) (.c (.int .i64 4)))⟩]) Bz4a) Bz9r))
def Bz9s:AC:=(.kp [0,2,4,5,6,8,9,10,11,12,13,14] [2,4,8,17,23,36,43,53,88,93,5000] (.block 6 (.loop Bz1q)))
def Bz9t:AC:=(.kp [0,2,4,5,6,8,9,10,11,13] [2,4,8,17,23,36,43,53,88,93,5000] (.regi false [⟨(some 85),none,.i (.mov (.t 10))⟩,⟨(some 86),none,.i (.mov (.t 13))⟩,⟨(some 87),none,.i (.bsl 1 false [(.t 86)])⟩,⟨(some 88),none,.i (.app 1 8 (.t 85) (.t 87))⟩,⟨(some 10),none,.i (.mov (.t 88))⟩]))
def Bz9u:AC:=(.kp [0,2,4,5,6,8,9,10,11,12,13] [2,4,8,17,23,36,43,53,88,93,5000] (.seq (.seq (.regi false [⟨(some 14),none,.i (.mov (.c (.int .i64 0)))⟩]) Bz9s) Bz9t))
def Bz9v:AC:=(.kp [0,2,4,5,6,8,9,10,11,12] [2,4,8,17,23,36,43,53,88,93,5000] (.seq (.regi false [⟨(some 70),none,.i (.mov (.t 12))⟩,⟨(some 13),none,.i (.mov (.t 70))⟩]) Bz9u))
def Bz9w:AC:=(.kp [0,2,4,5,6,8,9,10,11] [2,4,8,17,23,36,43,53,88,93,5000] (.regi false [⟨(some 57),none,.i (.mov (.t 11))⟩,⟨(some 58),none,.i (.bin .add (.t 57) (.c (.int .i64 1)))⟩,⟨(some 11),none,.i (.mov (.t 58))⟩]))
def Bz9x:AC:=(.kp [0,2,4,5,6,8,9,10,11] [2,4,8,17,23,36,43,53,88,93,5000] (.seq (.block 5 (.seq (.regi true [⟨(some 59),none,.r [5000] (.fad 1 (.t 4))⟩,⟨(some 60),none,.r [5000] (.ld (.t 59))⟩,⟨(some 61),none,.i (.mov (.t 9))⟩,⟨(some 62),none,.r [5000] (.iad 1 (.t 60) (.t 61))⟩,⟨(some 63),none,.r [5000] (.ld (.t 62))⟩,⟨(some 64),none,.i (.mov (.t 6))⟩,⟨(some 65),none,.i (.mov (.t 11))⟩,⟨(some 66),none,.r [5000] (.iad 1 (.t 64) (.t 65))⟩,⟨(some 67),none,.r [5000] (.ld (.t 66))⟩,⟨(some 68),none,.r [5000] (.iad 1 (.t 63) (.t 67))⟩,⟨(some 69),none,.r [5000] (.ld (.t 68))⟩,⟨(some 12),none,.i (.mov (.t 69))⟩]) Bz9v)) Bz9w))
def Bz1r:AC:=(.kp [0,2,4,5,6,8,9,10,11] [2,4,8,17,23,36,43,53,88,93,5000] (.seq (.seq (.regi false [⟨(some 54),none,.i (.mov (.t 11))⟩,⟨(some 55),none,.i (.mov (.t 5))⟩,⟨(some 56),none,.i (.bin .lss (.t 54) (.t 55))⟩]) Bz49) Bz9x))
def Bz9y:AC:=(.kp [0,2,4,5,6,8,9,10,11] [2,4,8,17,23,36,43,53,88,93,5000] (.block 4 (.loop Bz1r)))
def Bz9z:AC:=(.kp [0,2,4,5,6,8,9,10] [2,4,8,17,23,36,43,53,88,93,5000] (.gh (.regi false [⟨(some 89),none,.i (.fad 1 (.t 8))⟩,⟨(some 90),none,.i (.ld (.t 89))⟩,⟨(some 91),none,.i (.mov (.t 10))⟩,⟨(some 92),none,.i (.bsl 1 true [(.t 91)])⟩,⟨(some 93),none,.i (.app 1 24 (.t 90) (.t 92))⟩,⟨(some 94),none,.i (.fad 1 (.t 8))⟩,⟨none,none,.i (.sto 1 (.t 94) (.t 93))⟩])))
def Bza0:AC:=(.kp [0,2,4,5,6,8,9,10] [2,4,8,17,23,36,43,53,88,93,5000] (.seq (.seq (.regi false [⟨(some 11),none,.i (.mov (.c (.int .i64 0)))⟩]) Bz9y) Bz9z))
def Bza1:AC:=(.kp [0,2,4,5,6,8,9] [2,4,8,17,23,36,43,93,5000] (.regi false [⟨(some 51),none,.i (.mov (.t 9))⟩,⟨(some 52),none,.i (.bin .add (.t 51) (.c (.int .i64 1)))⟩,⟨(some 9),none,.i (.mov (.t 52))⟩]))
def Bza2:AC:=(.kp [0,2,4,5,6,8,9] [2,4,8,17,23,36,43,93,5000] (.seq (.block 3 (.seq (.regi false [⟨(some 53),none,.i (.bsl 1 false [])⟩,⟨(some 10),none,.i (.mov (.t 53))⟩]) Bza0)) Bza1))
def Bz1s:AC:=(.kp [0,2,4,5,6,8,9] [2,4,8,17,23,36,43,93,5000] (.seq (.seq (.regi false [⟨(some 46),none,.i (.mov (.t 9))⟩,⟨(some 47),none,.i (.fad 1 (.t 4))⟩,⟨(some 48),none,.i (.ld (.t 47))⟩,⟨(some 49),none,.i (.len (.t 48))⟩,⟨(some 50),none,.i (.bin .lss (.t 46) (.t 49))⟩]) Bz48) Bza2))
def Bza3:AC:=(.kp [0,2,4,5,6,8,9] [2,4,8,17,23,36,43,93,5000] (.ad 8 1 93 1 (.block 2 (.loop Bz1s))))
def Bza4:AC:=(.kp [2,6,8] [2,4,8,17,23,36,43,93,5000] (.seq (.regi true [⟨(some 95),none,.r [5000] (.lda 2 (.t 8))⟩,⟨(some 96),none,.i (.mov (.t 6))⟩,⟨(some 97),none,.call nz2l [(.t 96)]⟩,⟨none,none,.i (.sto 2 (.t 2) (.t 95))⟩,⟨(some 3),none,.i (.mov (.t 97))⟩]) .ret))
def Bza5:AC:=(.kp [0,2,4,5,6,8] [2,4,8,17,23,36,43,93,5000] (.seq (.seq (.regi false [⟨(some 9),none,.i (.mov (.c (.int .i64 0)))⟩]) Bza3) Bza4))
def Bza6:AC:=(.kp [0,2,4,5,6] [2,4,8,17,23,36,43,93,5000] (.seq (.regi false [⟨(some 44),none,.i (.mov (.t 5))⟩,⟨(some 45),none,.i (.bst [.int .i64 0,.slice none 0 0] [(0,1,(.t 44))])⟩,⟨(some 8),none,.i (.new [.int .i64 0,.slice none 0 0])⟩,⟨none,none,.i (.sto 2 (.t 8) (.t 45))⟩]) Bza5))
def Bza7:AC:=(.kp [0,2,4,5,6] [2,4,8,17,23,36,43,93,5000] (.seq (.seq (.regi false [⟨(some 7),none,.i (.mov (.c (.int .i64 0)))⟩]) Bz9n) Bza6))
def Bza8:AC:=(.kp [0,2,4,5] [2,4,8,17,93,5000] (.seq (.regi false [⟨(some 23),none,.i (.bsl 1 false [])⟩,⟨(some 6),none,.i (.mov (.t 23))⟩]) Bza7))
def Bza9:AC:=(.kp [0,2,4] [2,4,8,17,93,5000] (.seq (.regi true [⟨(some 18),none,.r [5000] (.fad 0 (.t 4))⟩,⟨(some 19),none,.r [5000] (.ld (.t 18))⟩,⟨(some 20),none,.i (.mov (.t 0))⟩,⟨(some 21),none,.calm [5000] nz0 [(.t 20),(.c (.int .i64 4))]⟩,⟨(some 22),none,.i (.bin .add (.t 19) (.t 21))⟩,⟨(some 5),none,.i (.mov (.t 22))⟩]) Bza8))
def Bzaa:AC:=(.kp [0,2] [2,4,8,17,93,5000] (.seq (.regi false [⟨(some 16),none,.i (.mov (.t 0))⟩,⟨(some 17),none,.call nza [(.t 16),(.c (.int .i64 3))]⟩,⟨(some 4),none,.i (.new [.int .i64 0,.slice none 0 0])⟩,⟨none,none,.i (.sto 2 (.t 4) (.t 17))⟩]) Bza9))
def Az4b:AFn:=⟨98,1,(.seq (.regi false [⟨(some 2),none,.i (.new [.int .i64 0,.slice none 0 0])⟩,⟨(some 3),none,.i (.mov (.c (.slice none 0 0)))⟩]) Bzaa),[.cell (some 2) 2,.tmp 3]⟩
theorem czck:cFn (drV (some ([5000],[nz0]))) Tryd.prog nz2i Az4b:=⟨_,_,Tryd.func83,rfl,by kernel_rfl,by decide,rfl,by kernel_rfl,by kernel_rfl⟩
def Bzab:AC:=(.kp [0,2,3,8] [2,3,6,10,61,73,77,5000,901] (.cond (.t 8) (.regi false [⟨(some 9),none,.i (.mov (.t 0))⟩,⟨(some 10),none,.call nza [(.t 9),(.c (.int .i64 10))]⟩,⟨none,none,.i (.sto 2 (.t 3) (.t 10))⟩]) .skip))
def Bzp:AC:=(.kp [2,3,75] [2,3,6,10,61,73,77,5000,901] (.cond (.t 75) (.regi false [⟨(some 77),none,.i (.bsl 1 true [])⟩,⟨(some 78),none,.i (.fad 1 (.t 3))⟩,⟨none,none,.i (.sto 1 (.t 78) (.t 77))⟩]) .skip))
def Bz8:AC:=(.kp [2,3,17,52] [2,3,6,10,61,73,77,5000,901] (.cond (.t 52) (.regi true [⟨(some 54),none,.i (.fad 1 (.t 3))⟩,⟨(some 55),none,.i (.ld (.t 54))⟩,⟨(some 56),none,.i (.fad 1 (.t 3))⟩,⟨(some 57),none,.i (.ld (.t 56))⟩,⟨(some 58),none,.i (.iad 1 (.t 57) (.c (.int .i64 0)))⟩,⟨(some 59),none,.i (.ld (.t 58))⟩,⟨(some 63),none,.i (.fad 1 (.t 3))⟩,⟨(some 64),none,.i (.ld (.t 63))⟩,⟨(some 65),none,.i (.iad 1 (.t 64) (.c (.int .i64 0)))⟩,⟨(some 66),none,.i (.ld (.t 65))⟩,⟨(some 67),none,.i (.fad 1 (.t 3))⟩,⟨(some 68),none,.i (.ld (.t 67))⟩,⟨(some 69),none,.i (.iad 1 (.t 68) (.c (.int .i64 0)))⟩,⟨(some 70),none,.i (.ld (.t 69))⟩,⟨(some 60),none,.i (.bslm [62,71] 1 [(.t 59)])⟩,⟨(some 61),none,.i (.appn [60] 1 24 (.t 55) (.t 60))⟩,⟨(some 62),none,.i (.bslm [71,60] 1 [])⟩,⟨(some 71),none,.i (.bslm [60] 1 [(.t 66),(.t 70)])⟩,⟨(some 72),none,.i (.app 1 24 (.t 62) (.t 71))⟩,⟨(some 73),none,.i (.app 1 24 (.t 61) (.t 72))⟩,⟨(some 74),none,.i (.fad 1 (.t 3))⟩,⟨none,none,.i (.sto 1 (.t 74) (.t 73))⟩]) (.seq (.regi false [⟨(some 76),none,.i (.bin .eql (.t 17) (.c (.int .i64 4)))⟩,⟨(some 75),none,.i (.mov (.t 76))⟩]) Bzp)))
def Bz5:AC:=(.kp [0,2,3,4,17,39] [2,3,6,10,61,73,77,5000,901] (.gh (.cond (.t 39) (.regi true [⟨(some 41),none,.r [5000,49] (.fad 1 (.t 3))⟩,⟨(some 42),none,.r [5000,49] (.ld (.t 41))⟩,⟨(some 43),none,.i (.mov (.t 4))⟩,⟨(some 44),none,.r [5000,49] (.iad 1 (.t 42) (.t 43))⟩,⟨(some 45),none,.r [5000,49] (.ld (.t 44))⟩,⟨(some 46),none,.i (.mov (.t 0))⟩,⟨(some 47),none,.r [5000,49] (.fad 0 (.t 3))⟩,⟨(some 48),none,.r [5000,49] (.ld (.t 47))⟩,⟨(some 49),none,.i (.bsl 1 false [(.c (.int .i64 (-1))),(.t 48)])⟩,⟨(some 50),none,.calm [5000,49] nzj [(.t 46),(.t 49)]⟩,⟨(some 51),none,.r [5000,49] (.iad 1 (.t 45) (.c (.int .i64 0)))⟩,⟨none,none,.i (.sto 1 (.t 51) (.t 50))⟩]) (.seq (.regi false [⟨(some 53),none,.i (.bin .eql (.t 17) (.c (.int .i64 3)))⟩,⟨(some 52),none,.i (.mov (.t 53))⟩]) Bz8))))
def Bz3:AC:=(.kp [0,2,3,4,17,27] [2,3,6,10,61,73,77,5000,901] (.cond (.t 27) (.regi true [⟨(some 29),none,.r [5000,49] (.fad 1 (.t 3))⟩,⟨(some 30),none,.r [5000,49] (.ld (.t 29))⟩,⟨(some 31),none,.i (.mov (.t 4))⟩,⟨(some 32),none,.r [5000,49] (.fad 1 (.t 3))⟩,⟨(some 33),none,.r [5000,49] (.ld (.t 32))⟩,⟨(some 34),none,.i (.mov (.t 4))⟩,⟨(some 35),none,.r [5000,49] (.iad 1 (.t 33) (.t 34))⟩,⟨(some 36),none,.r [5000,49] (.ld (.t 35))⟩,⟨(some 37),none,.i (.slcr 1 (.t 36) (some (.c (.int .i64 1))) none)⟩,⟨(some 38),none,.r [5000,49] (.iad 1 (.t 30) (.t 31))⟩,⟨none,none,.i (.sto 1 (.t 38) (.t 37))⟩]) (.seq (.regi false [⟨(some 40),none,.i (.bin .eql (.t 17) (.c (.int .i64 2)))⟩,⟨(some 39),none,.i (.mov (.t 40))⟩]) Bz5)))
def Bz1:AC:=(.kp [0,2,3,4,17,18] [2,3,6,10,61,73,77,5000,901] (.cond (.t 18) (.regi false [⟨(some 20),none,.i (.mov (.t 0))⟩,⟨(some 21),none,.i (.fad 0 (.t 3))⟩,⟨(some 22),none,.i (.ld (.t 21))⟩,⟨(some 23),none,.i (.bin .add (.t 22) (.c (.int .i64 1)))⟩,⟨(some 24),none,.i (.bsl 1 false [(.c (.int .i64 0)),(.c (.int .i64 (-1))),(.t 23),(.c (.int .i64 11))])⟩,⟨(some 25),none,.call nzj [(.t 20),(.t 24)]⟩,⟨(some 26),none,.i (.fad 0 (.t 3))⟩,⟨none,none,.i (.sto 1 (.t 26) (.t 25))⟩]) (.seq (.regi false [⟨(some 28),none,.i (.bin .eql (.t 17) (.c (.int .i64 1)))⟩,⟨(some 27),none,.i (.mov (.t 28))⟩]) Bz3)))
def Bz2:AC:=(.kp [0,2,3,4,17] [2,3,6,10,61,73,77,5000,901] (.block 0 (.seq (.regi false [⟨(some 19),none,.i (.bin .eql (.t 17) (.c (.int .i64 0)))⟩,⟨(some 18),none,.i (.mov (.t 19))⟩]) Bz1)))
def Bzq:AC:=(.kp [2,3] [2,3,6,10,61,73,77,5000,901] (.gh (.seq (.regi false [⟨(some 79),none,.i (.lda 2 (.t 3))⟩,⟨none,none,.i (.sto 2 (.t 2) (.t 79))⟩]) .ret)))
def Bz4c:AC:=(.kp [0,2,3,4] [2,3,6,10,61,73,77,5000,901] (.seq (.seq (.regi false [⟨(some 16),none,.i (.mov (.t 0))⟩,⟨(some 17),none,.call nz0 [(.t 16),(.c (.int .i64 24))]⟩]) Bz2) Bzq))
def Bz4d:AC:=(.kp [0,2,3] [2,3,6,10,61,73,77,5000,901] (.seq (.regi false [⟨(some 11),none,.i (.mov (.t 0))⟩,⟨(some 12),none,.i (.fad 1 (.t 3))⟩,⟨(some 13),none,.i (.ld (.t 12))⟩,⟨(some 14),none,.i (.len (.t 13))⟩,⟨(some 15),none,.call nz0 [(.t 11),(.t 14)]⟩,⟨(some 4),none,.i (.mov (.t 15))⟩]) Bz4c))
def Bzac:AC:=(.kp [0,2,3] [2,3,6,10,61,73,77,5000,901] (.seq (.seq (.regi false [⟨(some 7),none,.i (.mov (.t 0))⟩,⟨(some 8),none,.call nz4 [(.t 7),(.c (.int .i64 8))]⟩]) Bzab) Bz4d))
def Bzad:AC:=(.kp [0,2] [2,3,6,10,61,73,77,5000,901] (.seq (.regi false [⟨(some 5),none,.i (.mov (.t 0))⟩,⟨(some 6),none,.call nza [(.t 5),(.c (.int .i64 6))]⟩,⟨(some 3),none,.i (.new [.int .i64 0,.slice none 0 0])⟩,⟨none,none,.i (.sto 2 (.t 3) (.t 6))⟩]) Bzac))
def Az9:AFn:=⟨80,1,(.seq (.regi false [⟨(some 2),none,.i (.new [.int .i64 0,.slice none 0 0])⟩]) Bzad),[.cell (some 2) 2]⟩
theorem czcl:cFn (drW (some ([5000,49],[nzj]))) Tryd.prog nz2j Az9:=⟨_,_,Tryd.func84,rfl,by kernel_rfl,by decide,rfl,by kernel_rfl,by kernel_rfl⟩
def Bz4e:AC:=(.kp [0,1,4,5,23] [4,7,87,5000,5001] (.cond (.t 23) (.regi false [⟨(some 24),none,.i (.mov (.t 1))⟩,⟨(some 25),none,.i (.mov (.t 0))⟩,⟨(some 26),none,.call nz0 [(.t 25),(.c (.int .i64 3))]⟩,⟨(some 27),none,.i (.bin .add (.c (.int .i64 3)) (.t 26))⟩,⟨(some 28),none,.call nz2m [(.t 24),(.t 27)]⟩,⟨(some 5),none,.i (.mov (.t 28))⟩]) .skip))
def Bz4f:AC:=(.kp [0,4,5,6,38] [4,7,87,5000,5001] (.cond (.t 38) (.regi false [⟨(some 6),none,.i (.mov (.c (.int .i64 2)))⟩]) .skip))
def Bz4g:AC:=(.kp [0,4,5,6,7,8,43] [4,7,87,5000,5001] (.cond (.t 43) .skip (.exit 0)))
def Bz4h:AC:=(.kp [0,4,5,6,7,8,9,10,11,51] [4,7,46,82,87,5000,5001] (.cond (.t 51) .skip (.exit 2)))
def Bzae:AC:=(.kp [0,4,5,6,7,8,9,10,11,12,68] [4,7,46,82,87,5000,5001] (.cond (.t 68) (.regi false [⟨(some 69),none,.i (.mov (.t 11))⟩,⟨(some 12),none,.i (.mov (.t 69))⟩]) .skip))
def Bzaf:AC:=(.kp [0,4,5,6,7,8,9,10,11,12,74] [4,7,46,82,87,5000,5001] (.cond (.t 74) (.regi false [⟨(some 75),none,.i (.mov (.t 5))⟩,⟨(some 76),none,.i (.bin .sub (.t 75) (.c (.int .i64 1)))⟩,⟨(some 77),none,.i (.mov (.t 11))⟩,⟨(some 78),none,.i (.bin .sub (.t 76) (.t 77))⟩,⟨(some 12),none,.i (.mov (.t 78))⟩]) .skip))
def Bz4i:AC:=(.kp [0,4,5,6,7,8,9,10,11,12,70] [4,7,46,82,87,5000,5001] (.cond (.t 70) (.seq (.regi false [⟨(some 72),none,.i (.mov (.t 0))⟩,⟨(some 73),none,.call nz4 [(.t 72),(.c (.int .i64 3))]⟩,⟨(some 74),none,.i (.un .not (.t 73))⟩]) Bzaf) .skip))
def Bz1t:AC:=(.kp [0,4,5,6,7,8,9,10,11,12,57,64] [4,7,46,82,87,5000,5001] (.cond (.t 64) (.seq (.regi false [⟨(some 66),none,.i (.mov (.t 0))⟩,⟨(some 67),none,.call nz4 [(.t 66),(.c (.int .i64 4))]⟩,⟨(some 68),none,.i (.un .not (.t 67))⟩]) Bzae) (.seq (.regi false [⟨(some 71),none,.i (.bin .eql (.t 57) (.c (.int .i64 2)))⟩,⟨(some 70),none,.i (.mov (.t 71))⟩]) Bz4i)))
def Bzr:AC:=(.kp [0,4,5,6,7,8,9,10,11,12,57,58] [4,7,46,82,87,5000,5001] (.cond (.t 58) (.regi false [⟨(some 60),none,.i (.mov (.t 11))⟩,⟨(some 61),none,.i (.bin .add (.t 60) (.c (.int .i64 1)))⟩,⟨(some 62),none,.i (.mov (.t 5))⟩,⟨(some 63),none,.i (.bin .rem (.t 61) (.t 62))⟩,⟨(some 12),none,.i (.mov (.t 63))⟩]) (.seq (.regi false [⟨(some 65),none,.i (.bin .eql (.t 57) (.c (.int .i64 1)))⟩,⟨(some 64),none,.i (.mov (.t 65))⟩]) Bz1t)))
def Bzs:AC:=(.kp [0,4,5,6,7,8,9,10,11,12,57] [4,7,46,82,87,5000,5001] (.block 4 (.seq (.regi false [⟨(some 59),none,.i (.bin .eql (.t 57) (.c (.int .i64 0)))⟩,⟨(some 58),none,.i (.mov (.t 59))⟩]) Bzr)))
def Bzag:AC:=(.kp [0,4,5,6,7,8,9,10,11,12] [4,7,46,82,87,5000,5001] (.regi false [⟨(some 79),none,.i (.mov (.t 9))⟩,⟨(some 80),none,.i (.mov (.t 12))⟩,⟨(some 81),none,.i (.bsl 1 false [(.t 80)])⟩,⟨(some 82),none,.i (.app 1 8 (.t 79) (.t 81))⟩,⟨(some 9),none,.i (.mov (.t 82))⟩]))
def Bzah:AC:=(.kp [0,4,5,6,7,8,9,10,11,12] [4,7,46,82,87,5000,5001] (.seq (.seq (.regi false [⟨(some 57),none,.i (.mov (.t 10))⟩]) Bzs) Bzag))
def Bzai:AC:=(.kp [0,4,5,6,7,8,9,10,11] [4,7,46,82,87,5000,5001] (.regi false [⟨(some 52),none,.i (.mov (.t 11))⟩,⟨(some 53),none,.i (.bin .add (.t 52) (.c (.int .i64 1)))⟩,⟨(some 11),none,.i (.mov (.t 53))⟩]))
def Bz4j:AC:=(.kp [0,4,5,6,7,8,9,10,11] [4,7,46,82,87,5000,5001] (.seq (.block 3 (.seq (.regi false [⟨(some 54),none,.i (.mov (.t 0))⟩,⟨(some 55),none,.i (.mov (.t 5))⟩,⟨(some 56),none,.call nz0 [(.t 54),(.t 55)]⟩,⟨(some 12),none,.i (.mov (.t 56))⟩]) Bzah)) Bzai))
def Bz1u:AC:=(.kp [0,4,5,6,7,8,9,10,11] [4,7,46,82,87,5000,5001] (.seq (.seq (.regi false [⟨(some 49),none,.i (.mov (.t 11))⟩,⟨(some 50),none,.i (.mov (.t 5))⟩,⟨(some 51),none,.i (.bin .lss (.t 49) (.t 50))⟩]) Bz4h) Bz4j))
def Bzaj:AC:=(.kp [0,4,5,6,7,8,9,10,11] [4,7,46,82,87,5000,5001] (.block 2 (.loop Bz1u)))
def Bzak:AC:=(.kp [0,4,5,6,7,8,9] [4,7,46,82,87,5000,5001] (.gh (.regi false [⟨(some 83),none,.i (.fad 1 (.t 7))⟩,⟨(some 84),none,.i (.ld (.t 83))⟩,⟨(some 85),none,.i (.mov (.t 9))⟩,⟨(some 86),none,.i (.bsl 1 true [(.t 85)])⟩,⟨(some 87),none,.i (.app 1 24 (.t 84) (.t 86))⟩,⟨(some 88),none,.i (.fad 1 (.t 7))⟩,⟨none,none,.i (.sto 1 (.t 88) (.t 87))⟩])))
def Bzal:AC:=(.kp [0,4,5,6,7,8,9,10] [4,7,46,82,87,5000,5001] (.seq (.seq (.regi false [⟨(some 11),none,.i (.mov (.c (.int .i64 0)))⟩]) Bzaj) Bzak))
def Bzam:AC:=(.kp [0,4,5,6,7,8,9] [4,7,46,82,87,5000,5001] (.seq (.regi false [⟨(some 47),none,.i (.mov (.t 0))⟩,⟨(some 48),none,.call nz0 [(.t 47),(.c (.int .i64 5))]⟩,⟨(some 10),none,.i (.mov (.t 48))⟩]) Bzal))
def Bzan:AC:=(.kp [0,4,5,6,7,8] [4,7,87,5000,5001] (.regi false [⟨(some 44),none,.i (.mov (.t 8))⟩,⟨(some 45),none,.i (.bin .add (.t 44) (.c (.int .i64 1)))⟩,⟨(some 8),none,.i (.mov (.t 45))⟩]))
def Bz4k:AC:=(.kp [0,4,5,6,7,8] [4,7,87,5000,5001] (.seq (.block 1 (.seq (.regi false [⟨(some 46),none,.i (.bsl 1 false [])⟩,⟨(some 9),none,.i (.mov (.t 46))⟩]) Bzam)) Bzan))
def Bz1v:AC:=(.kp [0,4,5,6,7,8] [4,7,87,5000,5001] (.seq (.seq (.regi false [⟨(some 41),none,.i (.mov (.t 8))⟩,⟨(some 42),none,.i (.mov (.t 6))⟩,⟨(some 43),none,.i (.bin .lss (.t 41) (.t 42))⟩]) Bz4g) Bz4k))
def Bzao:AC:=(.kp [0,4,5,6,7,8] [4,7,87,5000,5001] (.ad 7 1 87 1 (.block 0 (.loop Bz1v))))
def Bzap:AC:=(.kp [4,7] [4,7,87,5000,5001] (.seq (.regi false [⟨(some 89),none,.i (.lda 2 (.t 7))⟩,⟨none,none,.i (.sto 2 (.t 4) (.t 89))⟩]) .ret))
def Bzaq:AC:=(.kp [0,4,5,6,7] [4,7,87,5000,5001] (.seq (.seq (.regi false [⟨(some 8),none,.i (.mov (.c (.int .i64 0)))⟩]) Bzao) Bzap))
def Bzt:AC:=(.kp [0,4,5,6] [4,7,87,5000,5001] (.seq (.regi false [⟨(some 39),none,.i (.mov (.t 5))⟩,⟨(some 40),none,.i (.bst [.int .i64 0,.slice none 0 0] [(0,1,(.t 39))])⟩,⟨(some 7),none,.i (.new [.int .i64 0,.slice none 0 0])⟩,⟨none,none,.i (.sto 2 (.t 7) (.t 40))⟩]) Bzaq))
def Bz4l:AC:=(.kp [0,4,5,6] [4,7,87,5000,5001] (.seq (.seq (.regi false [⟨(some 32),none,.i (.mov (.t 6))⟩,⟨(some 33),none,.i (.bin .eql (.t 32) (.c (.int .i64 1)))⟩,⟨(some 34),none,.i (.mov (.t 33))⟩,⟨(some 35),(some (34,true)),.i (.mov (.t 0))⟩,⟨(some 36),(some (34,true)),.call nz4 [(.t 35),(.c (.int .i64 3))]⟩,⟨(some 37),(some (34,true)),.i (.un .not (.t 36))⟩,⟨(some 38),none,.i (.pick (.t 34) (.t 37) (.c (.bool false)))⟩]) Bz4f) Bzt))
def Bzb:AC:=(.kp [0,4,5] [4,7,87,5000,5001] (.seq (.regi false [⟨(some 29),none,.i (.mov (.t 0))⟩,⟨(some 30),none,.call nz0 [(.t 29),(.c (.int .i64 3))]⟩,⟨(some 31),none,.i (.bin .add (.c (.int .i64 1)) (.t 30))⟩,⟨(some 6),none,.i (.mov (.t 31))⟩]) Bz4l))
def Bz4m:AC:=(.kp [0,1,4,5] [4,7,87,5000,5001] (.seq (.seq (.regi false [⟨(some 17),none,.i (.mov (.t 5))⟩,⟨(some 18),none,.i (.bin .lss (.t 17) (.c (.int .i64 3)))⟩,⟨(some 19),none,.i (.mov (.t 18))⟩,⟨(some 20),(some (19,true)),.i (.mov (.t 0))⟩,⟨(some 21),(some (19,true)),.call nz4 [(.t 20),(.c (.int .i64 3))]⟩,⟨(some 22),(some (19,true)),.i (.un .not (.t 21))⟩,⟨(some 23),none,.i (.pick (.t 19) (.t 22) (.c (.bool false)))⟩]) Bz4e) Bzb))
def Bzar:AC:=(.kp [0,1,4] [4,7,87,5000,5001] (.seq (.regi false [⟨(some 13),none,.i (.mov (.t 0))⟩,⟨(some 14),none,.i (.mov (.t 1))⟩,⟨(some 15),none,.call nz0 [(.t 13),(.t 14)]⟩,⟨(some 16),none,.i (.bin .add (.c (.int .i64 1)) (.t 15))⟩,⟨(some 5),none,.i (.mov (.t 16))⟩]) Bz4m))
def Az4n:AFn:=⟨90,2,(.seq (.regi false [⟨(some 4),none,.i (.new [.int .i64 0,.slice none 0 0])⟩]) Bzar),[.cell (some 2) 4]⟩
theorem czcm:cFn (drV none) Tryd.prog nza Az4n:=⟨_,_,Tryd.func85,rfl,by kernel_rfl,by decide,rfl,by kernel_rfl,by kernel_rfl⟩
def Bzas:AC:=(.kp [0,1,5,7,8,16] [16,1016,5000,5001] (.dn (.cond (.t 16) (.seq (.reg false [⟨(some 17),none,.i (.mov (.t 5))⟩,⟨(some 4),none,.i (.mov (.t 17))⟩]) (.dn .ret)) .skip)))
def Bzat:AC:=(.kp [0,1,5,7,8] [5000,5001] (.dn (.seq (.reg false [⟨(some 11),none,.i (.mov (.t 1))⟩,⟨(some 12),none,.i (.mov (.t 0))⟩,⟨(some 13),none,.i (.mov (.t 5))⟩,⟨(some 14),none,.i (.iad 1 (.t 12) (.t 13))⟩,⟨(some 15),none,.i (.ld (.t 14))⟩,⟨(some 16),none,.calv (.t 11) [(.t 15)]⟩]) Bzas)))
def Bzau:AC:=(.kp [0,1,7,8] [5000,5001] (.dn (.reg false [⟨(some 18),none,.i (.bin .add (.t 8) (.c (.int .i64 1)))⟩,⟨(some 8),none,.i (.mov (.t 18))⟩])))
def Bz4o:AC:=(.kp [0,1,7,8] [5000,5001] (.dn (.seq (.block 1 (.seq (.reg false [⟨(some 10),none,.i (.mov (.t 8))⟩,⟨(some 5),none,.i (.mov (.t 10))⟩]) Bzat)) Bzau)))
def Bz4p:AC:=(.kp [0,1,7,8,9] [5000,5001] (.dn (.seq (.cond (.t 9) .skip (.exit 0)) Bz4o)))
def Bz1w:AC:=(.kp [0,1,7,8] [5000,5001] (.dn (.seq (.reg false [⟨(some 9),none,.i (.bin .lss (.t 8) (.t 7))⟩]) Bz4p)))
def Bzav:AC:=(.kp [0,1,7,8] [5000,5001] (.dn (.block 0 (.loop Bz1w))))
def Bzaw:AC:=(.kp [] [5000,5001] (.dn (.seq (.reg false [⟨(some 4),none,.i (.mov (.c (.int .i64 (-1))))⟩]) (.dn .ret))))
def Bzax:AC:=(.kp [0,1] [5000,5001] (.dn (.seq (.seq (.reg false [⟨(some 6),none,.i (.mov (.t 0))⟩,⟨(some 7),none,.i (.len (.t 6))⟩,⟨(some 8),none,.i (.mov (.c (.int .i64 0)))⟩]) Bzav) Bzaw)))
def Azay:AFn:=⟨19,2,(.seq (.reg false [⟨(some 4),none,.i (.mov (.c (.int .i64 0)))⟩]) Bzax),[.tmp 4]⟩
theorem czcn:cFn (drV none) Tryd.prog nz2k Azay:=⟨_,_,Tryd.func89,rfl,by kernel_rfl,by decide,rfl,by kernel_rfl,by kernel_rfl⟩
def Bz4q:AC:=(.kp [0,3,4,5,12] [8,41,5000] (.dn (.cond (.t 12) .skip (.exit 0))))
def Bz4r:AC:=(.kp [0,3,4,5,6,7,17] [8,41,5000] (.dn (.cond (.t 17) .skip (.exit 2))))
def Bzaz:AC:=(.kp [0,3,4,5,6,7,28] [8,41,5000] (.dn (.cond (.t 28) (.reg false [⟨(some 29),none,.i (.mov (.t 3))⟩,⟨(some 30),none,.i (.mov (.t 7))⟩,⟨(some 31),none,.i (.iad 1 (.t 29) (.t 30))⟩,⟨(some 32),none,.i (.ld (.t 31))⟩,⟨(some 6),none,.i (.mov (.t 32))⟩]) .skip)))
def Bzb0:AC:=(.kp [0,3,4,5,6,7] [8,41,5000] (.dn (.reg false [⟨(some 18),none,.i (.mov (.t 7))⟩,⟨(some 19),none,.i (.bin .add (.t 18) (.c (.int .i64 1)))⟩,⟨(some 7),none,.i (.mov (.t 19))⟩])))
def Bzb1:AC:=(.kp [0,3,4,5,6,7] [8,41,5000] (.dn (.seq (.block 3 (.seq (.reg true [⟨(some 20),none,.i (.mov (.t 0))⟩,⟨(some 21),none,.i (.mov (.t 7))⟩,⟨(some 22),none,.i (.iad 1 (.t 20) (.t 21))⟩,⟨(some 23),none,.i (.ld (.t 22))⟩,⟨(some 24),none,.i (.mov (.t 0))⟩,⟨(some 25),none,.i (.mov (.t 5))⟩,⟨(some 26),none,.i (.iad 1 (.t 24) (.t 25))⟩,⟨(some 27),none,.i (.ld (.t 26))⟩,⟨(some 28),none,.i (.bin .eql (.t 23) (.t 27))⟩]) Bzaz)) Bzb0)))
def Bz1x:AC:=(.kp [0,3,4,5,6,7] [8,41,5000] (.dn (.seq (.seq (.reg false [⟨(some 15),none,.i (.mov (.t 7))⟩,⟨(some 16),none,.i (.mov (.t 5))⟩,⟨(some 17),none,.i (.bin .lss (.t 15) (.t 16))⟩]) Bz4r) Bzb1)))
def Bzb2:AC:=(.kp [0,3,4,5,6,7] [8,41,5000] (.dn (.block 2 (.loop Bz1x))))
def Bzb3:AC:=(.kp [0,3,4,5,6] [8,41,5000] (.dn (.reg false [⟨(some 36),none,.i (.mov (.t 4))⟩,⟨(some 37),none,.i (.bin .add (.t 36) (.c (.int .i64 1)))⟩,⟨(some 4),none,.i (.mov (.t 37))⟩])))
def Bz4s:AC:=(.kp [0,3,4,5,6,34] [8,41,5000] (.dn (.cond (.t 34) (.seq (.reg false [⟨(some 35),none,.i (.mov (.t 4))⟩,⟨(some 6),none,.i (.mov (.t 35))⟩]) Bzb3) .skip)))
def Bz4t:AC:=(.kp [0,3,4,5,6] [8,41,5000] (.dn (.reg false [⟨(some 38),none,.i (.mov (.t 3))⟩,⟨(some 39),none,.i (.mov (.t 6))⟩,⟨(some 40),none,.i (.bsl 1 false [(.t 39)])⟩,⟨(some 41),none,.i (.app 1 8 (.t 38) (.t 40))⟩,⟨(some 3),none,.i (.mov (.t 41))⟩])))
def Bzb4:AC:=(.kp [0,3,4,5,6] [8,41,5000] (.dn (.seq (.seq (.reg false [⟨(some 33),none,.i (.mov (.t 6))⟩,⟨(some 34),none,.i (.bin .lss (.t 33) (.c (.int .i64 0)))⟩]) Bz4s) Bz4t)))
def Bzb5:AC:=(.kp [0,3,4,5,6] [8,41,5000] (.dn (.seq (.seq (.reg false [⟨(some 7),none,.i (.mov (.c (.int .i64 0)))⟩]) Bzb2) Bzb4)))
def Bz4u:AC:=(.kp [0,3,4,5] [8,41,5000] (.dn (.reg false [⟨(some 13),none,.i (.mov (.t 5))⟩,⟨(some 14),none,.i (.bin .add (.t 13) (.c (.int .i64 1)))⟩,⟨(some 5),none,.i (.mov (.t 14))⟩])))
def Bzb6:AC:=(.kp [0,3,4,5] [8,41,5000] (.dn (.seq (.block 1 (.seq (.reg false [⟨(some 6),none,.i (.mov (.c (.int .i64 (-1))))⟩]) Bzb5)) Bz4u)))
def Bz1y:AC:=(.kp [0,3,4,5] [8,41,5000] (.dn (.seq (.seq (.reg false [⟨(some 9),none,.i (.mov (.t 5))⟩,⟨(some 10),none,.i (.mov (.t 0))⟩,⟨(some 11),none,.i (.len (.t 10))⟩,⟨(some 12),none,.i (.bin .lss (.t 9) (.t 11))⟩]) Bz4q) Bzb6)))
def Bzb7:AC:=(.kp [0,3,4,5] [8,41,5000] (.dn (.block 0 (.loop Bz1y))))
def Bzb8:AC:=(.kp [3] [8,41,5000] (.dn (.seq (.reg false [⟨(some 42),none,.i (.mov (.t 3))⟩,⟨(some 2),none,.i (.mov (.t 42))⟩]) (.dn .ret))))
def Bzb9:AC:=(.kp [0,3,4] [8,41,5000] (.dn (.seq (.seq (.reg false [⟨(some 5),none,.i (.mov (.c (.int .i64 0)))⟩]) Bzb7) Bzb8)))
def Bzba:AC:=(.kp [0,3] [8,41,5000] (.dn (.seq (.reg false [⟨(some 4),none,.i (.mov (.c (.int .i64 0)))⟩]) Bzb9)))
def Bzbb:AC:=(.kp [0] [5000] (.dn (.seq (.reg false [⟨(some 8),none,.i (.bsl 1 false [])⟩,⟨(some 3),none,.i (.mov (.t 8))⟩]) Bzba)))
def Azbc:AFn:=⟨43,1,(.seq (.reg false [⟨(some 2),none,.i (.mov (.c (.slice none 0 0)))⟩]) Bzbb),[.tmp 2]⟩
theorem czco:cFn (drV none) Tryd.prog nz2l Azbc:=⟨_,_,Tryd.func100,rfl,by kernel_rfl,by decide,rfl,by kernel_rfl,by kernel_rfl⟩
def Bzbd:AC:=(.kp [0,1] [5000,5001] (.dn (.seq (.reg false [⟨(some 5),none,.i (.mov (.t 1))⟩,⟨(some 6),none,.i (.mov (.t 0))⟩,⟨(some 7),none,.i (.mov (.t 1))⟩,⟨(some 8),none,.i (.len (.t 7))⟩,⟨(some 9),none,.call nz0 [(.t 6),(.t 8)]⟩,⟨(some 10),none,.i (.iad 1 (.t 5) (.t 9))⟩,⟨(some 11),none,.i (.ld (.t 10))⟩,⟨(some 4),none,.i (.mov (.t 11))⟩]) (.dn .ret))))
def Azbe:AFn:=⟨12,2,(.seq (.reg false [⟨(some 4),none,.i (.mov (.c (.int .i64 0)))⟩]) Bzbd),[.tmp 4]⟩
theorem czcp:cFn (drV none) Tryd.prog nzj Azbe:=⟨_,_,Tryd.func101,rfl,by kernel_rfl,by decide,rfl,by kernel_rfl,by kernel_rfl⟩
def Bzbf:AC:=(.kp [0,1,7] [5000,5001] (.dn (.cond (.t 7) (.seq (.reg false [⟨(some 8),none,.i (.mov (.t 0))⟩,⟨(some 4),none,.i (.mov (.t 8))⟩]) (.dn .ret)) .skip)))
def Bzbg:AC:=(.kp [1] [5000,5001] (.dn (.seq (.reg false [⟨(some 9),none,.i (.mov (.t 1))⟩,⟨(some 4),none,.i (.mov (.t 9))⟩]) (.dn .ret))))
def Bzbh:AC:=(.kp [0,1] [5000,5001] (.dn (.seq (.seq (.reg false [⟨(some 5),none,.i (.mov (.t 0))⟩,⟨(some 6),none,.i (.mov (.t 1))⟩,⟨(some 7),none,.i (.bin .lss (.t 5) (.t 6))⟩]) Bzbf) Bzbg)))
def Azbi:AFn:=⟨10,2,(.seq (.reg false [⟨(some 4),none,.i (.mov (.c (.int .i64 0)))⟩]) Bzbh),[.tmp 4]⟩
theorem czcq:cFn (drV none) Tryd.prog nz2m Azbi:=⟨_,_,Tryd.func102,rfl,by kernel_rfl,by decide,rfl,by kernel_rfl,by kernel_rfl⟩
end Go.Ab
namespace Go.Ab
def Cz.start (W:World):Cz :=
  { w:=W,base:=W.heap.size,ext:=fun b=>b<W.heap.size,hp:=fun _=>.gone,loc:=fun _=>undef,names:=fun _=>none,used:=fun _=>False,old:=fun b=>b<W.heap.size }
theorem start_taken {W:World} {b:Nat}:¬ (Cz.start W).taken b:=by rintro ⟨r,h,_⟩;exact h rfl
theorem start_imm {W:World} {b:Nat} (h:b<W.heap.size):(Cz.start W).imm b:=⟨.inl h,h,start_taken⟩
theorem start_good (W:World):Good W (fun _=>False) (Cz.start W):=by
  refine ⟨⟨rfl,fun _ h=>h⟩,fun _=>trivial,?_,?_,?_,?_,?_,?_,?_,⟨0,fun v h=>h.elim⟩,rfl,⟨rfl,Nat.le_refl _⟩,rfl,Nat.le_refl _,fun _ _ _=>rfl⟩
  · intro r r' b h;exact absurd rfl h
  · intro r b h;exact absurd rfl h
  · intro r v h;simp [Cz.start,AObj.ver] at h
  · intro r r' v h;simp [Cz.start,AObj.ver] at h
  · intro b h;exact h.elim
  · intro n b h;simp [Cz.start] at h
  · intro n n' b h;simp [Cz.start] at h
theorem start_outHp (W:World):(Cz.start W).hp=outHp [] []:=by
  funext n
  simp [Cz.start,outHp]
theorem cell_lt {W:World} {b off:Nat} {v:Value} (h:W.cell? ⟨b,off,none⟩=some v):b<W.heap.size:=by
  unfold World.cell? at h
  by_cases hb:b<W.heap.size
  · exact hb
  · have h1:W.heap[b]?=none:=Array.getElem?_eq_none (by omega)
    simp only [h1] at h;cases h
mutual
inductive Shp (P:Program):TypeId→List AVal→Prop where
  | int {t:TypeId} {k:IntKind} {n:Int}:P.underlying t=some (.int k)→(Lit.int k n).wf=true→Shp P t [.val (.int k n)]
  | bool {t:TypeId} {b:Bool}:P.underlying t=some .bool→Shp P t [.val (.bool b)]
  | string {t:TypeId} {s:ByteArray}:P.underlying t=some .string→s.size≤maxLen→Shp P t [.val (.string s)]
  | slice {t e:TypeId} {xss:List (List AVal)}:P.underlying t=some (.slice e)→(∀ xs∈xss,Shp P e xs)→(∀ xs∈xss,xs.length=P.cellsOf e)→xss.length≤maxLen→Shp P t [.ro (some (some 0)) (P.cellsOf e) xss.flatten]
  | struct {t:TypeId} {fs:Array Field} {As:List AVal}:P.underlying t=some (.struct fs)→ShpF P fs.toList As→Shp P t As
inductive ShpF (P:Program):List Field→List AVal→Prop where
  | nil:ShpF P [] []
  | cons {f:Field} {fs:List Field} {As Bs:List AVal}:Shp P f.type As→ShpF P fs Bs→ShpF P (f :: fs) (As ++ Bs)
end
def contig (P:Program):List Field→Nat→Nat→Bool
  | [],off,n=>off == n
  | f :: fs,off,n=>f.offset == off && contig P fs (off+P.cellsOf f.type) n
section
variable {H:Type} {enc:TypeId×Value→H} {P:Program} {W:World} {sp:Nat→Bool} {held:Bool}
theorem RepAt.append {c:Cz} {b:Nat}:∀ {xs ys:List AVal} {off:Nat},RepAt c b off xs→RepAt c b (off+xs.length) ys→RepAt c b off (xs ++ ys)
  | [],_,_,_,h=>by simpa using h
  | x :: xs,ys,off,h,h'=>by
    simp only [RepAt,List.cons_append] at h ⊢
    refine ⟨h.1,RepAt.append h.2 ?_⟩
    have e:off+1+xs.length=off+(x :: xs).length:=by simp;omega
    rw [e];exact h'
theorem RepAt.flatten {c:Cz} {b k:Nat}:∀ {xss:List (List AVal)} {off:Nat},(∀ i xs,xss[i]?=some xs→xs.length=k∧RepAt c b (off+i * k) xs)→RepAt c b off xss.flatten
  | [],_,_=>by simp [RepAt]
  | xs :: xss,off,h=>by
    obtain ⟨h1,h2⟩:=h 0 xs rfl
    rw [List.flatten_cons]
    refine RepAt.append (by simpa using h2) (RepAt.flatten (k:=k) fun i ys hi=>?_)
    obtain ⟨h3,h4⟩:=h (i+1) ys (by simpa using hi)
    refine ⟨h3,?_⟩
    rw [h1]
    have e:off+k+i * k=off+(i+1) * k:=by rw [Nat.add_mul];omega
    rw [e];exact h4
theorem cells_at {a:Addr} {k:Nat} {cs:List Value} {As:List AVal} (ha:a.spot=none) (h:W.cells? 0 a k=some cs) (hr:RepL (Cz.start W) As cs):RepAt (Cz.start W) a.block a.off As:=by
  have h1:(List.range k).mapM (fun i=>W.cell? (a.add i))=some cs:=by
    unfold World.cells? at h;simpa using h
  have h2:∀ i v,cs[i]?=some v→W.cell? ⟨a.block,a.off+i,none⟩=some v:=by
    intro i v hi
    have hlt:=(List.getElem?_eq_some_iff.1 hi).1
    have hl:=mapM_some_length h1
    have:=mapM_some_get h1 i i (by rw [List.getElem?_range];rw [List.length_range] at hl;omega)
    rw [hi] at this
    have e:a.add i=⟨a.block,a.off+i,none⟩:=by obtain ⟨b,o,q⟩:=a;simp only at ha;subst ha;exact addr_add _ _ _
    rw [e] at this;exact this
  have key:∀ (As:List AVal) (cs:List Value) (off:Nat),RepL (Cz.start W) As cs→(∀ i v,cs[i]?=some v→W.cell? ⟨a.block,off+i,none⟩=some v)→RepAt (Cz.start W) a.block off As:=by
    intro As
    induction As with
    | nil=>intro cs off _ _;simp [RepAt]
    | cons A As ih =>
      intro cs off hr hc
      cases cs with
      | nil=>simp [RepL] at hr
      | cons v cs =>
        simp only [RepL] at hr
        simp only [RepAt]
        refine ⟨⟨v,(by have:=hc 0 v rfl;exact this),hr.1⟩,ih cs (off+1) hr.2 fun i u hi=>?_⟩
        have:=hc (i+1) u (by simpa using hi)
        rw [← this];congr 2;omega
  exact key As cs a.off hr h2
theorem flat_len {α:Type} {k:Nat}:∀ {xss:List (List α)},(∀ (i:Nat) (As:List α),xss[i]?=some As→As.length=k)→xss.flatten.length=xss.length * k
  | [],_=>by simp
  | x :: xss,h=>by
    rw [List.flatten_cons,List.length_append,h 0 x rfl,flat_len (k:=k) fun i As hi=>h (i+1) As (by simpa using hi),List.length_cons,Nat.add_mul]
    omega
theorem trod_rep (good:TypeId→Bool) (hgood:∀ t,good t=true→(∃ k,P.underlying t=some (.int k))∨P.underlying t=some .bool∨P.underlying t=some .string∨(∃ e,P.underlying t=some (.slice e)∧good e=true∧0<P.cellsOf e)∨∃ fs,P.underlying t=some (.struct fs)∧(∀ f∈fs.toList,good f.type=true)∧contig P fs.toList 0 (P.cellsOf t)=true) :
    ∀ (fuel:Nat) (t:TypeId) (cs:List Value) (x:DataW H×List MemPlace),good t=true→DataW.trod enc P W 0 sp held fuel t cs=some x→∃ As,Shp P t As∧RepL (Cz.start W) As cs:=by
  intro fuel
  induction fuel with
  | zero=>intro t cs x _ h;simp [DataW.trod] at h
  | succ fuel ih =>
    intro t cs x hg h
    rcases hgood t hg with ⟨k,ht⟩ | ht | ht | ⟨e,ht,hge,hpos⟩ | ⟨fs,ht,hgf,hcon⟩
    · unfold DataW.trod at h
      rw [ht] at h
      split at h <;> simp_all
      rename_i k' n hk
      obtain ⟨⟨rfl,hw⟩,_⟩:=h
      exact ⟨[.val (.int _ n)],.int ht hw,by simp [RepL,Rep]⟩
    · unfold DataW.trod at h
      rw [ht] at h
      split at h <;> simp_all
      rename_i b
      exact ⟨[.val (.bool b)],.bool ht,by simp [RepL,Rep]⟩
    · unfold DataW.trod at h
      rw [ht] at h
      split at h <;> simp_all
      rename_i s
      exact ⟨[.val (.string s)],.string ht h.1,by simp [RepL,Rep]⟩
    · rcases DataW.trod_slice ht h with ⟨rfl,_⟩ | ⟨a,len,cap,elems,rest,n,hn,rfl,_,_,hl,hc,hel,helem,_,_⟩
      · refine ⟨[.ro (some (some 0)) (P.cellsOf e) ([]:List (List AVal)).flatten],.slice ht (by simp) (by simp) (by simp),?_⟩
        simp only [RepL,Rep,and_true]
        exact ⟨none,0,0,rfl,hpos,by simp,⟨Nat.le_refl _,by simp⟩,(by intro n e;cases e;exact ⟨fun h=>(by cases h),.inl (by simp)⟩),.inl (by simp)⟩
      · have hn':n=fuel:=by omega
        subst hn'
        have hel2:∀ i,i<len→∃ cs As,W.cells? 0 (a.add (i * P.cellsOf e)) (P.cellsOf e)=some cs∧Shp P e As∧RepL (Cz.start W) As cs:=by
          intro i hi
          have h1:=helem i hi
          rw [List.getElem?_eq_getElem (by omega),Option.bind_eq_some_iff] at h1
          obtain ⟨cs,h2,h3⟩:=h1
          obtain ⟨As,h4,h5⟩:=ih e cs _ hge h3
          exact ⟨cs,As,h2,h4,h5⟩
        have hex:∃ xss:List (List AVal),xss.length=len∧∀ i As,xss[i]?=some As→∃ cs,W.cells? 0 (a.add (i * P.cellsOf e)) (P.cellsOf e)=some cs∧Shp P e As∧RepL (Cz.start W) As cs:=by
          have:∀ m,m≤len→∃ xss:List (List AVal),xss.length=m∧∀ i As,xss[i]?=some As→∃ cs,W.cells? 0 (a.add (i * P.cellsOf e)) (P.cellsOf e)=some cs∧Shp P e As∧RepL (Cz.start W) As cs:=by
            intro m
            induction m with
            | zero=>intro _;exact ⟨[],rfl,by simp⟩
            | succ m ihm =>
              intro hm
              obtain ⟨xss,h1,h2⟩:=ihm (by omega)
              obtain ⟨cs,As,h3,h4,h5⟩:=hel2 m (by omega)
              refine ⟨xss ++ [As],by simp [h1],fun i Bs hi=>?_⟩
              by_cases hlt:i<xss.length
              · rw [List.getElem?_append_left hlt] at hi;exact h2 i Bs hi
              · have hi2:=(List.getElem?_eq_some_iff.1 hi).1
                have:i=m:=by simp at hi2;omega
                subst this
                rw [List.getElem?_append_right (by omega),h1,Nat.sub_self] at hi
                simp only [List.getElem?_cons_zero,Option.some.injEq] at hi
                subst hi
                exact ⟨cs,h3,h4,h5⟩
          exact this len (Nat.le_refl _)
        obtain ⟨xss,hxl,hxs⟩:=hex
        have hlen:∀ (i:Nat) (As:List AVal),xss[i]?=some As→As.length=P.cellsOf e:=by
          intro i As hi
          obtain ⟨cs,h1,_,h2⟩:=hxs i As hi
          rw [h2.length]
          unfold World.cells? at h1
          simp only [Nat.zero_le,if_true] at h1
          rw [mapM_some_length h1,List.length_range]
        have hflat:xss.flatten.length=len * P.cellsOf e:=by
          rw [flat_len hlen,hxl]
        refine ⟨[.ro (some (some 0)) (P.cellsOf e) xss.flatten],.slice ht ?_ ?_ (by omega),?_⟩
        · intro xs hm
          obtain ⟨i,hi⟩:=List.getElem?_of_mem hm
          obtain ⟨_,_,h2,_⟩:=hxs i xs hi
          exact h2
        · intro xs hm
          obtain ⟨i,hi⟩:=List.getElem?_of_mem hm
          exact hlen i xs hi
        · simp only [RepL,Rep,and_true]
          have key:xss.flatten.length=0∨∃ b off,some a=some (⟨b,off,none⟩:Addr)∧(Cz.start W).imm b∧RepAt (Cz.start W) b off xss.flatten:=?_
          · refine ⟨some a,len,cap,rfl,hpos,hflat,⟨hl,hc⟩,?_,key⟩
            intro n e;cases e
            refine ⟨fun h=>(by cases h),?_⟩
            rcases key with h | ⟨b,off,h1,h2,_⟩
            · exact .inl h
            · exact .inr ⟨b,off,h1,h2.2.1⟩
          by_cases h0:len=0
          · left;rw [hflat,h0,Nat.zero_mul]
          · right
            obtain ⟨cs0,As0,h1,_,h2⟩:=hel2 0 (by omega)
            have hfirst:∃ v,W.cell? (a.add 0)=some v:=by
              unfold World.cells? at h1
              simp only [Nat.zero_le,if_true] at h1
              have h3:=mapM_some_length h1
              rw [List.length_range] at h3
              have h4:=mapM_some_get h1 0 0 (by rw [List.getElem?_range];exact hpos)
              rw [List.getElem?_eq_getElem (by omega)] at h4
              refine ⟨cs0[0]'(by omega),?_⟩
              rw [← h4];simp [Addr.add]
            obtain ⟨v,hv⟩:=hfirst
            obtain ⟨b,off,spot⟩:=a
            have hs:spot=none:=by simpa [Addr.add] using World.cell?_spot hv
            subst hs
            rw [addr_add,Nat.add_zero] at hv
            refine ⟨b,off,rfl,start_imm (cell_lt hv),RepAt.flatten (k:=P.cellsOf e) fun i As hi=>⟨hlen i As hi,?_⟩⟩
            obtain ⟨cs,h3,_,h4⟩:=hxs i As hi
            rw [addr_add] at h3
            exact cells_at rfl h3 h4
    · unfold DataW.trod at h
      rw [ht] at h
      simp only [] at h
      split at h
      · rename_i hlen
        simp only [Option.map_eq_some_iff] at h
        obtain ⟨xs,hxs,_⟩:=h
        have key:∀ (fl:List Field) (off:Nat) (ys:List (DataW H×List MemPlace)),(∀ f∈fl,good f.type=true)→contig P fl off (P.cellsOf t)=true →
            fl.mapM (fun f=>DataW.trod enc P W 0 sp held fuel f.type ((cs.drop f.offset).take (P.cellsOf f.type)))=some ys→off≤cs.length→∃ As,ShpF P fl As∧RepL (Cz.start W) As (cs.drop off):=by
          intro fl
          induction fl with
          | nil =>
            intro off ys _ hc _ _
            simp only [contig,beq_iff_eq] at hc
            refine ⟨[],.nil,?_⟩
            rw [List.drop_of_length_le (by omega)];simp [RepL]
          | cons f fl ihf =>
            intro off ys hg hc hm hoff
            simp only [contig,Bool.and_eq_true,beq_iff_eq] at hc
            obtain ⟨hc1,hc2⟩:=hc
            rw [List.mapM_cons] at hm
            simp only [Option.bind_eq_bind,Option.bind_eq_some_iff] at hm
            obtain ⟨y,hy,ys',hys,_⟩:=hm
            obtain ⟨As,hA,hR⟩:=ih f.type _ _ (hg f (by simp)) hy
            have hle:off+P.cellsOf f.type≤cs.length:=by
              have:∀ (fl:List Field) (o n:Nat),contig P fl o n=true→o≤n:=by
                intro fl
                induction fl with
                | nil=>intro o n h;simp only [contig,beq_iff_eq] at h;omega
                | cons g fl ihg =>
                  intro o n h
                  simp only [contig,Bool.and_eq_true] at h
                  have:=ihg _ _ h.2;omega
              have:=this _ _ _ hc2;omega
            obtain ⟨Bs,hB,hS⟩:=ihf (off+P.cellsOf f.type) ys' (fun g hgm=>hg g (by simp [hgm])) hc2 hys hle
            refine ⟨As ++ Bs,.cons hA hB,?_⟩
            rw [hc1] at hR
            have e:cs.drop off=(cs.drop off).take (P.cellsOf f.type) ++ cs.drop (off+P.cellsOf f.type):=by
              rw [← List.drop_drop,List.take_append_drop]
            rw [e]
            exact RepL.append hR hS
        obtain ⟨As,h1,h2⟩:=key fs.toList 0 xs hgf hcon hxs (Nat.zero_le _)
        exact ⟨As,.struct ht h1,by simpa using h2⟩
      · cases h
end
end Go.Ab
namespace Go.Ab
section
variable {H:Type} {enc:TypeId×Value→H} {P:Program}
def ArgShp (P:Program) (t:TypeId) (A:AVal):Prop:=Shp P t [A]∧(∀ fs,P.underlying t≠some (.struct fs))∨∃ As fs,P.underlying t=some (.struct fs)∧A=.st As∧Shp P t As
inductive ArgsShp (P:Program):List TypeId→List AVal→Prop where
  | nil:ArgsShp P [] []
  | cons {t:TypeId} {ts:List TypeId} {A:AVal} {As:List AVal}:ArgShp P t A→ArgsShp P ts As→ArgsShp P (t :: ts) (A :: As)
theorem start_below {W:World} {c1:Cz} (G:Good W (fun _=>False) c1):RowKit.Below W.heap.size W c1.w :=
  ⟨G.os,G.tape.1,G.output,G.size,fun k hk=>G.frame k hk (fun h=>h)⟩
theorem law_calls {W:World} {ts:List TypeId} {args:Array Value} {ds:List (DataW H)} {ps:List MemPlace}
    (hread:∀ (j:Nat) (t:TypeId) (v:Value) (d:DataW H) (p:List MemPlace),ts[j]?=some t→args[j]?=some v→DataW.Trod enc P W 0 (fun _=>true) true t v d p→∃ A,ArgShp P t A∧Rep (Cz.start W) A v)
    (hA:DataW.TrodAll enc P W 0 (fun _=>true) true ts args.toList ds ps):∃ As,ArgsShp P ts As∧RepL (Cz.start W) As args.toList:=by
  have key:∀ (ts':List TypeId) (vs:List Value) (off:Nat) (ds:List (DataW H)) (ps:List MemPlace),(∀ (i:Nat) t,ts'[i]?=some t→ts[off+i]?=some t)→(∀ (i:Nat) v,vs[i]?=some v→args[off+i]?=some v) →
      DataW.TrodAll enc P W 0 (fun _=>true) true ts' vs ds ps→∃ As,ArgsShp P ts' As∧RepL (Cz.start W) As vs:=by
    intro ts'
    induction ts' with
    | nil =>
      intro vs off ds ps _ _ h
      cases vs with
      | nil=>exact ⟨[],.nil,by simp [RepL]⟩
      | cons v vs=>cases ds <;> simp [DataW.TrodAll] at h
    | cons t ts' ih =>
      intro vs off ds ps ht hv h
      cases vs with
      | nil=>simp [DataW.TrodAll] at h
      | cons v vs =>
        cases ds with
        | nil=>simp [DataW.TrodAll] at h
        | cons d ds =>
          simp only [DataW.TrodAll] at h
          obtain ⟨p,q,h1,h2,_⟩:=h
          obtain ⟨A,hA,hR⟩:=hread off t v d p (by simpa using ht 0 t rfl) (by simpa using hv 0 v rfl) h1
          obtain ⟨As,hAs,hRs⟩:=ih vs (off+1) ds q (fun i t' ht'=>by have:=ht (i+1) t' (by simpa using ht');rw [← this];congr 1;omega)
            (fun i v' hv'=>by have:=hv (i+1) v' (by simpa using hv');rw [← this];congr 1;omega) h2
          exact ⟨A :: As,.cons hA hAs,by simp only [RepL];exact ⟨hR,hRs⟩⟩
  exact key ts args.toList 0 ds ps (fun i t h=>by simpa using h) (fun i v hv=>by simpa using hv) hA
def GoodTypes (P:Program) (good:TypeId→Bool):Prop:=∀ t,good t=true→(∃ k,P.underlying t=some (.int k))∨P.underlying t=some .bool∨P.underlying t=some .string ∨
  (∃ e,P.underlying t=some (.slice e)∧good e=true∧0<P.cellsOf e)∨∃ fs,P.underlying t=some (.struct fs)∧(∀ f∈fs.toList,good f.type=true)∧contig P fs.toList 0 (P.cellsOf t)=true
def goodOK (P:Program) (l:List TypeId):Bool:=l.all fun t=>match P.underlying t with
  | some (.int _)=>true
  | some .bool=>true
  | some .string=>true
  | some (.slice e)=>l.contains e && decide (0<P.cellsOf e)
  | some (.struct fs)=>fs.toList.all (fun f=>l.contains f.type) && contig P fs.toList 0 (P.cellsOf t)
  | _=>false
theorem good_of {l:List TypeId} (h:goodOK P l=true):GoodTypes P (fun t=>l.contains t):=by
  intro t ht
  unfold goodOK at h
  rw [List.all_eq_true] at h
  have h1:=h t (by simpa using ht)
  split at h1
  · rename_i k hk;exact .inl ⟨k,hk⟩
  · rename_i hk;exact .inr (.inl hk)
  · rename_i hk;exact .inr (.inr (.inl hk))
  · rename_i e hk
    simp only [Bool.and_eq_true,decide_eq_true_eq] at h1
    exact .inr (.inr (.inr (.inl ⟨e,hk,h1.1,h1.2⟩)))
  · rename_i fs hk
    simp only [Bool.and_eq_true,List.all_eq_true] at h1
    exact .inr (.inr (.inr (.inr ⟨fs,hk,h1.1,h1.2⟩)))
  · cases h1
theorem read_arg {W:World} {r:Reach} {base:Nat} {good:TypeId→Bool} (hgood:GoodTypes P good) {t:TypeId} (hg:good t=true) {v:Value} (hok:Value.okWide P W r base t v) {d:DataW H} {p:List MemPlace}
    (h:DataW.Trod enc P W 0 (fun _=>true) true t v d p):∃ A,ArgShp P t A∧Rep (Cz.start W) A v:=by
  obtain ⟨fuel,h⟩:=h
  obtain ⟨As,hS,hR⟩:=trod_rep good hgood fuel t _ _ hg h
  have one:(∀ cs,v≠.agg cs)→(∀ fs,P.underlying t≠some (.struct fs))→∃ A,ArgShp P t A∧Rep (Cz.start W) A v:=by
    intro hv hns
    have e:v.cells.toList=[v]:=by
      cases v with
      | agg cs=>exact absurd rfl (hv cs)
      | _=>rfl
    rw [e] at hR
    match As,hS,hR with
    | [A],hS,hR=>exact ⟨A,.inl ⟨hS,hns⟩,by simpa [RepL] using hR⟩
    | [],_,hR=>simp [RepL] at hR
    | _ :: _ :: _,_,hR=>simp [RepL] at hR
  rcases hgood t hg with ⟨k,ht⟩ | ht | ht | ⟨e,ht,_⟩ | ⟨fs,ht,_⟩
  · obtain ⟨n,rfl⟩:=WideShapes.okWide_int ht hok
    exact one (fun _ h=>by cases h) (fun fs h=>by rw [ht] at h;cases h)
  · obtain ⟨b,rfl,_⟩:=RowKit.open_bool ht hok ⟨fuel,h⟩
    exact one (fun _ h=>by cases h) (fun fs h=>by rw [ht] at h;cases h)
  · obtain ⟨s,rfl⟩:=WideShapes.okWide_string ht hok
    exact one (fun _ h=>by cases h) (fun fs h=>by rw [ht] at h;cases h)
  · obtain ⟨a,len,cap,rfl⟩:=WideShapes.okWide_slice ht hok
    exact one (fun _ h=>by cases h) (fun fs h=>by rw [ht] at h;cases h)
  · obtain ⟨cs,rfl,_⟩:=WideShapes.okWide_struct ht hok
    exact ⟨.st As,.inr ⟨As,fs,ht,rfl,hS⟩,by simp only [Rep];exact ⟨cs,rfl,hR⟩⟩
theorem law_true {W:World} {f:FuncId} {args:Array Value} {As:List AVal} (hcon:Fun P f As (bv true)) (hR:RepL (Cz.start W) As args.toList) :
    Calls P f args W fun e W'=>e=.returned (.bool true)∧RowKit.Below W.heap.size W W':=by
  have h:=hcon.2 (Cz.start W) (fun _=>False) args.toList (start_good W) (start_outHp W) hR
  have e:args.toList.toArray=args:=by simp
  rw [e] at h
  refine h.mono ?_
  rintro e W' ⟨v,c1,outs,rows,res,⟨_,_,rfl⟩,he,rfl,G,_,hrep,_⟩
  have:v=.bool true:=by simpa [Rep] using hrep
  subst this
  exact ⟨he,start_below G⟩
theorem below_all (hl:laidOutB P=true) {W W':World} (hb:RowKit.Below W.heap.size W W'):∀ (ts:List TypeId) (vs:List Value) (ds:List (DataW H)) (ps:List MemPlace),(∀ t∈ts,P.readableRec t=true∧t<P.types.size)→(∀ x∈ps,x.block<W.heap.size) →
    DataW.TrodAll enc P W 0 (fun _=>true) true ts vs ds ps→DataW.TrodAll enc P W' 0 (fun b=>decide (b<W.heap.size)) true ts vs ds ps
  | [],[],[],ps,_,_,h=>h
  | [],_ :: _,_,_,_,_,h=>by simp [DataW.TrodAll] at h
  | [],[],_ :: _,_,_,_,h=>by simp [DataW.TrodAll] at h
  | _ :: _,[],_,_,_,_,h=>by simp [DataW.TrodAll] at h
  | _ :: _,_ :: _,[],_,_,_,h=>by simp [DataW.TrodAll] at h
  | t :: ts,v :: vs,d :: ds,ps,hr,hlt,h=>by
    simp only [DataW.TrodAll] at h ⊢
    obtain ⟨p,q,h1,h2,rfl⟩:=h
    obtain ⟨r1,r2⟩:=hr t (by simp)
    exact ⟨p,q,RowKit.Below.trod hl r1 r2 h1 hb fun x hx=>hlt x (by simp [hx]),below_all hl hb ts vs ds q (fun t' ht=>hr t' (by simp [ht])) (fun x hx=>hlt x (by simp [hx])) h2,rfl⟩
theorem law_post {fn:Func} {s:ChangeSpec} {f:FuncId} {W:World} {args:Array Value} {ds gs:List (DataW H)} {before:List MemPlace} {tb:TypeId} {fresh handsOn:Bool} (hv:s.vars=[]) (hl:laidOutB P=true)
    (hr:∀ t∈fn.params.toList,P.readableRec t=true∧t<P.types.size) (hres:fn.resultTypes=#[tb]) (hb:P.underlying tb=some .bool)
    (hs:ds.length=fn.params.size→(s.fn H ds).results=[.lit (.bool true)]∧(s.fn H ds).args=ds∧(s.fn H ds).vars=[])
    (hW:DataW.Whole enc P fn.params.toList s.vars false W args.toList ds gs before)
    {good:TypeId→Bool} (hgood:GoodTypes P good) (hgp:∀ t∈fn.params.toList,good t=true) {base:Nat} (hval:∀ (j:Nat) t v,fn.params[j]?=some t→args[j]?=some v→Value.okWide P W .any base t v)
    (hcon:∀ As,ArgsShp P fn.params.toList As→Fun P f As (bv true)) :
    Calls P f args W fun e W'=>∃ v,e=.returned v∧s.post enc P fn false fresh handsOn false W args v W':=by
  have hW':=hW
  obtain ⟨p,q,hA,hV,rfl,_,_⟩:=hW
  rw [hv] at hV
  have hgs:gs=[]∧q=[]:=by
    cases gs with
    | nil=>exact ⟨rfl,hV⟩
    | cons g gs=>simp [DataW.TrodVars] at hV
  obtain ⟨rfl,rfl⟩:=hgs
  obtain ⟨As,h1,h2⟩:=law_calls (fun j t v d p ht hv h=>read_arg hgood (hgp t (List.mem_of_getElem? ht)) (hval j t v (by simpa using ht) hv) h) hA
  refine (law_true (hcon As h1) h2).mono ?_
  rintro e W' ⟨he,hbel⟩
  have hlen:ds.length=fn.params.size:=by
    have:=(trodAll_length hA).2
    simpa using this
  obtain ⟨s1,s2,s3⟩:=hs hlen
  refine ⟨_,he,ds,[],p ++ [],[],p,[],hW',?_,?_,?_,hbel.frame _,fun h=>by cases h⟩
  · rw [List.append_nil,s1,hres]
    exact trodAll_cons_mk (RowKit.shut_bool hb _) ChangeShapes.trodAll_mk0
  · rw [List.append_nil,s2]
    exact below_all hl hbel _ _ _ _ hr (fun x hx=>hA.lt x hx) hA
  · rw [List.append_nil,s3,hv];rfl
end
end Go.Ab
namespace Go.Ab
abbrev RowC (P:Program) (g:FuncId) (args:List AVal) (Q:List AVal→Prop):Prop:=Fn P g args fun rows res=>∃ cs v,Q cs∧flatL cs∧rows=[.row v 1 true cs]∧res=.own 6000 v
theorem rowC_of {P:Program} {g:FuncId} {F:AFn} (hm:P.follows .mixedOrders=true) {no:Option (List Nat×List FuncId)} (hF:cFn (drV no) P g F) {args:List AVal} (hargs:args.length=F.nparams) {Q:List AVal→Prop}
    (h:wpD P F.code (finQ fun σ=>(∀ x∈F.res,σ.there x)∧∃ r v cs,r<5000∧σ.value F.res=AVal.own r v∧σ.hp r=AObj.row v 1 true cs∧flatL cs∧freshL cs∧Q cs) (St.init args [])):RowC P g args Q:=by
  refine con_of hm hF hargs (by simp) (wpD_mono _ _ _ _ (fun e σ he=>?_) h)
  have:((∀ x∈F.res,σ.there x)∧∃ r v cs,r<5000∧σ.value F.res=AVal.own r v∧σ.hp r=AObj.row v 1 true cs∧flatL cs∧freshL cs∧Q cs)→_:=fun ⟨h1,r,v,cs,hr,h2,h3,h4,h5,h6⟩ =>
    (show (∀ x∈F.res,σ.there x)∧∃ ids:List Nat,ids.length≤1000∧ids.Nodup∧(∀ n∈ids,n<5000)∧(σ.value F.res).fresh∧(∀ n∈ids,(σ.hp n).fresh)∧(∀ j,j<([]:List AObj).length→(σ.hp (5000+j)).fresh) ∧
      (fun outs rows res=>outs=[]∧∃ cs v,Q cs∧flatL cs∧rows=[AObj.row v 1 true cs]∧res=AVal.own 6000 v) ((List.range ([]:List AObj).length).map fun j=>(σ.hp (5000+j)).ren (expo ids) id) (ids.map fun n=>(σ.hp n).ren (expo ids) id) ((σ.value F.res).ren (expo ids) id) from
    ⟨h1,[r],by simp,by simp,by simpa using hr,by rw [h2];simp [AVal.fresh],by simp only [List.mem_singleton,forall_eq,h3];exact h5,by simp,rfl,cs,v,h6,h4,
      by simp only [List.map_cons,List.map_nil,h3,yzn,renL_flat cs h4,id],by rw [h2,ren_own (expo0 hr)];rfl⟩)
  cases e with
  | exit _=>exact he
  | normal=>exact this he
  | ret=>exact this he
theorem flat_intsK {k:IntKind} {xs:List Int}:flatL (intsK k xs):=flat_vals fun A hA=>by
  simp only [List.mem_map] at hA
  obtain ⟨x,_,rfl⟩:=hA
  exact ⟨_,rfl⟩
section
variable {P:Program} {pu:Bool} {σ:St} {g:FuncId} {As args:List AVal} {d:Nat} {s:Nat→Nat} {K:St→Prop}
theorem call_rowC {Q:List AVal→Prop} (h:RowC P g args Q) (hco:CoeL σ.hp [] true args As) (hg:σ.hp d=.gone) (hex:∃ cs,Q cs∧flatL cs)
    (hk:∀ cs v,Q cs→K (St.put ⟨σ.tm,upd σ.hp d (.row v 1 true cs)⟩ (some d) (.own d v))):wpCall P pu σ g As (some d) s K:=by
  refine call_fn h hco (fun _=>?_) ?_
  · obtain ⟨cs,h1,h2⟩:=hex
    exact ⟨_,_,cs,0,h1,h2,rfl,rfl⟩
  · rintro rows res ⟨cs,v,hq,hf,rfl,rfl⟩
    refine ⟨by simp,?_,?_⟩
    · rw [Option.getD_some,yzg];exact hg
    · rw [Option.getD_some,yz6,yzn,renL_flat cs hf,List.length_singleton,yz4]
      exact hk cs (s v) hq
abbrev RowI (P:Program) (g:FuncId) (args:List AVal) (Q:List Int→Prop):Prop:=RowC P g args fun cs=>∃ xs,cs=ints xs∧Q xs
theorem rowI_of {P:Program} {g:FuncId} {args:List AVal} {F:AFn} (hm:P.follows .mixedOrders=true) {no:Option (List Nat×List FuncId)} (hF:cFn (drV no) P g F) (hargs:args.length=F.nparams) {Q:List Int→Prop}
    (h:wpD P F.code (finQ fun σ=>(∀ x∈F.res,σ.there x)∧∃ r v xs,r<5000∧σ.value F.res=AVal.own r v∧σ.hp r=AObj.row v 1 true (ints xs)∧Q xs) (St.init args [])):RowI P g args Q:=by
  refine rowC_of hm hF hargs (wpD_mono _ _ _ _ (fun e σ he=>?_) h)
  have:((∀ x∈F.res,σ.there x)∧∃ r v xs,r<5000∧σ.value F.res=AVal.own r v∧σ.hp r=AObj.row v 1 true (ints xs)∧Q xs)→_:=fun ⟨h1,r,v,xs,h2,h3,h4,h5⟩ =>
    (show (∀ x∈F.res,σ.there x)∧∃ r v cs,r<5000∧σ.value F.res=AVal.own r v∧σ.hp r=AObj.row v 1 true cs∧flatL cs∧freshL cs∧∃ xs,cs=ints xs∧Q xs from
      ⟨h1,r,v,ints xs,h2,h3,h4,flat_intsK,of_eq_true (yz3 (k:=.i64)),xs,rfl,h5⟩)
  cases e with
  | exit _=>exact he
  | normal=>exact this he
  | ret=>exact this he
theorem call_rowI {Q:List Int→Prop} (h:RowI P g args Q) (hco:CoeL σ.hp [] true args As) (hg:σ.hp d=.gone) (hex:∃ xs,Q xs)
    (hk:∀ xs v,Q xs→K (St.put ⟨σ.tm,upd σ.hp d (.row v 1 true (ints xs))⟩ (some d) (.own d v))):wpCall P pu σ g As (some d) s K:=by
  refine call_rowC h hco hg ?_ ?_
  · obtain ⟨xs,hx⟩:=hex
    exact ⟨ints xs,⟨xs,rfl,hx⟩,flat_intsK⟩
  · rintro cs v ⟨xs,rfl,hx⟩
    exact hk xs v hx
end
structure Aut (n:Int) (next:List (List Int)):Prop where
  n1:1≤n
  n2:n≤10
  l1:1≤next.length
  l2:next.length≤3
  row:∀ row∈next,(row.length:Int)=n∧∀ x∈row,0≤x∧x<n
theorem coeL_ints {hp:Nat→AObj} {m:List Nat} {len:Bool} {xs:List Int}:CoeL hp m len (ints xs) (ints xs):=coeL_self fun A hA=>by simp only [List.mem_map] at hA;obtain ⟨x,_,rfl⟩:=hA;exact ⟨_,rfl⟩
def rwo (xss:List (List Int)):List AVal:=xss.map fun xs=>.ro (some (some 0)) 1 (ints xs)
theorem dnL_rwo {xss:List (List Int)}:dnL (rwo xss)=rwo xss:=by
  simp only [dnL_eq,rwo,List.map_map]
  exact List.map_congr_left fun xs _=>by simp [AVal.dn,ints,dnL_eq,dnNm]
theorem mvL_rwo {a v b m:Nat} {xss:List (List Int)}:mvL a v b m (rwo xss)=rwo xss:=by
  simp only [mvL_eq,rwo,List.map_map]
  exact List.map_congr_left fun xs _=>by simp [AVal.mv,ints,mvL_eq]
theorem rwo_len {xss:List (List Int)}:(rwo xss).length=xss.length:=by simp [rwo]
end Go.Ab
namespace Go.Ab
theorem bytes_arg {P:Program} {t e:TypeId} (h1:P.underlying t=some (.slice e)) (h2:P.underlying e=some (.int .u8)) (h3:P.cellsOf e=1) {A:AVal} (h:ArgShp P t A) :
    ∃ code,A=.ro (some (some 0)) 1 (intsK .u8 code)∧∀ x∈code,0≤x∧x≤255:=by
  have one:∀ xs,Shp P e xs→∃ n,xs=[.val (.int .u8 n)]∧0≤n∧n≤255:=by
    intro xs hx
    cases hx with
    | int hk hw =>
      rw [h2] at hk
      cases hk
      simp only [Lit.wf,Bool.and_eq_true,decide_eq_true_eq,IntKind.min,IntKind.max] at hw
      refine ⟨_,rfl,?_⟩
      simp [IntKind.signed,IntKind.bits] at hw
      omega
    | bool hk=>rw [h2] at hk;cases hk
    | string hk _=>rw [h2] at hk;cases hk
    | slice hk _ _ _=>rw [h2] at hk;cases hk
    | struct hk _=>rw [h2] at hk;cases hk
  rcases h with ⟨hS,_⟩ | ⟨As,fs,hs,_⟩
  · generalize hl:[A]=l at hS
    cases hS with
    | int hk _=>rw [h1] at hk;cases hk
    | bool hk=>rw [h1] at hk;cases hk
    | string hk _=>rw [h1] at hk;cases hk
    | struct hk _=>rw [h1] at hk;cases hk
    | slice hk hx hlen hm =>
      rename_i e' xss
      rw [h1] at hk
      cases hk
      simp only [List.cons.injEq,and_true] at hl
      subst hl
      rw [h3]
      clear hm hlen
      have:∃ code,xss.flatten=intsK .u8 code∧∀ x∈code,0≤x∧x≤255:=by
        induction xss with
        | nil=>exact ⟨[],rfl,by simp⟩
        | cons xs xss ih =>
          obtain ⟨n,rfl,hn⟩:=one xs (hx xs (by simp))
          obtain ⟨code,hc,hb⟩:=ih fun ys hy=>hx ys (by simp [hy])
          refine ⟨n :: code,by rw [List.flatten_cons,hc];rfl,fun x hx=>?_⟩
          rcases List.mem_cons.1 hx with rfl | hx
          · exact hn
          · exact hb x hx
      obtain ⟨code,hc,hb⟩:=this
      exact ⟨code,by rw [hc],hb⟩
  · rw [h1] at hs;cases hs
theorem two_bytes {P:Program} {t e:TypeId} (h1:P.underlying t=some (.slice e)) (h2:P.underlying e=some (.int .u8)) (h3:P.cellsOf e=1) {g:FuncId}
    (hlaw:∀ code more:List Int,(∀ x∈code,0≤x∧x≤255)→(∀ x∈more,0≤x∧x≤255)→Fun P g [.ro (some (some 0)) 1 (intsK .u8 code),.ro (some (some 0)) 1 (intsK .u8 more)] (bv true)) :
    ∀ As,ArgsShp P [t,t] As→Fun P g As (bv true):=by
  intro As h
  cases h with
  | cons hA h =>
    cases h with
    | cons hB h =>
      cases h
      obtain ⟨code,rfl,hc⟩:=bytes_arg h1 h2 h3 hA
      obtain ⟨more,rfl,hm⟩:=bytes_arg h1 h2 h3 hB
      exact hlaw code more hc hm
end Go.Ab
namespace Go.Ab
theorem PV_val {x:Value}:PV (.val x)=(∃ v,AVal.val x=.val v∧v.oneCell'=true):=rfl
theorem PV_ro {nm:Option (Option Nat)} {k:Nat} {cs:List AVal}:PV (.ro nm k cs)=True:=rfl
attribute [go_sem]
  wpIt_0 wpIt_1 wpIt_2 itT_t itT_f odn_it itd PV_val PV_ro noObj noPtr St.mapAt keyIs keyV_val keyV_st dn_argN argN_nn Bool.or_true nodup_one beq_self_eq_true decide_true decide_false AC.kts AC.khs AC.kin Bool.true_or intsK_snoc
  List.foldl_cons List.foldl_nil forall_eq_or_imp List.toList_toArray List.getD_cons_zero List.getD_cons_succ List.length_cons List.length_nil
  List.take_succ_cons List.take_zero List.drop_succ_cons List.drop_zero Nat.zero_add Nat.add_zero Nat.lt_add_one Nat.zero_lt_succ wpD_skip dn_tm dn_hp
  wpD_reg wpD_kpd wpD_ad St.adopt List.getElem?_cons_zero List.getElem?_cons_succ List.set_cons_zero List.set_cons_succ Nat.one_ne_zero kd_L
  pickT pickO dn_any dn_val dn_ro dn_own dn_st dn_tup dn_ptr dn_rp dn_mp dn_clo dnL_nil dnL_cons dnL_app dnL_ints dnL_rws dnL_rwn odn_box odn_row
  odn_map mv_L mvT mvO mvV_any mvV_val mvV_ro mvV_own mvV_ptr mvV_mp mvV_st mvV_tup mvV_rp mvV_clo mvL_nil mvL_cons mvL_ints mvL_rws mvL_rwn AObj.mv AObj.wv dnNm_n dnNm_sn dnNm_o dnNm_s isNew_sn isNew_s Option.map_none Option.map_some wpD_dnret wpD_stuck frNm_t rws_snoc rws_len rwn_len rws_nil rws_app one_own one_mp one_ptr one_rp one_clo
  isRow isMap one_intsK one_rws one_rwn frz_intsK frz_rws owned_intsK owned_rws upd_hit wpD_seq wpD_condL wpD_block wpD_exit wpD_ret seqQ_n seqQ_e seqQ_r
  blockQ_n blockQ_e blockQ_r loopQ_n loopQ_e loopQ_r finQ_n finQ_e finQ_r wpOps_nil wpOps_L wpOp_n wpOp_g wpIns wpCk_f wpCk_t wpCk_h wpCk_m free AI.opds AI.wp AI.pre AI.eff AI.out hpw_eq AI.hq upd_L
  goneL_nil goneL_cons owned AVal.cells frz putAt St.slc St.nn AI.fact put_L put_none ev_t ev_c ev_f frz_ints ints_rep i2n one_ints owned_ints one_iv
  one_bv one_str one_nil one_ro ints_app List.flatMap_nil List.flatMap_cons List.nodup_nil List.nil_append List.append_nil List.singleton_append
  List.cons_append AObj.ver St.keep pickL L_hit L_miss L_nil St.init enum binV unV St.sl St.at ne_eq not_true_eq_false not_false_eq_true true_and
  and_true implies_true forall_const forall_eq St.value St.value1 St.there List.mem_cons List.not_mem_nil or_false Option.isSome_some Option.getD_some
  Bool.not_false Bool.not_true Nat.div_one List.map_cons List.map_nil List.length_map Nat.mul_one false_implies
attribute [go_sem high] grd_tt grd_ff grd_tf grd_ft grd_u cnd_t cnd_f
attribute [go_sem low] grd_b cnd_b
end Go.Ab
namespace Go.Ab
open Go Go.Sort
def Left1 (w w':World) (g off:Nat) (ys:List Int):Prop:=∃ n os,w'=grow (putRow (Value.int .i64) (Sort.ahead w n) g off ys.toArray) os
section
variable {w w':World} {g off:Nat} {ys:List Int}
theorem Left1.at (h:Left1 w w' g off ys) {cells:Array Value} {t:TypeId} (hb:w.heap[g]?=some (.cells cells t (0,0))):w'.heap[g]?=some (.cells (putCells (Value.int .i64) off ys.toArray cells) t (0,0)):=by
  obtain ⟨n,os,rfl⟩:=h
  have hlt:g<w.heap.size:=block_lt_of_some hb
  have h1:g<(w.heap.modify g (onCells (putCells (Value.int .i64) off ys.toArray))).size:=by rw [Array.size_modify];exact hlt
  show (w.heap.modify g (onCells (putCells (Value.int .i64) off ys.toArray)) ++ os)[g]?=_
  rw [Array.getElem?_append_left h1,Array.getElem?_modify,if_pos rfl,hb];rfl
theorem Left1.size (h:Left1 w w' g off ys):w.heap.size≤w'.heap.size:=by
  obtain ⟨n,os,rfl⟩:=h
  show w.heap.size≤(w.heap.modify g (onCells (putCells (Value.int .i64) off ys.toArray)) ++ os).size
  rw [Array.size_append,Array.size_modify];omega
theorem Left1.os (h:Left1 w w' g off ys):w'.os=w.os:=by obtain ⟨n,os,rfl⟩:=h;rfl
theorem Left1.drawn (h:Left1 w w' g off ys):w.drawn≤w'.drawn:=by obtain ⟨n,os,rfl⟩:=h;exact Nat.le_add_right _ _
theorem Left1.tape (h:Left1 w w' g off ys):w'.tape=w.tape:=by obtain ⟨n,os,rfl⟩:=h;rfl
theorem Left1.output (h:Left1 w w' g off ys):w'.output=w.output:=by obtain ⟨n,os,rfl⟩:=h;rfl
end
section
variable {P:Program} {f:FuncId}
end
end Go.Ab
namespace Go.Ab
section
variable {P:Program}
theorem shp_int {t:TypeId} {xs:List AVal} (h:P.underlying t=some (.int .i64)) (hS:Shp P t xs):∃ n,xs=[iv n]:=by
  cases hS with
  | int hk _=>rw [h] at hk;cases hk;exact ⟨_,rfl⟩
  | bool hk=>rw [h] at hk;cases hk
  | string hk _=>rw [h] at hk;cases hk
  | slice hk _ _ _=>rw [h] at hk;cases hk
  | struct hk _=>rw [h] at hk;cases hk
theorem shp_slice {t e:TypeId} {xs:List AVal} (h:P.underlying t=some (.slice e)) (h1:P.cellsOf e=1) (hS:Shp P t xs):∃ xss,xs=[.ro (some (some 0)) 1 (List.flatten xss)]∧∀ ys∈xss,Shp P e ys:=by
  cases hS with
  | int hk _=>rw [h] at hk;cases hk
  | bool hk=>rw [h] at hk;cases hk
  | string hk _=>rw [h] at hk;cases hk
  | struct hk _=>rw [h] at hk;cases hk
  | slice hk hx _ _ =>
    rw [h] at hk
    cases hk
    exact ⟨_,by rw [h1],hx⟩
theorem shp_ints {t e:TypeId} {xs:List AVal} (h:P.underlying t=some (.slice e)) (h1:P.cellsOf e=1) (he:P.underlying e=some (.int .i64)) (hS:Shp P t xs):∃ l,xs=[.ro (some (some 0)) 1 (ints l)]:=by
  obtain ⟨xss,rfl,hx⟩:=shp_slice h h1 hS
  have:∃ l,List.flatten xss=ints l:=by
    clear hS
    induction xss with
    | nil=>exact ⟨[],rfl⟩
    | cons ys xss ih =>
      obtain ⟨n,rfl⟩:=shp_int he (hx ys (by simp))
      obtain ⟨l,hl⟩:=ih fun zs hz=>hx zs (by simp [hz])
      exact ⟨n :: l,by rw [List.flatten_cons,hl];rfl⟩
  obtain ⟨l,hl⟩:=this
  exact ⟨l,by rw [hl]⟩
theorem shp_rows {t e f:TypeId} {xs:List AVal} (h:P.underlying t=some (.slice e)) (h1:P.cellsOf e=1) (he:P.underlying e=some (.slice f)) (hf1:P.cellsOf f=1) (hf:P.underlying f=some (.int .i64))
    (hS:Shp P t xs):∃ l,xs=[.ro (some (some 0)) 1 (rwo l)]:=by
  obtain ⟨xss,rfl,hx⟩:=shp_slice h h1 hS
  have:∃ l,List.flatten xss=rwo l:=by
    clear hS
    induction xss with
    | nil=>exact ⟨[],rfl⟩
    | cons ys xss ih =>
      obtain ⟨r,rfl⟩:=shp_ints he hf1 hf (hx ys (by simp))
      obtain ⟨l,hl⟩:=ih fun zs hz=>hx zs (by simp [hz])
      exact ⟨r :: l,by rw [List.flatten_cons,hl];rfl⟩
  obtain ⟨l,hl⟩:=this
  exact ⟨l,by rw [hl]⟩
theorem shp_flds {t:TypeId} {xs:List AVal} {fs:Array Field} (h:P.underlying t=some (.struct fs)) (hS:Shp P t xs):ShpF P fs.toList xs:=by
  cases hS with
  | int hk _=>rw [h] at hk;cases hk
  | bool hk=>rw [h] at hk;cases hk
  | string hk _=>rw [h] at hk;cases hk
  | slice hk _ _ _=>rw [h] at hk;cases hk
  | struct hk hf=>rw [h] at hk;cases hk;exact hf
theorem arg_struct {t:TypeId} {A:AVal} {fs:Array Field} (h:P.underlying t=some (.struct fs)) (hA:ArgShp P t A):∃ As,A=.st As∧ShpF P fs.toList As:=by
  rcases hA with ⟨_,h1⟩ | ⟨As,fs',h1,rfl,h2⟩
  · exact absurd h (h1 fs)
  · exact ⟨As,rfl,shp_flds h h2⟩
end
end Go.Ab
namespace Go.Ab
theorem Good.dn {w0:World} {outs:Nat→Prop} {c:Cz} (G:Good w0 outs c):Good w0 outs { c with hp:=fun r=>(c.hp r).dn }∧Keeps c { c with hp:=fun r=>(c.hp r).dn }:=by
  have hv:∀ r,((c.hp r).dn).ver=(c.hp r).ver:=fun r=>AObj.dn_ver _
  have hg:∀ r,(c.hp r).dn≠.gone↔c.hp r≠.gone:=fun r=>not_congr AObj.dn_gone
  have htk:∀ b,¬ c.taken b→¬ ({ c with hp:=fun r=>(c.hp r).dn }:Cz).taken b:=fun b h ⟨r,h1,h2⟩=>h ⟨r,(hg r).1 h1,h2⟩
  have K:Keeps c { c with hp:=fun r=>(c.hp r).dn }:=by
    refine ⟨fun b ⟨h1,h2,h3⟩=>⟨⟨h1,h2,htk b h3⟩,rfl⟩,fun _ _ h=>h,fun _ h=>h,?_,rfl⟩
    intro r v _ h
    have h':((c.hp r).dn).ver=some v:=h
    rw [hv] at h'
    exact ⟨h',rfl⟩
  refine ⟨⟨G.base,?_,?_,?_,?_,?_,G.outExt,?_,G.namInj,G.fin,G.os,G.tape,G.output,G.size,G.frame⟩,K⟩
  · intro r
    exact (G.obj r).dn.keeps K fun _ _=>rfl
  · intro r r' b h1 h2 h3 h4;exact G.inj r r' b ((hg r).1 h1) ((hg r').1 h2) h3 h4
  · intro r b h1 h2;exact G.own r b ((hg r).1 h1) h2
  · intro r v h
    have h':((c.hp r).dn).ver=some v:=h
    rw [hv] at h'
    exact G.verU r v h'
  · intro r r' v h1 h2
    have h1':((c.hp r).dn).ver=some v:=h1
    have h2':((c.hp r').dn).ver=some v:=h2
    rw [hv] at h1' h2'
    exact G.verInj r r' v h1' h2'
  · intro n b h
    obtain ⟨h1,h2,h3,h4⟩:=G.nam n b h
    exact ⟨h1,h2,h3,htk b h4⟩
theorem outHp_dn (o r:List AObj):(fun n=>(outHp o r n).dn)=outHp (o.map AObj.dn) (r.map AObj.dn):=by
  funext n
  have e:∀ (l:List AObj) (i:Nat),(l.getD i .gone).dn=(l.map AObj.dn).getD i .gone:=by
    intro l i
    rw [List.getD_eq_getElem?_getD,List.getD_eq_getElem?_getD,List.getElem?_map]
    cases l[i]? <;> rfl
  unfold outHp
  split
  · rfl
  · split
    · exact e _ _
    · split
      · exact e _ _
      · rfl
theorem Con.dnr {P:Program} {g:FuncId} {ins:List AObj} {args:List AVal} {sh:Bool} {R R':List AObj→List AObj→AVal→Prop} (h:Con P g ins args sh R)
    (hR:∀ o r x,R o r x→R' (o.map AObj.dn) (r.map AObj.dn) x.dn):Con P g ins args sh R':=by
  refine ⟨h.1,fun c0 outsB vs h1 h2 h3=>(h.2 c0 outsB vs h1 h2 h3).mono ?_⟩
  rintro e w' ⟨v,c1,outs,rows,res,hr,he,hw,G1,hhp,hrep,hext,hold,hkeep,hused⟩
  obtain ⟨G2,K2⟩:=G1.dn
  refine ⟨v,{ c1 with hp:=fun r=>(c1.hp r).dn },_,_,_,hR _ _ _ hr,he,hw,G2,?_,(Rep.dn _ _ hrep).keeps K2,hext,hold,?_,hused⟩
  · show (fun r=>(c1.hp r).dn)=_
    rw [hhp];exact outHp_dn _ _
  · intro r u hu hv
    have hv':((c1.hp r).dn).ver=some u:=hv
    rw [AObj.dn_ver] at hv'
    exact hkeep r u hu hv'
def rwp (ps:List (Nat×List Int)):List AVal:=ps.map fun p=>.ro (some (some (p.1+1))) 1 (ints p.2)
def DJ (ps:List (Nat×List Int)):Prop:=ps.Pairwise fun p q=>p.2=[]∨q.2=[]∨p.1≠q.1
theorem rwp_len {ps:List (Nat×List Int)}:(rwp ps).length=ps.length:=by simp [rwp]
theorem rwp_nil:rwp []=[]:=rfl
theorem rwp_snoc {ps:List (Nat×List Int)} {n:Nat} {xs:List Int}:rwp ps ++ [.ro (some (some (n+1))) 1 (ints xs)]=rwp (ps ++ [(n,xs)]):=by simp [rwp]
theorem dnL_rwp {ps:List (Nat×List Int)}:dnL (rwp ps)=rws (ps.map (·.2)):=by
  simp only [dnL_eq,rwp,rws,List.map_map]
  exact List.map_congr_left fun p _=>by simp [AVal.dn,ints,dnL_eq,dnNm]
theorem renL_rwp {f:Nat→Option Nat} {s:Nat→Nat} {ps:List (Nat×List Int)}:renL f s (rwp ps)=rwp (ps.map fun p=>(s p.1,p.2)):=by
  simp only [renL_eq,rwp,List.map_map]
  exact List.map_congr_left fun p _=>by simp [AVal.ren,ints,renL_eq,rnNm]
theorem DJ.ren {s:Nat→Nat} (hs:∀ x y,s x=s y→x=y) {ps:List (Nat×List Int)} (h:DJ ps):DJ (ps.map fun p=>(s p.1,p.2)):=by
  unfold DJ at h ⊢
  rw [List.pairwise_map]
  refine h.imp fun {p q} hpq=>?_
  rcases hpq with h | h | h
  · exact .inl h
  · exact .inr (.inl h)
  · exact .inr (.inr fun e=>h (hs _ _ e))
theorem DJ.snoc {ps:List (Nat×List Int)} (h:DJ ps) {n:Nat} {xs:List Int} (hn:∀ p∈ps,p.2=[]∨p.1≠n):DJ (ps ++ [(n,xs)]):=by
  unfold DJ at h ⊢
  rw [List.pairwise_append]
  refine ⟨h,by simp,fun p hp q hq=>?_⟩
  have hq:q=(n,xs):=by simpa using hq
  subst hq
  rcases hn p hp with h | h
  · exact .inl h
  · exact .inr (.inr h)
theorem coeL_rwp {hp:Nat→AObj} {m:List Nat} {len:Bool}:∀ {ps:List (Nat×List Int)},CoeL hp m len (rwn (ps.map (·.2))) (rwp ps)
  | []=>by simp [rwn,rwp,CoeL]
  | p :: ps=>by
    have h:=coeL_rwp (hp:=hp) (m:=m) (len:=len) (ps:=ps)
    simp only [rwn,rwp,List.map_cons] at h ⊢
    rw [yzp,coe_ro]
    exact ⟨⟨by omega,coeL_ints⟩,h⟩
theorem woL_ints {n:Nat} {k:IntKind} {xs:List Int}:woL n (intsK k xs)=intsK k xs:=by simp [woL_eq,intsK,AVal.wo]
theorem woL_rwp {n:Nat}:∀ {ps:List (Nat×List Int)},(∀ p∈ps,p.2=[]∨p.1≠n)→woL n (rwp ps)=rwp ps
  | [],_=>by simp [rwp,woL]
  | (m,[]) :: ps,h=>by
    have h1:=woL_rwp (n:=n) (ps:=ps) fun p hp=>h p (by simp [hp])
    simp only [rwp,List.map_cons] at h1 ⊢
    simp only [woL,h1]
    simp [AVal.wo]
  | (m,x :: xs) :: ps,h=>by
    have h1:=woL_rwp (n:=n) (ps:=ps) fun p hp=>h p (by simp [hp])
    have hm:m≠n:=by
      rcases h (m,x :: xs) (by simp) with h | h
      · cases h
      · exact h
    simp only [rwp,List.map_cons] at h1 ⊢
    simp only [woL,h1]
    simp only [AVal.wo,if_neg hm]
    have h2:=woL_ints (n:=n) (k:=.i64) (xs:=x :: xs)
    simp only [intsK,List.map_cons] at h2
    rw [h2]
def woT (n:Nat):List (Nat×AVal)→List (Nat×AVal)
  | []=>[]
  | (k,A) :: l=>(k,A.wo n) :: woT n l
def woO (n:Nat):List (Nat×AObj)→List (Nat×AObj)
  | []=>[]
  | (k,o) :: l=>(k,o.wo n) :: woO n l
theorem woT_eq {m:Nat}:∀ (l:List (Nat×AVal)) (n:Nat),L .any (woT m l) n=(L .any l n).wo m
  | [],n=>by simp [woT,L,AVal.wo]
  | (k,A) :: l,n=>by
    simp only [woT,L]
    split
    · rfl
    · exact woT_eq l n
theorem woO_eq {m:Nat}:∀ (l:List (Nat×AObj)) (n:Nat),L .gone (woO m l) n=(L .gone l n).wo m
  | [],n=>by simp [woO,L,AObj.wo]
  | (k,o) :: l,n=>by
    simp only [woO,L]
    split
    · rfl
    · exact woO_eq l n
theorem woV_val {n:Nat} {x:Value}:AVal.wo n (.val x)=.val x:=by simp only [AVal.wo]
theorem woV_own {n r u:Nat}:AVal.wo n (.own r u)=.own r u:=by simp only [AVal.wo]
theorem woO_gone {n:Nat}:AObj.wo n .gone=.gone:=rfl
theorem qCS {p:Prop} (h:p:=by simp only [rowIs,boxIs,coe_argN,coe_argNs,coe_ro_o,coeL_nil,yzp,coe_any,coe_val,coe_ro,coe_ro_nil,coe_ro_own,coe_st,coe_st_agg,coe_rp,coe_rp_ptr,coe_clo,coe_own0,coe_ptr0,yzw,coeL_rws,coeL_rwn,L_hit,L_miss,L_nil,xx3,ne_eq,reduceCtorEq,not_false_eq_true,true_and,and_true,and_self,exists_eq_left,exists_eq_right,List.mem_cons,List.not_mem_nil,or_false,AObj.row.injEq,AObj.box.injEq,exists_eq_left',exists_and_left,exists_eq,Nat.zero_lt_one,Nat.lt_add_one,List.map_cons,List.map_nil,AObj.ver,xx5,not_true_eq_false]):p:=h
theorem qWS {p:Prop} (h:p:=by simp only [go_sem,yz0,xx9,xx8,xx6,xx7,xx5,xx0,xx1,xx2,reduceIte,xx3,xx4,reduceCtorEq]):p:=h
theorem qGN {p:Prop} (h:p:=by first | rfl | simp only [go_sem,yz0,xx9,xx8,xx6,xx7,xx5,xx0,xx1,xx2,reduceIte,xx3,xx4,reduceCtorEq]):p:=h
end Go.Ab
