/- Contracts and what they lean on, part 7. Conditions: none. -/
import Derived.Test.YtjkckhggjfbgjaaChecked
import Derived.Test.YtjkckhggjfbgjaaZ6
set_option maxRecDepth 100000
set_option maxHeartbeats 4000000
set_option linter.all false
open Nat renaming reduceLeDiff → xx0, reduceMul → xx1, reduceSub → xx2, reduceEqDiff → xx3, reduceAdd → xx4, reduceLT → xx5
open Int renaming reduceToNat → xx6, reduceNeg → xx7, reduceLE → xx8, reduceLT → xx9
namespace Go.Ab
open Go.Proofs
theorem mixed:Try.prog.follows .mixedOrders=true:=by kernel_rfl
abbrev n_main_main:FuncId:=0
abbrev n_gosem_cut:FuncId:=1
abbrev n_gosem_cut_init:FuncId:=2
abbrev nz7e:FuncId:=3
abbrev nzio:FuncId:=4
abbrev nzip:FuncId:=5
abbrev nz2y:FuncId:=6
abbrev nz2z:FuncId:=7
abbrev nz30:FuncId:=8
abbrev nz31:FuncId:=9
abbrev nz32:FuncId:=10
abbrev nz33:FuncId:=11
abbrev nz34:FuncId:=12
abbrev nz35:FuncId:=13
abbrev nzl:FuncId:=14
abbrev nz36:FuncId:=15
abbrev nz37:FuncId:=16
abbrev nz38:FuncId:=17
abbrev nz39:FuncId:=18
abbrev nziq:FuncId:=19
abbrev nzir:FuncId:=20
abbrev nzis:FuncId:=21
abbrev nzit:FuncId:=22
abbrev nziu:FuncId:=23
abbrev nziv:FuncId:=24
abbrev nziw:FuncId:=25
abbrev nzix:FuncId:=26
abbrev nziy:FuncId:=27
abbrev nziz:FuncId:=28
abbrev nzj0:FuncId:=29
abbrev nzj1:FuncId:=30
abbrev nzj2:FuncId:=31
abbrev nzj3:FuncId:=32
abbrev nzj4:FuncId:=33
abbrev nzj5:FuncId:=34
abbrev nzj6:FuncId:=35
abbrev nzj7:FuncId:=36
abbrev nzj8:FuncId:=37
abbrev nzj9:FuncId:=38
abbrev nzja:FuncId:=39
abbrev nz17:FuncId:=40
abbrev nz18:FuncId:=41
abbrev nzm:FuncId:=42
abbrev nzn:FuncId:=43
abbrev nz0:FuncId:=44
abbrev nze:FuncId:=45
abbrev nz19:FuncId:=46
abbrev nz3a:FuncId:=47
abbrev nz3b:FuncId:=48
abbrev nz3c:FuncId:=49
abbrev nz1a:FuncId:=50
abbrev nz1b:FuncId:=51
abbrev nz3d:FuncId:=52
abbrev nzf:FuncId:=53
abbrev nz1c:FuncId:=54
abbrev nz3e:FuncId:=55
abbrev nz3f:FuncId:=56
abbrev nzjb:FuncId:=57
abbrev nzjc:FuncId:=58
abbrev nzjd:FuncId:=59
abbrev nzje:FuncId:=60
abbrev nzjf:FuncId:=61
abbrev nzjg:FuncId:=62
abbrev nzjh:FuncId:=63
abbrev nzji:FuncId:=64
abbrev nzjj:FuncId:=65
abbrev nzg:FuncId:=66
abbrev nzjk:FuncId:=67
abbrev nzjl:FuncId:=68
abbrev nzjm:FuncId:=69
abbrev nzjn:FuncId:=70
abbrev nzjo:FuncId:=71
abbrev nz5:FuncId:=72
abbrev nzjp:FuncId:=73
abbrev nzjq:FuncId:=74
abbrev nzjr:FuncId:=75
abbrev nzjs:FuncId:=76
abbrev nzjt:FuncId:=77
abbrev nzju:FuncId:=78
abbrev nzjv:FuncId:=79
abbrev nzjw:FuncId:=80
abbrev nzjx:FuncId:=81
abbrev nz3g:FuncId:=82
abbrev nzjy:FuncId:=83
abbrev nzjz:FuncId:=84
abbrev nzk0:FuncId:=85
abbrev nzk1:FuncId:=86
abbrev nzk2:FuncId:=87
abbrev nzk3:FuncId:=88
abbrev nzk4:FuncId:=89
abbrev nzk5:FuncId:=90
abbrev nzk6:FuncId:=91
abbrev nzk7:FuncId:=92
abbrev nzk8:FuncId:=93
abbrev nz1d:FuncId:=94
abbrev nzk9:FuncId:=95
abbrev nz3h:FuncId:=96
abbrev nzo:FuncId:=97
abbrev nz3i:FuncId:=98
abbrev nz1e:FuncId:=99
abbrev nz1f:FuncId:=100
abbrev nz3j:FuncId:=101
abbrev nz1g:FuncId:=102
abbrev nz1h:FuncId:=103
abbrev nzh:FuncId:=104
abbrev nz4:FuncId:=105
abbrev nz1i:FuncId:=106
abbrev nz3k:FuncId:=107
abbrev nz3l:FuncId:=108
abbrev nz3m:FuncId:=109
abbrev nz1j:FuncId:=110
abbrev nz3n:FuncId:=111
abbrev nz3o:FuncId:=112
abbrev nzka:FuncId:=113
abbrev nzkb:FuncId:=114
abbrev nzkc:FuncId:=115
abbrev nzkd:FuncId:=116
abbrev nzke:FuncId:=117
abbrev nz3p:FuncId:=118
abbrev nzkf:FuncId:=119
abbrev nzkg:FuncId:=120
abbrev nz3q:FuncId:=121
abbrev nzkh:FuncId:=122
abbrev nzki:FuncId:=123
abbrev nzkj:FuncId:=124
abbrev nzkk:FuncId:=125
abbrev nzkl:FuncId:=126
abbrev nzkm:FuncId:=127
abbrev nzkn:FuncId:=128
abbrev nzko:FuncId:=129
abbrev nzkp:FuncId:=130
abbrev nz3r:FuncId:=131
abbrev nz1k:FuncId:=132
abbrev nz3s:FuncId:=133
abbrev nz3t:FuncId:=134
abbrev nzi:FuncId:=135
abbrev nz3u:FuncId:=136
abbrev nz1l:FuncId:=137
abbrev nz3v:FuncId:=138
abbrev nz3w:FuncId:=139
abbrev nz3x:FuncId:=140
abbrev nzkq:FuncId:=141
abbrev nzkr:FuncId:=142
abbrev nz3y:FuncId:=143
abbrev nzp:FuncId:=144
abbrev nz3z:FuncId:=145
abbrev nzks:FuncId:=146
abbrev n_math_bits_Len:FuncId:=147
abbrev nzkt:FuncId:=148
abbrev nzku:FuncId:=149
abbrev nzkv:FuncId:=150
abbrev nzkw:FuncId:=151
abbrev nzkx:FuncId:=152
abbrev nzky:FuncId:=153
abbrev nzkz:FuncId:=154
abbrev nzl0:FuncId:=155
abbrev nzl1:FuncId:=156
abbrev n_math_bits_Len32:FuncId:=157
abbrev n_math_bits_Len64:FuncId:=158
abbrev nzl2:FuncId:=159
abbrev nzl3:FuncId:=160
abbrev nzl4:FuncId:=161
abbrev nzl5:FuncId:=162
abbrev nzl6:FuncId:=163
abbrev nzl7:FuncId:=164
abbrev nzl8:FuncId:=165
abbrev n_runtime_boundsError_Error:FuncId:=166
abbrev n_runtime_boundsError_RuntimeError:FuncId:=167
abbrev n_runtime_errorString_Error:FuncId:=168
abbrev n_runtime_errorString_RuntimeError:FuncId:=169
abbrev n_runtime_plainError_Error:FuncId:=170
abbrev n_runtime_plainError_RuntimeError:FuncId:=171
abbrev n_runtime_errorAddressString_Error:FuncId:=172
abbrev n_runtime_errorAddressString_RuntimeError:FuncId:=173
abbrev n_runtime_TypeAssertionError_Error:FuncId:=174
abbrev n_runtime_TypeAssertionError_RuntimeError:FuncId:=175
abbrev n_runtime_PanicNilError_Error:FuncId:=176
abbrev n_runtime_PanicNilError_RuntimeError:FuncId:=177
abbrev n_internal_abi_Type_Align:FuncId:=178
abbrev n_internal_runtime_maps_unhashableTypeError_Error:FuncId:=179
abbrev n_internal_runtime_maps_unhashableTypeError_RuntimeError:FuncId:=180
abbrev nzl9:FuncId:=181
abbrev n_internal_abi_Kind_String:FuncId:=182
def Bz7f:AC:=(.kp [0,1,23] [5000,5001] (.dn (.cond (.t 23) (.seq (.reg false [⟨(some 4),none,.i (.mov (.c (.bool true)))⟩]) (.dn .ret)) .skip)))
def Bzq:AC:=(.kp [5,6,7,9,11,14,68] [5,25,28,36,5000,5001] (.dn (.cond (.t 68) (.seq (.reg false [⟨(some 4),none,.i (.mov (.c (.bool false)))⟩]) (.dn .ret)) .skip)))
def Bzr:AC:=(.kp [5,6,7,9,11,14,15,16,72] [5,25,28,36,5000,5001] (.dn (.cond (.t 72) .skip (.exit 0))))
def Bz8:AC:=(.kp [5,6,7,9,11,14,15,16,17,113] [5,25,28,36,78,5000,5001] (.dn (.cond (.t 113) (.seq (.reg false [⟨(some 4),none,.i (.mov (.c (.bool false)))⟩]) (.dn .ret)) .skip)))
def Bzs:AC:=(.kp [5,6,7,9,11,14,15,16,159] [5,25,28,36,5000,5001] (.dn (.cond (.t 159) (.seq (.reg false [⟨(some 4),none,.i (.mov (.c (.bool false)))⟩]) (.dn .ret)) .skip)))
def Bz40:AC:=(.kp [5,6,7,9,11,14,15,16,19,20] [5,25,28,36,125,5000,5001] (.dn (.seq (.reg false [⟨(some 128),none,.i (.mov (.t 20))⟩,⟨(some 129),none,.i (.bin .neq (.t 128) (.c (.int .i64 0)))⟩,⟨(some 130),none,.i (.mov (.t 129))⟩,⟨(some 131),(some (130,false)),.i (.mov (.t 19))⟩,⟨(some 132),(some (130,false)),.i (.fad 0 (.t 5))⟩,⟨(some 133),(some (130,false)),.i (.ld (.t 132))⟩,⟨(some 134),(some (130,false)),.call nz39 [(.t 131),(.t 133)]⟩,⟨(some 135),(some (130,false)),.i (.un .not (.t 134))⟩,⟨(some 136),none,.i (.pick (.t 130) (.c (.bool true)) (.t 135))⟩,⟨(some 137),none,.i (.mov (.t 136))⟩,⟨(some 138),(some (137,false)),.i (.mov (.t 7))⟩,⟨(some 139),(some (137,false)),.i (.mov (.t 138))⟩,⟨(some 140),(some (139,true)),.i (.mov (.t 6))⟩,⟨(some 141),(some (139,true)),.i (.len (.t 140))⟩,⟨(some 142),(some (139,true)),.i (.bin .gtr (.t 141) (.c (.int .i64 0)))⟩,⟨(some 143),(some (137,false)),.i (.pick (.t 139) (.t 142) (.c (.bool false)))⟩,⟨(some 144),(some (137,false)),.i (.mov (.t 143))⟩,⟨(some 145),(some (144,true)),.i (.mov (.t 19))⟩,⟨(some 146),(some (144,true)),.i (.mov (.t 16))⟩,⟨(some 147),(some (144,true)),.i (.iad 1 (.t 145) (.t 146))⟩,⟨(some 148),(some (144,true)),.i (.ld (.t 147))⟩,⟨(some 149),(some (144,true)),.i (.mov (.t 16))⟩,⟨(some 150),(some (144,true)),.i (.bin .eql (.t 148) (.t 149))⟩,⟨(some 151),(some (137,false)),.i (.pick (.t 144) (.t 150) (.c (.bool false)))⟩,⟨(some 152),(some (137,false)),.i (.mov (.t 151))⟩,⟨(some 153),(some (152,true)),.i (.mov (.t 6))⟩,⟨(some 154),(some (152,true)),.i (.len (.t 153))⟩,⟨(some 155),(some (152,true)),.i (.mov (.t 11))⟩,⟨(some 156),(some (152,true)),.i (.bin .rem (.t 154) (.t 155))⟩,⟨(some 157),(some (152,true)),.i (.bin .neq (.t 156) (.c (.int .i64 0)))⟩,⟨(some 158),(some (137,false)),.i (.pick (.t 152) (.t 157) (.c (.bool false)))⟩,⟨(some 159),none,.i (.pick (.t 137) (.c (.bool true)) (.t 158))⟩]) Bzs)))
def Bzt:AC:=(.kp [5,6,7,9,11,14,15,16] [5,25,28,36,5000,5001] (.dn (.seq (.reg false [⟨(some 123),none,.i (.lda 2 (.t 5))⟩,⟨(some 124),none,.i (.mov (.t 6))⟩,⟨(some 125),none,.call nz38 [(.t 123),(.t 124)]⟩,⟨(some 122),none,.i (.mov (.t 125))⟩,⟨(some 126),none,.i (.ext 0 (.t 122))⟩,⟨(some 127),none,.i (.ext 1 (.t 122))⟩,⟨(some 19),none,.i (.mov (.t 126))⟩,⟨(some 20),none,.i (.mov (.t 127))⟩]) Bz40)))
def Bz9:AC:=(.kp [5,6,7,9,11,14,15,16,17] [5,25,28,36,78,5000,5001] (.dn (.seq (.reg false [⟨(some 114),none,.i (.mov (.t 15))⟩,⟨(some 115),none,.i (.mov (.t 114))⟩,⟨(some 116),(some (115,true)),.i (.mov (.t 17))⟩,⟨(some 117),(some (115,true)),.i (.len (.t 116))⟩,⟨(some 118),(some (115,true)),.i (.fad 0 (.t 5))⟩,⟨(some 119),(some (115,true)),.i (.ld (.t 118))⟩,⟨(some 120),(some (115,true)),.i (.bin .eql (.t 117) (.t 119))⟩,⟨(some 121),none,.i (.pick (.t 115) (.t 120) (.c (.bool false)))⟩,⟨(some 15),none,.i (.mov (.t 121))⟩]) Bzt)))
def Bz41:AC:=(.kp [5,6,7,9,11,14,15,16,17,18] [5,25,28,36,78,5000,5001] (.dn (.seq (.seq (.reg false [⟨(some 81),none,.i (.mov (.t 18))⟩,⟨(some 82),none,.i (.bin .neq (.t 81) (.c (.int .i64 0)))⟩,⟨(some 83),none,.i (.mov (.t 82))⟩,⟨(some 84),(some (83,false)),.i (.mov (.t 17))⟩,⟨(some 85),(some (83,false)),.i (.mov (.t 16))⟩,⟨(some 86),(some (83,false)),.call nzl [(.t 84),(.t 85)]⟩,⟨(some 87),(some (83,false)),.i (.un .not (.t 86))⟩,⟨(some 88),none,.i (.pick (.t 83) (.c (.bool true)) (.t 87))⟩,⟨(some 89),none,.i (.mov (.t 88))⟩,⟨(some 90),(some (89,false)),.i (.mov (.t 14))⟩,⟨(some 91),(some (89,false)),.i (.bin .eql (.t 90) (.c (.int .i64 0)))⟩,⟨(some 92),(some (89,false)),.i (.mov (.t 91))⟩,⟨(some 93),(some (92,true)),.i (.mov (.t 9))⟩,⟨(some 94),(some (92,true)),.i (.mov (.t 17))⟩,⟨(some 95),(some (92,true)),.call nz36 [(.t 93),(.t 94)]⟩,⟨(some 96),(some (92,true)),.i (.un .not (.t 95))⟩,⟨(some 97),(some (89,false)),.i (.pick (.t 92) (.t 96) (.c (.bool false)))⟩,⟨(some 98),none,.i (.pick (.t 89) (.c (.bool true)) (.t 97))⟩,⟨(some 99),none,.i (.mov (.t 98))⟩,⟨(some 100),(some (99,false)),.i (.mov (.t 14))⟩,⟨(some 101),(some (99,false)),.i (.bin .eql (.t 100) (.c (.int .i64 0)))⟩,⟨(some 102),(some (99,false)),.i (.mov (.t 101))⟩,⟨(some 103),(some (102,true)),.i (.mov (.t 9))⟩,⟨(some 104),(some (102,true)),.i (.mov (.t 16))⟩,⟨(some 105),(some (102,true)),.call nzl [(.t 103),(.t 104)]⟩,⟨(some 106),(some (99,false)),.i (.pick (.t 102) (.t 105) (.c (.bool false)))⟩,⟨(some 107),(some (99,false)),.i (.mov (.t 106))⟩,⟨(some 108),(some (107,true)),.i (.mov (.t 17))⟩,⟨(some 109),(some (107,true)),.i (.mov (.t 9))⟩,⟨(some 110),(some (107,true)),.call nz37 [(.t 108),(.t 109)]⟩,⟨(some 111),(some (107,true)),.i (.un .not (.t 110))⟩,⟨(some 112),(some (99,false)),.i (.pick (.t 107) (.t 111) (.c (.bool false)))⟩,⟨(some 113),none,.i (.pick (.t 99) (.c (.bool true)) (.t 112))⟩]) Bz8) Bz9)))
def Bz6:AC:=(.kp [5,6,7,9,11,14,15,16] [5,25,28,36,5000,5001] (.dn (.reg false [⟨(some 73),none,.i (.mov (.t 16))⟩,⟨(some 74),none,.i (.bin .add (.t 73) (.c (.int .i64 1)))⟩,⟨(some 16),none,.i (.mov (.t 74))⟩])))
def Bz42:AC:=(.kp [5,6,7,9,11,14,15,16] [5,25,28,36,5000,5001] (.dn (.seq (.block 1 (.seq (.reg false [⟨(some 76),none,.i (.lda 2 (.t 5))⟩,⟨(some 77),none,.i (.mov (.t 16))⟩,⟨(some 78),none,.call nz35 [(.t 76),(.t 77)]⟩,⟨(some 75),none,.i (.mov (.t 78))⟩,⟨(some 79),none,.i (.ext 0 (.t 75))⟩,⟨(some 80),none,.i (.ext 1 (.t 75))⟩,⟨(some 17),none,.i (.mov (.t 79))⟩,⟨(some 18),none,.i (.mov (.t 80))⟩]) Bz41)) Bz6)))
def Bza:AC:=(.kp [5,6,7,9,11,14,15,16] [5,25,28,36,5000,5001] (.dn (.seq (.seq (.reg false [⟨(some 69),none,.i (.mov (.t 16))⟩,⟨(some 70),none,.i (.fad 0 (.t 5))⟩,⟨(some 71),none,.i (.ld (.t 70))⟩,⟨(some 72),none,.i (.bin .lss (.t 69) (.t 71))⟩]) Bzr) Bz42)))
def Bz43:AC:=(.kp [5,6,7,9,11,14,15,16] [5,25,28,36,5000,5001] (.dn (.block 0 (.loop Bza))))
def Bz44:AC:=(.kp [7,9,14,15] [5,25,36,5000,5001] (.dn (.seq (.reg false [⟨(some 160),none,.i (.mov (.t 15))⟩,⟨(some 161),none,.i (.mov (.t 7))⟩,⟨(some 162),none,.i (.beq false (.t 160) (.t 161))⟩,⟨(some 163),none,.i (.mov (.t 162))⟩,⟨(some 164),(some (163,true)),.i (.mov (.t 14))⟩,⟨(some 165),(some (163,true)),.i (.bin .neq (.t 164) (.c (.int .i64 0)))⟩,⟨(some 166),(some (163,true)),.i (.mov (.t 165))⟩,⟨(some 167),(some (166,false)),.i (.mov (.t 9))⟩,⟨(some 168),(some (166,false)),.i (.len (.t 167))⟩,⟨(some 169),(some (166,false)),.i (.bin .gtr (.t 168) (.c (.int .i64 0)))⟩,⟨(some 170),(some (163,true)),.i (.pick (.t 166) (.c (.bool true)) (.t 169))⟩,⟨(some 171),none,.i (.pick (.t 163) (.t 170) (.c (.bool false)))⟩,⟨(some 4),none,.i (.mov (.t 171))⟩]) (.dn .ret))))
def Bz45:AC:=(.kp [5,6,7,9,11,14,15] [5,25,28,36,5000,5001] (.dn (.seq (.seq (.reg false [⟨(some 16),none,.i (.mov (.c (.int .i64 0)))⟩]) Bz43) Bz44)))
def Bzu:AC:=(.kp [5,6,7,9,11,14] [5,25,28,36,5000,5001] (.dn (.seq (.reg false [⟨(some 15),none,.i (.mov (.c (.bool true)))⟩]) Bz45)))
def Bz46:AC:=(.kp [5,6,7,8,9,10,11,12,14] [5,25,28,36,5000,5001] (.dn (.seq (.seq (.reg false [⟨(some 49),none,.i (.mov (.t 8))⟩,⟨(some 50),none,.i (.bin .neq (.t 49) (.c (.int .i64 0)))⟩,⟨(some 51),none,.i (.mov (.t 50))⟩,⟨(some 52),(some (51,false)),.i (.mov (.t 10))⟩,⟨(some 53),(some (51,false)),.i (.mov (.t 14))⟩,⟨(some 54),(some (51,false)),.i (.bin .neq (.t 52) (.t 53))⟩,⟨(some 55),none,.i (.pick (.t 51) (.c (.bool true)) (.t 54))⟩,⟨(some 56),none,.i (.mov (.t 55))⟩,⟨(some 57),(some (56,false)),.i (.mov (.t 12))⟩,⟨(some 58),(some (56,false)),.i (.bin .eql (.t 57) (.c (.int .i64 0)))⟩,⟨(some 59),(some (56,false)),.i (.mov (.t 7))⟩,⟨(some 60),(some (56,false)),.i (.beq true (.t 58) (.t 59))⟩,⟨(some 61),none,.i (.pick (.t 56) (.c (.bool true)) (.t 60))⟩,⟨(some 62),none,.i (.mov (.t 61))⟩,⟨(some 63),(some (62,false)),.i (.mov (.t 7))⟩,⟨(some 64),(some (62,false)),.i (.mov (.t 63))⟩,⟨(some 65),(some (64,true)),.i (.mov (.t 11))⟩,⟨(some 66),(some (64,true)),.i (.bin .lss (.t 65) (.c (.int .i64 1)))⟩,⟨(some 67),(some (62,false)),.i (.pick (.t 64) (.t 66) (.c (.bool false)))⟩,⟨(some 68),none,.i (.pick (.t 62) (.c (.bool true)) (.t 67))⟩]) Bzq) Bzu)))
def Bz47:AC:=(.kp [5,6,7,8,9,10,11,12] [5,25,28,36,5000,5001] (.dn (.seq (.reg false [⟨(some 45),none,.i (.lda 2 (.t 5))⟩,⟨(some 46),none,.call nz34 [(.t 45)]⟩,⟨(some 44),none,.i (.mov (.t 46))⟩,⟨(some 47),none,.i (.ext 0 (.t 44))⟩,⟨(some 48),none,.i (.ext 1 (.t 44))⟩,⟨(some 13),none,.i (.mov (.t 47))⟩,⟨(some 14),none,.i (.mov (.t 48))⟩]) Bz46)))
def Bz48:AC:=(.kp [5,6,7,8,9,10] [5,25,28,36,5000,5001] (.dn (.seq (.reg false [⟨(some 40),none,.i (.lda 2 (.t 5))⟩,⟨(some 41),none,.call nz33 [(.t 40)]⟩,⟨(some 39),none,.i (.mov (.t 41))⟩,⟨(some 42),none,.i (.ext 0 (.t 39))⟩,⟨(some 43),none,.i (.ext 1 (.t 39))⟩,⟨(some 11),none,.i (.mov (.t 42))⟩,⟨(some 12),none,.i (.mov (.t 43))⟩]) Bz47)))
def Bz7g:AC:=(.kp [5,6,7,8] [5,25,28,5000,5001] (.dn (.seq (.reg false [⟨(some 35),none,.i (.lda 2 (.t 5))⟩,⟨(some 36),none,.call nz32 [(.t 35)]⟩,⟨(some 34),none,.i (.mov (.t 36))⟩,⟨(some 37),none,.i (.ext 0 (.t 34))⟩,⟨(some 38),none,.i (.ext 1 (.t 34))⟩,⟨(some 9),none,.i (.mov (.t 37))⟩,⟨(some 10),none,.i (.mov (.t 38))⟩]) Bz48)))
def Bz7h:AC:=(.kp [5,6] [5,25,28,5000,5001] (.dn (.seq (.reg false [⟨(some 30),none,.i (.lda 2 (.t 5))⟩,⟨(some 31),none,.call nz31 [(.t 30)]⟩,⟨(some 29),none,.i (.mov (.t 31))⟩,⟨(some 32),none,.i (.ext 0 (.t 29))⟩,⟨(some 33),none,.i (.ext 1 (.t 29))⟩,⟨(some 7),none,.i (.mov (.t 32))⟩,⟨(some 8),none,.i (.mov (.t 33))⟩]) Bz7g)))
def Bz7i:AC:=(.kp [1,5] [5,25,5000,5001] (.dn (.seq (.reg false [⟨(some 26),none,.i (.mov (.t 1))⟩,⟨(some 27),none,.i (.lda 2 (.t 5))⟩,⟨(some 28),none,.call nz30 [(.t 26),(.t 27)]⟩,⟨(some 6),none,.i (.mov (.t 28))⟩]) Bz7h)))
def Bz7j:AC:=(.kp [0,1] [5000,5001] (.dn (.seq (.reg false [⟨(some 24),none,.i (.mov (.t 0))⟩,⟨(some 25),none,.call nz2z [(.t 24)]⟩,⟨(some 5),none,.i (.new [.int .i64 0,.slice none 0 0])⟩,⟨none,none,.i (.sto 2 (.t 5) (.t 25))⟩]) Bz7i)))
def Bz7k:AC:=(.kp [0,1] [5000,5001] (.dn (.seq (.seq (.reg false [⟨(some 21),none,.i (.mov (.t 0))⟩,⟨(some 22),none,.i (.mov (.t 1))⟩,⟨(some 23),none,.call nz2y [(.t 21),(.t 22)]⟩]) Bz7f) Bz7j)))
def Az7l:AFn:=⟨172,2,(.seq (.reg false [⟨(some 4),none,.i (.mov (.c (.bool false)))⟩]) Bz7k),[.tmp 4]⟩
theorem czgj:cFn (drV none) Try.prog nz7e Az7l:=⟨_,_,Try.func3,rfl,by kernel_rfl,by decide,rfl,by kernel_rfl,by kernel_rfl⟩
def Bz7m:AC:=(.kp [0,1] [5000,5001] (.dn (.seq (.reg false [⟨(some 5),none,.i (.mov (.t 0))⟩,⟨(some 6),none,.i (.len (.t 5))⟩,⟨(some 7),none,.i (.bin .gtr (.t 6) (.c (.int .i64 3000)))⟩,⟨(some 8),none,.i (.mov (.t 7))⟩,⟨(some 9),(some (8,false)),.i (.mov (.t 1))⟩,⟨(some 10),(some (8,false)),.i (.len (.t 9))⟩,⟨(some 11),(some (8,false)),.i (.bin .gtr (.t 10) (.c (.int .i64 3000)))⟩,⟨(some 12),none,.i (.pick (.t 8) (.c (.bool true)) (.t 11))⟩,⟨(some 4),none,.i (.mov (.t 12))⟩]) (.dn .ret))))
def Az7n:AFn:=⟨13,2,(.seq (.reg false [⟨(some 4),none,.i (.mov (.c (.bool false)))⟩]) Bz7m),[.tmp 4]⟩
theorem czgk:cFn (drV none) Try.prog nz2y Az7n:=⟨_,_,Try.func6,rfl,by kernel_rfl,by decide,rfl,by kernel_rfl,by kernel_rfl⟩
def Bz1m:AC:=(.kp [2,4,14] [2,4,6,8,16,5000] (.dn (.cond (.t 14) (.seq (.reg false [⟨(some 15),none,.i (.lda 2 (.t 4))⟩,⟨none,none,.i (.sto 2 (.t 2) (.t 15))⟩]) (.dn .ret)) .skip)))
def Bz49:AC:=(.kp [2] [2,4,6,8,16,5000] (.dn (.seq (.reg false [⟨(some 16),none,.call nzn [(.c (.int .i64 4))]⟩,⟨none,none,.i (.sto 2 (.t 2) (.t 16))⟩]) (.dn .ret))))
def Bz7o:AC:=(.kp [2,4] [2,4,6,8,16,5000] (.dn (.seq (.seq (.reg false [⟨(some 9),none,.call nzm [(.t 4)]⟩,⟨(some 10),none,.i (.mov (.t 9))⟩,⟨(some 11),(some (10,true)),.i (.fad 0 (.t 4))⟩,⟨(some 12),(some (10,true)),.i (.ld (.t 11))⟩,⟨(some 13),(some (10,true)),.i (.bin .leq (.t 12) (.c (.int .i64 7)))⟩,⟨(some 14),none,.i (.pick (.t 10) (.t 13) (.c (.bool false)))⟩]) Bz1m) Bz49)))
def Bz7p:AC:=(.kp [2,3] [2,4,6,8,16,5000] (.dn (.seq (.reg false [⟨(some 7),none,.i (.mov (.t 3))⟩,⟨(some 8),none,.call nz18 [(.t 7)]⟩,⟨(some 4),none,.i (.new [.int .i64 0,.slice none 0 0])⟩,⟨none,none,.i (.sto 2 (.t 4) (.t 8))⟩]) Bz7o)))
def Bz7q:AC:=(.kp [0,2] [2,4,6,8,16,5000] (.dn (.seq (.reg false [⟨(some 5),none,.i (.mov (.t 0))⟩,⟨(some 6),none,.call nz17 [(.t 5)]⟩,⟨(some 3),none,.i (.mov (.t 6))⟩]) Bz7p)))
def Azv:AFn:=⟨17,1,(.seq (.reg false [⟨(some 2),none,.i (.new [.int .i64 0,.slice none 0 0])⟩]) Bz7q),[.cell (some 2) 2]⟩
theorem czgl:cFn (drV none) Try.prog nz2z Azv:=⟨_,_,Try.func7,rfl,by kernel_rfl,by decide,rfl,by kernel_rfl,by kernel_rfl⟩
def Bz7r:AC:=(.kp [3,5,6,7,14] [3,9,10,24,5000,5001] (.dn (.cond (.t 14) .skip (.exit 0))))
def Bz7s:AC:=(.kp [3,5,6,7] [3,9,10,24,5000,5001] (.dn (.reg false [⟨(some 15),none,.i (.mov (.t 7))⟩,⟨(some 16),none,.i (.bin .sub (.t 15) (.c (.int .i64 1)))⟩,⟨(some 7),none,.i (.mov (.t 16))⟩])))
def Bz7t:AC:=(.kp [3,5,6,7] [3,9,10,24,5000,5001] (.dn (.seq (.block 1 (.reg false [⟨(some 17),none,.i (.mov (.t 6))⟩,⟨(some 18),none,.i (.mov (.t 5))⟩,⟨(some 19),none,.i (.fad 1 (.t 3))⟩,⟨(some 20),none,.i (.ld (.t 19))⟩,⟨(some 21),none,.i (.len (.t 20))⟩,⟨(some 22),none,.call nz0 [(.t 18),(.t 21)]⟩,⟨(some 23),none,.i (.bsl 1 false [(.t 22)])⟩,⟨(some 24),none,.i (.app 1 8 (.t 17) (.t 23))⟩,⟨(some 6),none,.i (.mov (.t 24))⟩])) Bz7s)))
def Bz7u:AC:=(.kp [3,5,6,7] [3,9,10,24,5000,5001] (.dn (.seq (.seq (.reg false [⟨(some 13),none,.i (.mov (.t 7))⟩,⟨(some 14),none,.i (.bin .gtr (.t 13) (.c (.int .i64 0)))⟩]) Bz7r) Bz7t)))
def Bz7v:AC:=(.kp [3,5,6,7] [3,9,10,24,5000,5001] (.dn (.block 0 (.loop Bz7u))))
def Bz7w:AC:=(.kp [6] [10,24,5000,5001] (.dn (.seq (.reg false [⟨(some 25),none,.i (.mov (.t 6))⟩,⟨(some 4),none,.i (.mov (.t 25))⟩]) (.dn .ret))))
def Bz7x:AC:=(.kp [3,5,6] [3,9,10,24,5000,5001] (.dn (.seq (.seq (.reg false [⟨(some 11),none,.i (.mov (.t 5))⟩,⟨(some 12),none,.call nz0 [(.t 11),(.c (.int .i64 9))]⟩,⟨(some 7),none,.i (.mov (.t 12))⟩]) Bz7v) Bz7w)))
def Bz7y:AC:=(.kp [3,5] [3,9,5000,5001] (.dn (.seq (.reg false [⟨(some 10),none,.i (.bsl 1 false [])⟩,⟨(some 6),none,.i (.mov (.t 10))⟩]) Bz7x)))
def Bz7z:AC:=(.kp [0,3] [3,5000,5001] (.dn (.seq (.reg false [⟨(some 8),none,.i (.mov (.t 0))⟩,⟨(some 9),none,.call nz17 [(.t 8)]⟩,⟨(some 5),none,.i (.mov (.t 9))⟩]) Bz7y)))
def Az80:AFn:=⟨26,2,(.seq (.reg false [⟨(some 3),none,.i (.box (.t 1))⟩,⟨(some 4),none,.i (.mov (.c (.slice none 0 0)))⟩]) Bz7z),[.tmp 4]⟩
theorem czgm:cFn (drV none) Try.prog nz30 Az80:=⟨_,_,Try.func8,rfl,by kernel_rfl,by decide,rfl,by kernel_rfl,by kernel_rfl⟩
def Bz81:AC:=(.kp [1,6] [1,5000] (.dn (.cond (.t 6) (.seq (.reg false [⟨(some 2),none,.i (.mov (.c (.bool false)))⟩,⟨(some 3),none,.i (.mov (.c (.int .i64 1)))⟩]) (.dn .ret)) .skip)))
def Bz82:AC:=(.kp [1] [1,5000] (.dn (.seq (.reg false [⟨(some 7),none,.i (.lda 2 (.t 1))⟩,⟨(some 8),none,.call nz19 [(.t 7)]⟩,⟨(some 2),none,.i (.mov (.t 8))⟩,⟨(some 3),none,.i (.mov (.c (.int .i64 0)))⟩]) (.dn .ret))))
def Bz83:AC:=(.kp [1] [1,5000] (.dn (.seq (.seq (.reg false [⟨(some 4),none,.i (.lda 2 (.t 1))⟩,⟨(some 5),none,.call nze [(.t 4)]⟩,⟨(some 6),none,.i (.un .not (.t 5))⟩]) Bz81) Bz82)))
def Az84:AFn:=⟨9,1,(.seq (.reg false [⟨(some 1),none,.i (.box (.t 0))⟩,⟨(some 2),none,.i (.mov (.c (.bool false)))⟩,⟨(some 3),none,.i (.mov (.c (.int .i64 0)))⟩]) Bz83),[.tmp 2,.tmp 3]⟩
theorem czgn:cFn (drV none) Try.prog nz31 Az84:=⟨_,_,Try.func9,rfl,by kernel_rfl,by decide,rfl,by kernel_rfl,by kernel_rfl⟩
def Bz85:AC:=(.kp [1,7] [1,5000] (.dn (.cond (.t 7) (.seq (.reg false [⟨(some 2),none,.i (.mov (.c (.slice none 0 0)))⟩,⟨(some 3),none,.i (.mov (.c (.int .i64 1)))⟩]) (.dn .ret)) .skip)))
def Bz4a:AC:=(.kp [4,12] [1,9,5000] (.dn (.cond (.t 12) (.seq (.reg false [⟨(some 2),none,.i (.mov (.c (.slice none 0 0)))⟩,⟨(some 3),none,.i (.mov (.c (.int .i64 6)))⟩]) (.dn .ret)) .skip)))
def Bz86:AC:=(.kp [4] [1,9,5000] (.dn (.seq (.reg false [⟨(some 13),none,.i (.mov (.t 4))⟩,⟨(some 2),none,.i (.mov (.t 13))⟩,⟨(some 3),none,.i (.mov (.c (.int .i64 0)))⟩]) (.dn .ret))))
def Bz87:AC:=(.kp [4] [1,9,5000] (.dn (.seq (.seq (.reg false [⟨(some 10),none,.i (.mov (.t 4))⟩,⟨(some 11),none,.i (.len (.t 10))⟩,⟨(some 12),none,.i (.bin .eql (.t 11) (.c (.int .i64 0)))⟩]) Bz4a) Bz86)))
def Bz88:AC:=(.kp [1] [1,5000] (.dn (.seq (.reg false [⟨(some 8),none,.i (.lda 2 (.t 1))⟩,⟨(some 9),none,.call nz3a [(.t 8)]⟩,⟨(some 4),none,.i (.mov (.t 9))⟩]) Bz87)))
def Bz89:AC:=(.kp [1] [1,5000] (.dn (.seq (.seq (.reg false [⟨(some 5),none,.i (.lda 2 (.t 1))⟩,⟨(some 6),none,.call nze [(.t 5)]⟩,⟨(some 7),none,.i (.un .not (.t 6))⟩]) Bz85) Bz88)))
def Az1n:AFn:=⟨14,1,(.seq (.reg false [⟨(some 1),none,.i (.box (.t 0))⟩,⟨(some 2),none,.i (.mov (.c (.slice none 0 0)))⟩,⟨(some 3),none,.i (.mov (.c (.int .i64 0)))⟩]) Bz89),[.tmp 2,.tmp 3]⟩
theorem czgo:cFn (drV none) Try.prog nz32 Az1n:=⟨_,_,Try.func10,rfl,by kernel_rfl,by decide,rfl,by kernel_rfl,by kernel_rfl⟩
def Bz4b:AC:=(.kp [1,8] [1,5000] (.dn (.cond (.t 8) (.seq (.reg false [⟨(some 2),none,.i (.mov (.c (.int .i64 0)))⟩,⟨(some 3),none,.i (.mov (.c (.int .i64 4)))⟩]) (.dn .ret)) .skip)))
def Bz8a:AC:=(.kp [1,4] [1,5000] (.dn (.cond (.t 4) (.seq (.reg false [⟨(some 2),none,.i (.mov (.c (.int .i64 0)))⟩,⟨(some 3),none,.i (.mov (.c (.int .i64 1)))⟩]) (.dn .ret)) (.seq (.reg false [⟨(some 9),none,.i (.lda 2 (.t 1))⟩,⟨(some 10),none,.call nz19 [(.t 9)]⟩,⟨(some 11),none,.i (.un .not (.t 10))⟩,⟨(some 8),none,.i (.mov (.t 11))⟩]) Bz4b))))
def Bz8b:AC:=(.kp [1] [1,5000] (.dn (.seq (.reg false [⟨(some 12),none,.i (.lda 2 (.t 1))⟩,⟨(some 13),none,.call nz3b [(.t 12)]⟩,⟨(some 2),none,.i (.mov (.t 13))⟩,⟨(some 3),none,.i (.mov (.c (.int .i64 0)))⟩]) (.dn .ret))))
def Bz8c:AC:=(.kp [1] [1,5000] (.dn (.seq (.block 0 (.seq (.reg false [⟨(some 5),none,.i (.lda 2 (.t 1))⟩,⟨(some 6),none,.call nze [(.t 5)]⟩,⟨(some 7),none,.i (.un .not (.t 6))⟩,⟨(some 4),none,.i (.mov (.t 7))⟩]) Bz8a)) Bz8b)))
def Az1o:AFn:=⟨14,1,(.seq (.reg false [⟨(some 1),none,.i (.box (.t 0))⟩,⟨(some 2),none,.i (.mov (.c (.int .i64 0)))⟩,⟨(some 3),none,.i (.mov (.c (.int .i64 0)))⟩]) Bz8c),[.tmp 2,.tmp 3]⟩
theorem czgp:cFn (drV none) Try.prog nz33 Az1o:=⟨_,_,Try.func11,rfl,by kernel_rfl,by decide,rfl,by kernel_rfl,by kernel_rfl⟩
def Bz8d:AC:=(.kp [1,7] [1,5000] (.dn (.cond (.t 7) (.seq (.reg false [⟨(some 8),none,.i (.bsl 1 false [])⟩,⟨(some 2),none,.i (.mov (.t 8))⟩,⟨(some 3),none,.i (.mov (.c (.int .i64 1)))⟩]) (.dn .ret)) .skip)))
def Bz4c:AC:=(.kp [4,14] [1,10,5000] (.dn (.cond (.t 14) (.seq (.reg false [⟨(some 15),none,.i (.bsl 1 false [])⟩,⟨(some 2),none,.i (.mov (.t 15))⟩,⟨(some 3),none,.i (.mov (.c (.int .i64 6)))⟩]) (.dn .ret)) .skip)))
def Bz8e:AC:=(.kp [4] [1,10,5000] (.dn (.seq (.reg false [⟨(some 16),none,.i (.mov (.t 4))⟩,⟨(some 2),none,.i (.mov (.t 16))⟩,⟨(some 3),none,.i (.mov (.c (.int .i64 0)))⟩]) (.dn .ret))))
def Bz4d:AC:=(.kp [4,5] [1,10,5000] (.dn (.seq (.seq (.reg false [⟨(some 13),none,.i (.mov (.t 5))⟩,⟨(some 14),none,.i (.un .not (.t 13))⟩]) Bz4c) Bz8e)))
def Bz8f:AC:=(.kp [1] [1,5000] (.dn (.seq (.reg false [⟨(some 10),none,.call nz3c [(.t 1)]⟩,⟨(some 9),none,.i (.mov (.t 10))⟩,⟨(some 11),none,.i (.ext 0 (.t 9))⟩,⟨(some 12),none,.i (.ext 1 (.t 9))⟩,⟨(some 4),none,.i (.mov (.t 11))⟩,⟨(some 5),none,.i (.mov (.t 12))⟩]) Bz4d)))
def Bz8g:AC:=(.kp [1] [1,5000] (.dn (.seq (.seq (.reg false [⟨(some 6),none,.call nzm [(.t 1)]⟩,⟨(some 7),none,.i (.un .not (.t 6))⟩]) Bz8d) Bz8f)))
def Az1p:AFn:=⟨17,1,(.seq (.reg false [⟨(some 1),none,.i (.box (.t 0))⟩,⟨(some 2),none,.i (.mov (.c (.slice none 0 0)))⟩,⟨(some 3),none,.i (.mov (.c (.int .i64 0)))⟩]) Bz8g),[.tmp 2,.tmp 3]⟩
theorem czgq:cFn (drV none) Try.prog nz34 Az1p:=⟨_,_,Try.func12,rfl,by kernel_rfl,by decide,rfl,by kernel_rfl,by kernel_rfl⟩
def Bz1q:AC:=(.kp [2,3,6,11] [2,3,5000,5001] (.dn (.cond (.t 11) (.seq (.reg false [⟨(some 12),none,.i (.mov (.t 6))⟩,⟨(some 4),none,.i (.mov (.c (.slice none 0 0)))⟩,⟨(some 5),none,.i (.mov (.t 12))⟩]) (.dn .ret)) .skip)))
def Bz1r:AC:=(.kp [2,3,6] [2,3,5000,5001] (.dn (.seq (.reg false [⟨(some 10),none,.i (.mov (.t 6))⟩,⟨(some 11),none,.i (.bin .neq (.t 10) (.c (.int .i64 0)))⟩]) Bz1q)))
def Bz8h:AC:=(.kp [2,3] [2,3,5000,5001] (.dn (.seq (.reg false [⟨(some 13),none,.i (.lda 2 (.t 2))⟩,⟨(some 14),none,.i (.ld (.t 3))⟩,⟨(some 15),none,.call nzf [(.t 13),(.t 14)]⟩,⟨(some 4),none,.i (.mov (.t 15))⟩,⟨(some 5),none,.i (.mov (.c (.int .i64 0)))⟩]) (.dn .ret))))
def Bz8i:AC:=(.kp [2,3] [2,3,5000,5001] (.dn (.seq (.seq (.reg false [⟨(some 7),none,.i (.lda 2 (.t 2))⟩,⟨(some 8),none,.i (.mkf nz1b [(.t 2),(.t 3)])⟩,⟨(some 9),none,.call nz1a [(.t 7),(.t 8)]⟩,⟨(some 6),none,.i (.mov (.t 9))⟩]) Bz1r) Bz8h)))
def Az8j:AFn:=⟨16,2,(.seq (.reg false [⟨(some 2),none,.i (.box (.t 0))⟩,⟨(some 3),none,.i (.box (.t 1))⟩,⟨(some 4),none,.i (.mov (.c (.slice none 0 0)))⟩,⟨(some 5),none,.i (.mov (.c (.int .i64 0)))⟩]) Bz8i),[.tmp 4,.tmp 5]⟩
theorem czgr:cFn (drV none) Try.prog nz35 Az8j:=⟨_,_,Try.func13,rfl,by kernel_rfl,by decide,rfl,by kernel_rfl,by kernel_rfl⟩
def Bz4e:AC:=(.kp [0,1,5,9] [5000,5001] (.dn (.cond (.t 9) .skip (.exit 0))))
def Bz4f:AC:=(.kp [0,1,5,17] [5000,5001] (.dn (.cond (.t 17) (.seq (.reg false [⟨(some 4),none,.i (.mov (.c (.bool true)))⟩]) (.dn .ret)) .skip)))
def Bz8k:AC:=(.kp [0,1,5] [5000,5001] (.dn (.reg false [⟨(some 10),none,.i (.mov (.t 5))⟩,⟨(some 11),none,.i (.bin .add (.t 10) (.c (.int .i64 1)))⟩,⟨(some 5),none,.i (.mov (.t 11))⟩])))
def Bz4g:AC:=(.kp [0,1,5] [5000,5001] (.dn (.seq (.block 1 (.seq (.reg false [⟨(some 12),none,.i (.mov (.t 0))⟩,⟨(some 13),none,.i (.mov (.t 5))⟩,⟨(some 14),none,.i (.iad 1 (.t 12) (.t 13))⟩,⟨(some 15),none,.i (.ld (.t 14))⟩,⟨(some 16),none,.i (.mov (.t 1))⟩,⟨(some 17),none,.i (.bin .eql (.t 15) (.t 16))⟩]) Bz4f)) Bz8k)))
def Bz1s:AC:=(.kp [0,1,5] [5000,5001] (.dn (.seq (.seq (.reg false [⟨(some 6),none,.i (.mov (.t 5))⟩,⟨(some 7),none,.i (.mov (.t 0))⟩,⟨(some 8),none,.i (.len (.t 7))⟩,⟨(some 9),none,.i (.bin .lss (.t 6) (.t 8))⟩]) Bz4e) Bz4g)))
def Bz8l:AC:=(.kp [0,1,5] [5000,5001] (.dn (.block 0 (.loop Bz1s))))
def Bz8m:AC:=(.kp [] [5000,5001] (.dn (.seq (.reg false [⟨(some 4),none,.i (.mov (.c (.bool false)))⟩]) (.dn .ret))))
def Bz8n:AC:=(.kp [0,1] [5000,5001] (.dn (.seq (.seq (.reg false [⟨(some 5),none,.i (.mov (.c (.int .i64 0)))⟩]) Bz8l) Bz8m)))
def Az8o:AFn:=⟨18,2,(.seq (.reg false [⟨(some 4),none,.i (.mov (.c (.bool false)))⟩]) Bz8n),[.tmp 4]⟩
theorem czgs:cFn (drV none) Try.prog nzl Az8o:=⟨_,_,Try.func14,rfl,by kernel_rfl,by decide,rfl,by kernel_rfl,by kernel_rfl⟩
def Bz4h:AC:=(.kp [0,1,5,9] [5000,5001] (.dn (.cond (.t 9) .skip (.exit 0))))
def Bz4i:AC:=(.kp [0,1,5,18] [5000,5001] (.dn (.cond (.t 18) (.seq (.reg false [⟨(some 4),none,.i (.mov (.c (.bool false)))⟩]) (.dn .ret)) .skip)))
def Bz8p:AC:=(.kp [0,1,5] [5000,5001] (.dn (.reg false [⟨(some 10),none,.i (.mov (.t 5))⟩,⟨(some 11),none,.i (.bin .add (.t 10) (.c (.int .i64 1)))⟩,⟨(some 5),none,.i (.mov (.t 11))⟩])))
def Bz4j:AC:=(.kp [0,1,5] [5000,5001] (.dn (.seq (.block 1 (.seq (.reg false [⟨(some 12),none,.i (.mov (.t 1))⟩,⟨(some 13),none,.i (.mov (.t 0))⟩,⟨(some 14),none,.i (.mov (.t 5))⟩,⟨(some 15),none,.i (.iad 1 (.t 13) (.t 14))⟩,⟨(some 16),none,.i (.ld (.t 15))⟩,⟨(some 17),none,.call nzl [(.t 12),(.t 16)]⟩,⟨(some 18),none,.i (.un .not (.t 17))⟩]) Bz4i)) Bz8p)))
def Bz1t:AC:=(.kp [0,1,5] [5000,5001] (.dn (.seq (.seq (.reg false [⟨(some 6),none,.i (.mov (.t 5))⟩,⟨(some 7),none,.i (.mov (.t 0))⟩,⟨(some 8),none,.i (.len (.t 7))⟩,⟨(some 9),none,.i (.bin .lss (.t 6) (.t 8))⟩]) Bz4h) Bz4j)))
def Bz8q:AC:=(.kp [0,1,5] [5000,5001] (.dn (.block 0 (.loop Bz1t))))
def Bz8r:AC:=(.kp [] [5000,5001] (.dn (.seq (.reg false [⟨(some 4),none,.i (.mov (.c (.bool true)))⟩]) (.dn .ret))))
def Bz8s:AC:=(.kp [0,1] [5000,5001] (.dn (.seq (.seq (.reg false [⟨(some 5),none,.i (.mov (.c (.int .i64 0)))⟩]) Bz8q) Bz8r)))
def Az8t:AFn:=⟨19,2,(.seq (.reg false [⟨(some 4),none,.i (.mov (.c (.bool false)))⟩]) Bz8s),[.tmp 4]⟩
theorem czgt:cFn (drV none) Try.prog nz36 Az8t:=⟨_,_,Try.func15,rfl,by kernel_rfl,by decide,rfl,by kernel_rfl,by kernel_rfl⟩
def Bz4k:AC:=(.kp [0,1,10] [5000,5001] (.dn (.cond (.t 10) (.seq (.reg false [⟨(some 4),none,.i (.mov (.c (.bool false)))⟩]) (.dn .ret)) .skip)))
def Bz4l:AC:=(.kp [0,1,5,14] [5000,5001] (.dn (.cond (.t 14) .skip (.exit 0))))
def Bz8u:AC:=(.kp [0,1,5,25] [5000,5001] (.dn (.cond (.t 25) (.seq (.reg false [⟨(some 4),none,.i (.mov (.c (.bool false)))⟩]) (.dn .ret)) .skip)))
def Bz8v:AC:=(.kp [0,1,5] [5000,5001] (.dn (.reg false [⟨(some 15),none,.i (.mov (.t 5))⟩,⟨(some 16),none,.i (.bin .add (.t 15) (.c (.int .i64 1)))⟩,⟨(some 5),none,.i (.mov (.t 16))⟩])))
def Bz4m:AC:=(.kp [0,1,5] [5000,5001] (.dn (.seq (.block 1 (.seq (.reg true [⟨(some 17),none,.i (.mov (.t 0))⟩,⟨(some 18),none,.i (.mov (.t 5))⟩,⟨(some 19),none,.i (.iad 1 (.t 17) (.t 18))⟩,⟨(some 20),none,.i (.ld (.t 19))⟩,⟨(some 21),none,.i (.mov (.t 1))⟩,⟨(some 22),none,.i (.mov (.t 5))⟩,⟨(some 23),none,.i (.iad 1 (.t 21) (.t 22))⟩,⟨(some 24),none,.i (.ld (.t 23))⟩,⟨(some 25),none,.i (.bin .neq (.t 20) (.t 24))⟩]) Bz8u)) Bz8v)))
def Bz1u:AC:=(.kp [0,1,5] [5000,5001] (.dn (.seq (.seq (.reg false [⟨(some 11),none,.i (.mov (.t 5))⟩,⟨(some 12),none,.i (.mov (.t 0))⟩,⟨(some 13),none,.i (.len (.t 12))⟩,⟨(some 14),none,.i (.bin .lss (.t 11) (.t 13))⟩]) Bz4l) Bz4m)))
def Bz8w:AC:=(.kp [0,1,5] [5000,5001] (.dn (.block 0 (.loop Bz1u))))
def Bz8x:AC:=(.kp [] [5000,5001] (.dn (.seq (.reg false [⟨(some 4),none,.i (.mov (.c (.bool true)))⟩]) (.dn .ret))))
def Bz8y:AC:=(.kp [0,1] [5000,5001] (.dn (.seq (.seq (.reg false [⟨(some 5),none,.i (.mov (.c (.int .i64 0)))⟩]) Bz8w) Bz8x)))
def Bz8z:AC:=(.kp [0,1] [5000,5001] (.dn (.seq (.seq (.reg false [⟨(some 6),none,.i (.mov (.t 0))⟩,⟨(some 7),none,.i (.len (.t 6))⟩,⟨(some 8),none,.i (.mov (.t 1))⟩,⟨(some 9),none,.i (.len (.t 8))⟩,⟨(some 10),none,.i (.bin .neq (.t 7) (.t 9))⟩]) Bz4k) Bz8y)))
def Az90:AFn:=⟨26,2,(.seq (.reg false [⟨(some 4),none,.i (.mov (.c (.bool false)))⟩]) Bz8z),[.tmp 4]⟩
theorem czgu:cFn (drV none) Try.prog nz37 Az90:=⟨_,_,Try.func16,rfl,by kernel_rfl,by decide,rfl,by kernel_rfl,by kernel_rfl⟩
def Bz91:AC:=(.kp [2,3,6,11] [2,3,5000,5001] (.dn (.cond (.t 11) (.seq (.reg false [⟨(some 12),none,.i (.mov (.t 6))⟩,⟨(some 4),none,.i (.mov (.c (.slice none 0 0)))⟩,⟨(some 5),none,.i (.mov (.t 12))⟩]) (.dn .ret)) .skip)))
def Bz92:AC:=(.kp [2,3,6] [2,3,5000,5001] (.dn (.seq (.reg false [⟨(some 10),none,.i (.mov (.t 6))⟩,⟨(some 11),none,.i (.bin .neq (.t 10) (.c (.int .i64 0)))⟩]) Bz91)))
def Bz93:AC:=(.kp [2,3] [2,3,5000,5001] (.dn (.seq (.reg false [⟨(some 13),none,.i (.lda 2 (.t 2))⟩,⟨(some 14),none,.i (.ld (.t 3))⟩,⟨(some 15),none,.call nz3f [(.t 13),(.t 14)]⟩,⟨(some 4),none,.i (.mov (.t 15))⟩,⟨(some 5),none,.i (.mov (.c (.int .i64 0)))⟩]) (.dn .ret))))
def Bz94:AC:=(.kp [2,3] [2,3,5000,5001] (.dn (.seq (.seq (.reg false [⟨(some 7),none,.i (.lda 2 (.t 2))⟩,⟨(some 8),none,.i (.mkf nz1c [(.t 2),(.t 3)])⟩,⟨(some 9),none,.call nz1a [(.t 7),(.t 8)]⟩,⟨(some 6),none,.i (.mov (.t 9))⟩]) Bz92) Bz93)))
def Az95:AFn:=⟨16,2,(.seq (.reg false [⟨(some 2),none,.i (.box (.t 0))⟩,⟨(some 3),none,.i (.box (.t 1))⟩,⟨(some 4),none,.i (.mov (.c (.slice none 0 0)))⟩,⟨(some 5),none,.i (.mov (.c (.int .i64 0)))⟩]) Bz94),[.tmp 4,.tmp 5]⟩
theorem czgv:cFn (drV none) Try.prog nz38 Az95:=⟨_,_,Try.func17,rfl,by kernel_rfl,by decide,rfl,by kernel_rfl,by kernel_rfl⟩
def Bz4n:AC:=(.kp [0,1,5,9] [5000,5001] (.dn (.cond (.t 9) .skip (.exit 0))))
def Bz96:AC:=(.kp [0,1,5,24] [5000,5001] (.dn (.cond (.t 24) (.seq (.reg false [⟨(some 4),none,.i (.mov (.c (.bool false)))⟩]) (.dn .ret)) .skip)))
def Bz97:AC:=(.kp [0,1,5] [5000,5001] (.dn (.reg false [⟨(some 10),none,.i (.mov (.t 5))⟩,⟨(some 11),none,.i (.bin .add (.t 10) (.c (.int .i64 1)))⟩,⟨(some 5),none,.i (.mov (.t 11))⟩])))
def Bz98:AC:=(.kp [0,1,5] [5000,5001] (.dn (.seq (.block 1 (.seq (.reg false [⟨(some 12),none,.i (.mov (.t 0))⟩,⟨(some 13),none,.i (.mov (.t 5))⟩,⟨(some 14),none,.i (.iad 1 (.t 12) (.t 13))⟩,⟨(some 15),none,.i (.ld (.t 14))⟩,⟨(some 16),none,.i (.bin .lss (.t 15) (.c (.int .i64 0)))⟩,⟨(some 17),none,.i (.mov (.t 16))⟩,⟨(some 18),(some (17,false)),.i (.mov (.t 0))⟩,⟨(some 19),(some (17,false)),.i (.mov (.t 5))⟩,⟨(some 20),(some (17,false)),.i (.iad 1 (.t 18) (.t 19))⟩,⟨(some 21),(some (17,false)),.i (.ld (.t 20))⟩,⟨(some 22),(some (17,false)),.i (.mov (.t 1))⟩,⟨(some 23),(some (17,false)),.i (.bin .geq (.t 21) (.t 22))⟩,⟨(some 24),none,.i (.pick (.t 17) (.c (.bool true)) (.t 23))⟩]) Bz96)) Bz97)))
def Bz1v:AC:=(.kp [0,1,5] [5000,5001] (.dn (.seq (.seq (.reg false [⟨(some 6),none,.i (.mov (.t 5))⟩,⟨(some 7),none,.i (.mov (.t 0))⟩,⟨(some 8),none,.i (.len (.t 7))⟩,⟨(some 9),none,.i (.bin .lss (.t 6) (.t 8))⟩]) Bz4n) Bz98)))
def Bz99:AC:=(.kp [0,1,5] [5000,5001] (.dn (.block 0 (.loop Bz1v))))
def Bz9a:AC:=(.kp [0,1] [5000,5001] (.dn (.seq (.reg false [⟨(some 25),none,.i (.mov (.t 0))⟩,⟨(some 26),none,.i (.len (.t 25))⟩,⟨(some 27),none,.i (.mov (.t 1))⟩,⟨(some 28),none,.i (.bin .eql (.t 26) (.t 27))⟩,⟨(some 4),none,.i (.mov (.t 28))⟩]) (.dn .ret))))
def Bz9b:AC:=(.kp [0,1] [5000,5001] (.dn (.seq (.seq (.reg false [⟨(some 5),none,.i (.mov (.c (.int .i64 0)))⟩]) Bz99) Bz9a)))
def Az9c:AFn:=⟨29,2,(.seq (.reg false [⟨(some 4),none,.i (.mov (.c (.bool false)))⟩]) Bz9b),[.tmp 4]⟩
theorem czgw:cFn (drV none) Try.prog nz39 Az9c:=⟨_,_,Try.func18,rfl,by kernel_rfl,by decide,rfl,by kernel_rfl,by kernel_rfl⟩
def Bz9d:AC:=(.kp [0] [5000] (.dn (.seq (.reg false [⟨(some 3),none,.i (.mov (.t 0))⟩,⟨(some 4),none,.i (.bst [.slice none 0 0,.int .i64 0,.int .u64 0] [(0,1,(.t 3))])⟩,⟨(some 5),none,.i (.box (.t 4))⟩,⟨(some 2),none,.i (.mov (.t 5))⟩]) (.dn .ret))))
def Az9e:AFn:=⟨6,1,(.seq (.reg false [⟨(some 2),none,.i (.mov (.c (.pointer none)))⟩]) Bz9d),[.tmp 2]⟩
theorem czgx:cFn (drV none) Try.prog nz17 Az9e:=⟨_,_,Try.func40,rfl,by kernel_rfl,by decide,rfl,by kernel_rfl,by kernel_rfl⟩
def Bz4o:AC:=(.kp [2,3,4,16] [2,3,6,5000,901] (.cond (.t 16) .skip (.exit 0)))
def Bz9f:AC:=(.kp [2,3,4] [2,3,6,5000,901] (.regi false [⟨(some 17),none,.i (.mov (.t 4))⟩,⟨(some 18),none,.i (.bin .add (.t 17) (.c (.int .i64 1)))⟩,⟨(some 4),none,.i (.mov (.t 18))⟩]))
def Bz9g:AC:=(.kp [2,3,4] [2,3,6,5000,901] (.seq (.block 1 (.regi true [⟨(some 19),none,.i (.fad 1 (.t 3))⟩,⟨(some 20),none,.i (.ld (.t 19))⟩,⟨(some 21),none,.i (.iad 1 (.t 20) (.c (.int .i64 0)))⟩,⟨(some 22),none,.i (.ld (.t 21))⟩,⟨(some 23),none,.i (.mov (.t 4))⟩,⟨(some 24),none,.i (.mov (.t 4))⟩,⟨(some 25),none,.i (.bin .add (.t 24) (.c (.int .i64 1)))⟩,⟨(some 26),none,.i (.fad 0 (.t 3))⟩,⟨(some 27),none,.i (.ld (.t 26))⟩,⟨(some 28),none,.i (.bin .rem (.t 25) (.t 27))⟩,⟨(some 29),none,.i (.iad 1 (.t 22) (.t 23))⟩,⟨none,none,.i (.sto 1 (.t 29) (.t 28))⟩])) Bz9f))
def Bz1w:AC:=(.kp [2,3,4] [2,3,6,5000,901] (.seq (.seq (.regi false [⟨(some 13),none,.i (.mov (.t 4))⟩,⟨(some 14),none,.i (.fad 0 (.t 3))⟩,⟨(some 15),none,.i (.ld (.t 14))⟩,⟨(some 16),none,.i (.bin .lss (.t 13) (.t 15))⟩]) Bz4o) Bz9g))
def Bz9h:AC:=(.kp [2,3,4] [2,3,6,5000,901] (.gh (.block 0 (.loop Bz1w))))
def Bz1x:AC:=(.kp [2,3,12] [2,3,6,5000,901] (.cond (.t 12) (.seq (.regi false [⟨(some 4),none,.i (.mov (.c (.int .i64 0)))⟩]) Bz9h) .skip))
def Bz1y:AC:=(.kp [2,3] [2,3,6,5000,901] (.gh (.seq (.regi false [⟨(some 30),none,.i (.lda 2 (.t 3))⟩,⟨none,none,.i (.sto 2 (.t 2) (.t 30))⟩]) .ret)))
def Bz9i:AC:=(.kp [0,2,3] [2,3,6,5000,901] (.seq (.seq (.regi false [⟨(some 7),none,.call nzm [(.t 3)]⟩,⟨(some 8),none,.i (.mov (.t 7))⟩,⟨(some 9),(some (8,true)),.i (.mov (.t 0))⟩,⟨(some 10),(some (8,true)),.call nz5 [(.t 9),(.c (.int .i64 4))]⟩,⟨(some 11),(some (8,true)),.i (.un .not (.t 10))⟩,⟨(some 12),none,.i (.pick (.t 8) (.t 11) (.c (.bool false)))⟩]) Bz1x) Bz1y))
def Bz9j:AC:=(.kp [0,2] [2,3,6,5000,901] (.seq (.regi false [⟨(some 5),none,.i (.mov (.t 0))⟩,⟨(some 6),none,.call nz3h [(.t 5)]⟩,⟨(some 3),none,.i (.new [.int .i64 0,.slice none 0 0])⟩,⟨none,none,.i (.sto 2 (.t 3) (.t 6))⟩]) Bz9i))
def Az1z:AFn:=⟨31,1,(.seq (.regi false [⟨(some 2),none,.i (.new [.int .i64 0,.slice none 0 0])⟩]) Bz9j),[.cell (some 2) 2]⟩
theorem czgy:cFn (drV none) Try.prog nz18 Az1z:=⟨_,_,Try.func41,rfl,by kernel_rfl,by decide,rfl,by kernel_rfl,by kernel_rfl⟩
def Bz20:AC:=(.kp [0,18] [5000] (.dn (.cond (.t 18) (.seq (.reg false [⟨(some 2),none,.i (.mov (.c (.bool false)))⟩]) (.dn .ret)) .skip)))
def Bz4p:AC:=(.kp [0,3,25] [5000] (.dn (.cond (.t 25) .skip (.exit 0))))
def Bz9k:AC:=(.kp [0,3,40] [5000] (.dn (.cond (.t 40) (.seq (.reg false [⟨(some 2),none,.i (.mov (.c (.bool false)))⟩]) (.dn .ret)) .skip)))
def Bz9l:AC:=(.kp [0,3] [5000] (.dn (.reg false [⟨(some 26),none,.i (.mov (.t 3))⟩,⟨(some 27),none,.i (.bin .add (.t 26) (.c (.int .i64 1)))⟩,⟨(some 3),none,.i (.mov (.t 27))⟩])))
def Bz4q:AC:=(.kp [0,3] [5000] (.dn (.seq (.block 1 (.seq (.reg true [⟨(some 28),none,.i (.mov (.t 0))⟩,⟨(some 29),none,.i (.nilck (.t 28))⟩,⟨(some 30),none,.i (.fad 1 (.t 29))⟩,⟨(some 31),none,.i (.ld (.t 30))⟩,⟨(some 32),none,.i (.mov (.t 3))⟩,⟨(some 33),none,.i (.iad 1 (.t 31) (.t 32))⟩,⟨(some 34),none,.i (.ld (.t 33))⟩,⟨(some 35),none,.i (.mov (.t 0))⟩,⟨(some 36),none,.i (.nilck (.t 35))⟩,⟨(some 37),none,.i (.fad 0 (.t 36))⟩,⟨(some 38),none,.i (.ld (.t 37))⟩,⟨(some 39),none,.calh nz3i [(.t 34),(.t 38)]⟩,⟨(some 40),none,.i (.un .not (.t 39))⟩]) Bz9k)) Bz9l)))
def Bz21:AC:=(.kp [0,3] [5000] (.dn (.seq (.seq (.reg false [⟨(some 19),none,.i (.mov (.t 3))⟩,⟨(some 20),none,.i (.mov (.t 0))⟩,⟨(some 21),none,.i (.nilck (.t 20))⟩,⟨(some 22),none,.i (.fad 1 (.t 21))⟩,⟨(some 23),none,.i (.ld (.t 22))⟩,⟨(some 24),none,.i (.len (.t 23))⟩,⟨(some 25),none,.i (.bin .lss (.t 19) (.t 24))⟩]) Bz4p) Bz4q)))
def Bz9m:AC:=(.kp [0,3] [5000] (.dn (.block 0 (.loop Bz21))))
def Bz9n:AC:=(.kp [] [5000] (.dn (.seq (.reg false [⟨(some 2),none,.i (.mov (.c (.bool true)))⟩]) (.dn .ret))))
def Bz9o:AC:=(.kp [0] [5000] (.dn (.seq (.seq (.reg false [⟨(some 3),none,.i (.mov (.c (.int .i64 0)))⟩]) Bz9m) Bz9n)))
def Bz9p:AC:=(.kp [0] [5000] (.dn (.seq (.seq (.reg false [⟨(some 4),none,.i (.mov (.t 0))⟩,⟨(some 5),none,.i (.nilck (.t 4))⟩,⟨(some 6),none,.i (.fad 0 (.t 5))⟩,⟨(some 7),none,.i (.ld (.t 6))⟩,⟨(some 8),none,.call nzo [(.t 7),(.c (.int .i64 1)),(.c (.int .i64 10))]⟩,⟨(some 9),none,.i (.un .not (.t 8))⟩,⟨(some 10),none,.i (.mov (.t 9))⟩,⟨(some 11),(some (10,false)),.i (.mov (.t 0))⟩,⟨(some 12),(some (10,false)),.i (.nilck (.t 11))⟩,⟨(some 13),(some (10,false)),.i (.fad 1 (.t 12))⟩,⟨(some 14),(some (10,false)),.i (.ld (.t 13))⟩,⟨(some 15),(some (10,false)),.i (.len (.t 14))⟩,⟨(some 16),(some (10,false)),.call nzo [(.t 15),(.c (.int .i64 1)),(.c (.int .i64 3))]⟩,⟨(some 17),(some (10,false)),.i (.un .not (.t 16))⟩,⟨(some 18),none,.i (.pick (.t 10) (.c (.bool true)) (.t 17))⟩]) Bz20) Bz9o)))
def Az9q:AFn:=⟨41,1,(.seq (.reg false [⟨(some 2),none,.i (.mov (.c (.bool false)))⟩]) Bz9p),[.tmp 2]⟩
theorem czgz:cFn (drV none) Try.prog nzm Az9q:=⟨_,_,Try.func42,rfl,by kernel_rfl,by decide,rfl,by kernel_rfl,by kernel_rfl⟩
def Bz4r:AC:=(.kp [0,2,3,4,5,10] [2,6,7,19,26,30,5000] (.cond (.t 10) .skip (.exit 0)))
def Bz9r:AC:=(.kp [0,2,3,4,5] [2,6,7,19,26,30,5000] (.regi false [⟨(some 20),none,.i (.mov (.t 4))⟩,⟨(some 21),none,.i (.mov (.t 5))⟩,⟨(some 22),none,.i (.mov (.t 0))⟩,⟨(some 23),none,.i (.bin .sub (.t 22) (.c (.int .i64 1)))⟩,⟨(some 24),none,.i (.bin .rem (.t 21) (.t 23))⟩,⟨(some 25),none,.i (.bsl 1 false [(.t 24)])⟩,⟨(some 26),none,.i (.app 1 8 (.t 20) (.t 25))⟩,⟨(some 4),none,.i (.mov (.t 26))⟩]))
def Bz9s:AC:=(.kp [0,2,3,4,5] [2,6,7,19,26,30,5000] (.regi false [⟨(some 11),none,.i (.mov (.t 5))⟩,⟨(some 12),none,.i (.bin .add (.t 11) (.c (.int .i64 1)))⟩,⟨(some 5),none,.i (.mov (.t 12))⟩]))
def Bz9t:AC:=(.kp [0,2,3,4,5] [2,6,7,19,26,30,5000] (.seq (.block 1 (.seq (.regi false [⟨(some 13),none,.i (.mov (.t 3))⟩,⟨(some 14),none,.i (.mov (.t 5))⟩,⟨(some 15),none,.i (.bin .add (.t 14) (.c (.int .i64 1)))⟩,⟨(some 16),none,.i (.mov (.t 0))⟩,⟨(some 17),none,.i (.bin .rem (.t 15) (.t 16))⟩,⟨(some 18),none,.i (.bsl 1 false [(.t 17)])⟩,⟨(some 19),none,.i (.app 1 8 (.t 13) (.t 18))⟩,⟨(some 3),none,.i (.mov (.t 19))⟩]) Bz9r)) Bz9s))
def Bz22:AC:=(.kp [0,2,3,4,5] [2,6,7,19,26,30,5000] (.seq (.seq (.regi false [⟨(some 8),none,.i (.mov (.t 5))⟩,⟨(some 9),none,.i (.mov (.t 0))⟩,⟨(some 10),none,.i (.bin .lss (.t 8) (.t 9))⟩]) Bz4r) Bz9t))
def Bz9u:AC:=(.kp [0,2,3,4,5] [2,6,7,19,26,30,5000] (.block 0 (.loop Bz22)))
def Bz9v:AC:=(.kp [0,2,3,4] [2,6,7,19,26,30,5000] (.seq (.regi false [⟨(some 27),none,.i (.mov (.t 0))⟩,⟨(some 28),none,.i (.mov (.t 3))⟩,⟨(some 29),none,.i (.mov (.t 4))⟩,⟨(some 30),none,.i (.bsl 1 true [(.t 28),(.t 29)])⟩,⟨(some 31),none,.i (.bst [.int .i64 0,.slice none 0 0] [(0,1,(.t 27)),(1,1,(.t 30))])⟩,⟨none,none,.i (.sto 2 (.t 2) (.t 31))⟩]) .ret))
def Bz9w:AC:=(.kp [0,2,3,4] [2,6,7,19,26,30,5000] (.seq (.seq (.regi false [⟨(some 5),none,.i (.mov (.c (.int .i64 0)))⟩]) Bz9u) Bz9v))
def Bz9x:AC:=(.kp [0,2,3] [2,6,19,30,5000] (.seq (.regi false [⟨(some 7),none,.i (.bsl 1 false [])⟩,⟨(some 4),none,.i (.mov (.t 7))⟩]) Bz9w))
def Bz9y:AC:=(.kp [0,2] [2,30,5000] (.seq (.regi false [⟨(some 6),none,.i (.bsl 1 false [])⟩,⟨(some 3),none,.i (.mov (.t 6))⟩]) Bz9x))
def Az4s:AFn:=⟨32,1,(.seq (.regi false [⟨(some 2),none,.i (.new [.int .i64 0,.slice none 0 0])⟩]) Bz9y),[.cell (some 2) 2]⟩
theorem czh0:cFn (drV none) Try.prog nzn Az4s:=⟨_,_,Try.func43,rfl,by kernel_rfl,by decide,rfl,by kernel_rfl,by kernel_rfl⟩
def Bz4t:AC:=(.kp [0,1,7] [5000,5001] (.dn (.cond (.t 7) (.seq (.reg false [⟨(some 4),none,.i (.mov (.c (.int .i64 0)))⟩]) (.dn .ret)) .skip)))
def Bz4u:AC:=(.kp [0,1,5,11] [5000,5001] (.dn (.cond (.t 11) (.reg false [⟨(some 12),none,.i (.mov (.t 5))⟩,⟨(some 13),none,.i (.bin .mul (.t 12) (.c (.int .i64 256)))⟩,⟨(some 14),none,.i (.mov (.t 0))⟩,⟨(some 15),none,.call nz1e [(.t 14)]⟩,⟨(some 16),none,.i (.bin .add (.t 13) (.t 15))⟩,⟨(some 5),none,.i (.mov (.t 16))⟩]) .skip)))
def Bz4v:AC:=(.kp [1,5] [5000,5001] (.dn (.seq (.reg false [⟨(some 17),none,.i (.mov (.t 5))⟩,⟨(some 18),none,.i (.mov (.t 1))⟩,⟨(some 19),none,.i (.bin .rem (.t 17) (.t 18))⟩,⟨(some 4),none,.i (.mov (.t 19))⟩]) (.dn .ret))))
def Bz4w:AC:=(.kp [0,1,5] [5000,5001] (.dn (.seq (.seq (.reg false [⟨(some 10),none,.i (.mov (.t 1))⟩,⟨(some 11),none,.i (.bin .gtr (.t 10) (.c (.int .i64 200)))⟩]) Bz4u) Bz4v)))
def Bz4x:AC:=(.kp [0,1] [5000,5001] (.dn (.seq (.reg false [⟨(some 8),none,.i (.mov (.t 0))⟩,⟨(some 9),none,.call nz1e [(.t 8)]⟩,⟨(some 5),none,.i (.mov (.t 9))⟩]) Bz4w)))
def Bz4y:AC:=(.kp [0,1] [5000,5001] (.dn (.seq (.seq (.reg false [⟨(some 6),none,.i (.mov (.t 1))⟩,⟨(some 7),none,.i (.bin .leq (.t 6) (.c (.int .i64 1)))⟩]) Bz4t) Bz4x)))
def Az4z:AFn:=⟨20,2,(.seq (.reg false [⟨(some 4),none,.i (.mov (.c (.int .i64 0)))⟩]) Bz4y),[.tmp 4]⟩
theorem czh1:cFn (drV none) Try.prog nz0 Az4z:=⟨_,_,Try.func44,rfl,by kernel_rfl,by decide,rfl,by kernel_rfl,by kernel_rfl⟩
def Bz9z:AC:=(.kp [1] [1,5000] (.dn (.seq (.reg false [⟨(some 3),none,.i (.fad 0 (.t 1))⟩,⟨(some 4),none,.i (.ld (.t 3))⟩,⟨(some 5),none,.call nzg [(.t 4),(.c (.int .i64 1)),(.c (.int .i64 10))]⟩,⟨(some 6),none,.i (.mov (.t 5))⟩,⟨(some 7),(some (6,true)),.i (.lda 2 (.t 1))⟩,⟨(some 8),(some (6,true)),.call nz1f [(.t 7)]⟩,⟨(some 9),(some (6,true)),.call nzg [(.t 8),(.c (.int .i64 1)),(.c (.int .i64 3))]⟩,⟨(some 10),none,.i (.pick (.t 6) (.t 9) (.c (.bool false)))⟩,⟨(some 11),none,.i (.mov (.t 10))⟩,⟨(some 12),(some (11,true)),.i (.fad 1 (.t 1))⟩,⟨(some 13),(some (11,true)),.i (.ld (.t 12))⟩,⟨(some 14),(some (11,true)),.i (.mkf nz1g [(.t 1)])⟩,⟨(some 15),(some (11,true)),.call nz3j [(.t 13),(.t 14)]⟩,⟨(some 16),(some (11,true)),.i (.un .not (.t 15))⟩,⟨(some 17),none,.i (.pick (.t 11) (.t 16) (.c (.bool false)))⟩,⟨(some 2),none,.i (.mov (.t 17))⟩]) (.dn .ret))))
def Aza0:AFn:=⟨18,1,(.seq (.reg false [⟨(some 1),none,.i (.box (.t 0))⟩,⟨(some 2),none,.i (.mov (.c (.bool false)))⟩]) Bz9z),[.tmp 2]⟩
theorem czh2:cFn (drV none) Try.prog nze Aza0:=⟨_,_,Try.func45,rfl,by kernel_rfl,by decide,rfl,by kernel_rfl,by kernel_rfl⟩
def Bz50:AC:=(.kp [1,5,6,15] [1,5000] (.dn (.cond (.t 15) (.seq (.reg false [⟨(some 2),none,.i (.mov (.c (.bool false)))⟩]) (.dn .ret)) .skip)))
def Bza1:AC:=(.kp [1,3,5,6] [1,5000] (.dn (.seq (.reg true [⟨(some 9),none,.i (.lda 2 (.t 1))⟩,⟨(some 10),none,.i (.mov (.t 3))⟩,⟨(some 11),none,.call nzf [(.t 9),(.t 10)]⟩,⟨(some 12),none,.call nz1h [(.t 11)]⟩,⟨(some 13),none,.i (.fad 0 (.t 1))⟩,⟨(some 14),none,.i (.ld (.t 13))⟩,⟨(some 15),none,.i (.bin .lss (.t 12) (.t 14))⟩]) Bz50)))
def Bza2:AC:=(.kp [1,5,6] [1,5000] (.dn (.reg false [⟨(some 16),none,.i (.bin .add (.t 6) (.c (.int .i64 1)))⟩,⟨(some 6),none,.i (.mov (.t 16))⟩])))
def Bza3:AC:=(.kp [1,5,6] [1,5000] (.dn (.seq (.block 1 (.seq (.reg false [⟨(some 8),none,.i (.mov (.t 6))⟩,⟨(some 3),none,.i (.mov (.t 8))⟩]) Bza1)) Bza2)))
def Bz51:AC:=(.kp [1,5,6,7] [1,5000] (.dn (.seq (.cond (.t 7) .skip (.exit 0)) Bza3)))
def Bz23:AC:=(.kp [1,5,6] [1,5000] (.dn (.seq (.reg false [⟨(some 7),none,.i (.bin .lss (.t 6) (.t 5))⟩]) Bz51)))
def Bza4:AC:=(.kp [1,5,6] [1,5000] (.dn (.block 0 (.loop Bz23))))
def Bza5:AC:=(.kp [] [5000] (.dn (.seq (.reg false [⟨(some 2),none,.i (.mov (.c (.bool true)))⟩]) (.dn .ret))))
def Bza6:AC:=(.kp [1] [1,5000] (.dn (.seq (.seq (.reg false [⟨(some 4),none,.i (.fad 0 (.t 1))⟩,⟨(some 5),none,.i (.ld (.t 4))⟩,⟨(some 6),none,.i (.mov (.c (.int .i64 0)))⟩]) Bza4) Bza5)))
def Aza7:AFn:=⟨17,1,(.seq (.reg false [⟨(some 1),none,.i (.box (.t 0))⟩,⟨(some 2),none,.i (.mov (.c (.bool false)))⟩]) Bza6),[.tmp 2]⟩
theorem czh3:cFn (drV none) Try.prog nz19 Aza7:=⟨_,_,Try.func46,rfl,by kernel_rfl,by decide,rfl,by kernel_rfl,by kernel_rfl⟩
def Bza8:AC:=(.kp [1,3,5,9,10] [1,5,7,15,18,5000] (.dn (.reg false [⟨(some 16),none,.i (.mov (.t 3))⟩,⟨(some 17),none,.i (.mkf nz4 [(.t 5)])⟩,⟨(some 18),none,.call nzh [(.t 16),(.t 17)]⟩,⟨(some 3),none,.i (.mov (.t 18))⟩])))
def Bza9:AC:=(.kp [1,3,4,9,10] [1,7,18,5000] (.dn (.seq (.reg false [⟨(some 13),none,.i (.lda 2 (.t 1))⟩,⟨(some 14),none,.i (.mov (.t 4))⟩,⟨(some 15),none,.call nzf [(.t 13),(.t 14)]⟩,⟨(some 5),none,.i (.new [.slice none 0 0])⟩,⟨none,none,.i (.sto 1 (.t 5) (.t 15))⟩]) Bza8)))
def Bzaa:AC:=(.kp [1,3,9,10] [1,7,18,5000] (.dn (.reg false [⟨(some 19),none,.i (.bin .add (.t 10) (.c (.int .i64 1)))⟩,⟨(some 10),none,.i (.mov (.t 19))⟩])))
def Bzab:AC:=(.kp [1,3,9,10] [1,7,18,5000] (.dn (.seq (.block 1 (.seq (.reg false [⟨(some 12),none,.i (.mov (.t 10))⟩,⟨(some 4),none,.i (.mov (.t 12))⟩]) Bza9)) Bzaa)))
def Bz52:AC:=(.kp [1,3,9,10,11] [1,7,18,5000] (.dn (.seq (.cond (.t 11) .skip (.exit 0)) Bzab)))
def Bz24:AC:=(.kp [1,3,9,10] [1,7,18,5000] (.dn (.seq (.reg false [⟨(some 11),none,.i (.bin .lss (.t 10) (.t 9))⟩]) Bz52)))
def Bzac:AC:=(.kp [1,3,9,10] [1,7,18,5000] (.dn (.block 0 (.loop Bz24))))
def Bzad:AC:=(.kp [3] [1,7,18,5000] (.dn (.seq (.reg false [⟨(some 20),none,.i (.mov (.t 3))⟩,⟨(some 2),none,.i (.mov (.t 20))⟩]) (.dn .ret))))
def Bzae:AC:=(.kp [1,3] [1,7,18,5000] (.dn (.seq (.seq (.reg false [⟨(some 8),none,.i (.fad 0 (.t 1))⟩,⟨(some 9),none,.i (.ld (.t 8))⟩,⟨(some 10),none,.i (.mov (.c (.int .i64 0)))⟩]) Bzac) Bzad)))
def Bzaf:AC:=(.kp [1] [1,5000] (.dn (.seq (.reg false [⟨(some 6),none,.i (.lda 2 (.t 1))⟩,⟨(some 7),none,.call nzf [(.t 6),(.c (.int .i64 0))]⟩,⟨(some 3),none,.i (.mov (.t 7))⟩]) Bzae)))
def Azag:AFn:=⟨21,1,(.seq (.reg false [⟨(some 1),none,.i (.box (.t 0))⟩,⟨(some 2),none,.i (.mov (.c (.slice none 0 0)))⟩]) Bzaf),[.tmp 2]⟩
theorem czh4:cFn (drV none) Try.prog nz3a Azag:=⟨_,_,Try.func47,rfl,by kernel_rfl,by decide,rfl,by kernel_rfl,by kernel_rfl⟩
def Bz53:AC:=(.kp [1,3,4,5,6,19] [1,13,15,54,5000] (.dn (.cond (.t 19) .skip (.exit 0))))
def Bzah:AC:=(.kp [1,3,4,5,6,7,10,27,28,29] [1,13,15,54,5000] (.dn (.reg false [⟨(some 51),none,.i (.mov (.t 4))⟩,⟨(some 52),none,.i (.mov (.t 10))⟩,⟨(some 53),none,.i (.bsl 1 false [(.t 52)])⟩,⟨(some 54),none,.i (.app 1 8 (.t 51) (.t 53))⟩,⟨(some 4),none,.i (.mov (.t 54))⟩])))
def Bz54:AC:=(.kp [1,3,4,5,6,7,10,27,28,29,44] [1,13,15,54,5000] (.dn (.cond (.t 44) (.seq (.reg false [⟨(some 45),none,.i (.mov (.t 3))⟩,⟨(some 46),none,.i (.mov (.t 10))⟩,⟨(some 47),none,.i (.mov (.t 3))⟩,⟨(some 48),none,.i (.mov (.t 7))⟩,⟨(some 49),none,.i (.lkp 0 false (.val (.int .i64 0)) (.t 47) (.t 48))⟩,⟨(some 50),none,.i (.bin .add (.t 49) (.c (.int .i64 1)))⟩,⟨none,none,.i (.mup 0 (.t 45) (.t 46) (.t 50))⟩]) Bzah) .skip)))
def Bz55:AC:=(.kp [1,3,4,5,6,7,10,12,27,28,29] [1,13,15,54,5000] (.dn (.seq (.reg false [⟨(some 43),none,.i (.mov (.t 12))⟩,⟨(some 44),none,.i (.un .not (.t 43))⟩]) Bz54)))
def Bz56:AC:=(.kp [1,3,4,5,6,7,10,27,28,29] [1,13,15,54,5000] (.dn (.reg false [⟨(some 55),none,.i (.mov (.t 5))⟩,⟨(some 56),none,.i (.mov (.t 3))⟩,⟨(some 57),none,.i (.mov (.t 7))⟩,⟨(some 58),none,.i (.lkp 0 false (.val (.int .i64 0)) (.t 56) (.t 57))⟩,⟨(some 59),none,.i (.bin .add (.t 58) (.c (.int .i64 1)))⟩,⟨(some 60),none,.i (.mov (.t 3))⟩,⟨(some 61),none,.i (.mov (.t 10))⟩,⟨(some 62),none,.i (.lkp 0 false (.val (.int .i64 0)) (.t 60) (.t 61))⟩,⟨(some 63),none,.i (.bin .sub (.t 59) (.t 62))⟩,⟨(some 64),none,.call nz3k [(.t 55),(.t 63)]⟩,⟨(some 5),none,.i (.mov (.t 64))⟩])))
def Bz57:AC:=(.kp [1,3,4,5,6,7,10,27,28,29] [1,13,15,54,5000] (.dn (.seq (.seq (.reg false [⟨(some 38),none,.i (.mov (.t 3))⟩,⟨(some 39),none,.i (.mov (.t 10))⟩,⟨(some 40),none,.i (.lkp 0 true (.val (.int .i64 0)) (.t 38) (.t 39))⟩,⟨(some 37),none,.i (.mov (.t 40))⟩,⟨(some 41),none,.i (.ext 0 (.t 37))⟩,⟨(some 42),none,.i (.ext 1 (.t 37))⟩,⟨(some 11),none,.i (.mov (.t 41))⟩,⟨(some 12),none,.i (.mov (.t 42))⟩]) Bz55) Bz56)))
def Bzai:AC:=(.kp [1,3,4,5,6,7,9,27,28,29] [1,13,15,54,5000] (.dn (.seq (.reg false [⟨(some 33),none,.i (.mov (.t 9))⟩,⟨(some 34),none,.i (.mov (.t 7))⟩,⟨(some 35),none,.i (.iad 1 (.t 33) (.t 34))⟩,⟨(some 36),none,.i (.ld (.t 35))⟩,⟨(some 10),none,.i (.mov (.t 36))⟩]) Bz57)))
def Bz58:AC:=(.kp [1,3,4,5,6,7,27,28,29] [1,13,15,54,5000] (.dn (.reg false [⟨(some 65),none,.i (.bin .add (.t 29) (.c (.int .i64 1)))⟩,⟨(some 29),none,.i (.mov (.t 65))⟩])))
def Bzaj:AC:=(.kp [1,3,4,5,6,7,27,28,29] [1,13,15,54,5000] (.dn (.seq (.block 3 (.seq (.reg false [⟨(some 31),none,.i (.iad 1 (.t 27) (.t 29))⟩,⟨(some 32),none,.i (.ld (.t 31))⟩,⟨(some 9),none,.i (.mov (.t 32))⟩]) Bzai)) Bz58)))
def Bz59:AC:=(.kp [1,3,4,5,6,7,27,28,29,30] [1,13,15,54,5000] (.dn (.seq (.cond (.t 30) .skip (.exit 2)) Bzaj)))
def Bz25:AC:=(.kp [1,3,4,5,6,7,27,28,29] [1,13,15,54,5000] (.dn (.seq (.reg false [⟨(some 30),none,.i (.bin .lss (.t 29) (.t 28))⟩]) Bz59)))
def Bzak:AC:=(.kp [1,3,4,5,6,7,27,28,29] [1,13,15,54,5000] (.dn (.block 2 (.loop Bz25))))
def Bzal:AC:=(.kp [1,3,4,5,6,7] [1,13,15,54,5000] (.dn (.seq (.reg false [⟨(some 26),none,.i (.fad 1 (.t 1))⟩,⟨(some 27),none,.i (.ld (.t 26))⟩,⟨(some 28),none,.i (.len (.t 27))⟩,⟨(some 29),none,.i (.mov (.c (.int .i64 0)))⟩]) Bzak)))
def Bzam:AC:=(.kp [1,3,4,5,6] [1,13,15,54,5000] (.dn (.reg false [⟨(some 20),none,.i (.mov (.t 6))⟩,⟨(some 21),none,.i (.bin .add (.t 20) (.c (.int .i64 1)))⟩,⟨(some 6),none,.i (.mov (.t 21))⟩])))
def Bzan:AC:=(.kp [1,3,4,5,6] [1,13,15,54,5000] (.dn (.seq (.block 1 (.seq (.reg false [⟨(some 22),none,.i (.mov (.t 4))⟩,⟨(some 23),none,.i (.mov (.t 6))⟩,⟨(some 24),none,.i (.iad 1 (.t 22) (.t 23))⟩,⟨(some 25),none,.i (.ld (.t 24))⟩,⟨(some 7),none,.i (.mov (.t 25))⟩]) Bzal)) Bzam)))
def Bz26:AC:=(.kp [1,3,4,5,6] [1,13,15,54,5000] (.dn (.seq (.seq (.reg false [⟨(some 16),none,.i (.mov (.t 6))⟩,⟨(some 17),none,.i (.mov (.t 4))⟩,⟨(some 18),none,.i (.len (.t 17))⟩,⟨(some 19),none,.i (.bin .lss (.t 16) (.t 18))⟩]) Bz53) Bzan)))
def Bzao:AC:=(.kp [1,3,4,5,6] [1,13,15,54,5000] (.dn (.block 0 (.loop Bz26))))
def Bzap:AC:=(.kp [5] [5000] (.dn (.seq (.reg false [⟨(some 66),none,.i (.mov (.t 5))⟩,⟨(some 2),none,.i (.mov (.t 66))⟩]) (.dn .ret))))
def Bzaq:AC:=(.kp [1,3,4,5] [1,13,15,54,5000] (.dn (.seq (.seq (.reg false [⟨(some 6),none,.i (.mov (.c (.int .i64 0)))⟩]) Bzao) Bzap)))
def Bzar:AC:=(.kp [1,3,4] [1,13,15,54,5000] (.dn (.seq (.reg false [⟨(some 5),none,.i (.mov (.c (.int .i64 0)))⟩]) Bzaq)))
def Bzas:AC:=(.kp [1] [1,5000] (.dn (.seq (.reg false [⟨(some 13),none,.i (.mkm)⟩,⟨none,none,.i (.mup 0 (.t 13) (.c (.int .i64 0)) (.c (.int .i64 0)))⟩,⟨(some 14),none,.i (.mov (.t 13))⟩,⟨(some 15),none,.i (.bsl 1 false [(.c (.int .i64 0))])⟩,⟨(some 3),none,.i (.mov (.t 14))⟩,⟨(some 4),none,.i (.mov (.t 15))⟩]) Bzar)))
def Az5a:AFn:=⟨67,1,(.seq (.reg false [⟨(some 1),none,.i (.box (.t 0))⟩,⟨(some 2),none,.i (.mov (.c (.int .i64 0)))⟩]) Bzas),[.tmp 2]⟩
theorem czh5:cFn (drV none) Try.prog nz3b Az5a:=⟨_,_,Try.func48,rfl,by kernel_rfl,by decide,rfl,by kernel_rfl,by kernel_rfl⟩
def Bz5b:AC:=(.kp [0,4,5,19] [13,22,44,5000] (.dn (.cond (.t 19) .skip (.exit 0))))
def Bz5c:AC:=(.kp [0,4,5,6,7,8,29] [13,22,25,44,5000] (.dn (.cond (.t 29) .skip (.exit 2))))
def Bz5d:AC:=(.kp [0,4,5,6,7,8,37] [13,22,25,44,5000] (.dn (.cond (.t 37) (.reg false [⟨(some 38),none,.i (.mov (.t 6))⟩,⟨(some 39),none,.i (.mov (.t 4))⟩,⟨(some 40),none,.i (.mov (.t 8))⟩,⟨(some 41),none,.i (.iad 1 (.t 39) (.t 40))⟩,⟨(some 42),none,.i (.ld (.t 41))⟩,⟨(some 43),none,.i (.bsl 1 false [(.t 42)])⟩,⟨(some 44),none,.i (.app 1 8 (.t 38) (.t 43))⟩,⟨(some 6),none,.i (.mov (.t 44))⟩]) .skip)))
def Bz5e:AC:=(.kp [0,4,5,6,7,8] [13,22,25,44,5000] (.dn (.reg false [⟨(some 30),none,.i (.mov (.t 8))⟩,⟨(some 31),none,.i (.bin .add (.t 30) (.c (.int .i64 1)))⟩,⟨(some 8),none,.i (.mov (.t 31))⟩])))
def Bzat:AC:=(.kp [0,4,5,6,7,8] [13,22,25,44,5000] (.dn (.seq (.block 3 (.seq (.reg false [⟨(some 32),none,.i (.mov (.t 7))⟩,⟨(some 33),none,.i (.mov (.t 4))⟩,⟨(some 34),none,.i (.mov (.t 8))⟩,⟨(some 35),none,.i (.iad 1 (.t 33) (.t 34))⟩,⟨(some 36),none,.i (.ld (.t 35))⟩,⟨(some 37),none,.call nz1j [(.t 32),(.t 36)]⟩]) Bz5d)) Bz5e)))
def Bz27:AC:=(.kp [0,4,5,6,7,8] [13,22,25,44,5000] (.dn (.seq (.seq (.reg false [⟨(some 26),none,.i (.mov (.t 8))⟩,⟨(some 27),none,.i (.mov (.t 4))⟩,⟨(some 28),none,.i (.len (.t 27))⟩,⟨(some 29),none,.i (.bin .lss (.t 26) (.t 28))⟩]) Bz5c) Bzat)))
def Bzau:AC:=(.kp [0,4,5,6,7,8] [13,22,25,44,5000] (.dn (.block 2 (.loop Bz27))))
def Bzav:AC:=(.kp [0,5,6] [22,44,5000] (.dn (.reg false [⟨(some 45),none,.i (.mov (.t 6))⟩,⟨(some 4),none,.i (.mov (.t 45))⟩])))
def Bzaw:AC:=(.kp [0,4,5,6,7] [13,22,25,44,5000] (.dn (.seq (.seq (.reg false [⟨(some 8),none,.i (.mov (.c (.int .i64 0)))⟩]) Bzau) Bzav)))
def Bzax:AC:=(.kp [0,4,5,6] [13,22,44,5000] (.dn (.seq (.reg false [⟨(some 23),none,.i (.mov (.t 0))⟩,⟨(some 24),none,.i (.mov (.t 5))⟩,⟨(some 25),none,.call nz3m [(.t 23),(.t 24)]⟩,⟨(some 7),none,.i (.mov (.t 25))⟩]) Bzaw)))
def Bzay:AC:=(.kp [0,4,5] [13,22,44,5000] (.dn (.reg false [⟨(some 20),none,.i (.mov (.t 5))⟩,⟨(some 21),none,.i (.bin .add (.t 20) (.c (.int .i64 1)))⟩,⟨(some 5),none,.i (.mov (.t 21))⟩])))
def Bzaz:AC:=(.kp [0,4,5] [13,22,44,5000] (.dn (.seq (.block 1 (.seq (.reg false [⟨(some 22),none,.i (.bsl 1 false [])⟩,⟨(some 6),none,.i (.mov (.t 22))⟩]) Bzax)) Bzay)))
def Bz28:AC:=(.mv 22 13 (.kp [0,4,5] [13,22,44,5000] (.dn (.seq (.seq (.reg false [⟨(some 14),none,.i (.mov (.t 5))⟩,⟨(some 15),none,.i (.mov (.t 0))⟩,⟨(some 16),none,.i (.nilck (.t 15))⟩,⟨(some 17),none,.i (.fad 0 (.t 16))⟩,⟨(some 18),none,.i (.ld (.t 17))⟩,⟨(some 19),none,.i (.bin .lss (.t 14) (.t 18))⟩]) Bz5b) Bzaz))))
def Bzb0:AC:=(.kp [0,4,5] [13,22,44,5000] (.dn (.block 0 (.loop Bz28))))
def Bzb1:AC:=(.kp [4] [13,22,44,5000] (.dn (.seq (.reg false [⟨(some 46),none,.i (.mov (.t 4))⟩,⟨(some 47),none,.i (.mov (.t 4))⟩,⟨(some 48),none,.i (.len (.t 47))⟩,⟨(some 49),none,.i (.bin .gtr (.t 48) (.c (.int .i64 0)))⟩,⟨(some 2),none,.i (.mov (.t 46))⟩,⟨(some 3),none,.i (.mov (.t 49))⟩]) (.dn .ret))))
def Bzb2:AC:=(.kp [0,4] [13,22,44,5000] (.dn (.seq (.seq (.reg false [⟨(some 5),none,.i (.mov (.c (.int .i64 0)))⟩]) Bzb0) Bzb1)))
def Bzb3:AC:=(.kp [0] [5000] (.dn (.seq (.reg false [⟨(some 9),none,.i (.mov (.t 0))⟩,⟨(some 10),none,.i (.nilck (.t 9))⟩,⟨(some 11),none,.i (.fad 0 (.t 10))⟩,⟨(some 12),none,.i (.ld (.t 11))⟩,⟨(some 13),none,.call nz3l [(.t 12)]⟩,⟨(some 4),none,.i (.mov (.t 13))⟩]) Bzb2)))
def Az5f:AFn:=⟨50,1,(.seq (.reg false [⟨(some 2),none,.i (.mov (.c (.slice none 0 0)))⟩,⟨(some 3),none,.i (.mov (.c (.bool false)))⟩]) Bzb3),[.tmp 2,.tmp 3]⟩
theorem czh6:cFn (drV none) Try.prog nz3c Az5f:=⟨_,_,Try.func49,rfl,by kernel_rfl,by decide,rfl,by kernel_rfl,by kernel_rfl⟩
def Bzb4:AC:=(.kp [9] [11,1011,5000,5001] (.dn (.cond (.t 9) (.seq (.reg false [⟨(some 4),none,.i (.mov (.c (.int .i64 2)))⟩]) (.dn .ret)) .skip)))
def Bzb5:AC:=(.kp [1,5] [5000,5001] (.dn (.cond (.t 5) (.seq (.reg false [⟨(some 4),none,.i (.mov (.c (.int .i64 1)))⟩]) (.dn .ret)) (.seq (.reg false [⟨(some 10),none,.i (.mov (.t 1))⟩,⟨(some 11),none,.calv (.t 10) []⟩,⟨(some 12),none,.i (.un .not (.t 11))⟩,⟨(some 9),none,.i (.mov (.t 12))⟩]) Bzb4))))
def Bzb6:AC:=(.kp [] [5000,5001] (.dn (.seq (.reg false [⟨(some 4),none,.i (.mov (.c (.int .i64 0)))⟩]) (.dn .ret))))
def Bzb7:AC:=(.kp [1,2] [2,5000,5001] (.dn (.seq (.block 0 (.seq (.reg false [⟨(some 6),none,.i (.lda 2 (.t 2))⟩,⟨(some 7),none,.call nze [(.t 6)]⟩,⟨(some 8),none,.i (.un .not (.t 7))⟩,⟨(some 5),none,.i (.mov (.t 8))⟩]) Bzb5)) Bzb6)))
def Azb8:AFn:=⟨13,2,(.seq (.reg false [⟨(some 2),none,.i (.box (.t 0))⟩,⟨(some 4),none,.i (.mov (.c (.int .i64 0)))⟩]) Bzb7),[.tmp 4]⟩
theorem czh7:cFn (drV none) Try.prog nz1a Azb8:=⟨_,_,Try.func50,rfl,by kernel_rfl,by decide,rfl,by kernel_rfl,by kernel_rfl⟩
def Bzb9:AC:=(.kp [0,1] [5000,5001] (.dn (.seq (.reg false [⟨(some 3),none,.i (.lda 2 (.t 0))⟩,⟨(some 4),none,.i (.ld (.t 1))⟩,⟨(some 5),none,.call nz3d [(.t 3),(.t 4)]⟩,⟨(some 2),none,.i (.mov (.t 5))⟩]) (.dn .ret))))
def Azba:AFn:=⟨6,2,(.seq (.reg false [⟨(some 2),none,.i (.mov (.c (.bool false)))⟩]) Bzb9),[.tmp 2]⟩
theorem czh8:cFn (drV none) Try.prog nz1b Azba:=⟨_,_,Try.func51,rfl,by kernel_rfl,by decide,rfl,by kernel_rfl,by kernel_rfl⟩
def Bzbb:AC:=(.kp [1,2] [2,5000,5001] (.dn (.seq (.reg false [⟨(some 5),none,.i (.mov (.t 1))⟩,⟨(some 6),none,.i (.fad 0 (.t 2))⟩,⟨(some 7),none,.i (.ld (.t 6))⟩,⟨(some 8),none,.i (.bin .sub (.t 7) (.c (.int .i64 1)))⟩,⟨(some 9),none,.call nzg [(.t 5),(.c (.int .i64 0)),(.t 8)]⟩,⟨(some 4),none,.i (.mov (.t 9))⟩]) (.dn .ret))))
def Azbc:AFn:=⟨10,2,(.seq (.reg false [⟨(some 2),none,.i (.box (.t 0))⟩,⟨(some 4),none,.i (.mov (.c (.bool false)))⟩]) Bzbb),[.tmp 4]⟩
theorem czh9:cFn (drV none) Try.prog nz3d Azbc:=⟨_,_,Try.func52,rfl,by kernel_rfl,by decide,rfl,by kernel_rfl,by kernel_rfl⟩
def Bz5g:AC:=(.kp [2,5,6,15] [2,11,39,5000,5001] (.dn (.cond (.t 15) .skip (.exit 0))))
def Bz5h:AC:=(.kp [2,5,6,9,19,20,21,35] [2,11,39,5000,5001] (.dn (.cond (.t 35) (.reg false [⟨(some 36),none,.i (.mov (.t 5))⟩,⟨(some 37),none,.i (.mov (.t 9))⟩,⟨(some 38),none,.i (.bsl 1 false [(.t 37)])⟩,⟨(some 39),none,.i (.app 1 8 (.t 36) (.t 38))⟩,⟨(some 5),none,.i (.mov (.t 39))⟩]) .skip)))
def Bzbd:AC:=(.kp [2,5,6,9,19,20,21] [2,11,39,5000,5001] (.dn (.seq (.reg false [⟨(some 32),none,.i (.mov (.t 5))⟩,⟨(some 33),none,.i (.mov (.t 9))⟩,⟨(some 34),none,.call nz1i [(.t 32),(.t 33)]⟩,⟨(some 35),none,.i (.un .not (.t 34))⟩]) Bz5h)))
def Bzbe:AC:=(.kp [2,5,6,8,19,20,21] [2,11,39,5000,5001] (.dn (.seq (.reg false [⟨(some 25),none,.i (.mov (.t 8))⟩,⟨(some 26),none,.i (.mov (.t 5))⟩,⟨(some 27),none,.i (.mov (.t 6))⟩,⟨(some 28),none,.i (.iad 1 (.t 26) (.t 27))⟩,⟨(some 29),none,.i (.ld (.t 28))⟩,⟨(some 30),none,.i (.iad 1 (.t 25) (.t 29))⟩,⟨(some 31),none,.i (.ld (.t 30))⟩,⟨(some 9),none,.i (.mov (.t 31))⟩]) Bzbd)))
def Bz5i:AC:=(.kp [2,5,6,19,20,21] [2,11,39,5000,5001] (.dn (.reg false [⟨(some 40),none,.i (.bin .add (.t 21) (.c (.int .i64 1)))⟩,⟨(some 21),none,.i (.mov (.t 40))⟩])))
def Bz5j:AC:=(.kp [2,5,6,19,20,21] [2,11,39,5000,5001] (.dn (.seq (.block 3 (.seq (.reg false [⟨(some 23),none,.i (.iad 1 (.t 19) (.t 21))⟩,⟨(some 24),none,.i (.ld (.t 23))⟩,⟨(some 8),none,.i (.mov (.t 24))⟩]) Bzbe)) Bz5i)))
def Bz5k:AC:=(.kp [2,5,6,19,20,21,22] [2,11,39,5000,5001] (.dn (.seq (.cond (.t 22) .skip (.exit 2)) Bz5j)))
def Bz29:AC:=(.kp [2,5,6,19,20,21] [2,11,39,5000,5001] (.dn (.seq (.reg false [⟨(some 22),none,.i (.bin .lss (.t 21) (.t 20))⟩]) Bz5k)))
def Bzbf:AC:=(.kp [2,5,6,19,20,21] [2,11,39,5000,5001] (.dn (.block 2 (.loop Bz29))))
def Bzbg:AC:=(.kp [2,5,6] [2,11,39,5000,5001] (.dn (.reg false [⟨(some 16),none,.i (.mov (.t 6))⟩,⟨(some 17),none,.i (.bin .add (.t 16) (.c (.int .i64 1)))⟩,⟨(some 6),none,.i (.mov (.t 17))⟩])))
def Bz5l:AC:=(.kp [2,5,6] [2,11,39,5000,5001] (.dn (.seq (.block 1 (.seq (.reg false [⟨(some 18),none,.i (.fad 1 (.t 2))⟩,⟨(some 19),none,.i (.ld (.t 18))⟩,⟨(some 20),none,.i (.len (.t 19))⟩,⟨(some 21),none,.i (.mov (.c (.int .i64 0)))⟩]) Bzbf)) Bzbg)))
def Bz2a:AC:=(.kp [2,5,6] [2,11,39,5000,5001] (.dn (.seq (.seq (.reg false [⟨(some 12),none,.i (.mov (.t 6))⟩,⟨(some 13),none,.i (.mov (.t 5))⟩,⟨(some 14),none,.i (.len (.t 13))⟩,⟨(some 15),none,.i (.bin .lss (.t 12) (.t 14))⟩]) Bz5g) Bz5l)))
def Bzbh:AC:=(.kp [2,5,6] [2,11,39,5000,5001] (.dn (.block 0 (.loop Bz2a))))
def Bzbi:AC:=(.kp [5] [11,39,5000,5001] (.dn (.seq (.reg false [⟨(some 41),none,.i (.mov (.t 5))⟩,⟨(some 42),none,.call nz3n [(.t 41)]⟩,⟨(some 4),none,.i (.mov (.t 42))⟩]) (.dn .ret))))
def Bzbj:AC:=(.kp [2,5] [2,11,39,5000,5001] (.dn (.seq (.seq (.reg false [⟨(some 6),none,.i (.mov (.c (.int .i64 0)))⟩]) Bzbh) Bzbi)))
def Bzbk:AC:=(.kp [1,2] [2,5000,5001] (.dn (.seq (.reg false [⟨(some 10),none,.i (.mov (.t 1))⟩,⟨(some 11),none,.i (.bsl 1 false [(.t 10)])⟩,⟨(some 5),none,.i (.mov (.t 11))⟩]) Bzbj)))
def Azbl:AFn:=⟨43,2,(.seq (.reg false [⟨(some 2),none,.i (.box (.t 0))⟩,⟨(some 4),none,.i (.mov (.c (.slice none 0 0)))⟩]) Bzbk),[.tmp 4]⟩
theorem czha:cFn (drV none) Try.prog nzf Azbl:=⟨_,_,Try.func53,rfl,by kernel_rfl,by decide,rfl,by kernel_rfl,by kernel_rfl⟩
def Bzbm:AC:=(.kp [0,1] [5000,5001] (.dn (.seq (.reg false [⟨(some 3),none,.i (.lda 2 (.t 0))⟩,⟨(some 4),none,.i (.ld (.t 1))⟩,⟨(some 5),none,.call nz3e [(.t 3),(.t 4)]⟩,⟨(some 2),none,.i (.mov (.t 5))⟩]) (.dn .ret))))
def Azbn:AFn:=⟨6,2,(.seq (.reg false [⟨(some 2),none,.i (.mov (.c (.bool false)))⟩]) Bzbm),[.tmp 2]⟩
theorem czhb:cFn (drV none) Try.prog nz1c Azbn:=⟨_,_,Try.func54,rfl,by kernel_rfl,by decide,rfl,by kernel_rfl,by kernel_rfl⟩
def Bzbo:AC:=(.kp [1,2] [2,5000,5001] (.dn (.seq (.reg false [⟨(some 5),none,.i (.mov (.t 1))⟩,⟨(some 6),none,.i (.len (.t 5))⟩,⟨(some 7),none,.i (.bin .leq (.t 6) (.c (.int .i64 400)))⟩,⟨(some 8),none,.i (.mov (.t 7))⟩,⟨(some 9),(some (8,true)),.i (.mov (.t 1))⟩,⟨(some 10),(some (8,true)),.i (.lda 2 (.t 2))⟩,⟨(some 11),(some (8,true)),.call nz1f [(.t 10)]⟩,⟨(some 12),(some (8,true)),.i (.bin .sub (.t 11) (.c (.int .i64 1)))⟩,⟨(some 13),(some (8,true)),.call nz1d [(.t 9),(.c (.int .i64 0)),(.t 12)]⟩,⟨(some 14),none,.i (.pick (.t 8) (.t 13) (.c (.bool false)))⟩,⟨(some 4),none,.i (.mov (.t 14))⟩]) (.dn .ret))))
def Azbp:AFn:=⟨15,2,(.seq (.reg false [⟨(some 2),none,.i (.box (.t 0))⟩,⟨(some 4),none,.i (.mov (.c (.bool false)))⟩]) Bzbo),[.tmp 4]⟩
theorem czhc:cFn (drV none) Try.prog nz3e Azbp:=⟨_,_,Try.func55,rfl,by kernel_rfl,by decide,rfl,by kernel_rfl,by kernel_rfl⟩
def Bzbq:AC:=(.kp [1,2,5,6,9,10] [2,7,19,5000,5001] (.dn (.reg false [⟨(some 13),none,.i (.mov (.t 5))⟩,⟨(some 14),none,.i (.lda 2 (.t 2))⟩,⟨(some 15),none,.i (.mov (.t 6))⟩,⟨(some 16),none,.i (.mov (.t 1))⟩,⟨(some 17),none,.call nz3o [(.t 14),(.t 15),(.t 16)]⟩,⟨(some 18),none,.i (.bsl 1 false [(.t 17)])⟩,⟨(some 19),none,.i (.app 1 8 (.t 13) (.t 18))⟩,⟨(some 5),none,.i (.mov (.t 19))⟩])))
def Bzbr:AC:=(.kp [1,2,5,9,10] [2,7,19,5000,5001] (.dn (.reg false [⟨(some 20),none,.i (.bin .add (.t 10) (.c (.int .i64 1)))⟩,⟨(some 10),none,.i (.mov (.t 20))⟩])))
def Bz5m:AC:=(.kp [1,2,5,9,10] [2,7,19,5000,5001] (.dn (.seq (.block 1 (.seq (.reg false [⟨(some 12),none,.i (.mov (.t 10))⟩,⟨(some 6),none,.i (.mov (.t 12))⟩]) Bzbq)) Bzbr)))
def Bz5n:AC:=(.kp [1,2,5,9,10,11] [2,7,19,5000,5001] (.dn (.seq (.cond (.t 11) .skip (.exit 0)) Bz5m)))
def Bz2b:AC:=(.kp [1,2,5,9,10] [2,7,19,5000,5001] (.dn (.seq (.reg false [⟨(some 11),none,.i (.bin .lss (.t 10) (.t 9))⟩]) Bz5n)))
def Bzbs:AC:=(.kp [1,2,5,9,10] [2,7,19,5000,5001] (.dn (.block 0 (.loop Bz2b))))
def Bzbt:AC:=(.kp [5] [7,19,5000,5001] (.dn (.seq (.reg false [⟨(some 21),none,.i (.mov (.t 5))⟩,⟨(some 4),none,.i (.mov (.t 21))⟩]) (.dn .ret))))
def Bzbu:AC:=(.kp [1,2,5] [2,7,19,5000,5001] (.dn (.seq (.seq (.reg false [⟨(some 8),none,.i (.fad 0 (.t 2))⟩,⟨(some 9),none,.i (.ld (.t 8))⟩,⟨(some 10),none,.i (.mov (.c (.int .i64 0)))⟩]) Bzbs) Bzbt)))
def Bzbv:AC:=(.kp [1,2] [2,5000,5001] (.dn (.seq (.reg false [⟨(some 7),none,.i (.bsl 1 false [])⟩,⟨(some 5),none,.i (.mov (.t 7))⟩]) Bzbu)))
def Azbw:AFn:=⟨22,2,(.seq (.reg false [⟨(some 2),none,.i (.box (.t 0))⟩,⟨(some 4),none,.i (.mov (.c (.slice none 0 0)))⟩]) Bzbv),[.tmp 4]⟩
theorem czhd:cFn (drV none) Try.prog nz3f Azbw:=⟨_,_,Try.func56,rfl,by kernel_rfl,by decide,rfl,by kernel_rfl,by kernel_rfl⟩
def Bzbx:AC:=(.kp [0,1,2] [5000,5001,5002] (.dn (.seq (.reg false [⟨(some 7),none,.i (.mov (.t 0))⟩,⟨(some 8),none,.i (.mov (.t 1))⟩,⟨(some 9),none,.i (.bin .geq (.t 7) (.t 8))⟩,⟨(some 10),none,.i (.mov (.t 9))⟩,⟨(some 11),(some (10,true)),.i (.mov (.t 0))⟩,⟨(some 12),(some (10,true)),.i (.mov (.t 2))⟩,⟨(some 13),(some (10,true)),.i (.bin .leq (.t 11) (.t 12))⟩,⟨(some 14),none,.i (.pick (.t 10) (.t 13) (.c (.bool false)))⟩,⟨(some 6),none,.i (.mov (.t 14))⟩]) (.dn .ret))))
def Azby:AFn:=⟨15,3,(.seq (.reg false [⟨(some 6),none,.i (.mov (.c (.bool false)))⟩]) Bzbx),[.tmp 6]⟩
theorem czhe:cFn (drV none) Try.prog nzg Azby:=⟨_,_,Try.func66,rfl,by kernel_rfl,by decide,rfl,by kernel_rfl,by kernel_rfl⟩
def Bzbz:AC:=(.kp [0,1] [5000,5001] (.dn (.seq (.reg false [⟨(some 5),none,.i (.mov (.t 0))⟩,⟨(some 6),none,.i (.mov (.t 1))⟩,⟨(some 7),none,.call nz0 [(.t 5),(.t 6)]⟩,⟨(some 8),none,.i (.bin .eql (.t 7) (.c (.int .i64 0)))⟩,⟨(some 4),none,.i (.mov (.t 8))⟩]) (.dn .ret))))
def Azc0:AFn:=⟨9,2,(.seq (.reg false [⟨(some 4),none,.i (.mov (.c (.bool false)))⟩]) Bzbz),[.tmp 4]⟩
theorem czhf:cFn (drV none) Try.prog nz5 Azc0:=⟨_,_,Try.func72,rfl,by kernel_rfl,by decide,rfl,by kernel_rfl,by kernel_rfl⟩
def Bzc1:AC:=(.kp [0,4] [5000] (.dn (.cond (.t 4) (.seq (.reg false [⟨(some 2),none,.i (.mov (.c (.slice none 0 0)))⟩]) (.dn .ret)) .skip)))
def Bzc2:AC:=(.kp [0] [5000] (.dn (.seq (.reg false [⟨(some 5),none,.i (.bsl 1 false [])⟩,⟨(some 6),none,.i (.mov (.t 0))⟩,⟨(some 7),none,.i (.app 1 8 (.t 5) (.t 6))⟩,⟨(some 2),none,.i (.mov (.t 7))⟩]) (.dn .ret))))
def Bzc3:AC:=(.kp [0] [5000] (.dn (.seq (.seq (.reg false [⟨(some 3),none,.i (.mov (.t 0))⟩,⟨(some 4),none,.i (.isnil false (.t 3))⟩]) Bzc1) Bzc2)))
def Azc4:AFn:=⟨8,1,(.seq (.reg false [⟨(some 2),none,.i (.mov (.c (.slice none 0 0)))⟩]) Bzc3),[.tmp 2]⟩
theorem czhg:cFn (drV none) Try.prog nz3g Azc4:=⟨_,_,Try.func82,rfl,by kernel_rfl,by decide,rfl,by kernel_rfl,by kernel_rfl⟩
def Bzc5:AC:=(.kp [0,4,5] [4,5,5000,5001,5002] (.dn (.seq (.reg false [⟨(some 7),none,.i (.mov (.t 0))⟩,⟨(some 8),none,.i (.mkf nz1k [(.t 4),(.t 5)])⟩,⟨(some 9),none,.call nz3r [(.t 7),(.t 8)]⟩,⟨(some 10),none,.i (.un .not (.t 9))⟩,⟨(some 6),none,.i (.mov (.t 10))⟩]) (.dn .ret))))
def Azc6:AFn:=⟨11,3,(.seq (.reg false [⟨(some 4),none,.i (.box (.t 1))⟩,⟨(some 5),none,.i (.box (.t 2))⟩,⟨(some 6),none,.i (.mov (.c (.bool false)))⟩]) Bzc5),[.tmp 6]⟩
theorem czhh:cFn (drV none) Try.prog nz1d Azc6:=⟨_,_,Try.func94,rfl,by kernel_rfl,by decide,rfl,by kernel_rfl,by kernel_rfl⟩
def Bzc7:AC:=(.kp [2,3] [2,3,5,14,19,26,28,1019,5000,901] (.seq (.regi false [⟨(some 22),none,.i (.lda 2 (.t 3))⟩,⟨none,none,.i (.sto 2 (.t 2) (.t 22))⟩]) .ret))
def Bz5o:AC:=(.kp [0,2,23] [2,3,5,14,19,26,28,1019,5000,901] (.cond (.t 23) (.seq (.regi false [⟨(some 25),none,.i (.mov (.t 0))⟩,⟨(some 26),none,.call nz3t [(.t 25)]⟩,⟨none,none,.i (.sto 2 (.t 2) (.t 26))⟩]) .ret) .skip))
def Bz2c:AC:=(.kp [0,2,8,15] [2,3,5,14,19,26,28,1019,5000,901] (.cond (.t 15) (.seq (.regi false [⟨(some 18),none,.i (.mov (.t 0))⟩,⟨(some 19),none,.call nz3s [(.t 18)]⟩,⟨(some 17),none,.i (.mov (.t 19))⟩,⟨(some 20),none,.i (.ext 0 (.t 17))⟩,⟨(some 21),none,.i (.ext 1 (.t 17))⟩,⟨(some 3),none,.i (.new [.int .i64 0,.slice none 0 0])⟩,⟨none,none,.i (.sto 2 (.t 3) (.t 20))⟩,⟨(some 4),none,.i (.mov (.t 21))⟩]) Bzc7) (.seq (.regi false [⟨(some 24),none,.i (.bin .eql (.t 8) (.c (.int .i64 2)))⟩,⟨(some 23),none,.i (.mov (.t 24))⟩]) Bz5o)))
def Bzw:AC:=(.kp [0,2,8,9] [2,3,5,14,19,26,28,1019,5000,901] (.cond (.t 9) (.seq (.regi false [⟨(some 11),none,.i (.mov (.t 0))⟩,⟨(some 12),none,.call nz0 [(.t 11),(.c (.int .i64 6))]⟩,⟨(some 13),none,.i (.bin .add (.c (.int .i64 2)) (.t 12))⟩,⟨(some 14),none,.call nzn [(.t 13)]⟩,⟨none,none,.i (.sto 2 (.t 2) (.t 14))⟩]) .ret) (.seq (.regi false [⟨(some 16),none,.i (.bin .eql (.t 8) (.c (.int .i64 1)))⟩,⟨(some 15),none,.i (.mov (.t 16))⟩]) Bz2c)))
def Bzx:AC:=(.kp [0,2,8] [2,3,5,14,19,26,28,1019,5000,901] (.block 0 (.seq (.regi false [⟨(some 10),none,.i (.bin .eql (.t 8) (.c (.int .i64 0)))⟩,⟨(some 9),none,.i (.mov (.t 10))⟩]) Bzw)))
def Bzc8:AC:=(.kp [0,2,5,6] [2,3,5,14,19,26,28,1019,5000,901] (.gh (.regi true [⟨(some 36),none,.r [5000] (.fad 1 (.t 5))⟩,⟨(some 37),none,.r [5000] (.ld (.t 36))⟩,⟨(some 38),none,.i (.mov (.t 6))⟩,⟨(some 39),none,.r [5000] (.iad 1 (.t 37) (.t 38))⟩,⟨(some 40),none,.r [5000] (.ld (.t 39))⟩,⟨(some 41),none,.i (.mov (.t 0))⟩,⟨(some 42),none,.r [5000] (.fad 0 (.t 5))⟩,⟨(some 43),none,.r [5000] (.ld (.t 42))⟩,⟨(some 44),none,.calm [5000] nz0 [(.t 41),(.t 43)]⟩,⟨(some 45),none,.r [5000] (.fad 1 (.t 5))⟩,⟨(some 46),none,.r [5000] (.ld (.t 45))⟩,⟨(some 47),none,.i (.mov (.t 6))⟩,⟨(some 48),none,.r [5000] (.iad 1 (.t 46) (.t 47))⟩,⟨(some 49),none,.r [5000] (.ld (.t 48))⟩,⟨(some 50),none,.i (.mov (.t 0))⟩,⟨(some 51),none,.r [5000] (.fad 0 (.t 5))⟩,⟨(some 52),none,.r [5000] (.ld (.t 51))⟩,⟨(some 53),none,.calm [5000] nz0 [(.t 50),(.t 52)]⟩,⟨(some 54),none,.r [5000] (.iad 1 (.t 49) (.t 53))⟩,⟨(some 55),none,.r [5000] (.ld (.t 54))⟩,⟨(some 56),none,.r [5000] (.iad 1 (.t 40) (.t 44))⟩,⟨none,none,.i (.sto 1 (.t 56) (.t 55))⟩])))
def Bz5p:AC:=(.kp [0,2,5,30] [2,3,5,14,19,26,28,1019,5000,901] (.cond (.t 30) (.seq (.regi false [⟨(some 31),none,.i (.mov (.t 0))⟩,⟨(some 32),none,.i (.fad 1 (.t 5))⟩,⟨(some 33),none,.i (.ld (.t 32))⟩,⟨(some 34),none,.i (.len (.t 33))⟩,⟨(some 35),none,.call nz0 [(.t 31),(.t 34)]⟩,⟨(some 6),none,.i (.mov (.t 35))⟩]) Bzc8) .skip))
def Bz2d:AC:=(.kp [2,5] [2,3,5,14,19,26,28,1019,5000,901] (.gh (.seq (.regi false [⟨(some 57),none,.i (.lda 2 (.t 5))⟩,⟨none,none,.i (.sto 2 (.t 2) (.t 57))⟩]) .ret)))
def Bzc9:AC:=(.kp [0,2,5] [2,3,5,14,19,26,28,1019,5000,901] (.seq (.seq (.regi false [⟨(some 29),none,.i (.mov (.t 0))⟩,⟨(some 30),none,.call nz5 [(.t 29),(.c (.int .i64 2))]⟩]) Bz5p) Bz2d))
def Bzca:AC:=(.kp [0,2] [2,3,5,14,19,26,28,1019,5000,901] (.seq (.regi false [⟨(some 27),none,.i (.mov (.t 0))⟩,⟨(some 28),none,.call nzi [(.t 27),(.c (.int .i64 6))]⟩,⟨(some 5),none,.i (.new [.int .i64 0,.slice none 0 0])⟩,⟨none,none,.i (.sto 2 (.t 5) (.t 28))⟩]) Bzc9))
def Bzcb:AC:=(.kp [0,2] [2,3,5,14,19,26,28,1019,5000,901] (.seq (.seq (.regi false [⟨(some 7),none,.i (.mov (.t 0))⟩,⟨(some 8),none,.call nz0 [(.t 7),(.c (.int .i64 6))]⟩]) Bzx) Bzca))
def Azb:AFn:=⟨58,1,(.seq (.regi false [⟨(some 2),none,.i (.new [.int .i64 0,.slice none 0 0])⟩]) Bzcb),[.cell (some 2) 2]⟩
theorem czhi:cFn (drV (some ([5000],[nz0]))) Try.prog nz3h Azb:=⟨_,_,Try.func96,rfl,by kernel_rfl,by decide,rfl,by kernel_rfl,by kernel_rfl⟩
def Bzcc:AC:=(.kp [0,1,2] [5000,5001,5002] (.dn (.seq (.reg false [⟨(some 7),none,.i (.mov (.t 0))⟩,⟨(some 8),none,.i (.mov (.t 1))⟩,⟨(some 9),none,.i (.bin .geq (.t 7) (.t 8))⟩,⟨(some 10),none,.i (.mov (.t 9))⟩,⟨(some 11),(some (10,true)),.i (.mov (.t 0))⟩,⟨(some 12),(some (10,true)),.i (.mov (.t 2))⟩,⟨(some 13),(some (10,true)),.i (.bin .leq (.t 11) (.t 12))⟩,⟨(some 14),none,.i (.pick (.t 10) (.t 13) (.c (.bool false)))⟩,⟨(some 6),none,.i (.mov (.t 14))⟩]) (.dn .ret))))
def Azcd:AFn:=⟨15,3,(.seq (.reg false [⟨(some 6),none,.i (.mov (.c (.bool false)))⟩]) Bzcc),[.tmp 6]⟩
theorem czhj:cFn (drV none) Try.prog nzo Azcd:=⟨_,_,Try.func97,rfl,by kernel_rfl,by decide,rfl,by kernel_rfl,by kernel_rfl⟩
def Bz5q:AC:=(.kp [0,1,5,9] [5000,5001] (.dn (.cond (.t 9) .skip (.exit 0))))
def Bzce:AC:=(.kp [0,1,5,19] [5000,5001] (.dn (.cond (.t 19) (.seq (.reg false [⟨(some 4),none,.i (.mov (.c (.bool false)))⟩]) (.dn .ret)) .skip)))
def Bzcf:AC:=(.kp [0,1,5] [5000,5001] (.dn (.reg false [⟨(some 10),none,.i (.mov (.t 5))⟩,⟨(some 11),none,.i (.bin .add (.t 10) (.c (.int .i64 1)))⟩,⟨(some 5),none,.i (.mov (.t 11))⟩])))
def Bz5r:AC:=(.kp [0,1,5] [5000,5001] (.dn (.seq (.block 1 (.seq (.reg false [⟨(some 12),none,.i (.mov (.t 0))⟩,⟨(some 13),none,.i (.mov (.t 5))⟩,⟨(some 14),none,.i (.iad 1 (.t 12) (.t 13))⟩,⟨(some 15),none,.i (.ld (.t 14))⟩,⟨(some 16),none,.i (.mov (.t 1))⟩,⟨(some 17),none,.i (.bin .sub (.t 16) (.c (.int .i64 1)))⟩,⟨(some 18),none,.call nzo [(.t 15),(.c (.int .i64 0)),(.t 17)]⟩,⟨(some 19),none,.i (.un .not (.t 18))⟩]) Bzce)) Bzcf)))
def Bz2e:AC:=(.kp [0,1,5] [5000,5001] (.dn (.seq (.seq (.reg false [⟨(some 6),none,.i (.mov (.t 5))⟩,⟨(some 7),none,.i (.mov (.t 0))⟩,⟨(some 8),none,.i (.len (.t 7))⟩,⟨(some 9),none,.i (.bin .lss (.t 6) (.t 8))⟩]) Bz5q) Bz5r)))
def Bzcg:AC:=(.kp [0,1,5] [5000,5001] (.dn (.block 0 (.loop Bz2e))))
def Bzch:AC:=(.kp [0,1] [5000,5001] (.dn (.seq (.reg false [⟨(some 20),none,.i (.mov (.t 0))⟩,⟨(some 21),none,.i (.len (.t 20))⟩,⟨(some 22),none,.i (.mov (.t 1))⟩,⟨(some 23),none,.i (.bin .eql (.t 21) (.t 22))⟩,⟨(some 4),none,.i (.mov (.t 23))⟩]) (.dn .ret))))
def Bzci:AC:=(.kp [0,1] [5000,5001] (.dn (.seq (.seq (.reg false [⟨(some 5),none,.i (.mov (.c (.int .i64 0)))⟩]) Bzcg) Bzch)))
def Azcj:AFn:=⟨24,2,(.seq (.reg false [⟨(some 4),none,.i (.mov (.c (.bool false)))⟩]) Bzci),[.tmp 4]⟩
theorem czhk:cFn (drV none) Try.prog nz3i Azcj:=⟨_,_,Try.func98,rfl,by kernel_rfl,by decide,rfl,by kernel_rfl,by kernel_rfl⟩
def Bz5s:AC:=(.kp [0,3,13] [5000] (.dn (.cond (.t 13) (.reg true [⟨(some 14),none,.i (.mov (.t 0))⟩,⟨(some 15),none,.i (.nilck (.t 14))⟩,⟨(some 16),none,.i (.fad 0 (.t 15))⟩,⟨(some 17),none,.i (.ld (.t 16))⟩,⟨(some 18),none,.i (.mov (.t 0))⟩,⟨(some 19),none,.i (.nilck (.t 18))⟩,⟨(some 20),none,.i (.fad 1 (.t 19))⟩,⟨(some 21),none,.i (.ld (.t 20))⟩,⟨(some 22),none,.i (.iad 1 (.t 17) (.t 21))⟩,⟨(some 23),none,.i (.ld (.t 22))⟩,⟨(some 24),none,.i (.cvi .i64 (.t 23))⟩,⟨(some 3),none,.i (.mov (.t 24))⟩]) .skip)))
def Bz5t:AC:=(.kp [0,3,53] [5000] (.dn (.cond (.t 53) (.seq (.reg false [⟨(some 54),none,.i (.mov (.t 3))⟩,⟨(some 2),none,.i (.mov (.t 54))⟩]) (.dn .ret)) .skip)))
def Bz5u:AC:=(.kp [0] [5000] (.dn (.seq (.reg false [⟨(some 55),none,.i (.mov (.t 0))⟩,⟨(some 56),none,.i (.nilck (.t 55))⟩,⟨(some 57),none,.i (.fad 2 (.t 56))⟩,⟨(some 58),none,.i (.ld (.t 57))⟩,⟨(some 59),none,.i (.bin .shr (.t 58) (.c (.int .u64 40)))⟩,⟨(some 60),none,.i (.bin .and (.t 59) (.c (.int .u64 255)))⟩,⟨(some 61),none,.i (.cvi .i64 (.t 60))⟩,⟨(some 2),none,.i (.mov (.t 61))⟩]) (.dn .ret))))
def Bz5v:AC:=(.kp [0,3] [5000] (.dn (.seq (.seq (.reg true [⟨(some 44),none,.i (.mov (.t 0))⟩,⟨(some 45),none,.i (.nilck (.t 44))⟩,⟨(some 46),none,.i (.fad 1 (.t 45))⟩,⟨(some 47),none,.i (.ld (.t 46))⟩,⟨(some 48),none,.i (.mov (.t 0))⟩,⟨(some 49),none,.i (.nilck (.t 48))⟩,⟨(some 50),none,.i (.fad 0 (.t 49))⟩,⟨(some 51),none,.i (.ld (.t 50))⟩,⟨(some 52),none,.i (.len (.t 51))⟩,⟨(some 53),none,.i (.bin .leq (.t 47) (.t 52))⟩]) Bz5t) Bz5u)))
def Bz5w:AC:=(.kp [0,3] [5000] (.dn (.seq (.reg false [⟨(some 32),none,.i (.mov (.t 0))⟩,⟨(some 33),none,.i (.mov (.t 0))⟩,⟨(some 34),none,.i (.nilck (.t 33))⟩,⟨(some 35),none,.i (.fad 2 (.t 34))⟩,⟨(some 36),none,.i (.ld (.t 35))⟩,⟨(some 37),none,.i (.bin .mul (.t 36) (.c (.int .u64 6364136223846793005)))⟩,⟨(some 38),none,.i (.mov (.t 3))⟩,⟨(some 39),none,.i (.cvi .u64 (.t 38))⟩,⟨(some 40),none,.i (.bin .add (.t 37) (.t 39))⟩,⟨(some 41),none,.i (.bin .add (.t 40) (.c (.int .u64 1442695040888963407)))⟩,⟨(some 42),none,.i (.nilck (.t 32))⟩,⟨(some 43),none,.i (.fad 2 (.t 42))⟩,⟨none,none,.i (.sto 1 (.t 43) (.t 41))⟩]) Bz5v)))
def Bz5x:AC:=(.kp [0,3] [5000] (.dn (.seq (.reg false [⟨(some 25),none,.i (.mov (.t 0))⟩,⟨(some 26),none,.i (.nilck (.t 25))⟩,⟨(some 27),none,.i (.fad 1 (.t 26))⟩,⟨(some 28),none,.i (.ld (.t 27))⟩,⟨(some 29),none,.i (.bin .add (.t 28) (.c (.int .i64 1)))⟩,⟨(some 30),none,.i (.nilck (.t 25))⟩,⟨(some 31),none,.i (.fad 1 (.t 30))⟩,⟨none,none,.i (.sto 1 (.t 31) (.t 29))⟩]) Bz5w)))
def Bz5y:AC:=(.kp [0,3] [5000] (.dn (.seq (.seq (.reg true [⟨(some 4),none,.i (.mov (.t 0))⟩,⟨(some 5),none,.i (.nilck (.t 4))⟩,⟨(some 6),none,.i (.fad 1 (.t 5))⟩,⟨(some 7),none,.i (.ld (.t 6))⟩,⟨(some 8),none,.i (.mov (.t 0))⟩,⟨(some 9),none,.i (.nilck (.t 8))⟩,⟨(some 10),none,.i (.fad 0 (.t 9))⟩,⟨(some 11),none,.i (.ld (.t 10))⟩,⟨(some 12),none,.i (.len (.t 11))⟩,⟨(some 13),none,.i (.bin .lss (.t 7) (.t 12))⟩]) Bz5s) Bz5x)))
def Bz5z:AC:=(.kp [0] [5000] (.dn (.seq (.reg false [⟨(some 3),none,.i (.mov (.c (.int .i64 0)))⟩]) Bz5y)))
def Az60:AFn:=⟨62,1,(.seq (.reg false [⟨(some 2),none,.i (.mov (.c (.int .i64 0)))⟩]) Bz5z),[.tmp 2]⟩
theorem czhl:cFn (drV none) Try.prog nz1e Az60:=⟨_,_,Try.func99,rfl,by kernel_rfl,by decide,rfl,by kernel_rfl,by kernel_rfl⟩
def Bzck:AC:=(.kp [1] [1,5000] (.dn (.seq (.reg false [⟨(some 3),none,.i (.fad 1 (.t 1))⟩,⟨(some 4),none,.i (.ld (.t 3))⟩,⟨(some 5),none,.call nz3q [(.t 4)]⟩,⟨(some 2),none,.i (.mov (.t 5))⟩]) (.dn .ret))))
def Azcl:AFn:=⟨6,1,(.seq (.reg false [⟨(some 1),none,.i (.box (.t 0))⟩,⟨(some 2),none,.i (.mov (.c (.int .i64 0)))⟩]) Bzck),[.tmp 2]⟩
theorem czhm:cFn (drV none) Try.prog nz1f Azcl:=⟨_,_,Try.func100,rfl,by kernel_rfl,by decide,rfl,by kernel_rfl,by kernel_rfl⟩
def Bzcm:AC:=(.kp [0,1] [5000,5001] (.dn (.seq (.reg false [⟨(some 5),none,.i (.mov (.t 0))⟩,⟨(some 6),none,.i (.mov (.t 1))⟩,⟨(some 7),none,.call nz3u [(.t 5),(.t 6)]⟩,⟨(some 8),none,.i (.bin .geq (.t 7) (.c (.int .i64 0)))⟩,⟨(some 4),none,.i (.mov (.t 8))⟩]) (.dn .ret))))
def Azcn:AFn:=⟨9,2,(.seq (.reg false [⟨(some 4),none,.i (.mov (.c (.bool false)))⟩]) Bzcm),[.tmp 4]⟩
theorem czhn:cFn (drV none) Try.prog nz3j Azcn:=⟨_,_,Try.func101,rfl,by kernel_rfl,by decide,rfl,by kernel_rfl,by kernel_rfl⟩
def Bzco:AC:=(.kp [0,1] [5000,5001] (.dn (.seq (.reg true [⟨(some 4),none,.i (.mov (.t 0))⟩,⟨(some 5),none,.call nz1h [(.t 4)]⟩,⟨(some 6),none,.i (.fad 0 (.t 1))⟩,⟨(some 7),none,.i (.ld (.t 6))⟩,⟨(some 8),none,.i (.bin .neq (.t 5) (.t 7))⟩,⟨(some 9),none,.i (.mov (.t 8))⟩,⟨(some 10),(some (9,false)),.i (.mov (.t 0))⟩,⟨(some 11),(some (9,false)),.i (.fad 0 (.t 1))⟩,⟨(some 12),(some (9,false)),.i (.ld (.t 11))⟩,⟨(some 13),(some (9,false)),.i (.bin .sub (.t 12) (.c (.int .i64 1)))⟩,⟨(some 14),(some (9,false)),.calh nz1d [(.t 10),(.c (.int .i64 0)),(.t 13)]⟩,⟨(some 15),(some (9,false)),.i (.un .not (.t 14))⟩,⟨(some 16),none,.i (.pick (.t 9) (.c (.bool true)) (.t 15))⟩,⟨(some 3),none,.i (.mov (.t 16))⟩]) (.dn .ret))))
def Azcp:AFn:=⟨17,2,(.seq (.reg false [⟨(some 3),none,.i (.mov (.c (.bool false)))⟩]) Bzco),[.tmp 3]⟩
theorem czho:cFn (drV none) Try.prog nz1g Azcp:=⟨_,_,Try.func102,rfl,by kernel_rfl,by decide,rfl,by kernel_rfl,by kernel_rfl⟩
def Bzcq:AC:=(.kp [0] [5000] (.dn (.seq (.reg false [⟨(some 3),none,.i (.mov (.t 0))⟩,⟨(some 4),none,.i (.len (.t 3))⟩,⟨(some 2),none,.i (.mov (.t 4))⟩]) (.dn .ret))))
def Azcr:AFn:=⟨5,1,(.seq (.reg false [⟨(some 2),none,.i (.mov (.c (.int .i64 0)))⟩]) Bzcq),[.tmp 2]⟩
theorem czhp:cFn (drV none) Try.prog nz1h Azcr:=⟨_,_,Try.func103,rfl,by kernel_rfl,by decide,rfl,by kernel_rfl,by kernel_rfl⟩
theorem x_slices_DeleteFunc_LI:∃ fn,Try.prog.funcs[nzh]?=some fn∧fn.body.isSome=true∧isNumG fn=false:=⟨_,Try.func104,by kernel_rfl,by decide⟩
def Bzcs:AC:=(.kp [0,1,5,12] [5000,5001] (.dn (.cond (.t 12) (.seq (.reg false [⟨(some 13),none,.i (.mov (.t 0))⟩,⟨(some 4),none,.i (.mov (.t 13))⟩]) (.dn .ret)) .skip)))
def Bzhq:AC:=(.kp [0,1,5,6,19] [5000,5001] (.dn (.cond (.t 19) .skip (.exit 0))))
def Bzhr:AC:=(.kp [0,1,5,6] [5000,5001] (.dn (.reg false [⟨(some 34),none,.i (.mov (.t 5))⟩,⟨(some 35),none,.i (.bin .add (.t 34) (.c (.int .i64 1)))⟩,⟨(some 5),none,.i (.mov (.t 35))⟩])))
def Bzhs:AC:=(.kp [0,1,5,6,7,29] [28,1028,5000,5001] (.dn (.cond (.t 29) (.seq (.reg false [⟨(some 30),none,.i (.mov (.t 0))⟩,⟨(some 31),none,.i (.mov (.t 5))⟩,⟨(some 32),none,.i (.mov (.t 7))⟩,⟨(some 33),none,.i (.iad 1 (.t 30) (.t 31))⟩,⟨none,none,.i (.sto 1 (.t 33) (.t 32))⟩]) Bzhr) .skip)))
def Bzht:AC:=(.kp [0,1,5,6,7] [5000,5001] (.dn (.seq (.reg false [⟨(some 26),none,.i (.mov (.t 1))⟩,⟨(some 27),none,.i (.mov (.t 7))⟩,⟨(some 28),none,.calv (.t 26) [(.t 27)]⟩,⟨(some 29),none,.i (.un .not (.t 28))⟩]) Bzhs)))
def Bzhu:AC:=(.kp [0,1,5,6] [5000,5001] (.dn (.reg false [⟨(some 20),none,.i (.mov (.t 6))⟩,⟨(some 21),none,.i (.bin .add (.t 20) (.c (.int .i64 1)))⟩,⟨(some 6),none,.i (.mov (.t 21))⟩])))
def Bzhv:AC:=(.kp [0,1,5,6] [5000,5001] (.dn (.seq (.block 1 (.seq (.reg false [⟨(some 22),none,.i (.mov (.t 0))⟩,⟨(some 23),none,.i (.mov (.t 6))⟩,⟨(some 24),none,.i (.iad 1 (.t 22) (.t 23))⟩,⟨(some 25),none,.i (.ld (.t 24))⟩,⟨(some 7),none,.i (.mov (.t 25))⟩]) Bzht)) Bzhu)))
def Bzhw:AC:=(.kp [0,1,5,6] [5000,5001] (.dn (.seq (.seq (.reg false [⟨(some 16),none,.i (.mov (.t 6))⟩,⟨(some 17),none,.i (.mov (.t 0))⟩,⟨(some 18),none,.i (.len (.t 17))⟩,⟨(some 19),none,.i (.bin .lss (.t 16) (.t 18))⟩]) Bzhq) Bzhv)))
def Bzhx:AC:=(.kp [0,1,5,6] [5000,5001] (.dn (.block 0 (.loop Bzhw))))
def Bzhy:AC:=(.kp [0,5] [5000,5001] (.dn (.seq (.reg false [⟨(some 39),none,.i (.mov (.t 0))⟩,⟨(some 40),none,.i (.mov (.t 5))⟩,⟨(some 41),none,.i (.slc 1 (.t 39) none (some (.t 40)))⟩,⟨(some 4),none,.i (.mov (.t 41))⟩]) (.dn .ret))))
def Bzhz:AC:=(.kp [] [5000,5001] (.dn (.seq .stuck Bzhy)))
def Bzi0:AC:=(.kp [0,1,5] [5000,5001] (.dn (.seq (.seq (.reg false [⟨(some 14),none,.i (.mov (.t 5))⟩,⟨(some 15),none,.i (.bin .add (.t 14) (.c (.int .i64 1)))⟩,⟨(some 6),none,.i (.mov (.t 15))⟩]) Bzhx) Bzhz)))
def Bzct:AC:=(.kp [0,1,5] [5000,5001] (.dn (.seq (.seq (.reg false [⟨(some 11),none,.i (.mov (.t 5))⟩,⟨(some 12),none,.i (.bin .eql (.t 11) (.c (.int .i64 (-1))))⟩]) Bzcs) Bzi0)))
def Bzcu:AC:=(.kp [0,1] [5000,5001] (.dn (.seq (.reg false [⟨(some 8),none,.i (.mov (.t 0))⟩,⟨(some 9),none,.i (.mov (.t 1))⟩,⟨(some 10),none,.call nz1l [(.t 8),(.t 9)]⟩,⟨(some 5),none,.i (.mov (.t 10))⟩]) Bzct)))
def Azcv:AFn:=⟨42,2,(.seq (.reg false [⟨(some 4),none,.i (.mov (.c (.slice none 0 0)))⟩]) Bzcu),[.tmp 4]⟩
theorem czi1:cFn (drV none) Try.prog nzh Azcv:=⟨_,_,Try.func104,rfl,by kernel_rfl,by decide,rfl,by kernel_rfl,by kernel_rfl⟩
def Bzi2:AC:=(.kp [0,1] [5000,5001] (.dn (.seq (.reg false [⟨(some 4),none,.i (.ld (.t 1))⟩,⟨(some 5),none,.i (.mov (.t 0))⟩,⟨(some 6),none,.call nz1i [(.t 4),(.t 5)]⟩,⟨(some 7),none,.i (.un .not (.t 6))⟩,⟨(some 3),none,.i (.mov (.t 7))⟩]) (.dn .ret))))
def Azi3:AFn:=⟨8,2,(.seq (.reg false [⟨(some 3),none,.i (.mov (.c (.bool false)))⟩]) Bzi2),[.tmp 3]⟩
theorem czla:cFn (drV none) Try.prog nz4 Azi3:=⟨_,_,Try.func105,rfl,by kernel_rfl,by decide,rfl,by kernel_rfl,by kernel_rfl⟩
def Bzcw:AC:=(.kp [0,1] [5000,5001] (.dn (.seq (.reg false [⟨(some 5),none,.i (.mov (.t 0))⟩,⟨(some 6),none,.i (.mov (.t 1))⟩,⟨(some 7),none,.call nz3v [(.t 5),(.t 6)]⟩,⟨(some 8),none,.i (.bin .geq (.t 7) (.c (.int .i64 0)))⟩,⟨(some 4),none,.i (.mov (.t 8))⟩]) (.dn .ret))))
def Azcx:AFn:=⟨9,2,(.seq (.reg false [⟨(some 4),none,.i (.mov (.c (.bool false)))⟩]) Bzcw),[.tmp 4]⟩
theorem czi4:cFn (drV none) Try.prog nz1i Azcx:=⟨_,_,Try.func106,rfl,by kernel_rfl,by decide,rfl,by kernel_rfl,by kernel_rfl⟩
def Bz61:AC:=(.kp [0,1,6] [5000,5001] (.dn (.cond (.t 6) .skip (.exit 0))))
def Bzcy:AC:=(.kp [0,1] [5000,5001] (.dn (.block 1 (.reg true [⟨(some 7),none,.i (.mov (.t 1))⟩,⟨(some 8),none,.i (.mov (.t 0))⟩,⟨(some 9),none,.i (.mov (.t 1))⟩,⟨(some 10),none,.i (.bin .rem (.t 8) (.t 9))⟩,⟨(some 0),none,.i (.mov (.t 7))⟩,⟨(some 1),none,.i (.mov (.t 10))⟩]))))
def Bz2f:AC:=(.kp [0,1] [5000,5001] (.dn (.seq (.seq (.reg false [⟨(some 5),none,.i (.mov (.t 1))⟩,⟨(some 6),none,.i (.bin .neq (.t 5) (.c (.int .i64 0)))⟩]) Bz61) Bzcy)))
def Bzcz:AC:=(.kp [0] [5000,5001] (.dn (.seq (.reg false [⟨(some 11),none,.i (.mov (.t 0))⟩,⟨(some 12),none,.i (.mov (.t 0))⟩,⟨(some 13),none,.i (.un .neg (.t 12))⟩,⟨(some 14),none,.i (.mx true (.t 11) (.t 13))⟩,⟨(some 4),none,.i (.mov (.t 14))⟩]) (.dn .ret))))
def Bzd0:AC:=(.kp [0,1] [5000,5001] (.dn (.seq (.block 0 (.loop Bz2f)) Bzcz)))
def Azd1:AFn:=⟨15,2,(.seq (.reg false [⟨(some 4),none,.i (.mov (.c (.int .i64 0)))⟩]) Bzd0),[.tmp 4]⟩
theorem czi5:cFn (drV none) Try.prog nz3k Azd1:=⟨_,_,Try.func107,rfl,by kernel_rfl,by decide,rfl,by kernel_rfl,by kernel_rfl⟩
def Bz62:AC:=(.kp [0,3,4,8] [5,14,5000] (.dn (.cond (.t 8) .skip (.exit 0))))
def Bzd2:AC:=(.kp [0,3,4] [5,14,5000] (.dn (.reg false [⟨(some 9),none,.i (.mov (.t 4))⟩,⟨(some 10),none,.i (.bin .add (.t 9) (.c (.int .i64 1)))⟩,⟨(some 4),none,.i (.mov (.t 10))⟩])))
def Bz63:AC:=(.kp [0,3,4] [5,14,5000] (.dn (.seq (.block 1 (.reg false [⟨(some 11),none,.i (.mov (.t 3))⟩,⟨(some 12),none,.i (.mov (.t 4))⟩,⟨(some 13),none,.i (.bsl 1 false [(.t 12)])⟩,⟨(some 14),none,.i (.app 1 8 (.t 11) (.t 13))⟩,⟨(some 3),none,.i (.mov (.t 14))⟩])) Bzd2)))
def Bz2g:AC:=(.kp [0,3,4] [5,14,5000] (.dn (.seq (.seq (.reg false [⟨(some 6),none,.i (.mov (.t 4))⟩,⟨(some 7),none,.i (.mov (.t 0))⟩,⟨(some 8),none,.i (.bin .lss (.t 6) (.t 7))⟩]) Bz62) Bz63)))
def Bzd3:AC:=(.kp [0,3,4] [5,14,5000] (.dn (.block 0 (.loop Bz2g))))
def Bzd4:AC:=(.kp [3] [5,14,5000] (.dn (.seq (.reg false [⟨(some 15),none,.i (.mov (.t 3))⟩,⟨(some 2),none,.i (.mov (.t 15))⟩]) (.dn .ret))))
def Bzd5:AC:=(.kp [0,3] [5,14,5000] (.dn (.seq (.seq (.reg false [⟨(some 4),none,.i (.mov (.c (.int .i64 0)))⟩]) Bzd3) Bzd4)))
def Bzd6:AC:=(.kp [0] [5000] (.dn (.seq (.reg false [⟨(some 5),none,.i (.bsl 1 false [])⟩,⟨(some 3),none,.i (.mov (.t 5))⟩]) Bzd5)))
def Azd7:AFn:=⟨16,1,(.seq (.reg false [⟨(some 2),none,.i (.mov (.c (.slice none 0 0)))⟩]) Bzd6),[.tmp 2]⟩
theorem czi6:cFn (drV none) Try.prog nz3l Azd7:=⟨_,_,Try.func108,rfl,by kernel_rfl,by decide,rfl,by kernel_rfl,by kernel_rfl⟩
def Bz64:AC:=(.kp [0,5,6,16] [11,13,47,51,5000,5001] (.dn (.cond (.t 16) .skip (.exit 0))))
def Bz65:AC:=(.kp [0,5,6,7,8,28] [11,13,47,51,5000,5001] (.dn (.cond (.t 28) .skip (.exit 2))))
def Bzd8:AC:=(.kp [0,5,6,7,8,9] [11,13,47,51,5000,5001] (.dn (.reg false [⟨(some 48),none,.i (.mov (.t 6))⟩,⟨(some 49),none,.i (.mov (.t 9))⟩,⟨(some 50),none,.i (.bsl 1 false [(.t 49)])⟩,⟨(some 51),none,.i (.app 1 8 (.t 48) (.t 50))⟩,⟨(some 6),none,.i (.mov (.t 51))⟩])))
def Bz66:AC:=(.kp [0,5,6,7,8,9,44] [11,13,47,51,5000,5001] (.dn (.cond (.t 44) (.seq (.reg false [⟨(some 45),none,.i (.mov (.t 5))⟩,⟨(some 46),none,.i (.mov (.t 9))⟩,⟨(some 47),none,.call nz3p [(.t 45),(.t 46)]⟩,⟨(some 5),none,.i (.mov (.t 47))⟩]) Bzd8) .skip)))
def Bzd9:AC:=(.kp [0,5,6,7,8,9] [11,13,47,51,5000,5001] (.dn (.seq (.reg false [⟨(some 41),none,.i (.mov (.t 5))⟩,⟨(some 42),none,.i (.mov (.t 9))⟩,⟨(some 43),none,.call nz1j [(.t 41),(.t 42)]⟩,⟨(some 44),none,.i (.un .not (.t 43))⟩]) Bz66)))
def Bz67:AC:=(.kp [0,5,6,7,8] [11,13,47,51,5000,5001] (.dn (.reg false [⟨(some 29),none,.i (.mov (.t 8))⟩,⟨(some 30),none,.i (.bin .add (.t 29) (.c (.int .i64 1)))⟩,⟨(some 8),none,.i (.mov (.t 30))⟩])))
def Bz68:AC:=(.kp [0,5,6,7,8] [11,13,47,51,5000,5001] (.dn (.seq (.block 3 (.seq (.reg false [⟨(some 31),none,.i (.mov (.t 0))⟩,⟨(some 32),none,.i (.nilck (.t 31))⟩,⟨(some 33),none,.i (.fad 1 (.t 32))⟩,⟨(some 34),none,.i (.ld (.t 33))⟩,⟨(some 35),none,.i (.mov (.t 8))⟩,⟨(some 36),none,.i (.iad 1 (.t 34) (.t 35))⟩,⟨(some 37),none,.i (.ld (.t 36))⟩,⟨(some 38),none,.i (.mov (.t 7))⟩,⟨(some 39),none,.i (.iad 1 (.t 37) (.t 38))⟩,⟨(some 40),none,.i (.ld (.t 39))⟩,⟨(some 9),none,.i (.mov (.t 40))⟩]) Bzd9)) Bz67)))
def Bz2h:AC:=(.mv 47 11 (.kp [0,5,6,7,8] [11,13,47,51,5000,5001] (.dn (.seq (.seq (.reg false [⟨(some 22),none,.i (.mov (.t 8))⟩,⟨(some 23),none,.i (.mov (.t 0))⟩,⟨(some 24),none,.i (.nilck (.t 23))⟩,⟨(some 25),none,.i (.fad 1 (.t 24))⟩,⟨(some 26),none,.i (.ld (.t 25))⟩,⟨(some 27),none,.i (.len (.t 26))⟩,⟨(some 28),none,.i (.bin .lss (.t 22) (.t 27))⟩]) Bz65) Bz68))))
def Bzda:AC:=(.kp [0,5,6,7,8] [11,13,47,51,5000,5001] (.dn (.block 2 (.loop Bz2h))))
def Bzdb:AC:=(.kp [0,5,6,7] [11,13,47,51,5000,5001] (.dn (.seq (.reg false [⟨(some 8),none,.i (.mov (.c (.int .i64 0)))⟩]) Bzda)))
def Bzdc:AC:=(.kp [0,5,6,7] [11,13,47,51,5000,5001] (.dn (.seq (.reg false [⟨(some 20),none,.i (.mov (.t 6))⟩,⟨(some 21),none,.i (.slc 1 (.t 20) (some (.c (.int .i64 1))) none)⟩,⟨(some 6),none,.i (.mov (.t 21))⟩]) Bzdb)))
def Bz69:AC:=(.kp [0,5,6] [11,13,47,51,5000,5001] (.dn (.block 1 (.seq (.reg false [⟨(some 17),none,.i (.mov (.t 6))⟩,⟨(some 18),none,.i (.iad 1 (.t 17) (.c (.int .i64 0)))⟩,⟨(some 19),none,.i (.ld (.t 18))⟩,⟨(some 7),none,.i (.mov (.t 19))⟩]) Bzdc))))
def Bz2i:AC:=(.kp [0,5,6] [11,13,47,51,5000,5001] (.dn (.seq (.seq (.reg false [⟨(some 14),none,.i (.mov (.t 6))⟩,⟨(some 15),none,.i (.len (.t 14))⟩,⟨(some 16),none,.i (.bin .gtr (.t 15) (.c (.int .i64 0)))⟩]) Bz64) Bz69)))
def Bzdd:AC:=(.kp [5] [11,13,47,51,5000,5001] (.dn (.seq (.reg false [⟨(some 52),none,.i (.mov (.t 5))⟩,⟨(some 4),none,.i (.mov (.t 52))⟩]) (.dn .ret))))
def Bzde:AC:=(.kp [0,5,6] [11,13,47,51,5000,5001] (.dn (.seq (.block 0 (.loop Bz2i)) Bzdd)))
def Bzdf:AC:=(.kp [0,1,5] [11,13,47,51,5000,5001] (.dn (.seq (.reg false [⟨(some 12),none,.i (.mov (.t 1))⟩,⟨(some 13),none,.i (.bsl 1 false [(.t 12)])⟩,⟨(some 6),none,.i (.mov (.t 13))⟩]) Bzde)))
def Bzdg:AC:=(.kp [0,1] [5000,5001] (.dn (.seq (.reg false [⟨(some 10),none,.i (.mov (.t 1))⟩,⟨(some 11),none,.i (.bsl 1 false [(.t 10)])⟩,⟨(some 5),none,.i (.mov (.t 11))⟩]) Bzdf)))
def Azdh:AFn:=⟨53,2,(.seq (.reg false [⟨(some 4),none,.i (.mov (.c (.slice none 0 0)))⟩]) Bzdg),[.tmp 4]⟩
theorem czi7:cFn (drV none) Try.prog nz3m Azdh:=⟨_,_,Try.func109,rfl,by kernel_rfl,by decide,rfl,by kernel_rfl,by kernel_rfl⟩
def Bz6a:AC:=(.kp [0,1,5,9] [5000,5001] (.dn (.cond (.t 9) .skip (.exit 0))))
def Bz6b:AC:=(.kp [0,1,5,17] [5000,5001] (.dn (.cond (.t 17) (.seq (.reg false [⟨(some 4),none,.i (.mov (.c (.bool true)))⟩]) (.dn .ret)) .skip)))
def Bzdi:AC:=(.kp [0,1,5] [5000,5001] (.dn (.reg false [⟨(some 10),none,.i (.mov (.t 5))⟩,⟨(some 11),none,.i (.bin .add (.t 10) (.c (.int .i64 1)))⟩,⟨(some 5),none,.i (.mov (.t 11))⟩])))
def Bz6c:AC:=(.kp [0,1,5] [5000,5001] (.dn (.seq (.block 1 (.seq (.reg false [⟨(some 12),none,.i (.mov (.t 0))⟩,⟨(some 13),none,.i (.mov (.t 5))⟩,⟨(some 14),none,.i (.iad 1 (.t 12) (.t 13))⟩,⟨(some 15),none,.i (.ld (.t 14))⟩,⟨(some 16),none,.i (.mov (.t 1))⟩,⟨(some 17),none,.i (.bin .eql (.t 15) (.t 16))⟩]) Bz6b)) Bzdi)))
def Bz2j:AC:=(.kp [0,1,5] [5000,5001] (.dn (.seq (.seq (.reg false [⟨(some 6),none,.i (.mov (.t 5))⟩,⟨(some 7),none,.i (.mov (.t 0))⟩,⟨(some 8),none,.i (.len (.t 7))⟩,⟨(some 9),none,.i (.bin .lss (.t 6) (.t 8))⟩]) Bz6a) Bz6c)))
def Bzdj:AC:=(.kp [0,1,5] [5000,5001] (.dn (.block 0 (.loop Bz2j))))
def Bzdk:AC:=(.kp [] [5000,5001] (.dn (.seq (.reg false [⟨(some 4),none,.i (.mov (.c (.bool false)))⟩]) (.dn .ret))))
def Bzdl:AC:=(.kp [0,1] [5000,5001] (.dn (.seq (.seq (.reg false [⟨(some 5),none,.i (.mov (.c (.int .i64 0)))⟩]) Bzdj) Bzdk)))
def Azdm:AFn:=⟨18,2,(.seq (.reg false [⟨(some 4),none,.i (.mov (.c (.bool false)))⟩]) Bzdl),[.tmp 4]⟩
theorem czi8:cFn (drV none) Try.prog nz1j Azdm:=⟨_,_,Try.func110,rfl,by kernel_rfl,by decide,rfl,by kernel_rfl,by kernel_rfl⟩
def Bzdn:AC:=(.kp [3] [5,5000] (.dn (.seq (.reg false [⟨(some 8),none,.i (.mov (.t 3))⟩,⟨(some 9),none,.call nz3x [(.t 8)]⟩,⟨(some 2),none,.i (.mov (.t 9))⟩]) (.dn .ret))))
def Bzdo:AC:=(.kp [3] [5,5000] (.dn (.seq (.reg false [⟨(some 6),none,.i (.mov (.t 3))⟩,⟨(some 7),none,.call nz3w [(.t 6)]⟩]) Bzdn)))
def Bzdp:AC:=(.kp [0] [5000] (.dn (.seq (.reg false [⟨(some 4),none,.i (.mov (.t 0))⟩,⟨(some 5),none,.call nz3g [(.t 4)]⟩,⟨(some 3),none,.i (.mov (.t 5))⟩]) Bzdo)))
def Azdq:AFn:=⟨10,1,(.seq (.reg false [⟨(some 2),none,.i (.mov (.c (.slice none 0 0)))⟩]) Bzdp),[.tmp 2]⟩
theorem czi9:cFn (drV none) Try.prog nz3n Azdq:=⟨_,_,Try.func111,rfl,by kernel_rfl,by decide,rfl,by kernel_rfl,by kernel_rfl⟩
def Bzdr:AC:=(.kp [1,3,8,9,10,11] [3,5000,5001,5002] (.dn (.reg false [⟨(some 15),none,.i (.fad 1 (.t 3))⟩,⟨(some 16),none,.i (.ld (.t 15))⟩,⟨(some 17),none,.i (.mov (.t 8))⟩,⟨(some 18),none,.i (.iad 1 (.t 16) (.t 17))⟩,⟨(some 19),none,.i (.ld (.t 18))⟩,⟨(some 20),none,.i (.mov (.t 1))⟩,⟨(some 21),none,.i (.iad 1 (.t 19) (.t 20))⟩,⟨(some 22),none,.i (.ld (.t 21))⟩,⟨(some 1),none,.i (.mov (.t 22))⟩])))
def Bzds:AC:=(.kp [1,3,9,10,11] [3,5000,5001,5002] (.dn (.reg false [⟨(some 23),none,.i (.bin .add (.t 11) (.c (.int .i64 1)))⟩,⟨(some 11),none,.i (.mov (.t 23))⟩])))
def Bz6d:AC:=(.kp [1,3,9,10,11] [3,5000,5001,5002] (.dn (.seq (.block 1 (.seq (.reg false [⟨(some 13),none,.i (.iad 1 (.t 9) (.t 11))⟩,⟨(some 14),none,.i (.ld (.t 13))⟩,⟨(some 8),none,.i (.mov (.t 14))⟩]) Bzdr)) Bzds)))
def Bz6e:AC:=(.kp [1,3,9,10,11,12] [3,5000,5001,5002] (.dn (.seq (.cond (.t 12) .skip (.exit 0)) Bz6d)))
def Bz2k:AC:=(.kp [1,3,9,10,11] [3,5000,5001,5002] (.dn (.seq (.reg false [⟨(some 12),none,.i (.bin .lss (.t 11) (.t 10))⟩]) Bz6e)))
def Bzdt:AC:=(.kp [1,3,9,10,11] [3,5000,5001,5002] (.dn (.block 0 (.loop Bz2k))))
def Bzdu:AC:=(.kp [1] [3,5000,5001,5002] (.dn (.seq (.reg false [⟨(some 24),none,.i (.mov (.t 1))⟩,⟨(some 6),none,.i (.mov (.t 24))⟩]) (.dn .ret))))
def Bzdv:AC:=(.kp [1,2,3] [3,5000,5001,5002] (.dn (.seq (.seq (.reg false [⟨(some 9),none,.i (.mov (.t 2))⟩,⟨(some 10),none,.i (.len (.t 9))⟩,⟨(some 11),none,.i (.mov (.c (.int .i64 0)))⟩]) Bzdt) Bzdu)))
def Azdw:AFn:=⟨25,3,(.seq (.reg false [⟨(some 3),none,.i (.box (.t 0))⟩,⟨(some 6),none,.i (.mov (.c (.int .i64 0)))⟩]) Bzdv),[.tmp 6]⟩
theorem czia:cFn (drV none) Try.prog nz3o Azdw:=⟨_,_,Try.func112,rfl,by kernel_rfl,by decide,rfl,by kernel_rfl,by kernel_rfl⟩
def Bzy:AC:=(.kp [0,1,5,6,7,12] [8,34,41,47,5000,5001] (.dn (.cond (.t 12) .skip (.exit 0))))
def Bz6f:AC:=(.kp [0,1,5,6,7,30] [8,34,41,47,5000,5001] (.dn (.cond (.t 30) (.reg false [⟨(some 31),none,.i (.mov (.t 5))⟩,⟨(some 32),none,.i (.mov (.t 1))⟩,⟨(some 33),none,.i (.bsl 1 false [(.t 32)])⟩,⟨(some 34),none,.i (.app 1 8 (.t 31) (.t 33))⟩,⟨(some 5),none,.i (.mov (.t 34))⟩]) .skip)))
def Bzdx:AC:=(.kp [0,1,5,6,7] [8,34,41,47,5000,5001] (.dn (.seq (.reg false [⟨(some 25),none,.i (.mov (.t 0))⟩,⟨(some 26),none,.i (.mov (.t 7))⟩,⟨(some 27),none,.i (.iad 1 (.t 25) (.t 26))⟩,⟨(some 28),none,.i (.ld (.t 27))⟩,⟨(some 29),none,.i (.mov (.t 1))⟩,⟨(some 30),none,.i (.bin .gtr (.t 28) (.t 29))⟩]) Bz6f)))
def Bz2l:AC:=(.kp [0,1,5,6,7,24] [8,34,41,47,5000,5001] (.dn (.cond (.t 24) (.seq (.reg false [⟨(some 6),none,.i (.mov (.c (.bool true)))⟩]) Bzdx) .skip)))
def Bzz:AC:=(.kp [0,1,5,6,7] [8,34,41,47,5000,5001] (.dn (.reg false [⟨(some 35),none,.i (.mov (.t 5))⟩,⟨(some 36),none,.i (.mov (.t 0))⟩,⟨(some 37),none,.i (.mov (.t 7))⟩,⟨(some 38),none,.i (.iad 1 (.t 36) (.t 37))⟩,⟨(some 39),none,.i (.ld (.t 38))⟩,⟨(some 40),none,.i (.bsl 1 false [(.t 39)])⟩,⟨(some 41),none,.i (.app 1 8 (.t 35) (.t 40))⟩,⟨(some 5),none,.i (.mov (.t 41))⟩])))
def Bz10:AC:=(.kp [0,1,5,6,7] [8,34,41,47,5000,5001] (.dn (.reg false [⟨(some 13),none,.i (.mov (.t 7))⟩,⟨(some 14),none,.i (.bin .add (.t 13) (.c (.int .i64 1)))⟩,⟨(some 7),none,.i (.mov (.t 14))⟩])))
def Bz11:AC:=(.kp [0,1,5,6,7] [8,34,41,47,5000,5001] (.dn (.seq (.block 1 (.seq (.seq (.reg false [⟨(some 15),none,.i (.mov (.t 6))⟩,⟨(some 16),none,.i (.un .not (.t 15))⟩,⟨(some 17),none,.i (.mov (.t 16))⟩,⟨(some 18),(some (17,true)),.i (.mov (.t 0))⟩,⟨(some 19),(some (17,true)),.i (.mov (.t 7))⟩,⟨(some 20),(some (17,true)),.i (.iad 1 (.t 18) (.t 19))⟩,⟨(some 21),(some (17,true)),.i (.ld (.t 20))⟩,⟨(some 22),(some (17,true)),.i (.mov (.t 1))⟩,⟨(some 23),(some (17,true)),.i (.bin .geq (.t 21) (.t 22))⟩,⟨(some 24),none,.i (.pick (.t 17) (.t 23) (.c (.bool false)))⟩]) Bz2l) Bzz)) Bz10)))
def Bzj:AC:=(.kp [0,1,5,6,7] [8,34,41,47,5000,5001] (.dn (.seq (.seq (.reg false [⟨(some 9),none,.i (.mov (.t 7))⟩,⟨(some 10),none,.i (.mov (.t 0))⟩,⟨(some 11),none,.i (.len (.t 10))⟩,⟨(some 12),none,.i (.bin .lss (.t 9) (.t 11))⟩]) Bzy) Bz11)))
def Bzdy:AC:=(.kp [0,1,5,6,7] [8,34,41,47,5000,5001] (.dn (.block 0 (.loop Bzj))))
def Bz6g:AC:=(.kp [1,5,43] [8,34,41,47,5000,5001] (.dn (.cond (.t 43) (.reg false [⟨(some 44),none,.i (.mov (.t 5))⟩,⟨(some 45),none,.i (.mov (.t 1))⟩,⟨(some 46),none,.i (.bsl 1 false [(.t 45)])⟩,⟨(some 47),none,.i (.app 1 8 (.t 44) (.t 46))⟩,⟨(some 5),none,.i (.mov (.t 47))⟩]) .skip)))
def Bz6h:AC:=(.kp [5] [8,34,41,47,5000,5001] (.dn (.seq (.reg false [⟨(some 48),none,.i (.mov (.t 5))⟩,⟨(some 4),none,.i (.mov (.t 48))⟩]) (.dn .ret))))
def Bz6i:AC:=(.kp [1,5,6] [8,34,41,47,5000,5001] (.dn (.seq (.seq (.reg false [⟨(some 42),none,.i (.mov (.t 6))⟩,⟨(some 43),none,.i (.un .not (.t 42))⟩]) Bz6g) Bz6h)))
def Bzdz:AC:=(.kp [0,1,5,6] [8,34,41,47,5000,5001] (.dn (.seq (.seq (.reg false [⟨(some 7),none,.i (.mov (.c (.int .i64 0)))⟩]) Bzdy) Bz6i)))
def Bze0:AC:=(.kp [0,1,5] [8,34,41,47,5000,5001] (.dn (.seq (.reg false [⟨(some 6),none,.i (.mov (.c (.bool false)))⟩]) Bzdz)))
def Bze1:AC:=(.kp [0,1] [5000,5001] (.dn (.seq (.reg false [⟨(some 8),none,.i (.bsl 1 false [])⟩,⟨(some 5),none,.i (.mov (.t 8))⟩]) Bze0)))
def Aze2:AFn:=⟨49,2,(.seq (.reg false [⟨(some 4),none,.i (.mov (.c (.slice none 0 0)))⟩]) Bze1),[.tmp 4]⟩
theorem czib:cFn (drV none) Try.prog nz3p Aze2:=⟨_,_,Try.func118,rfl,by kernel_rfl,by decide,rfl,by kernel_rfl,by kernel_rfl⟩
def Bze3:AC:=(.kp [0] [5000] (.dn (.seq (.reg false [⟨(some 3),none,.i (.mov (.t 0))⟩,⟨(some 4),none,.i (.len (.t 3))⟩,⟨(some 2),none,.i (.mov (.t 4))⟩]) (.dn .ret))))
def Aze4:AFn:=⟨5,1,(.seq (.reg false [⟨(some 2),none,.i (.mov (.c (.int .i64 0)))⟩]) Bze3),[.tmp 2]⟩
theorem czic:cFn (drV none) Try.prog nz3q Aze4:=⟨_,_,Try.func121,rfl,by kernel_rfl,by decide,rfl,by kernel_rfl,by kernel_rfl⟩
def Bze5:AC:=(.kp [0,1] [5000,5001] (.dn (.seq (.reg false [⟨(some 5),none,.i (.mov (.t 0))⟩,⟨(some 6),none,.i (.mov (.t 1))⟩,⟨(some 7),none,.call nz1l [(.t 5),(.t 6)]⟩,⟨(some 8),none,.i (.bin .geq (.t 7) (.c (.int .i64 0)))⟩,⟨(some 4),none,.i (.mov (.t 8))⟩]) (.dn .ret))))
def Aze6:AFn:=⟨9,2,(.seq (.reg false [⟨(some 4),none,.i (.mov (.c (.bool false)))⟩]) Bze5),[.tmp 4]⟩
theorem czid:cFn (drV none) Try.prog nz3r Aze6:=⟨_,_,Try.func131,rfl,by kernel_rfl,by decide,rfl,by kernel_rfl,by kernel_rfl⟩
def Bze7:AC:=(.kp [0,1,2] [5000,5001,5002] (.dn (.seq (.reg false [⟨(some 5),none,.i (.mov (.t 0))⟩,⟨(some 6),none,.i (.ld (.t 1))⟩,⟨(some 7),none,.i (.ld (.t 2))⟩,⟨(some 8),none,.call nzg [(.t 5),(.t 6),(.t 7)]⟩,⟨(some 9),none,.i (.un .not (.t 8))⟩,⟨(some 4),none,.i (.mov (.t 9))⟩]) (.dn .ret))))
def Aze8:AFn:=⟨10,3,(.seq (.reg false [⟨(some 4),none,.i (.mov (.c (.bool false)))⟩]) Bze7),[.tmp 4]⟩
theorem czie:cFn (drV none) Try.prog nz1k Aze8:=⟨_,_,Try.func132,rfl,by kernel_rfl,by decide,rfl,by kernel_rfl,by kernel_rfl⟩
def Bz6j:AC:=(.kp [0,2,4,5,6,7,26] [2,4,8,17,23,36,43,93,5000] (.cond (.t 26) .skip (.exit 0)))
def Bz6k:AC:=(.kp [0,2,4,5,6,7,32] [2,4,8,17,23,36,43,93,5000] (.cond (.t 32) (.regi false [⟨(some 33),none,.i (.mov (.t 6))⟩,⟨(some 34),none,.i (.mov (.t 7))⟩,⟨(some 35),none,.i (.bsl 1 false [(.t 34)])⟩,⟨(some 36),none,.i (.app 1 8 (.t 33) (.t 35))⟩,⟨(some 6),none,.i (.mov (.t 36))⟩]) (.regi false [⟨(some 37),none,.i (.mov (.t 6))⟩,⟨(some 38),none,.i (.mov (.t 0))⟩,⟨(some 39),none,.i (.fad 0 (.t 4))⟩,⟨(some 40),none,.i (.ld (.t 39))⟩,⟨(some 41),none,.call nz0 [(.t 38),(.t 40)]⟩,⟨(some 42),none,.i (.bsl 1 false [(.t 41)])⟩,⟨(some 43),none,.i (.app 1 8 (.t 37) (.t 42))⟩,⟨(some 6),none,.i (.mov (.t 43))⟩])))
def Bz6l:AC:=(.kp [0,2,4,5,6,7] [2,4,8,17,23,36,43,93,5000] (.regi false [⟨(some 27),none,.i (.mov (.t 7))⟩,⟨(some 28),none,.i (.bin .add (.t 27) (.c (.int .i64 1)))⟩,⟨(some 7),none,.i (.mov (.t 28))⟩]))
def Bze9:AC:=(.kp [0,2,4,5,6,7] [2,4,8,17,23,36,43,93,5000] (.seq (.block 1 (.seq (.regi false [⟨(some 29),none,.i (.mov (.t 7))⟩,⟨(some 30),none,.i (.fad 0 (.t 4))⟩,⟨(some 31),none,.i (.ld (.t 30))⟩,⟨(some 32),none,.i (.bin .lss (.t 29) (.t 31))⟩]) Bz6k)) Bz6l))
def Bz2m:AC:=(.kp [0,2,4,5,6,7] [2,4,8,17,23,36,43,93,5000] (.seq (.seq (.regi false [⟨(some 24),none,.i (.mov (.t 7))⟩,⟨(some 25),none,.i (.mov (.t 5))⟩,⟨(some 26),none,.i (.bin .lss (.t 24) (.t 25))⟩]) Bz6j) Bze9))
def Bzea:AC:=(.kp [0,2,4,5,6,7] [2,4,8,17,23,36,43,93,5000] (.block 0 (.loop Bz2m)))
def Bz6m:AC:=(.kp [0,2,4,5,6,8,9,50] [2,4,8,17,23,36,43,93,5000] (.cond (.t 50) .skip (.exit 2)))
def Bz6n:AC:=(.kp [0,2,4,5,6,8,9,10,11,56] [2,4,8,17,23,36,43,53,88,93,5000] (.cond (.t 56) .skip (.exit 4)))
def Bz6o:AC:=(.kp [0,2,4,5,6,8,9,10,11,12,13,14,72] [2,4,8,17,23,36,43,53,88,93,5000] (.cond (.t 72) .skip (.exit 6)))
def Bzeb:AC:=(.kp [0,2,4,5,6,8,9,10,11,12,13,14,15,83] [2,4,8,17,23,36,43,53,88,93,5000] (.cond (.t 83) (.regi false [⟨(some 84),none,.i (.mov (.t 15))⟩,⟨(some 13),none,.i (.mov (.t 84))⟩]) .skip))
def Bzec:AC:=(.kp [0,2,4,5,6,8,9,10,11,12,13,14,15] [2,4,8,17,23,36,43,53,88,93,5000] (.seq (.regi false [⟨(some 78),none,.i (.mov (.t 6))⟩,⟨(some 79),none,.i (.mov (.t 15))⟩,⟨(some 80),none,.i (.iad 1 (.t 78) (.t 79))⟩,⟨(some 81),none,.i (.ld (.t 80))⟩,⟨(some 82),none,.i (.mov (.t 12))⟩,⟨(some 83),none,.i (.bin .eql (.t 81) (.t 82))⟩]) Bzeb))
def Bzed:AC:=(.kp [0,2,4,5,6,8,9,10,11,12,13,14] [2,4,8,17,23,36,43,53,88,93,5000] (.regi false [⟨(some 73),none,.i (.mov (.t 14))⟩,⟨(some 74),none,.i (.bin .add (.t 73) (.c (.int .i64 1)))⟩,⟨(some 14),none,.i (.mov (.t 74))⟩]))
def Bzee:AC:=(.kp [0,2,4,5,6,8,9,10,11,12,13,14] [2,4,8,17,23,36,43,53,88,93,5000] (.seq (.block 7 (.seq (.regi false [⟨(some 75),none,.i (.mov (.t 0))⟩,⟨(some 76),none,.i (.mov (.t 5))⟩,⟨(some 77),none,.call nz0 [(.t 75),(.t 76)]⟩,⟨(some 15),none,.i (.mov (.t 77))⟩]) Bzec)) Bzed))
def Bz2n:AC:=(.kp [0,2,4,5,6,8,9,10,11,12,13,14] [2,4,8,17,23,36,43,53,88,93,5000] (.seq (.seq (.regi false [⟨(some 71),none,.i (.mov (.t 14))⟩,⟨(some 72),none,.i (.bin .lss (.t 71) (.c (.int .i64 4)))⟩]) Bz6o) Bzee))
def Bzef:AC:=(.kp [0,2,4,5,6,8,9,10,11,12,13,14] [2,4,8,17,23,36,43,53,88,93,5000] (.block 6 (.loop Bz2n)))
def Bzeg:AC:=(.kp [0,2,4,5,6,8,9,10,11,13] [2,4,8,17,23,36,43,53,88,93,5000] (.regi false [⟨(some 85),none,.i (.mov (.t 10))⟩,⟨(some 86),none,.i (.mov (.t 13))⟩,⟨(some 87),none,.i (.bsl 1 false [(.t 86)])⟩,⟨(some 88),none,.i (.app 1 8 (.t 85) (.t 87))⟩,⟨(some 10),none,.i (.mov (.t 88))⟩]))
def Bzeh:AC:=(.kp [0,2,4,5,6,8,9,10,11,12,13] [2,4,8,17,23,36,43,53,88,93,5000] (.seq (.seq (.regi false [⟨(some 14),none,.i (.mov (.c (.int .i64 0)))⟩]) Bzef) Bzeg))
def Bzei:AC:=(.kp [0,2,4,5,6,8,9,10,11,12] [2,4,8,17,23,36,43,53,88,93,5000] (.seq (.regi false [⟨(some 70),none,.i (.mov (.t 12))⟩,⟨(some 13),none,.i (.mov (.t 70))⟩]) Bzeh))
def Bzej:AC:=(.kp [0,2,4,5,6,8,9,10,11] [2,4,8,17,23,36,43,53,88,93,5000] (.regi false [⟨(some 57),none,.i (.mov (.t 11))⟩,⟨(some 58),none,.i (.bin .add (.t 57) (.c (.int .i64 1)))⟩,⟨(some 11),none,.i (.mov (.t 58))⟩]))
def Bzek:AC:=(.kp [0,2,4,5,6,8,9,10,11] [2,4,8,17,23,36,43,53,88,93,5000] (.seq (.block 5 (.seq (.regi true [⟨(some 59),none,.r [5000] (.fad 1 (.t 4))⟩,⟨(some 60),none,.r [5000] (.ld (.t 59))⟩,⟨(some 61),none,.i (.mov (.t 9))⟩,⟨(some 62),none,.r [5000] (.iad 1 (.t 60) (.t 61))⟩,⟨(some 63),none,.r [5000] (.ld (.t 62))⟩,⟨(some 64),none,.i (.mov (.t 6))⟩,⟨(some 65),none,.i (.mov (.t 11))⟩,⟨(some 66),none,.r [5000] (.iad 1 (.t 64) (.t 65))⟩,⟨(some 67),none,.r [5000] (.ld (.t 66))⟩,⟨(some 68),none,.r [5000] (.iad 1 (.t 63) (.t 67))⟩,⟨(some 69),none,.r [5000] (.ld (.t 68))⟩,⟨(some 12),none,.i (.mov (.t 69))⟩]) Bzei)) Bzej))
def Bz2o:AC:=(.kp [0,2,4,5,6,8,9,10,11] [2,4,8,17,23,36,43,53,88,93,5000] (.seq (.seq (.regi false [⟨(some 54),none,.i (.mov (.t 11))⟩,⟨(some 55),none,.i (.mov (.t 5))⟩,⟨(some 56),none,.i (.bin .lss (.t 54) (.t 55))⟩]) Bz6n) Bzek))
def Bzel:AC:=(.kp [0,2,4,5,6,8,9,10,11] [2,4,8,17,23,36,43,53,88,93,5000] (.block 4 (.loop Bz2o)))
def Bzem:AC:=(.kp [0,2,4,5,6,8,9,10] [2,4,8,17,23,36,43,53,88,93,5000] (.gh (.regi false [⟨(some 89),none,.i (.fad 1 (.t 8))⟩,⟨(some 90),none,.i (.ld (.t 89))⟩,⟨(some 91),none,.i (.mov (.t 10))⟩,⟨(some 92),none,.i (.bsl 1 true [(.t 91)])⟩,⟨(some 93),none,.i (.app 1 24 (.t 90) (.t 92))⟩,⟨(some 94),none,.i (.fad 1 (.t 8))⟩,⟨none,none,.i (.sto 1 (.t 94) (.t 93))⟩])))
def Bzen:AC:=(.kp [0,2,4,5,6,8,9,10] [2,4,8,17,23,36,43,53,88,93,5000] (.seq (.seq (.regi false [⟨(some 11),none,.i (.mov (.c (.int .i64 0)))⟩]) Bzel) Bzem))
def Bzeo:AC:=(.kp [0,2,4,5,6,8,9] [2,4,8,17,23,36,43,93,5000] (.regi false [⟨(some 51),none,.i (.mov (.t 9))⟩,⟨(some 52),none,.i (.bin .add (.t 51) (.c (.int .i64 1)))⟩,⟨(some 9),none,.i (.mov (.t 52))⟩]))
def Bzep:AC:=(.kp [0,2,4,5,6,8,9] [2,4,8,17,23,36,43,93,5000] (.seq (.block 3 (.seq (.regi false [⟨(some 53),none,.i (.bsl 1 false [])⟩,⟨(some 10),none,.i (.mov (.t 53))⟩]) Bzen)) Bzeo))
def Bz2p:AC:=(.kp [0,2,4,5,6,8,9] [2,4,8,17,23,36,43,93,5000] (.seq (.seq (.regi false [⟨(some 46),none,.i (.mov (.t 9))⟩,⟨(some 47),none,.i (.fad 1 (.t 4))⟩,⟨(some 48),none,.i (.ld (.t 47))⟩,⟨(some 49),none,.i (.len (.t 48))⟩,⟨(some 50),none,.i (.bin .lss (.t 46) (.t 49))⟩]) Bz6m) Bzep))
def Bzeq:AC:=(.kp [0,2,4,5,6,8,9] [2,4,8,17,23,36,43,93,5000] (.ad 8 1 93 1 (.block 2 (.loop Bz2p))))
def Bzer:AC:=(.kp [2,6,8] [2,4,8,17,23,36,43,93,5000] (.seq (.regi true [⟨(some 95),none,.r [5000] (.lda 2 (.t 8))⟩,⟨(some 96),none,.i (.mov (.t 6))⟩,⟨(some 97),none,.call nz3y [(.t 96)]⟩,⟨none,none,.i (.sto 2 (.t 2) (.t 95))⟩,⟨(some 3),none,.i (.mov (.t 97))⟩]) .ret))
def Bzes:AC:=(.kp [0,2,4,5,6,8] [2,4,8,17,23,36,43,93,5000] (.seq (.seq (.regi false [⟨(some 9),none,.i (.mov (.c (.int .i64 0)))⟩]) Bzeq) Bzer))
def Bzet:AC:=(.kp [0,2,4,5,6] [2,4,8,17,23,36,43,93,5000] (.seq (.regi false [⟨(some 44),none,.i (.mov (.t 5))⟩,⟨(some 45),none,.i (.bst [.int .i64 0,.slice none 0 0] [(0,1,(.t 44))])⟩,⟨(some 8),none,.i (.new [.int .i64 0,.slice none 0 0])⟩,⟨none,none,.i (.sto 2 (.t 8) (.t 45))⟩]) Bzes))
def Bzeu:AC:=(.kp [0,2,4,5,6] [2,4,8,17,23,36,43,93,5000] (.seq (.seq (.regi false [⟨(some 7),none,.i (.mov (.c (.int .i64 0)))⟩]) Bzea) Bzet))
def Bzev:AC:=(.kp [0,2,4,5] [2,4,8,17,93,5000] (.seq (.regi false [⟨(some 23),none,.i (.bsl 1 false [])⟩,⟨(some 6),none,.i (.mov (.t 23))⟩]) Bzeu))
def Bzew:AC:=(.kp [0,2,4] [2,4,8,17,93,5000] (.seq (.regi true [⟨(some 18),none,.r [5000] (.fad 0 (.t 4))⟩,⟨(some 19),none,.r [5000] (.ld (.t 18))⟩,⟨(some 20),none,.i (.mov (.t 0))⟩,⟨(some 21),none,.calm [5000] nz0 [(.t 20),(.c (.int .i64 4))]⟩,⟨(some 22),none,.i (.bin .add (.t 19) (.t 21))⟩,⟨(some 5),none,.i (.mov (.t 22))⟩]) Bzev))
def Bzex:AC:=(.kp [0,2] [2,4,8,17,93,5000] (.seq (.regi false [⟨(some 16),none,.i (.mov (.t 0))⟩,⟨(some 17),none,.call nzi [(.t 16),(.c (.int .i64 3))]⟩,⟨(some 4),none,.i (.new [.int .i64 0,.slice none 0 0])⟩,⟨none,none,.i (.sto 2 (.t 4) (.t 17))⟩]) Bzew))
def Az6p:AFn:=⟨98,1,(.seq (.regi false [⟨(some 2),none,.i (.new [.int .i64 0,.slice none 0 0])⟩,⟨(some 3),none,.i (.mov (.c (.slice none 0 0)))⟩]) Bzex),[.cell (some 2) 2,.tmp 3]⟩
theorem czif:cFn (drV (some ([5000],[nz0]))) Try.prog nz3s Az6p:=⟨_,_,Try.func133,rfl,by kernel_rfl,by decide,rfl,by kernel_rfl,by kernel_rfl⟩
def Bzey:AC:=(.kp [0,2,3,8] [2,3,6,10,61,73,77,5000,901] (.cond (.t 8) (.regi false [⟨(some 9),none,.i (.mov (.t 0))⟩,⟨(some 10),none,.call nzi [(.t 9),(.c (.int .i64 10))]⟩,⟨none,none,.i (.sto 2 (.t 3) (.t 10))⟩]) .skip))
def Bz12:AC:=(.kp [2,3,75] [2,3,6,10,61,73,77,5000,901] (.cond (.t 75) (.regi false [⟨(some 77),none,.i (.bsl 1 true [])⟩,⟨(some 78),none,.i (.fad 1 (.t 3))⟩,⟨none,none,.i (.sto 1 (.t 78) (.t 77))⟩]) .skip))
def Bzc:AC:=(.kp [2,3,17,52] [2,3,6,10,61,73,77,5000,901] (.cond (.t 52) (.regi true [⟨(some 54),none,.i (.fad 1 (.t 3))⟩,⟨(some 55),none,.i (.ld (.t 54))⟩,⟨(some 56),none,.i (.fad 1 (.t 3))⟩,⟨(some 57),none,.i (.ld (.t 56))⟩,⟨(some 58),none,.i (.iad 1 (.t 57) (.c (.int .i64 0)))⟩,⟨(some 59),none,.i (.ld (.t 58))⟩,⟨(some 63),none,.i (.fad 1 (.t 3))⟩,⟨(some 64),none,.i (.ld (.t 63))⟩,⟨(some 65),none,.i (.iad 1 (.t 64) (.c (.int .i64 0)))⟩,⟨(some 66),none,.i (.ld (.t 65))⟩,⟨(some 67),none,.i (.fad 1 (.t 3))⟩,⟨(some 68),none,.i (.ld (.t 67))⟩,⟨(some 69),none,.i (.iad 1 (.t 68) (.c (.int .i64 0)))⟩,⟨(some 70),none,.i (.ld (.t 69))⟩,⟨(some 60),none,.i (.bslm [62,71] 1 [(.t 59)])⟩,⟨(some 61),none,.i (.appn [60] 1 24 (.t 55) (.t 60))⟩,⟨(some 62),none,.i (.bslm [71,60] 1 [])⟩,⟨(some 71),none,.i (.bslm [60] 1 [(.t 66),(.t 70)])⟩,⟨(some 72),none,.i (.app 1 24 (.t 62) (.t 71))⟩,⟨(some 73),none,.i (.app 1 24 (.t 61) (.t 72))⟩,⟨(some 74),none,.i (.fad 1 (.t 3))⟩,⟨none,none,.i (.sto 1 (.t 74) (.t 73))⟩]) (.seq (.regi false [⟨(some 76),none,.i (.bin .eql (.t 17) (.c (.int .i64 4)))⟩,⟨(some 75),none,.i (.mov (.t 76))⟩]) Bz12)))
def Bz7:AC:=(.kp [0,2,3,4,17,39] [2,3,6,10,61,73,77,5000,901] (.gh (.cond (.t 39) (.regi true [⟨(some 41),none,.r [5000,49] (.fad 1 (.t 3))⟩,⟨(some 42),none,.r [5000,49] (.ld (.t 41))⟩,⟨(some 43),none,.i (.mov (.t 4))⟩,⟨(some 44),none,.r [5000,49] (.iad 1 (.t 42) (.t 43))⟩,⟨(some 45),none,.r [5000,49] (.ld (.t 44))⟩,⟨(some 46),none,.i (.mov (.t 0))⟩,⟨(some 47),none,.r [5000,49] (.fad 0 (.t 3))⟩,⟨(some 48),none,.r [5000,49] (.ld (.t 47))⟩,⟨(some 49),none,.i (.bsl 1 false [(.c (.int .i64 (-1))),(.t 48)])⟩,⟨(some 50),none,.calm [5000,49] nzp [(.t 46),(.t 49)]⟩,⟨(some 51),none,.r [5000,49] (.iad 1 (.t 45) (.c (.int .i64 0)))⟩,⟨none,none,.i (.sto 1 (.t 51) (.t 50))⟩]) (.seq (.regi false [⟨(some 53),none,.i (.bin .eql (.t 17) (.c (.int .i64 3)))⟩,⟨(some 52),none,.i (.mov (.t 53))⟩]) Bzc))))
def Bz3:AC:=(.kp [0,2,3,4,17,27] [2,3,6,10,61,73,77,5000,901] (.cond (.t 27) (.regi true [⟨(some 29),none,.r [5000,49] (.fad 1 (.t 3))⟩,⟨(some 30),none,.r [5000,49] (.ld (.t 29))⟩,⟨(some 31),none,.i (.mov (.t 4))⟩,⟨(some 32),none,.r [5000,49] (.fad 1 (.t 3))⟩,⟨(some 33),none,.r [5000,49] (.ld (.t 32))⟩,⟨(some 34),none,.i (.mov (.t 4))⟩,⟨(some 35),none,.r [5000,49] (.iad 1 (.t 33) (.t 34))⟩,⟨(some 36),none,.r [5000,49] (.ld (.t 35))⟩,⟨(some 37),none,.i (.slcr 1 (.t 36) (some (.c (.int .i64 1))) none)⟩,⟨(some 38),none,.r [5000,49] (.iad 1 (.t 30) (.t 31))⟩,⟨none,none,.i (.sto 1 (.t 38) (.t 37))⟩]) (.seq (.regi false [⟨(some 40),none,.i (.bin .eql (.t 17) (.c (.int .i64 2)))⟩,⟨(some 39),none,.i (.mov (.t 40))⟩]) Bz7)))
def Bz1:AC:=(.kp [0,2,3,4,17,18] [2,3,6,10,61,73,77,5000,901] (.cond (.t 18) (.regi false [⟨(some 20),none,.i (.mov (.t 0))⟩,⟨(some 21),none,.i (.fad 0 (.t 3))⟩,⟨(some 22),none,.i (.ld (.t 21))⟩,⟨(some 23),none,.i (.bin .add (.t 22) (.c (.int .i64 1)))⟩,⟨(some 24),none,.i (.bsl 1 false [(.c (.int .i64 0)),(.c (.int .i64 (-1))),(.t 23),(.c (.int .i64 11))])⟩,⟨(some 25),none,.call nzp [(.t 20),(.t 24)]⟩,⟨(some 26),none,.i (.fad 0 (.t 3))⟩,⟨none,none,.i (.sto 1 (.t 26) (.t 25))⟩]) (.seq (.regi false [⟨(some 28),none,.i (.bin .eql (.t 17) (.c (.int .i64 1)))⟩,⟨(some 27),none,.i (.mov (.t 28))⟩]) Bz3)))
def Bz2:AC:=(.kp [0,2,3,4,17] [2,3,6,10,61,73,77,5000,901] (.block 0 (.seq (.regi false [⟨(some 19),none,.i (.bin .eql (.t 17) (.c (.int .i64 0)))⟩,⟨(some 18),none,.i (.mov (.t 19))⟩]) Bz1)))
def Bz13:AC:=(.kp [2,3] [2,3,6,10,61,73,77,5000,901] (.gh (.seq (.regi false [⟨(some 79),none,.i (.lda 2 (.t 3))⟩,⟨none,none,.i (.sto 2 (.t 2) (.t 79))⟩]) .ret)))
def Bz6q:AC:=(.kp [0,2,3,4] [2,3,6,10,61,73,77,5000,901] (.seq (.seq (.regi false [⟨(some 16),none,.i (.mov (.t 0))⟩,⟨(some 17),none,.call nz0 [(.t 16),(.c (.int .i64 24))]⟩]) Bz2) Bz13))
def Bz6r:AC:=(.kp [0,2,3] [2,3,6,10,61,73,77,5000,901] (.seq (.regi false [⟨(some 11),none,.i (.mov (.t 0))⟩,⟨(some 12),none,.i (.fad 1 (.t 3))⟩,⟨(some 13),none,.i (.ld (.t 12))⟩,⟨(some 14),none,.i (.len (.t 13))⟩,⟨(some 15),none,.call nz0 [(.t 11),(.t 14)]⟩,⟨(some 4),none,.i (.mov (.t 15))⟩]) Bz6q))
def Bzez:AC:=(.kp [0,2,3] [2,3,6,10,61,73,77,5000,901] (.seq (.seq (.regi false [⟨(some 7),none,.i (.mov (.t 0))⟩,⟨(some 8),none,.call nz5 [(.t 7),(.c (.int .i64 8))]⟩]) Bzey) Bz6r))
def Bzf0:AC:=(.kp [0,2] [2,3,6,10,61,73,77,5000,901] (.seq (.regi false [⟨(some 5),none,.i (.mov (.t 0))⟩,⟨(some 6),none,.call nzi [(.t 5),(.c (.int .i64 6))]⟩,⟨(some 3),none,.i (.new [.int .i64 0,.slice none 0 0])⟩,⟨none,none,.i (.sto 2 (.t 3) (.t 6))⟩]) Bzez))
def Azd:AFn:=⟨80,1,(.seq (.regi false [⟨(some 2),none,.i (.new [.int .i64 0,.slice none 0 0])⟩]) Bzf0),[.cell (some 2) 2]⟩
theorem czig:cFn (drW (some ([5000,49],[nzp]))) Try.prog nz3t Azd:=⟨_,_,Try.func134,rfl,by kernel_rfl,by decide,rfl,by kernel_rfl,by kernel_rfl⟩
def Bz6s:AC:=(.kp [0,1,4,5,23] [4,7,87,5000,5001] (.cond (.t 23) (.regi false [⟨(some 24),none,.i (.mov (.t 1))⟩,⟨(some 25),none,.i (.mov (.t 0))⟩,⟨(some 26),none,.call nz0 [(.t 25),(.c (.int .i64 3))]⟩,⟨(some 27),none,.i (.bin .add (.c (.int .i64 3)) (.t 26))⟩,⟨(some 28),none,.call nz3z [(.t 24),(.t 27)]⟩,⟨(some 5),none,.i (.mov (.t 28))⟩]) .skip))
def Bz6t:AC:=(.kp [0,4,5,6,38] [4,7,87,5000,5001] (.cond (.t 38) (.regi false [⟨(some 6),none,.i (.mov (.c (.int .i64 2)))⟩]) .skip))
def Bz6u:AC:=(.kp [0,4,5,6,7,8,43] [4,7,87,5000,5001] (.cond (.t 43) .skip (.exit 0)))
def Bz6v:AC:=(.kp [0,4,5,6,7,8,9,10,11,51] [4,7,46,82,87,5000,5001] (.cond (.t 51) .skip (.exit 2)))
def Bzf1:AC:=(.kp [0,4,5,6,7,8,9,10,11,12,68] [4,7,46,82,87,5000,5001] (.cond (.t 68) (.regi false [⟨(some 69),none,.i (.mov (.t 11))⟩,⟨(some 12),none,.i (.mov (.t 69))⟩]) .skip))
def Bzf2:AC:=(.kp [0,4,5,6,7,8,9,10,11,12,74] [4,7,46,82,87,5000,5001] (.cond (.t 74) (.regi false [⟨(some 75),none,.i (.mov (.t 5))⟩,⟨(some 76),none,.i (.bin .sub (.t 75) (.c (.int .i64 1)))⟩,⟨(some 77),none,.i (.mov (.t 11))⟩,⟨(some 78),none,.i (.bin .sub (.t 76) (.t 77))⟩,⟨(some 12),none,.i (.mov (.t 78))⟩]) .skip))
def Bz6w:AC:=(.kp [0,4,5,6,7,8,9,10,11,12,70] [4,7,46,82,87,5000,5001] (.cond (.t 70) (.seq (.regi false [⟨(some 72),none,.i (.mov (.t 0))⟩,⟨(some 73),none,.call nz5 [(.t 72),(.c (.int .i64 3))]⟩,⟨(some 74),none,.i (.un .not (.t 73))⟩]) Bzf2) .skip))
def Bz2q:AC:=(.kp [0,4,5,6,7,8,9,10,11,12,57,64] [4,7,46,82,87,5000,5001] (.cond (.t 64) (.seq (.regi false [⟨(some 66),none,.i (.mov (.t 0))⟩,⟨(some 67),none,.call nz5 [(.t 66),(.c (.int .i64 4))]⟩,⟨(some 68),none,.i (.un .not (.t 67))⟩]) Bzf1) (.seq (.regi false [⟨(some 71),none,.i (.bin .eql (.t 57) (.c (.int .i64 2)))⟩,⟨(some 70),none,.i (.mov (.t 71))⟩]) Bz6w)))
def Bz14:AC:=(.kp [0,4,5,6,7,8,9,10,11,12,57,58] [4,7,46,82,87,5000,5001] (.cond (.t 58) (.regi false [⟨(some 60),none,.i (.mov (.t 11))⟩,⟨(some 61),none,.i (.bin .add (.t 60) (.c (.int .i64 1)))⟩,⟨(some 62),none,.i (.mov (.t 5))⟩,⟨(some 63),none,.i (.bin .rem (.t 61) (.t 62))⟩,⟨(some 12),none,.i (.mov (.t 63))⟩]) (.seq (.regi false [⟨(some 65),none,.i (.bin .eql (.t 57) (.c (.int .i64 1)))⟩,⟨(some 64),none,.i (.mov (.t 65))⟩]) Bz2q)))
def Bz15:AC:=(.kp [0,4,5,6,7,8,9,10,11,12,57] [4,7,46,82,87,5000,5001] (.block 4 (.seq (.regi false [⟨(some 59),none,.i (.bin .eql (.t 57) (.c (.int .i64 0)))⟩,⟨(some 58),none,.i (.mov (.t 59))⟩]) Bz14)))
def Bzf3:AC:=(.kp [0,4,5,6,7,8,9,10,11,12] [4,7,46,82,87,5000,5001] (.regi false [⟨(some 79),none,.i (.mov (.t 9))⟩,⟨(some 80),none,.i (.mov (.t 12))⟩,⟨(some 81),none,.i (.bsl 1 false [(.t 80)])⟩,⟨(some 82),none,.i (.app 1 8 (.t 79) (.t 81))⟩,⟨(some 9),none,.i (.mov (.t 82))⟩]))
def Bzf4:AC:=(.kp [0,4,5,6,7,8,9,10,11,12] [4,7,46,82,87,5000,5001] (.seq (.seq (.regi false [⟨(some 57),none,.i (.mov (.t 10))⟩]) Bz15) Bzf3))
def Bzf5:AC:=(.kp [0,4,5,6,7,8,9,10,11] [4,7,46,82,87,5000,5001] (.regi false [⟨(some 52),none,.i (.mov (.t 11))⟩,⟨(some 53),none,.i (.bin .add (.t 52) (.c (.int .i64 1)))⟩,⟨(some 11),none,.i (.mov (.t 53))⟩]))
def Bz6x:AC:=(.kp [0,4,5,6,7,8,9,10,11] [4,7,46,82,87,5000,5001] (.seq (.block 3 (.seq (.regi false [⟨(some 54),none,.i (.mov (.t 0))⟩,⟨(some 55),none,.i (.mov (.t 5))⟩,⟨(some 56),none,.call nz0 [(.t 54),(.t 55)]⟩,⟨(some 12),none,.i (.mov (.t 56))⟩]) Bzf4)) Bzf5))
def Bz2r:AC:=(.kp [0,4,5,6,7,8,9,10,11] [4,7,46,82,87,5000,5001] (.seq (.seq (.regi false [⟨(some 49),none,.i (.mov (.t 11))⟩,⟨(some 50),none,.i (.mov (.t 5))⟩,⟨(some 51),none,.i (.bin .lss (.t 49) (.t 50))⟩]) Bz6v) Bz6x))
def Bzf6:AC:=(.kp [0,4,5,6,7,8,9,10,11] [4,7,46,82,87,5000,5001] (.block 2 (.loop Bz2r)))
def Bzf7:AC:=(.kp [0,4,5,6,7,8,9] [4,7,46,82,87,5000,5001] (.gh (.regi false [⟨(some 83),none,.i (.fad 1 (.t 7))⟩,⟨(some 84),none,.i (.ld (.t 83))⟩,⟨(some 85),none,.i (.mov (.t 9))⟩,⟨(some 86),none,.i (.bsl 1 true [(.t 85)])⟩,⟨(some 87),none,.i (.app 1 24 (.t 84) (.t 86))⟩,⟨(some 88),none,.i (.fad 1 (.t 7))⟩,⟨none,none,.i (.sto 1 (.t 88) (.t 87))⟩])))
def Bzf8:AC:=(.kp [0,4,5,6,7,8,9,10] [4,7,46,82,87,5000,5001] (.seq (.seq (.regi false [⟨(some 11),none,.i (.mov (.c (.int .i64 0)))⟩]) Bzf6) Bzf7))
def Bzf9:AC:=(.kp [0,4,5,6,7,8,9] [4,7,46,82,87,5000,5001] (.seq (.regi false [⟨(some 47),none,.i (.mov (.t 0))⟩,⟨(some 48),none,.call nz0 [(.t 47),(.c (.int .i64 5))]⟩,⟨(some 10),none,.i (.mov (.t 48))⟩]) Bzf8))
def Bzfa:AC:=(.kp [0,4,5,6,7,8] [4,7,87,5000,5001] (.regi false [⟨(some 44),none,.i (.mov (.t 8))⟩,⟨(some 45),none,.i (.bin .add (.t 44) (.c (.int .i64 1)))⟩,⟨(some 8),none,.i (.mov (.t 45))⟩]))
def Bz6y:AC:=(.kp [0,4,5,6,7,8] [4,7,87,5000,5001] (.seq (.block 1 (.seq (.regi false [⟨(some 46),none,.i (.bsl 1 false [])⟩,⟨(some 9),none,.i (.mov (.t 46))⟩]) Bzf9)) Bzfa))
def Bz2s:AC:=(.kp [0,4,5,6,7,8] [4,7,87,5000,5001] (.seq (.seq (.regi false [⟨(some 41),none,.i (.mov (.t 8))⟩,⟨(some 42),none,.i (.mov (.t 6))⟩,⟨(some 43),none,.i (.bin .lss (.t 41) (.t 42))⟩]) Bz6u) Bz6y))
def Bzfb:AC:=(.kp [0,4,5,6,7,8] [4,7,87,5000,5001] (.ad 7 1 87 1 (.block 0 (.loop Bz2s))))
def Bzfc:AC:=(.kp [4,7] [4,7,87,5000,5001] (.seq (.regi false [⟨(some 89),none,.i (.lda 2 (.t 7))⟩,⟨none,none,.i (.sto 2 (.t 4) (.t 89))⟩]) .ret))
def Bzfd:AC:=(.kp [0,4,5,6,7] [4,7,87,5000,5001] (.seq (.seq (.regi false [⟨(some 8),none,.i (.mov (.c (.int .i64 0)))⟩]) Bzfb) Bzfc))
def Bz16:AC:=(.kp [0,4,5,6] [4,7,87,5000,5001] (.seq (.regi false [⟨(some 39),none,.i (.mov (.t 5))⟩,⟨(some 40),none,.i (.bst [.int .i64 0,.slice none 0 0] [(0,1,(.t 39))])⟩,⟨(some 7),none,.i (.new [.int .i64 0,.slice none 0 0])⟩,⟨none,none,.i (.sto 2 (.t 7) (.t 40))⟩]) Bzfd))
def Bz6z:AC:=(.kp [0,4,5,6] [4,7,87,5000,5001] (.seq (.seq (.regi false [⟨(some 32),none,.i (.mov (.t 6))⟩,⟨(some 33),none,.i (.bin .eql (.t 32) (.c (.int .i64 1)))⟩,⟨(some 34),none,.i (.mov (.t 33))⟩,⟨(some 35),(some (34,true)),.i (.mov (.t 0))⟩,⟨(some 36),(some (34,true)),.call nz5 [(.t 35),(.c (.int .i64 3))]⟩,⟨(some 37),(some (34,true)),.i (.un .not (.t 36))⟩,⟨(some 38),none,.i (.pick (.t 34) (.t 37) (.c (.bool false)))⟩]) Bz6t) Bz16))
def Bzk:AC:=(.kp [0,4,5] [4,7,87,5000,5001] (.seq (.regi false [⟨(some 29),none,.i (.mov (.t 0))⟩,⟨(some 30),none,.call nz0 [(.t 29),(.c (.int .i64 3))]⟩,⟨(some 31),none,.i (.bin .add (.c (.int .i64 1)) (.t 30))⟩,⟨(some 6),none,.i (.mov (.t 31))⟩]) Bz6z))
def Bz70:AC:=(.kp [0,1,4,5] [4,7,87,5000,5001] (.seq (.seq (.regi false [⟨(some 17),none,.i (.mov (.t 5))⟩,⟨(some 18),none,.i (.bin .lss (.t 17) (.c (.int .i64 3)))⟩,⟨(some 19),none,.i (.mov (.t 18))⟩,⟨(some 20),(some (19,true)),.i (.mov (.t 0))⟩,⟨(some 21),(some (19,true)),.call nz5 [(.t 20),(.c (.int .i64 3))]⟩,⟨(some 22),(some (19,true)),.i (.un .not (.t 21))⟩,⟨(some 23),none,.i (.pick (.t 19) (.t 22) (.c (.bool false)))⟩]) Bz6s) Bzk))
def Bzfe:AC:=(.kp [0,1,4] [4,7,87,5000,5001] (.seq (.regi false [⟨(some 13),none,.i (.mov (.t 0))⟩,⟨(some 14),none,.i (.mov (.t 1))⟩,⟨(some 15),none,.call nz0 [(.t 13),(.t 14)]⟩,⟨(some 16),none,.i (.bin .add (.c (.int .i64 1)) (.t 15))⟩,⟨(some 5),none,.i (.mov (.t 16))⟩]) Bz70))
def Az71:AFn:=⟨90,2,(.seq (.regi false [⟨(some 4),none,.i (.new [.int .i64 0,.slice none 0 0])⟩]) Bzfe),[.cell (some 2) 4]⟩
theorem czih:cFn (drV none) Try.prog nzi Az71:=⟨_,_,Try.func135,rfl,by kernel_rfl,by decide,rfl,by kernel_rfl,by kernel_rfl⟩
def Bzff:AC:=(.kp [0,1,5,7,8,16] [16,1016,5000,5001] (.dn (.cond (.t 16) (.seq (.reg false [⟨(some 17),none,.i (.mov (.t 5))⟩,⟨(some 4),none,.i (.mov (.t 17))⟩]) (.dn .ret)) .skip)))
def Bzfg:AC:=(.kp [0,1,5,7,8] [5000,5001] (.dn (.seq (.reg false [⟨(some 11),none,.i (.mov (.t 1))⟩,⟨(some 12),none,.i (.mov (.t 0))⟩,⟨(some 13),none,.i (.mov (.t 5))⟩,⟨(some 14),none,.i (.iad 1 (.t 12) (.t 13))⟩,⟨(some 15),none,.i (.ld (.t 14))⟩,⟨(some 16),none,.calv (.t 11) [(.t 15)]⟩]) Bzff)))
def Bzfh:AC:=(.kp [0,1,7,8] [5000,5001] (.dn (.reg false [⟨(some 18),none,.i (.bin .add (.t 8) (.c (.int .i64 1)))⟩,⟨(some 8),none,.i (.mov (.t 18))⟩])))
def Bz72:AC:=(.kp [0,1,7,8] [5000,5001] (.dn (.seq (.block 1 (.seq (.reg false [⟨(some 10),none,.i (.mov (.t 8))⟩,⟨(some 5),none,.i (.mov (.t 10))⟩]) Bzfg)) Bzfh)))
def Bz73:AC:=(.kp [0,1,7,8,9] [5000,5001] (.dn (.seq (.cond (.t 9) .skip (.exit 0)) Bz72)))
def Bz2t:AC:=(.kp [0,1,7,8] [5000,5001] (.dn (.seq (.reg false [⟨(some 9),none,.i (.bin .lss (.t 8) (.t 7))⟩]) Bz73)))
def Bzfi:AC:=(.kp [0,1,7,8] [5000,5001] (.dn (.block 0 (.loop Bz2t))))
def Bzfj:AC:=(.kp [] [5000,5001] (.dn (.seq (.reg false [⟨(some 4),none,.i (.mov (.c (.int .i64 (-1))))⟩]) (.dn .ret))))
def Bzfk:AC:=(.kp [0,1] [5000,5001] (.dn (.seq (.seq (.reg false [⟨(some 6),none,.i (.mov (.t 0))⟩,⟨(some 7),none,.i (.len (.t 6))⟩,⟨(some 8),none,.i (.mov (.c (.int .i64 0)))⟩]) Bzfi) Bzfj)))
def Azfl:AFn:=⟨19,2,(.seq (.reg false [⟨(some 4),none,.i (.mov (.c (.int .i64 0)))⟩]) Bzfk),[.tmp 4]⟩
theorem czii:cFn (drV none) Try.prog nz3u Azfl:=⟨_,_,Try.func136,rfl,by kernel_rfl,by decide,rfl,by kernel_rfl,by kernel_rfl⟩
def Bzfm:AC:=(.kp [0,1,5,7,8,16] [16,1016,5000,5001] (.dn (.cond (.t 16) (.seq (.reg false [⟨(some 17),none,.i (.mov (.t 5))⟩,⟨(some 4),none,.i (.mov (.t 17))⟩]) (.dn .ret)) .skip)))
def Bzfn:AC:=(.kp [0,1,5,7,8] [5000,5001] (.dn (.seq (.reg false [⟨(some 11),none,.i (.mov (.t 1))⟩,⟨(some 12),none,.i (.mov (.t 0))⟩,⟨(some 13),none,.i (.mov (.t 5))⟩,⟨(some 14),none,.i (.iad 1 (.t 12) (.t 13))⟩,⟨(some 15),none,.i (.ld (.t 14))⟩,⟨(some 16),none,.calv (.t 11) [(.t 15)]⟩]) Bzfm)))
def Bzfo:AC:=(.kp [0,1,7,8] [5000,5001] (.dn (.reg false [⟨(some 18),none,.i (.bin .add (.t 8) (.c (.int .i64 1)))⟩,⟨(some 8),none,.i (.mov (.t 18))⟩])))
def Bz74:AC:=(.kp [0,1,7,8] [5000,5001] (.dn (.seq (.block 1 (.seq (.reg false [⟨(some 10),none,.i (.mov (.t 8))⟩,⟨(some 5),none,.i (.mov (.t 10))⟩]) Bzfn)) Bzfo)))
def Bz75:AC:=(.kp [0,1,7,8,9] [5000,5001] (.dn (.seq (.cond (.t 9) .skip (.exit 0)) Bz74)))
def Bz2u:AC:=(.kp [0,1,7,8] [5000,5001] (.dn (.seq (.reg false [⟨(some 9),none,.i (.bin .lss (.t 8) (.t 7))⟩]) Bz75)))
def Bzfp:AC:=(.kp [0,1,7,8] [5000,5001] (.dn (.block 0 (.loop Bz2u))))
def Bzfq:AC:=(.kp [] [5000,5001] (.dn (.seq (.reg false [⟨(some 4),none,.i (.mov (.c (.int .i64 (-1))))⟩]) (.dn .ret))))
def Bzfr:AC:=(.kp [0,1] [5000,5001] (.dn (.seq (.seq (.reg false [⟨(some 6),none,.i (.mov (.t 0))⟩,⟨(some 7),none,.i (.len (.t 6))⟩,⟨(some 8),none,.i (.mov (.c (.int .i64 0)))⟩]) Bzfp) Bzfq)))
def Azfs:AFn:=⟨19,2,(.seq (.reg false [⟨(some 4),none,.i (.mov (.c (.int .i64 0)))⟩]) Bzfr),[.tmp 4]⟩
theorem czij:cFn (drV none) Try.prog nz1l Azfs:=⟨_,_,Try.func137,rfl,by kernel_rfl,by decide,rfl,by kernel_rfl,by kernel_rfl⟩
def Bz76:AC:=(.kp [0,1,5,7,8,16] [5000,5001] (.dn (.cond (.t 16) (.seq (.reg false [⟨(some 17),none,.i (.mov (.t 5))⟩,⟨(some 4),none,.i (.mov (.t 17))⟩]) (.dn .ret)) .skip)))
def Bzft:AC:=(.kp [0,1,5,7,8] [5000,5001] (.dn (.seq (.reg false [⟨(some 11),none,.i (.mov (.t 1))⟩,⟨(some 12),none,.i (.mov (.t 0))⟩,⟨(some 13),none,.i (.mov (.t 5))⟩,⟨(some 14),none,.i (.iad 1 (.t 12) (.t 13))⟩,⟨(some 15),none,.i (.ld (.t 14))⟩,⟨(some 16),none,.i (.bin .eql (.t 11) (.t 15))⟩]) Bz76)))
def Bzfu:AC:=(.kp [0,1,7,8] [5000,5001] (.dn (.reg false [⟨(some 18),none,.i (.bin .add (.t 8) (.c (.int .i64 1)))⟩,⟨(some 8),none,.i (.mov (.t 18))⟩])))
def Bz77:AC:=(.kp [0,1,7,8] [5000,5001] (.dn (.seq (.block 1 (.seq (.reg false [⟨(some 10),none,.i (.mov (.t 8))⟩,⟨(some 5),none,.i (.mov (.t 10))⟩]) Bzft)) Bzfu)))
def Bz78:AC:=(.kp [0,1,7,8,9] [5000,5001] (.dn (.seq (.cond (.t 9) .skip (.exit 0)) Bz77)))
def Bz2v:AC:=(.kp [0,1,7,8] [5000,5001] (.dn (.seq (.reg false [⟨(some 9),none,.i (.bin .lss (.t 8) (.t 7))⟩]) Bz78)))
def Bzfv:AC:=(.kp [0,1,7,8] [5000,5001] (.dn (.block 0 (.loop Bz2v))))
def Bzfw:AC:=(.kp [] [5000,5001] (.dn (.seq (.reg false [⟨(some 4),none,.i (.mov (.c (.int .i64 (-1))))⟩]) (.dn .ret))))
def Bzfx:AC:=(.kp [0,1] [5000,5001] (.dn (.seq (.seq (.reg false [⟨(some 6),none,.i (.mov (.t 0))⟩,⟨(some 7),none,.i (.len (.t 6))⟩,⟨(some 8),none,.i (.mov (.c (.int .i64 0)))⟩]) Bzfv) Bzfw)))
def Azfy:AFn:=⟨19,2,(.seq (.reg false [⟨(some 4),none,.i (.mov (.c (.int .i64 0)))⟩]) Bzfx),[.tmp 4]⟩
theorem czik:cFn (drV none) Try.prog nz3v Azfy:=⟨_,_,Try.func138,rfl,by kernel_rfl,by decide,rfl,by kernel_rfl,by kernel_rfl⟩
theorem x_slices_Sort_LI:∃ fn,Try.prog.funcs[nz3w]?=some fn∧fn.body.isSome=true∧isNumG fn=false:=⟨_,Try.func139,by kernel_rfl,by decide⟩
theorem x_slices_Compact_LI:∃ fn,Try.prog.funcs[nz3x]?=some fn∧fn.body.isSome=true∧isNumG fn=false:=⟨_,Try.func140,by kernel_rfl,by decide⟩
def Bz79:AC:=(.kp [0,3,4,5,12] [8,41,5000] (.dn (.cond (.t 12) .skip (.exit 0))))
def Bz7a:AC:=(.kp [0,3,4,5,6,7,17] [8,41,5000] (.dn (.cond (.t 17) .skip (.exit 2))))
def Bzfz:AC:=(.kp [0,3,4,5,6,7,28] [8,41,5000] (.dn (.cond (.t 28) (.reg false [⟨(some 29),none,.i (.mov (.t 3))⟩,⟨(some 30),none,.i (.mov (.t 7))⟩,⟨(some 31),none,.i (.iad 1 (.t 29) (.t 30))⟩,⟨(some 32),none,.i (.ld (.t 31))⟩,⟨(some 6),none,.i (.mov (.t 32))⟩]) .skip)))
def Bzg0:AC:=(.kp [0,3,4,5,6,7] [8,41,5000] (.dn (.reg false [⟨(some 18),none,.i (.mov (.t 7))⟩,⟨(some 19),none,.i (.bin .add (.t 18) (.c (.int .i64 1)))⟩,⟨(some 7),none,.i (.mov (.t 19))⟩])))
def Bzg1:AC:=(.kp [0,3,4,5,6,7] [8,41,5000] (.dn (.seq (.block 3 (.seq (.reg true [⟨(some 20),none,.i (.mov (.t 0))⟩,⟨(some 21),none,.i (.mov (.t 7))⟩,⟨(some 22),none,.i (.iad 1 (.t 20) (.t 21))⟩,⟨(some 23),none,.i (.ld (.t 22))⟩,⟨(some 24),none,.i (.mov (.t 0))⟩,⟨(some 25),none,.i (.mov (.t 5))⟩,⟨(some 26),none,.i (.iad 1 (.t 24) (.t 25))⟩,⟨(some 27),none,.i (.ld (.t 26))⟩,⟨(some 28),none,.i (.bin .eql (.t 23) (.t 27))⟩]) Bzfz)) Bzg0)))
def Bz2w:AC:=(.kp [0,3,4,5,6,7] [8,41,5000] (.dn (.seq (.seq (.reg false [⟨(some 15),none,.i (.mov (.t 7))⟩,⟨(some 16),none,.i (.mov (.t 5))⟩,⟨(some 17),none,.i (.bin .lss (.t 15) (.t 16))⟩]) Bz7a) Bzg1)))
def Bzg2:AC:=(.kp [0,3,4,5,6,7] [8,41,5000] (.dn (.block 2 (.loop Bz2w))))
def Bzg3:AC:=(.kp [0,3,4,5,6] [8,41,5000] (.dn (.reg false [⟨(some 36),none,.i (.mov (.t 4))⟩,⟨(some 37),none,.i (.bin .add (.t 36) (.c (.int .i64 1)))⟩,⟨(some 4),none,.i (.mov (.t 37))⟩])))
def Bz7b:AC:=(.kp [0,3,4,5,6,34] [8,41,5000] (.dn (.cond (.t 34) (.seq (.reg false [⟨(some 35),none,.i (.mov (.t 4))⟩,⟨(some 6),none,.i (.mov (.t 35))⟩]) Bzg3) .skip)))
def Bz7c:AC:=(.kp [0,3,4,5,6] [8,41,5000] (.dn (.reg false [⟨(some 38),none,.i (.mov (.t 3))⟩,⟨(some 39),none,.i (.mov (.t 6))⟩,⟨(some 40),none,.i (.bsl 1 false [(.t 39)])⟩,⟨(some 41),none,.i (.app 1 8 (.t 38) (.t 40))⟩,⟨(some 3),none,.i (.mov (.t 41))⟩])))
def Bzg4:AC:=(.kp [0,3,4,5,6] [8,41,5000] (.dn (.seq (.seq (.reg false [⟨(some 33),none,.i (.mov (.t 6))⟩,⟨(some 34),none,.i (.bin .lss (.t 33) (.c (.int .i64 0)))⟩]) Bz7b) Bz7c)))
def Bzg5:AC:=(.kp [0,3,4,5,6] [8,41,5000] (.dn (.seq (.seq (.reg false [⟨(some 7),none,.i (.mov (.c (.int .i64 0)))⟩]) Bzg2) Bzg4)))
def Bz7d:AC:=(.kp [0,3,4,5] [8,41,5000] (.dn (.reg false [⟨(some 13),none,.i (.mov (.t 5))⟩,⟨(some 14),none,.i (.bin .add (.t 13) (.c (.int .i64 1)))⟩,⟨(some 5),none,.i (.mov (.t 14))⟩])))
def Bzg6:AC:=(.kp [0,3,4,5] [8,41,5000] (.dn (.seq (.block 1 (.seq (.reg false [⟨(some 6),none,.i (.mov (.c (.int .i64 (-1))))⟩]) Bzg5)) Bz7d)))
def Bz2x:AC:=(.kp [0,3,4,5] [8,41,5000] (.dn (.seq (.seq (.reg false [⟨(some 9),none,.i (.mov (.t 5))⟩,⟨(some 10),none,.i (.mov (.t 0))⟩,⟨(some 11),none,.i (.len (.t 10))⟩,⟨(some 12),none,.i (.bin .lss (.t 9) (.t 11))⟩]) Bz79) Bzg6)))
def Bzg7:AC:=(.kp [0,3,4,5] [8,41,5000] (.dn (.block 0 (.loop Bz2x))))
def Bzg8:AC:=(.kp [3] [8,41,5000] (.dn (.seq (.reg false [⟨(some 42),none,.i (.mov (.t 3))⟩,⟨(some 2),none,.i (.mov (.t 42))⟩]) (.dn .ret))))
def Bzg9:AC:=(.kp [0,3,4] [8,41,5000] (.dn (.seq (.seq (.reg false [⟨(some 5),none,.i (.mov (.c (.int .i64 0)))⟩]) Bzg7) Bzg8)))
def Bzga:AC:=(.kp [0,3] [8,41,5000] (.dn (.seq (.reg false [⟨(some 4),none,.i (.mov (.c (.int .i64 0)))⟩]) Bzg9)))
def Bzgb:AC:=(.kp [0] [5000] (.dn (.seq (.reg false [⟨(some 8),none,.i (.bsl 1 false [])⟩,⟨(some 3),none,.i (.mov (.t 8))⟩]) Bzga)))
def Azgc:AFn:=⟨43,1,(.seq (.reg false [⟨(some 2),none,.i (.mov (.c (.slice none 0 0)))⟩]) Bzgb),[.tmp 2]⟩
theorem czil:cFn (drV none) Try.prog nz3y Azgc:=⟨_,_,Try.func143,rfl,by kernel_rfl,by decide,rfl,by kernel_rfl,by kernel_rfl⟩
def Bzgd:AC:=(.kp [0,1] [5000,5001] (.dn (.seq (.reg false [⟨(some 5),none,.i (.mov (.t 1))⟩,⟨(some 6),none,.i (.mov (.t 0))⟩,⟨(some 7),none,.i (.mov (.t 1))⟩,⟨(some 8),none,.i (.len (.t 7))⟩,⟨(some 9),none,.call nz0 [(.t 6),(.t 8)]⟩,⟨(some 10),none,.i (.iad 1 (.t 5) (.t 9))⟩,⟨(some 11),none,.i (.ld (.t 10))⟩,⟨(some 4),none,.i (.mov (.t 11))⟩]) (.dn .ret))))
def Azge:AFn:=⟨12,2,(.seq (.reg false [⟨(some 4),none,.i (.mov (.c (.int .i64 0)))⟩]) Bzgd),[.tmp 4]⟩
theorem czim:cFn (drV none) Try.prog nzp Azge:=⟨_,_,Try.func144,rfl,by kernel_rfl,by decide,rfl,by kernel_rfl,by kernel_rfl⟩
def Bzgf:AC:=(.kp [0,1,7] [5000,5001] (.dn (.cond (.t 7) (.seq (.reg false [⟨(some 8),none,.i (.mov (.t 0))⟩,⟨(some 4),none,.i (.mov (.t 8))⟩]) (.dn .ret)) .skip)))
def Bzgg:AC:=(.kp [1] [5000,5001] (.dn (.seq (.reg false [⟨(some 9),none,.i (.mov (.t 1))⟩,⟨(some 4),none,.i (.mov (.t 9))⟩]) (.dn .ret))))
def Bzgh:AC:=(.kp [0,1] [5000,5001] (.dn (.seq (.seq (.reg false [⟨(some 5),none,.i (.mov (.t 0))⟩,⟨(some 6),none,.i (.mov (.t 1))⟩,⟨(some 7),none,.i (.bin .lss (.t 5) (.t 6))⟩]) Bzgf) Bzgg)))
def Azgi:AFn:=⟨10,2,(.seq (.reg false [⟨(some 4),none,.i (.mov (.c (.int .i64 0)))⟩]) Bzgh),[.tmp 4]⟩
theorem czin:cFn (drV none) Try.prog nz3z Azgi:=⟨_,_,Try.func145,rfl,by kernel_rfl,by decide,rfl,by kernel_rfl,by kernel_rfl⟩
end Go.Ab
namespace Go.Ab
open Go.Proofs
theorem k_l00In (n lo hi:Int):Fun Try.prog nzo [iv n,iv lo,iv hi] (bv (decide (lo≤n) && decide (n≤hi))):=by
  refine fun_of mixed czhj rfl ⟨rfl,trivial⟩ ?_
  simp only [Bzcc,Azcd,go_sem,yz0,xx9,xx8,xx6,xx7,xx5,xx0,xx1,xx2,reduceIte,xx3,xx4,reduceCtorEq]
  by_cases h:lo≤n <;> simp [h,dn_val]
theorem k_within (n lo hi:Int):Fun Try.prog nzg [iv n,iv lo,iv hi] (bv (decide (lo≤n) && decide (n≤hi))):=by
  refine fun_of mixed czhe rfl ⟨rfl,trivial⟩ ?_
  simp only [Bzbx,Azby,go_sem,yz0,xx9,xx8,xx6,xx7,xx5,xx0,xx1,xx2,reduceIte,xx3,xx4,reduceCtorEq]
  by_cases h:lo≤n <;> simp [h,dn_val]
theorem k_l00Min (a b:Int):Fun Try.prog nz3z [iv a,iv b] (iv (min a b)):=by
  refine fun_of mixed czin rfl ⟨rfl,trivial⟩ ?_
  simp only [Bzgf,Bzgg,Bzgh,Azgi,go_sem,yz0,xx9,xx8,xx6,xx7,xx5,xx0,xx1,xx2,reduceIte,xx3,xx4,reduceCtorEq]
  by_cases h:a<b
  · have:min a b=a:=by omega
    simp [h,this]
  · have:min a b=b:=by omega
    simp [h,this]
theorem k_size (xs:List Int):Fun Try.prog nz1h [.ro none 1 (ints xs)] (iv xs.length):=by
  refine fun_of mixed czhp rfl ⟨rfl,trivial⟩ ?_
  simp only [Bzcq,Azcr,go_sem,yz0,xx9,xx8,xx6,xx7,xx5,xx0,xx1,xx2,reduceIte,xx3,xx4,reduceCtorEq]
theorem k_size1 (xss:List (List Int)):Fun Try.prog nz3q [.ro none 1 (rwn xss)] (iv xss.length):=by
  refine fun_of mixed czic rfl ⟨rfl,trivial⟩ ?_
  simp only [Bze3,Aze4,go_sem,yz0,xx9,xx8,xx6,xx7,xx5,xx0,xx1,xx2,reduceIte,xx3,xx4,reduceCtorEq]
abbrev srcC (code:List Int) (at_ seed:Int):List AVal:=[.ro (some (some 0)) 1 (intsK .u8 code),iv at_,.val (.int .u64 seed)]
theorem u64_and255 (x:Int):0≤IntKind.u64.wrap ((BitVec.ofInt 64 x &&& BitVec.ofInt 64 255).toNat)∧IntKind.u64.wrap ((BitVec.ofInt 64 x &&& BitVec.ofInt 64 255).toNat)≤255:=by
  have h:(BitVec.ofInt 64 x &&& BitVec.ofInt 64 255).toNat≤255:=by
    rw [BitVec.toNat_and]
    exact Nat.le_trans Nat.and_le_right (by decide)
  rw [IntWalk.u64_in _ (by omega)]
  omega
theorem k_next (code:List Int) (at_ seed:Int) (hb:∀ x∈code,0≤x∧x≤255) (ha:0≤at_∧at_≤4611686018427387904) :
    FunB Try.prog nz1e (srcC code at_ seed) [] (fun cs v=>∃ seed' b,cs=srcC code (at_+1) seed'∧v=.int .i64 b∧0≤b∧b≤255):=by
  refine funB_of mixed czhl rfl ?_
  have hw:IntKind.i64.wrap (at_+1)=at_+1:=w64 (by omega)
  by_cases h:at_<code.length
  · have h1:at_.toNat<code.length:=by omega
    have hm:code.getD at_.toNat 0∈code:=by
      rw [List.getD_eq_getElem?_getD,List.getElem?_eq_getElem h1];exact List.getElem_mem h1
    have hb1:=hb _ hm
    have h2:at_+1≤code.length:=by omega
    simp only [Bz5s,Bz5t,Bz5u,Bz5v,Bz5w,Bz5x,Bz5y,Bz5z,Az60,yzw h1,hw,decide_eq_true h,decide_eq_true h2,go_sem,yz0,xx9,xx8,xx6,xx7,xx5,xx0,xx1,xx2,reduceIte,xx3,xx4,reduceCtorEq]
    refine ⟨⟨ha.1,h1⟩,h1,_,_,rfl,rfl,?_,_,_,rfl,rfl,?_⟩
    · simp [flatL,AVal.flat,flat_vals]
    · rw [w64 (by omega)];exact hb1
  · have h2:¬ at_+1≤code.length:=by omega
    simp only [Bz5s,Bz5t,Bz5u,Bz5v,Bz5w,Bz5x,Bz5y,Bz5z,Az60,hw,decide_eq_false h,decide_eq_false h2,go_sem,yz0,xx9,xx8,xx6,xx7,xx5,xx0,xx1,xx2,reduceIte,xx3,xx4,reduceCtorEq]
    refine ⟨_,_,rfl,rfl,?_,_,_,rfl,rfl,?_⟩
    · simp [flatL,AVal.flat,flat_vals]
    · have:=u64_and255 ((IntKind.u64.wrap (IntKind.u64.wrap (IntKind.u64.wrap (seed * 6364136223846793005)+IntKind.u64.wrap 0)+1442695040888963407)).fdiv (2 ^ min 40 IntKind.u64.bits))
      rw [w64 (by show _≤_∧_≤_;exact ⟨by have:=this.1;exact Int.le_trans (by decide) this,by have:=this.2;exact Int.le_trans this (by decide)⟩)]
      exact this
theorem k_pick (code:List Int) (at_ seed n:Int) (hb:∀ x∈code,0≤x∧x≤255) (ha:0≤at_∧at_≤1000000000000) :
    FunB Try.prog nz0 (srcC code at_ seed) [iv n] (fun cs v=>∃ at' seed' b,cs=srcC code at' seed'∧at_≤at'∧at'≤at_+2∧v=.int .i64 b∧0≤b∧(b<n∨b=0)):=by
  refine funB_of mixed czh1 rfl ?_
  by_cases h:n≤1
  · simp only [Bz4t,Bz4u,Bz4v,Bz4w,Bz4x,Bz4y,Az4z,decide_eq_true h,go_sem,yz0,xx9,xx8,xx6,xx7,xx5,xx0,xx1,xx2,reduceIte,xx3,xx4,reduceCtorEq]
    exact ⟨_,_,rfl,rfl,by simp [flatL,AVal.flat,flat_vals],_,_,_,rfl,by omega,by omega,rfl,by omega,.inr rfl⟩
  · simp only [Bz4t,Bz4u,Bz4v,Bz4w,Bz4x,Bz4y,Az4z,decide_eq_false h,go_sem,yz0,xx9,xx8,xx6,xx7,xx5,xx0,xx1,xx2,reduceIte,xx3,xx4,reduceCtorEq]
    intro vs
    refine call_funB (k_next code at_ seed hb (by omega)) rfl qCS qCS ?_
    rintro cs' x ⟨s',b,rfl,rfl,hb1⟩
    have ht:∀ y:Int,0≤y→y≤100000→0≤y.tmod n∧(y.tmod n<n∨y.tmod n=0):=fun y h1 h2=>⟨Int.tmod_nonneg _ h1,.inl (Int.tmod_lt_of_pos _ (by omega))⟩
    have hn:¬ n=0:=by omega
    by_cases h2:n > 200
    · simp only [decide_eq_true h2,go_sem,yz0,xx9,xx8,xx6,xx7,xx5,xx0,xx1,xx2,reduceIte,xx3,xx4,reduceCtorEq]
      intro vs2
      refine call_funB (k_next code (at_+1) s' hb (by omega)) rfl qCS qCS ?_
      rintro cs' x ⟨s'',c,rfl,rfl,hc1⟩
      simp only [hn,w64 (show -9223372036854775808≤b * 256∧b * 256≤9223372036854775807 by omega),w64 (show -9223372036854775808≤b * 256+c∧b * 256+c≤9223372036854775807 by omega),go_sem,yz0,xx9,xx8,xx6,xx7,xx5,xx0,xx1,xx2,reduceIte,xx3,xx4,reduceCtorEq]
      exact ⟨_,_,rfl,rfl,by simp [flatL,AVal.flat,flat_vals],_,_,_,rfl,by omega,by omega,rfl,ht _ (by omega) (by omega)⟩
    · simp only [decide_eq_false h2,hn,go_sem,yz0,xx9,xx8,xx6,xx7,xx5,xx0,xx1,xx2,reduceIte,xx3,xx4,reduceCtorEq]
      exact ⟨_,_,rfl,rfl,by simp [flatL,AVal.flat,flat_vals],_,_,_,rfl,by omega,by omega,rfl,ht _ (by omega) (by omega)⟩
theorem k_one (code:List Int) (at_ seed n:Int) (hb:∀ x∈code,0≤x∧x≤255) (ha:0≤at_∧at_≤1000000000000) :
    FunB Try.prog nz5 (srcC code at_ seed) [iv n] (fun cs v=>∃ at' seed' b,cs=srcC code at' seed'∧at_≤at'∧at'≤at_+2∧v=.bool b):=by
  refine funB_of mixed czhf rfl ?_
  simp only [Bzbz,Azc0,go_sem,yz0,xx9,xx8,xx6,xx7,xx5,xx0,xx1,xx2,reduceIte,xx3,xx4,reduceCtorEq]
  intro vs
  refine call_funB (k_pick code at_ seed n hb ha) rfl qCS qCS ?_
  rintro cs' x ⟨a',s',b,rfl,h1,h2,rfl,_⟩
  simp only [go_sem,yz0,xx9,xx8,xx6,xx7,xx5,xx0,xx1,xx2,reduceIte,xx3,xx4,reduceCtorEq]
  exact ⟨_,_,rfl,rfl,by simp [flatL,AVal.flat,flat_vals],_,_,_,rfl,h1,h2,rfl⟩
theorem k_from (code:List Int):Con Try.prog nz17 [] [.ro (some (some 0)) 1 (intsK .u8 code)] true fun outs rows res=>outs=[]∧∃ v,rows=[.box v (srcC code 0 0)]∧res=.ptr 6000 v 0:=by
  refine con_sh mixed czgx rfl (by simp) ?_
  simp only [Bz9d,Az9e,go_sem,yz0,xx9,xx8,xx6,xx7,xx5,xx0,xx1,xx2,reduceIte,xx3,xx4,reduceCtorEq]
  intro vs
  refine ⟨[5],by simp,by simp,by simp,?_⟩
  simp only [go_sem,yz0,xx9,xx8,xx6,xx7,xx5,xx0,xx1,xx2,reduceIte,xx3,xx4,reduceCtorEq,Nat.not_lt_zero,range1,yzx,yz11,ren_ro,rnNm_n,yz10,rnNm_o,rnNm_s,ren_st,yzy,yzp,yzf,yz4,yzu,yzv,yzo,yzm,yzs,yzb,yzd,yzc,yza,yzj,yzi,yz3,yz7,yz8,yz9,yzg,yzk,List.range_zero,yz6,yz5,yze,yzt,yzl,yzr,AVal.fresh,freshL,yz2,yzh,AObj.fresh,id,Option.isSome_some,or_true,true_or]
  exact ⟨_,rfl,rfl⟩
end Go.Ab
