/- Contracts and what they lean on, part 7. Conditions: none. -/
import Derived.Test.YtjkckhggjfbgjaaGreatChecked
import Derived.Test.YtjkckhggjfbgjaaGreatZ6
set_option maxRecDepth 100000
set_option maxHeartbeats 4000000
set_option linter.all false
open Nat renaming reduceLeDiff → xx0, reduceMul → xx1, reduceSub → xx2, reduceEqDiff → xx3, reduceAdd → xx4, reduceLT → xx5
open Int renaming reduceToNat → xx6, reduceNeg → xx7, reduceLE → xx8, reduceLT → xx9
namespace Go.Ab
open Go.Proofs
theorem mixed:Tryz.prog.follows .mixedOrders=true:=by kernel_rfl
abbrev n_main_main:FuncId:=0
abbrev n_gosem_cut:FuncId:=1
abbrev n_gosem_cut_init:FuncId:=2
abbrev nz6u:FuncId:=3
abbrev nz34:FuncId:=4
abbrev nz35:FuncId:=5
abbrev nz36:FuncId:=6
abbrev nz37:FuncId:=7
abbrev nzd:FuncId:=8
abbrev nzy:FuncId:=9
abbrev nz38:FuncId:=10
abbrev nz39:FuncId:=11
abbrev nz3a:FuncId:=12
abbrev nzz:FuncId:=13
abbrev nz10:FuncId:=14
abbrev nz11:FuncId:=15
abbrev nz12:FuncId:=16
abbrev nz13:FuncId:=17
abbrev nze:FuncId:=18
abbrev nz0:FuncId:=19
abbrev nzf:FuncId:=20
abbrev nzg:FuncId:=21
abbrev nz9:FuncId:=22
abbrev nzh:FuncId:=23
abbrev nz14:FuncId:=24
abbrev nz3b:FuncId:=25
abbrev nz15:FuncId:=26
abbrev nz3c:FuncId:=27
abbrev nz3d:FuncId:=28
abbrev nz3e:FuncId:=29
abbrev nz16:FuncId:=30
abbrev nz17:FuncId:=31
abbrev nz18:FuncId:=32
abbrev nz3f:FuncId:=33
abbrev nz3g:FuncId:=34
abbrev nz19:FuncId:=35
abbrev nz3h:FuncId:=36
abbrev nz1a:FuncId:=37
abbrev nz3i:FuncId:=38
abbrev nz4:FuncId:=39
abbrev nzi:FuncId:=40
abbrev nz3j:FuncId:=41
abbrev nz1b:FuncId:=42
abbrev nza:FuncId:=43
abbrev nzj:FuncId:=44
abbrev nz3k:FuncId:=45
abbrev nz1c:FuncId:=46
abbrev nz3l:FuncId:=47
abbrev nz1d:FuncId:=48
abbrev nz3m:FuncId:=49
abbrev nz1e:FuncId:=50
abbrev nz3n:FuncId:=51
abbrev nzhv:FuncId:=52
abbrev n_math_bits_Len:FuncId:=53
abbrev nz1f:FuncId:=54
abbrev nz3o:FuncId:=55
abbrev nz1g:FuncId:=56
abbrev nz3p:FuncId:=57
abbrev nz1h:FuncId:=58
abbrev nz3q:FuncId:=59
abbrev nz3r:FuncId:=60
abbrev nzb:FuncId:=61
abbrev nz3s:FuncId:=62
abbrev nz3t:FuncId:=63
abbrev nz3u:FuncId:=64
abbrev nz1i:FuncId:=65
abbrev nzhw:FuncId:=66
abbrev nzhx:FuncId:=67
abbrev nzhy:FuncId:=68
abbrev nzhz:FuncId:=69
abbrev nzi0:FuncId:=70
abbrev nzi1:FuncId:=71
abbrev nzi2:FuncId:=72
abbrev nzi3:FuncId:=73
abbrev n_math_bits_Len32:FuncId:=74
abbrev n_math_bits_Len64:FuncId:=75
abbrev nz1j:FuncId:=76
abbrev nz3v:FuncId:=77
abbrev nz3w:FuncId:=78
abbrev nz3x:FuncId:=79
abbrev nzk:FuncId:=80
abbrev nz3y:FuncId:=81
abbrev nz3z:FuncId:=82
abbrev nzi4:FuncId:=83
abbrev nzi5:FuncId:=84
abbrev nzi6:FuncId:=85
abbrev nzi7:FuncId:=86
abbrev nzi8:FuncId:=87
abbrev nzi9:FuncId:=88
abbrev nzia:FuncId:=89
abbrev nzib:FuncId:=90
abbrev nzic:FuncId:=91
abbrev nzid:FuncId:=92
abbrev nzie:FuncId:=93
abbrev nzif:FuncId:=94
abbrev nzig:FuncId:=95
abbrev nzih:FuncId:=96
abbrev nzii:FuncId:=97
abbrev nzij:FuncId:=98
abbrev nzik:FuncId:=99
abbrev nzil:FuncId:=100
abbrev nzim:FuncId:=101
abbrev nzin:FuncId:=102
abbrev n_runtime_boundsError_Error:FuncId:=103
abbrev n_runtime_boundsError_RuntimeError:FuncId:=104
abbrev n_runtime_errorString_Error:FuncId:=105
abbrev n_runtime_errorString_RuntimeError:FuncId:=106
abbrev n_runtime_plainError_Error:FuncId:=107
abbrev n_runtime_plainError_RuntimeError:FuncId:=108
abbrev n_runtime_errorAddressString_Error:FuncId:=109
abbrev n_runtime_errorAddressString_RuntimeError:FuncId:=110
abbrev n_runtime_TypeAssertionError_Error:FuncId:=111
abbrev n_runtime_TypeAssertionError_RuntimeError:FuncId:=112
abbrev n_runtime_PanicNilError_Error:FuncId:=113
abbrev n_runtime_PanicNilError_RuntimeError:FuncId:=114
abbrev n_internal_abi_Type_Align:FuncId:=115
abbrev n_internal_runtime_maps_unhashableTypeError_Error:FuncId:=116
abbrev n_internal_runtime_maps_unhashableTypeError_RuntimeError:FuncId:=117
abbrev nzio:FuncId:=118
abbrev nzip:FuncId:=119
abbrev n_internal_abi_Kind_String:FuncId:=120
def Bz6v:AC:=(.kp [0,1,23] [5000,5001] (.dn (.cond (.t 23) (.seq (.reg false [⟨(some 4),none,.i (.mov (.c (.bool true)))⟩]) (.dn .ret)) .skip)))
def Bz6w:AC:=(.kp [1,5,6,7,9,80] [5,25,28,31,40,5000,5001] (.dn (.cond (.t 80) (.seq (.reg false [⟨(some 4),none,.i (.mov (.c (.bool false)))⟩]) (.dn .ret)) .skip)))
def Bz40:AC:=(.kp [1,5,6,7,9,13,84] [5,25,28,31,40,5000,5001] (.dn (.cond (.t 84) .skip (.exit 0))))
def Bz6x:AC:=(.kp [1,5,6,7,9,13,98] [5,25,28,31,40,5000,5001] (.dn (.cond (.t 98) (.seq (.reg false [⟨(some 4),none,.i (.mov (.c (.bool false)))⟩]) (.dn .ret)) .skip)))
def Bz6y:AC:=(.kp [1,5,6,7,9,13] [5,25,28,31,40,5000,5001] (.dn (.reg false [⟨(some 85),none,.i (.mov (.t 13))⟩,⟨(some 86),none,.i (.bin .add (.t 85) (.c (.int .i64 1)))⟩,⟨(some 13),none,.i (.mov (.t 86))⟩])))
def Bz6z:AC:=(.kp [1,5,6,7,9,13] [5,25,28,31,40,5000,5001] (.dn (.seq (.block 1 (.seq (.reg true [⟨(some 87),none,.i (.mov (.t 7))⟩,⟨(some 88),none,.i (.mov (.t 13))⟩,⟨(some 89),none,.i (.iad 1 (.t 87) (.t 88))⟩,⟨(some 90),none,.i (.ld (.t 89))⟩,⟨(some 91),none,.i (.len (.t 90))⟩,⟨(some 92),none,.i (.mov (.t 7))⟩,⟨(some 93),none,.i (.mov (.t 13))⟩,⟨(some 94),none,.i (.bin .sub (.t 93) (.c (.int .i64 1)))⟩,⟨(some 95),none,.i (.iad 1 (.t 92) (.t 94))⟩,⟨(some 96),none,.i (.ld (.t 95))⟩,⟨(some 97),none,.i (.len (.t 96))⟩,⟨(some 98),none,.i (.bin .gtr (.t 91) (.t 97))⟩]) Bz6x)) Bz6y)))
def Bz1k:AC:=(.kp [1,5,6,7,9,13] [5,25,28,31,40,5000,5001] (.dn (.seq (.seq (.reg false [⟨(some 81),none,.i (.mov (.t 13))⟩,⟨(some 82),none,.i (.mov (.t 7))⟩,⟨(some 83),none,.i (.len (.t 82))⟩,⟨(some 84),none,.i (.bin .lss (.t 81) (.t 83))⟩]) Bz40) Bz6z)))
def Bz70:AC:=(.kp [1,5,6,7,9,13] [5,25,28,31,40,5000,5001] (.dn (.block 0 (.loop Bz1k))))
def Bz71:AC:=(.kp [6,14,16,17,18,19,20] [5,25,28,31,40,109,118,124,5000,5001] (.dn (.seq (.reg false [⟨(some 127),none,.i (.mov (.t 16))⟩,⟨(some 128),none,.i (.bin .eql (.t 127) (.c (.int .i64 0)))⟩,⟨(some 129),none,.i (.mov (.t 128))⟩,⟨(some 130),(some (129,true)),.i (.mov (.t 18))⟩,⟨(some 131),(some (129,true)),.i (.bin .eql (.t 130) (.c (.int .i64 0)))⟩,⟨(some 132),none,.i (.pick (.t 129) (.t 131) (.c (.bool false)))⟩,⟨(some 133),none,.i (.mov (.t 132))⟩,⟨(some 134),(some (133,true)),.i (.mov (.t 20))⟩,⟨(some 135),(some (133,true)),.i (.bin .eql (.t 134) (.c (.int .i64 0)))⟩,⟨(some 136),none,.i (.pick (.t 133) (.t 135) (.c (.bool false)))⟩,⟨(some 137),none,.i (.mov (.t 136))⟩,⟨(some 138),(some (137,true)),.i (.mov (.t 17))⟩,⟨(some 139),(some (137,true)),.i (.mov (.t 14))⟩,⟨(some 140),(some (137,true)),.call nz10 [(.t 138),(.t 139)]⟩,⟨(some 141),none,.i (.pick (.t 137) (.t 140) (.c (.bool false)))⟩,⟨(some 142),none,.i (.mov (.t 141))⟩,⟨(some 143),(some (142,true)),.i (.mov (.t 19))⟩,⟨(some 144),(some (142,true)),.i (.len (.t 143))⟩,⟨(some 145),(some (142,true)),.i (.mov (.t 6))⟩,⟨(some 146),(some (142,true)),.i (.len (.t 145))⟩,⟨(some 147),(some (142,true)),.i (.bin .leq (.t 144) (.t 146))⟩,⟨(some 148),none,.i (.pick (.t 142) (.t 147) (.c (.bool false)))⟩,⟨(some 4),none,.i (.mov (.t 148))⟩]) (.dn .ret))))
def Bz72:AC:=(.kp [5,6,9,14,16,17,18] [5,25,28,31,40,109,118,5000,5001] (.dn (.gh (.seq (.reg false [⟨(some 122),none,.i (.lda 2 (.t 5))⟩,⟨(some 123),none,.i (.mov (.t 9))⟩,⟨(some 124),none,.call nzz [(.t 122),(.t 123)]⟩,⟨(some 121),none,.i (.mov (.t 124))⟩,⟨(some 125),none,.i (.ext 0 (.t 121))⟩,⟨(some 126),none,.i (.ext 1 (.t 121))⟩,⟨(some 19),none,.i (.mov (.t 125))⟩,⟨(some 20),none,.i (.mov (.t 126))⟩]) Bz71))))
def Bz73:AC:=(.kp [5,6,9,14,15,16] [5,25,28,31,40,109,5000,5001] (.dn (.seq (.reg true [⟨(some 113),none,.i (.lda 2 (.t 5))⟩,⟨(some 114),none,.i (.fad 0 (.t 5))⟩,⟨(some 115),none,.i (.ld (.t 114))⟩,⟨(some 116),none,.call nzy [(.t 115)]⟩,⟨(some 117),none,.i (.mov (.t 15))⟩,⟨(some 118),none,.calh nzd [(.t 113),(.t 116),(.t 117)]⟩,⟨(some 112),none,.i (.mov (.t 118))⟩,⟨(some 119),none,.i (.ext 0 (.t 112))⟩,⟨(some 120),none,.i (.ext 1 (.t 112))⟩,⟨(some 17),none,.i (.mov (.t 119))⟩,⟨(some 18),none,.i (.mov (.t 120))⟩]) Bz72)))
def Bz74:AC:=(.kp [5,6,9,14] [5,25,28,31,40,5000,5001] (.dn (.seq (.reg false [⟨(some 107),none,.i (.lda 2 (.t 5))⟩,⟨(some 108),none,.i (.mov (.t 14))⟩,⟨(some 109),none,.call nzz [(.t 107),(.t 108)]⟩,⟨(some 106),none,.i (.mov (.t 109))⟩,⟨(some 110),none,.i (.ext 0 (.t 106))⟩,⟨(some 111),none,.i (.ext 1 (.t 106))⟩,⟨(some 15),none,.i (.mov (.t 110))⟩,⟨(some 16),none,.i (.mov (.t 111))⟩]) Bz73)))
def Bz41:AC:=(.kp [1,5,6,7,9] [5,25,28,31,40,5000,5001] (.dn (.seq (.reg false [⟨(some 99),none,.i (.mov (.t 7))⟩,⟨(some 100),none,.i (.mov (.t 1))⟩,⟨(some 101),none,.i (.mov (.t 7))⟩,⟨(some 102),none,.i (.len (.t 101))⟩,⟨(some 103),none,.call nz3a [(.t 100),(.c (.int .i64 0)),(.t 102)]⟩,⟨(some 104),none,.i (.iad 1 (.t 99) (.t 103))⟩,⟨(some 105),none,.i (.ld (.t 104))⟩,⟨(some 14),none,.i (.mov (.t 105))⟩]) Bz74)))
def Bz75:AC:=(.kp [1,5,6,7,9] [5,25,28,31,40,5000,5001] (.dn (.seq (.seq (.reg false [⟨(some 13),none,.i (.mov (.c (.int .i64 1)))⟩]) Bz70) Bz41)))
def Bz76:AC:=(.kp [1,5,6,7,8,9,10,11,12] [5,25,28,31,40,5000,5001] (.dn (.seq (.seq (.reg false [⟨(some 48),none,.i (.mov (.t 8))⟩,⟨(some 49),none,.i (.bin .neq (.t 48) (.c (.int .i64 0)))⟩,⟨(some 50),none,.i (.mov (.t 49))⟩,⟨(some 51),(some (50,false)),.i (.mov (.t 10))⟩,⟨(some 52),(some (50,false)),.i (.bin .neq (.t 51) (.c (.int .i64 0)))⟩,⟨(some 53),none,.i (.pick (.t 50) (.c (.bool true)) (.t 52))⟩,⟨(some 54),none,.i (.mov (.t 53))⟩,⟨(some 55),(some (54,false)),.i (.mov (.t 12))⟩,⟨(some 56),(some (54,false)),.i (.bin .neq (.t 55) (.c (.int .i64 0)))⟩,⟨(some 57),none,.i (.pick (.t 54) (.c (.bool true)) (.t 56))⟩,⟨(some 58),none,.i (.mov (.t 57))⟩,⟨(some 59),(some (58,false)),.i (.mov (.t 7))⟩,⟨(some 60),(some (58,false)),.i (.len (.t 59))⟩,⟨(some 61),(some (58,false)),.i (.bin .lss (.t 60) (.c (.int .i64 1)))⟩,⟨(some 62),none,.i (.pick (.t 58) (.c (.bool true)) (.t 61))⟩,⟨(some 63),none,.i (.mov (.t 62))⟩,⟨(some 64),(some (63,false)),.i (.mov (.t 7))⟩,⟨(some 65),(some (63,false)),.i (.mov (.t 9))⟩,⟨(some 66),(some (63,false)),.call nz39 [(.t 64),(.t 65)]⟩,⟨(some 67),(some (63,false)),.i (.un .not (.t 66))⟩,⟨(some 68),none,.i (.pick (.t 63) (.c (.bool true)) (.t 67))⟩,⟨(some 69),none,.i (.mov (.t 68))⟩,⟨(some 70),(some (69,false)),.i (.mov (.t 11))⟩,⟨(some 71),(some (69,false)),.i (.mov (.t 7))⟩,⟨(some 72),(some (69,false)),.i (.len (.t 71))⟩,⟨(some 73),(some (69,false)),.i (.fad 0 (.t 5))⟩,⟨(some 74),(some (69,false)),.i (.ld (.t 73))⟩,⟨(some 75),(some (69,false)),.i (.cvi .u64 (.t 74))⟩,⟨(some 76),(some (69,false)),.i (.bin .shl (.c (.int .i64 1)) (.t 75))⟩,⟨(some 77),(some (69,false)),.i (.bin .sub (.t 76) (.c (.int .i64 1)))⟩,⟨(some 78),(some (69,false)),.i (.bin .eql (.t 72) (.t 77))⟩,⟨(some 79),(some (69,false)),.i (.beq true (.t 70) (.t 78))⟩,⟨(some 80),none,.i (.pick (.t 69) (.c (.bool true)) (.t 79))⟩]) Bz6w) Bz75)))
def Bz77:AC:=(.kp [1,5,6,7,8,9,10] [5,25,28,31,40,5000,5001] (.dn (.seq (.reg false [⟨(some 44),none,.i (.lda 2 (.t 5))⟩,⟨(some 45),none,.call nz38 [(.t 44)]⟩,⟨(some 43),none,.i (.mov (.t 45))⟩,⟨(some 46),none,.i (.ext 0 (.t 43))⟩,⟨(some 47),none,.i (.ext 1 (.t 43))⟩,⟨(some 11),none,.i (.mov (.t 46))⟩,⟨(some 12),none,.i (.mov (.t 47))⟩]) Bz76)))
def Bz78:AC:=(.kp [1,5,6,7,8] [5,25,28,31,5000,5001] (.dn (.seq (.reg true [⟨(some 35),none,.i (.lda 2 (.t 5))⟩,⟨(some 36),none,.i (.fad 0 (.t 5))⟩,⟨(some 37),none,.i (.ld (.t 36))⟩,⟨(some 38),none,.call nzy [(.t 37)]⟩,⟨(some 39),none,.i (.mov (.t 6))⟩,⟨(some 40),none,.calh nzd [(.t 35),(.t 38),(.t 39)]⟩,⟨(some 34),none,.i (.mov (.t 40))⟩,⟨(some 41),none,.i (.ext 0 (.t 34))⟩,⟨(some 42),none,.i (.ext 1 (.t 34))⟩,⟨(some 9),none,.i (.mov (.t 41))⟩,⟨(some 10),none,.i (.mov (.t 42))⟩]) Bz77)))
def Bz79:AC:=(.kp [1,5,6] [5,25,28,5000,5001] (.dn (.seq (.reg false [⟨(some 30),none,.i (.lda 2 (.t 5))⟩,⟨(some 31),none,.call nz37 [(.t 30)]⟩,⟨(some 29),none,.i (.mov (.t 31))⟩,⟨(some 32),none,.i (.ext 0 (.t 29))⟩,⟨(some 33),none,.i (.ext 1 (.t 29))⟩,⟨(some 7),none,.i (.mov (.t 32))⟩,⟨(some 8),none,.i (.mov (.t 33))⟩]) Bz78)))
def Bz7a:AC:=(.kp [1,5] [5,25,5000,5001] (.dn (.gh (.seq (.reg false [⟨(some 26),none,.i (.mov (.t 1))⟩,⟨(some 27),none,.i (.lda 2 (.t 5))⟩,⟨(some 28),none,.call nz36 [(.t 26),(.t 27)]⟩,⟨(some 6),none,.i (.mov (.t 28))⟩]) Bz79))))
def Bz7b:AC:=(.kp [0,1] [5000,5001] (.dn (.seq (.reg false [⟨(some 24),none,.i (.mov (.t 0))⟩,⟨(some 25),none,.call nz35 [(.t 24)]⟩,⟨(some 5),none,.i (.new [.int .i64 0,.slice none 0 0])⟩,⟨none,none,.i (.sto 2 (.t 5) (.t 25))⟩]) Bz7a)))
def Bz7c:AC:=(.kp [0,1] [5000,5001] (.dn (.seq (.seq (.reg false [⟨(some 21),none,.i (.mov (.t 0))⟩,⟨(some 22),none,.i (.mov (.t 1))⟩,⟨(some 23),none,.call nz34 [(.t 21),(.t 22)]⟩]) Bz6v) Bz7b)))
def Az7d:AFn:=⟨149,2,(.seq (.reg false [⟨(some 4),none,.i (.mov (.c (.bool false)))⟩]) Bz7c),[.tmp 4]⟩
theorem czfy:cFn (drV none) Tryz.prog nz6u Az7d:=⟨_,_,Tryz.func3,rfl,by kernel_rfl,by decide,rfl,by kernel_rfl,by kernel_rfl⟩
def Bz7e:AC:=(.kp [0,1] [5000,5001] (.dn (.seq (.reg false [⟨(some 5),none,.i (.mov (.t 0))⟩,⟨(some 6),none,.i (.len (.t 5))⟩,⟨(some 7),none,.i (.bin .gtr (.t 6) (.c (.int .i64 3000)))⟩,⟨(some 8),none,.i (.mov (.t 7))⟩,⟨(some 9),(some (8,false)),.i (.mov (.t 1))⟩,⟨(some 10),(some (8,false)),.i (.len (.t 9))⟩,⟨(some 11),(some (8,false)),.i (.bin .gtr (.t 10) (.c (.int .i64 3000)))⟩,⟨(some 12),none,.i (.pick (.t 8) (.c (.bool true)) (.t 11))⟩,⟨(some 4),none,.i (.mov (.t 12))⟩]) (.dn .ret))))
def Az7f:AFn:=⟨13,2,(.seq (.reg false [⟨(some 4),none,.i (.mov (.c (.bool false)))⟩]) Bz7e),[.tmp 4]⟩
theorem czfz:cFn (drV none) Tryz.prog nz34 Az7f:=⟨_,_,Tryz.func4,rfl,by kernel_rfl,by decide,rfl,by kernel_rfl,by kernel_rfl⟩
def Bz1l:AC:=(.kp [2,4,14] [2,4,6,8,16,5000] (.dn (.cond (.t 14) (.seq (.reg false [⟨(some 15),none,.i (.lda 2 (.t 4))⟩,⟨none,none,.i (.sto 2 (.t 2) (.t 15))⟩]) (.dn .ret)) .skip)))
def Bz42:AC:=(.kp [2] [2,4,6,8,16,5000] (.dn (.seq (.reg false [⟨(some 16),none,.call nze [(.c (.int .i64 4))]⟩,⟨none,none,.i (.sto 2 (.t 2) (.t 16))⟩]) (.dn .ret))))
def Bz7g:AC:=(.kp [2,4] [2,4,6,8,16,5000] (.dn (.seq (.seq (.reg false [⟨(some 9),none,.call nz13 [(.t 4)]⟩,⟨(some 10),none,.i (.mov (.t 9))⟩,⟨(some 11),(some (10,true)),.i (.fad 0 (.t 4))⟩,⟨(some 12),(some (10,true)),.i (.ld (.t 11))⟩,⟨(some 13),(some (10,true)),.i (.bin .leq (.t 12) (.c (.int .i64 7)))⟩,⟨(some 14),none,.i (.pick (.t 10) (.t 13) (.c (.bool false)))⟩]) Bz1l) Bz42)))
def Bz7h:AC:=(.kp [2,3] [2,4,6,8,16,5000] (.dn (.seq (.reg false [⟨(some 7),none,.i (.mov (.t 3))⟩,⟨(some 8),none,.call nz12 [(.t 7)]⟩,⟨(some 4),none,.i (.new [.int .i64 0,.slice none 0 0])⟩,⟨none,none,.i (.sto 2 (.t 4) (.t 8))⟩]) Bz7g)))
def Bz7i:AC:=(.kp [0,2] [2,4,6,8,16,5000] (.dn (.seq (.reg false [⟨(some 5),none,.i (.mov (.t 0))⟩,⟨(some 6),none,.call nz11 [(.t 5)]⟩,⟨(some 3),none,.i (.mov (.t 6))⟩]) Bz7h)))
def Azl:AFn:=⟨17,1,(.seq (.reg false [⟨(some 2),none,.i (.new [.int .i64 0,.slice none 0 0])⟩]) Bz7i),[.cell (some 2) 2]⟩
theorem czg0:cFn (drV none) Tryz.prog nz35 Azl:=⟨_,_,Tryz.func5,rfl,by kernel_rfl,by decide,rfl,by kernel_rfl,by kernel_rfl⟩
def Bz7j:AC:=(.kp [3,5,6,7,14] [3,9,10,24,5000,5001] (.dn (.cond (.t 14) .skip (.exit 0))))
def Bz7k:AC:=(.kp [3,5,6,7] [3,9,10,24,5000,5001] (.dn (.reg false [⟨(some 15),none,.i (.mov (.t 7))⟩,⟨(some 16),none,.i (.bin .sub (.t 15) (.c (.int .i64 1)))⟩,⟨(some 7),none,.i (.mov (.t 16))⟩])))
def Bz7l:AC:=(.kp [3,5,6,7] [3,9,10,24,5000,5001] (.dn (.seq (.block 1 (.reg false [⟨(some 17),none,.i (.mov (.t 6))⟩,⟨(some 18),none,.i (.mov (.t 5))⟩,⟨(some 19),none,.i (.fad 1 (.t 3))⟩,⟨(some 20),none,.i (.ld (.t 19))⟩,⟨(some 21),none,.i (.len (.t 20))⟩,⟨(some 22),none,.call nz0 [(.t 18),(.t 21)]⟩,⟨(some 23),none,.i (.bsl 1 false [(.t 22)])⟩,⟨(some 24),none,.i (.app 1 8 (.t 17) (.t 23))⟩,⟨(some 6),none,.i (.mov (.t 24))⟩])) Bz7k)))
def Bz7m:AC:=(.kp [3,5,6,7] [3,9,10,24,5000,5001] (.dn (.seq (.seq (.reg false [⟨(some 13),none,.i (.mov (.t 7))⟩,⟨(some 14),none,.i (.bin .gtr (.t 13) (.c (.int .i64 0)))⟩]) Bz7j) Bz7l)))
def Bz7n:AC:=(.kp [3,5,6,7] [3,9,10,24,5000,5001] (.dn (.block 0 (.loop Bz7m))))
def Bz7o:AC:=(.kp [6] [10,24,5000,5001] (.dn (.seq (.reg false [⟨(some 25),none,.i (.mov (.t 6))⟩,⟨(some 4),none,.i (.mov (.t 25))⟩]) (.dn .ret))))
def Bz7p:AC:=(.kp [3,5,6] [3,9,10,24,5000,5001] (.dn (.seq (.seq (.reg false [⟨(some 11),none,.i (.mov (.t 5))⟩,⟨(some 12),none,.call nz0 [(.t 11),(.c (.int .i64 9))]⟩,⟨(some 7),none,.i (.mov (.t 12))⟩]) Bz7n) Bz7o)))
def Bz7q:AC:=(.kp [3,5] [3,9,5000,5001] (.dn (.seq (.reg false [⟨(some 10),none,.i (.bsl 1 false [])⟩,⟨(some 6),none,.i (.mov (.t 10))⟩]) Bz7p)))
def Bz7r:AC:=(.kp [0,3] [3,5000,5001] (.dn (.seq (.reg false [⟨(some 8),none,.i (.mov (.t 0))⟩,⟨(some 9),none,.call nz11 [(.t 8)]⟩,⟨(some 5),none,.i (.mov (.t 9))⟩]) Bz7q)))
def Az7s:AFn:=⟨26,2,(.seq (.reg false [⟨(some 3),none,.i (.box (.t 1))⟩,⟨(some 4),none,.i (.mov (.c (.slice none 0 0)))⟩]) Bz7r),[.tmp 4]⟩
theorem czg1:cFn (drV none) Tryz.prog nz36 Az7s:=⟨_,_,Tryz.func6,rfl,by kernel_rfl,by decide,rfl,by kernel_rfl,by kernel_rfl⟩
def Bz7t:AC:=(.kp [1,9] [1,5000] (.dn (.cond (.t 9) (.seq (.reg false [⟨(some 2),none,.i (.mov (.c (.slice none 0 0)))⟩,⟨(some 3),none,.i (.mov (.c (.int .i64 1)))⟩]) (.dn .ret)) .skip)))
def Bz7u:AC:=(.kp [4,6,16,17,18] [1,10,15,26,1015,5000] (.dn (.reg false [⟨(some 22),none,.i (.mov (.t 4))⟩,⟨(some 23),none,.i (.mov (.t 6))⟩,⟨(some 24),none,.call nz14 [(.t 23)]⟩,⟨(some 25),none,.i (.bsl 1 true [(.t 24)])⟩,⟨(some 26),none,.i (.app 1 24 (.t 22) (.t 25))⟩,⟨(some 4),none,.i (.mov (.t 26))⟩])))
def Bz7v:AC:=(.kp [4,16,17,18] [1,10,15,26,1015,5000] (.dn (.reg false [⟨(some 27),none,.i (.bin .add (.t 18) (.c (.int .i64 1)))⟩,⟨(some 18),none,.i (.mov (.t 27))⟩])))
def Bz7w:AC:=(.kp [4,16,17,18] [1,10,15,26,1015,5000] (.dn (.seq (.block 1 (.seq (.reg false [⟨(some 20),none,.i (.iad 1 (.t 16) (.t 18))⟩,⟨(some 21),none,.i (.ld (.t 20))⟩,⟨(some 6),none,.i (.mov (.t 21))⟩]) Bz7u)) Bz7v)))
def Bz43:AC:=(.kp [4,16,17,18,19] [1,10,15,26,1015,5000] (.dn (.seq (.cond (.t 19) .skip (.exit 0)) Bz7w)))
def Bz1m:AC:=(.kp [4,16,17,18] [1,10,15,26,1015,5000] (.dn (.seq (.reg false [⟨(some 19),none,.i (.bin .lss (.t 18) (.t 17))⟩]) Bz43)))
def Bz7x:AC:=(.kp [4,16,17,18] [1,10,15,26,1015,5000] (.dn (.block 0 (.loop Bz1m))))
def Bz7y:AC:=(.kp [4] [10,26,5000] (.dn (.seq (.reg false [⟨(some 30),none,.i (.mov (.t 4))⟩,⟨(some 2),none,.i (.mov (.t 30))⟩,⟨(some 3),none,.i (.mov (.c (.int .i64 0)))⟩]) (.dn .ret))))
def Bz7z:AC:=(.kp [4] [10,26,5000] (.dn (.seq (.reg false [⟨(some 28),none,.i (.mov (.t 4))⟩,⟨(some 29),none,.call nz3b [(.t 28),(.f nz15)]⟩]) Bz7y)))
def Bz80:AC:=(.kp [1,4] [1,10,26,5000] (.dn (.seq (.seq (.reg true [⟨(some 11),none,.i (.lda 2 (.t 1))⟩,⟨(some 12),none,.i (.lda 2 (.t 1))⟩,⟨(some 13),none,.call nzh [(.t 12)]⟩,⟨(some 14),none,.call nz9 [(.t 13)]⟩,⟨(some 15),none,.call nzg [(.t 11),(.t 14)]⟩,⟨(some 16),none,.i (.fld 0 (.t 15))⟩,⟨(some 17),none,.i (.len (.t 16))⟩,⟨(some 18),none,.i (.mov (.c (.int .i64 0)))⟩]) Bz7x) Bz7z)))
def Bz81:AC:=(.kp [1] [1,5000] (.dn (.seq (.reg false [⟨(some 10),none,.i (.bsl 1 true [])⟩,⟨(some 4),none,.i (.mov (.t 10))⟩]) Bz80)))
def Bz82:AC:=(.kp [1] [1,5000] (.dn (.seq (.seq (.reg false [⟨(some 7),none,.i (.lda 2 (.t 1))⟩,⟨(some 8),none,.call nzf [(.t 7)]⟩,⟨(some 9),none,.i (.un .not (.t 8))⟩]) Bz7t) Bz81)))
def Az44:AFn:=⟨31,1,(.seq (.reg false [⟨(some 1),none,.i (.box (.t 0))⟩,⟨(some 2),none,.i (.mov (.c (.slice none 0 0)))⟩,⟨(some 3),none,.i (.mov (.c (.int .i64 0)))⟩]) Bz82),[.tmp 2,.tmp 3]⟩
theorem czg2:cFn (drV none) Tryz.prog nz37 Az44:=⟨_,_,Tryz.func7,rfl,by kernel_rfl,by decide,rfl,by kernel_rfl,by kernel_rfl⟩
def Bz1n:AC:=(.kp [3,4,5,8,13] [3,4,5,5000,5001,5002] (.dn (.cond (.t 13) (.seq (.reg false [⟨(some 14),none,.i (.mov (.t 8))⟩,⟨(some 6),none,.i (.mov (.c (.slice none 0 0)))⟩,⟨(some 7),none,.i (.mov (.t 14))⟩]) (.dn .ret)) .skip)))
def Bz1o:AC:=(.kp [3,4,5,8] [3,4,5,5000,5001,5002] (.dn (.seq (.reg false [⟨(some 12),none,.i (.mov (.t 8))⟩,⟨(some 13),none,.i (.bin .neq (.t 12) (.c (.int .i64 0)))⟩]) Bz1n)))
def Bz83:AC:=(.kp [3,4,5] [3,4,5,5000,5001,5002] (.dn (.seq (.reg false [⟨(some 15),none,.i (.lda 2 (.t 3))⟩,⟨(some 16),none,.i (.ld (.t 4))⟩,⟨(some 17),none,.i (.ld (.t 5))⟩,⟨(some 18),none,.call nz3g [(.t 15),(.t 16),(.t 17)]⟩,⟨(some 6),none,.i (.mov (.t 18))⟩,⟨(some 7),none,.i (.mov (.c (.int .i64 0)))⟩]) (.dn .ret))))
def Bz84:AC:=(.kp [3,4,5] [3,4,5,5000,5001,5002] (.dn (.seq (.seq (.reg false [⟨(some 9),none,.i (.lda 2 (.t 3))⟩,⟨(some 10),none,.i (.mkf nz17 [(.t 4),(.t 3),(.t 5)])⟩,⟨(some 11),none,.call nz16 [(.t 9),(.t 10)]⟩,⟨(some 8),none,.i (.mov (.t 11))⟩]) Bz1o) Bz83)))
def Az85:AFn:=⟨19,3,(.seq (.reg false [⟨(some 3),none,.i (.box (.t 0))⟩,⟨(some 4),none,.i (.box (.t 1))⟩,⟨(some 5),none,.i (.box (.t 2))⟩,⟨(some 6),none,.i (.mov (.c (.slice none 0 0)))⟩,⟨(some 7),none,.i (.mov (.c (.int .i64 0)))⟩]) Bz84),[.tmp 6,.tmp 7]⟩
theorem czg3:cFn (drV none) Tryz.prog nzd Az85:=⟨_,_,Tryz.func8,rfl,by kernel_rfl,by decide,rfl,by kernel_rfl,by kernel_rfl⟩
def Bz45:AC:=(.kp [0,3,4,8] [5,14,5000] (.dn (.cond (.t 8) .skip (.exit 0))))
def Bz86:AC:=(.kp [0,3,4] [5,14,5000] (.dn (.reg false [⟨(some 9),none,.i (.mov (.t 4))⟩,⟨(some 10),none,.i (.bin .add (.t 9) (.c (.int .i64 1)))⟩,⟨(some 4),none,.i (.mov (.t 10))⟩])))
def Bz46:AC:=(.kp [0,3,4] [5,14,5000] (.dn (.seq (.block 1 (.reg false [⟨(some 11),none,.i (.mov (.t 3))⟩,⟨(some 12),none,.i (.mov (.t 4))⟩,⟨(some 13),none,.i (.bsl 1 false [(.t 12)])⟩,⟨(some 14),none,.i (.app 1 8 (.t 11) (.t 13))⟩,⟨(some 3),none,.i (.mov (.t 14))⟩])) Bz86)))
def Bz1p:AC:=(.kp [0,3,4] [5,14,5000] (.dn (.seq (.seq (.reg false [⟨(some 6),none,.i (.mov (.t 4))⟩,⟨(some 7),none,.i (.mov (.t 0))⟩,⟨(some 8),none,.i (.bin .lss (.t 6) (.t 7))⟩]) Bz45) Bz46)))
def Bz87:AC:=(.kp [0,3,4] [5,14,5000] (.dn (.block 0 (.loop Bz1p))))
def Bz88:AC:=(.kp [3] [5,14,5000] (.dn (.seq (.reg false [⟨(some 15),none,.i (.mov (.t 3))⟩,⟨(some 2),none,.i (.mov (.t 15))⟩]) (.dn .ret))))
def Bz89:AC:=(.kp [0,3] [5,14,5000] (.dn (.seq (.seq (.reg false [⟨(some 4),none,.i (.mov (.c (.int .i64 0)))⟩]) Bz87) Bz88)))
def Bz8a:AC:=(.kp [0] [5000] (.dn (.seq (.reg false [⟨(some 5),none,.i (.bsl 1 false [])⟩,⟨(some 3),none,.i (.mov (.t 5))⟩]) Bz89)))
def Az8b:AFn:=⟨16,1,(.seq (.reg false [⟨(some 2),none,.i (.mov (.c (.slice none 0 0)))⟩]) Bz8a),[.tmp 2]⟩
theorem czg4:cFn (drV none) Tryz.prog nzy Az8b:=⟨_,_,Tryz.func9,rfl,by kernel_rfl,by decide,rfl,by kernel_rfl,by kernel_rfl⟩
def Bz8c:AC:=(.kp [1,6] [1,5000] (.dn (.cond (.t 6) (.seq (.reg false [⟨(some 2),none,.i (.mov (.c (.bool false)))⟩,⟨(some 3),none,.i (.mov (.c (.int .i64 1)))⟩]) (.dn .ret)) .skip)))
def Bz8d:AC:=(.kp [1] [1,5000] (.dn (.seq (.reg true [⟨(some 7),none,.i (.lda 2 (.t 1))⟩,⟨(some 8),none,.i (.lda 2 (.t 1))⟩,⟨(some 9),none,.call nzh [(.t 8)]⟩,⟨(some 10),none,.call nz9 [(.t 9)]⟩,⟨(some 11),none,.call nzg [(.t 7),(.t 10)]⟩,⟨(some 12),none,.i (.fld 0 (.t 11))⟩,⟨(some 13),none,.i (.len (.t 12))⟩,⟨(some 14),none,.i (.fad 0 (.t 1))⟩,⟨(some 15),none,.i (.ld (.t 14))⟩,⟨(some 16),none,.i (.bin .shl (.c (.int .i64 1)) (.t 15))⟩,⟨(some 17),none,.i (.bin .sub (.t 16) (.c (.int .i64 1)))⟩,⟨(some 18),none,.i (.bin .eql (.t 13) (.t 17))⟩,⟨(some 2),none,.i (.mov (.t 18))⟩,⟨(some 3),none,.i (.mov (.c (.int .i64 0)))⟩]) (.dn .ret))))
def Bz8e:AC:=(.kp [1] [1,5000] (.dn (.seq (.seq (.reg false [⟨(some 4),none,.i (.lda 2 (.t 1))⟩,⟨(some 5),none,.call nzf [(.t 4)]⟩,⟨(some 6),none,.i (.un .not (.t 5))⟩]) Bz8c) Bz8d)))
def Az8f:AFn:=⟨19,1,(.seq (.reg false [⟨(some 1),none,.i (.box (.t 0))⟩,⟨(some 2),none,.i (.mov (.c (.bool false)))⟩,⟨(some 3),none,.i (.mov (.c (.int .i64 0)))⟩]) Bz8e),[.tmp 2,.tmp 3]⟩
theorem czg5:cFn (drV none) Tryz.prog nz38 Az8f:=⟨_,_,Tryz.func10,rfl,by kernel_rfl,by decide,rfl,by kernel_rfl,by kernel_rfl⟩
def Bz47:AC:=(.kp [0,1,5,9] [5000,5001] (.dn (.cond (.t 9) .skip (.exit 0))))
def Bz8g:AC:=(.kp [0,1,5,17] [5000,5001] (.dn (.cond (.t 17) (.seq (.reg false [⟨(some 4),none,.i (.mov (.c (.bool true)))⟩]) (.dn .ret)) .skip)))
def Bz8h:AC:=(.kp [0,1,5] [5000,5001] (.dn (.reg false [⟨(some 10),none,.i (.mov (.t 5))⟩,⟨(some 11),none,.i (.bin .add (.t 10) (.c (.int .i64 1)))⟩,⟨(some 5),none,.i (.mov (.t 11))⟩])))
def Bz48:AC:=(.kp [0,1,5] [5000,5001] (.dn (.seq (.block 1 (.seq (.reg false [⟨(some 12),none,.i (.mov (.t 0))⟩,⟨(some 13),none,.i (.mov (.t 5))⟩,⟨(some 14),none,.i (.iad 1 (.t 12) (.t 13))⟩,⟨(some 15),none,.i (.ld (.t 14))⟩,⟨(some 16),none,.i (.mov (.t 1))⟩,⟨(some 17),none,.call nz10 [(.t 15),(.t 16)]⟩]) Bz8g)) Bz8h)))
def Bz1q:AC:=(.kp [0,1,5] [5000,5001] (.dn (.seq (.seq (.reg false [⟨(some 6),none,.i (.mov (.t 5))⟩,⟨(some 7),none,.i (.mov (.t 0))⟩,⟨(some 8),none,.i (.len (.t 7))⟩,⟨(some 9),none,.i (.bin .lss (.t 6) (.t 8))⟩]) Bz47) Bz48)))
def Bz8i:AC:=(.kp [0,1,5] [5000,5001] (.dn (.block 0 (.loop Bz1q))))
def Bz8j:AC:=(.kp [] [5000,5001] (.dn (.seq (.reg false [⟨(some 4),none,.i (.mov (.c (.bool false)))⟩]) (.dn .ret))))
def Bz8k:AC:=(.kp [0,1] [5000,5001] (.dn (.seq (.seq (.reg false [⟨(some 5),none,.i (.mov (.c (.int .i64 0)))⟩]) Bz8i) Bz8j)))
def Az8l:AFn:=⟨18,2,(.seq (.reg false [⟨(some 4),none,.i (.mov (.c (.bool false)))⟩]) Bz8k),[.tmp 4]⟩
theorem czg6:cFn (drV none) Tryz.prog nz39 Az8l:=⟨_,_,Tryz.func11,rfl,by kernel_rfl,by decide,rfl,by kernel_rfl,by kernel_rfl⟩
def Bz1r:AC:=(.kp [0,1,2,14] [5000,5001,5002] (.dn (.cond (.t 14) (.seq (.reg false [⟨(some 6),none,.i (.mov (.c (.int .i64 0)))⟩]) (.dn .ret)) .skip)))
def Bz1s:AC:=(.kp [0,1,2] [5000,5001,5002] (.dn (.seq (.reg false [⟨(some 15),none,.i (.mov (.t 0))⟩,⟨(some 16),none,.i (.mov (.t 1))⟩,⟨(some 17),none,.i (.iad 1 (.t 15) (.t 16))⟩,⟨(some 18),none,.i (.ld (.t 17))⟩,⟨(some 19),none,.i (.cvi .i64 (.t 18))⟩,⟨(some 20),none,.i (.mov (.t 2))⟩,⟨(some 21),none,.i (.bin .rem (.t 19) (.t 20))⟩,⟨(some 6),none,.i (.mov (.t 21))⟩]) (.dn .ret))))
def Bz1t:AC:=(.kp [0,1,2] [5000,5001,5002] (.dn (.seq (.seq (.reg false [⟨(some 7),none,.i (.mov (.t 1))⟩,⟨(some 8),none,.i (.mov (.t 0))⟩,⟨(some 9),none,.i (.len (.t 8))⟩,⟨(some 10),none,.i (.bin .geq (.t 7) (.t 9))⟩,⟨(some 11),none,.i (.mov (.t 10))⟩,⟨(some 12),(some (11,false)),.i (.mov (.t 2))⟩,⟨(some 13),(some (11,false)),.i (.bin .lss (.t 12) (.c (.int .i64 1)))⟩,⟨(some 14),none,.i (.pick (.t 11) (.c (.bool true)) (.t 13))⟩]) Bz1r) Bz1s)))
def Az1u:AFn:=⟨22,3,(.seq (.reg false [⟨(some 6),none,.i (.mov (.c (.int .i64 0)))⟩]) Bz1t),[.tmp 6]⟩
theorem czg7:cFn (drV none) Tryz.prog nz3a Az1u:=⟨_,_,Tryz.func12,rfl,by kernel_rfl,by decide,rfl,by kernel_rfl,by kernel_rfl⟩
def Bz8m:AC:=(.kp [2,3,6,11] [2,3,5000,5001] (.dn (.cond (.t 11) (.seq (.reg false [⟨(some 12),none,.i (.mov (.t 6))⟩,⟨(some 4),none,.i (.mov (.c (.slice none 0 0)))⟩,⟨(some 5),none,.i (.mov (.t 12))⟩]) (.dn .ret)) .skip)))
def Bz8n:AC:=(.kp [2,3,6] [2,3,5000,5001] (.dn (.seq (.reg false [⟨(some 10),none,.i (.mov (.t 6))⟩,⟨(some 11),none,.i (.bin .neq (.t 10) (.c (.int .i64 0)))⟩]) Bz8m)))
def Bz8o:AC:=(.kp [2,3] [2,3,5000,5001] (.dn (.seq (.reg true [⟨(some 13),none,.i (.lda 2 (.t 2))⟩,⟨(some 14),none,.i (.lda 2 (.t 2))⟩,⟨(some 15),none,.call nzh [(.t 14)]⟩,⟨(some 16),none,.call nz9 [(.t 15)]⟩,⟨(some 17),none,.call nzg [(.t 13),(.t 16)]⟩,⟨(some 18),none,.i (.mkf nz1a [(.t 3)])⟩,⟨(some 19),none,.calh nz3h [(.t 17),(.t 18)]⟩,⟨(some 20),none,.i (.ext 0 (.t 19))⟩,⟨(some 21),none,.i (.ext 1 (.t 19))⟩,⟨(some 4),none,.i (.mov (.t 20))⟩,⟨(some 5),none,.i (.mov (.t 21))⟩]) (.dn .ret))))
def Bz8p:AC:=(.kp [2,3] [2,3,5000,5001] (.dn (.seq (.seq (.reg false [⟨(some 7),none,.i (.lda 2 (.t 2))⟩,⟨(some 8),none,.i (.mkf nz19 [(.t 3),(.t 2)])⟩,⟨(some 9),none,.call nz16 [(.t 7),(.t 8)]⟩,⟨(some 6),none,.i (.mov (.t 9))⟩]) Bz8n) Bz8o)))
def Az1v:AFn:=⟨22,2,(.seq (.reg false [⟨(some 2),none,.i (.box (.t 0))⟩,⟨(some 3),none,.i (.box (.t 1))⟩,⟨(some 4),none,.i (.mov (.c (.slice none 0 0)))⟩,⟨(some 5),none,.i (.mov (.c (.int .i64 0)))⟩]) Bz8p),[.tmp 4,.tmp 5]⟩
theorem czg8:cFn (drV none) Tryz.prog nzz Az1v:=⟨_,_,Tryz.func13,rfl,by kernel_rfl,by decide,rfl,by kernel_rfl,by kernel_rfl⟩
def Bz49:AC:=(.kp [0,1,10] [5000,5001] (.dn (.cond (.t 10) (.seq (.reg false [⟨(some 4),none,.i (.mov (.c (.bool false)))⟩]) (.dn .ret)) .skip)))
def Bz4a:AC:=(.kp [0,1,5,14] [5000,5001] (.dn (.cond (.t 14) .skip (.exit 0))))
def Bz8q:AC:=(.kp [0,1,5,25] [5000,5001] (.dn (.cond (.t 25) (.seq (.reg false [⟨(some 4),none,.i (.mov (.c (.bool false)))⟩]) (.dn .ret)) .skip)))
def Bz8r:AC:=(.kp [0,1,5] [5000,5001] (.dn (.reg false [⟨(some 15),none,.i (.mov (.t 5))⟩,⟨(some 16),none,.i (.bin .add (.t 15) (.c (.int .i64 1)))⟩,⟨(some 5),none,.i (.mov (.t 16))⟩])))
def Bz4b:AC:=(.kp [0,1,5] [5000,5001] (.dn (.seq (.block 1 (.seq (.reg true [⟨(some 17),none,.i (.mov (.t 0))⟩,⟨(some 18),none,.i (.mov (.t 5))⟩,⟨(some 19),none,.i (.iad 1 (.t 17) (.t 18))⟩,⟨(some 20),none,.i (.ld (.t 19))⟩,⟨(some 21),none,.i (.mov (.t 1))⟩,⟨(some 22),none,.i (.mov (.t 5))⟩,⟨(some 23),none,.i (.iad 1 (.t 21) (.t 22))⟩,⟨(some 24),none,.i (.ld (.t 23))⟩,⟨(some 25),none,.i (.bin .neq (.t 20) (.t 24))⟩]) Bz8q)) Bz8r)))
def Bz1w:AC:=(.kp [0,1,5] [5000,5001] (.dn (.seq (.seq (.reg false [⟨(some 11),none,.i (.mov (.t 5))⟩,⟨(some 12),none,.i (.mov (.t 0))⟩,⟨(some 13),none,.i (.len (.t 12))⟩,⟨(some 14),none,.i (.bin .lss (.t 11) (.t 13))⟩]) Bz4a) Bz4b)))
def Bz8s:AC:=(.kp [0,1,5] [5000,5001] (.dn (.block 0 (.loop Bz1w))))
def Bz8t:AC:=(.kp [] [5000,5001] (.dn (.seq (.reg false [⟨(some 4),none,.i (.mov (.c (.bool true)))⟩]) (.dn .ret))))
def Bz8u:AC:=(.kp [0,1] [5000,5001] (.dn (.seq (.seq (.reg false [⟨(some 5),none,.i (.mov (.c (.int .i64 0)))⟩]) Bz8s) Bz8t)))
def Bz8v:AC:=(.kp [0,1] [5000,5001] (.dn (.seq (.seq (.reg false [⟨(some 6),none,.i (.mov (.t 0))⟩,⟨(some 7),none,.i (.len (.t 6))⟩,⟨(some 8),none,.i (.mov (.t 1))⟩,⟨(some 9),none,.i (.len (.t 8))⟩,⟨(some 10),none,.i (.bin .neq (.t 7) (.t 9))⟩]) Bz49) Bz8u)))
def Az8w:AFn:=⟨26,2,(.seq (.reg false [⟨(some 4),none,.i (.mov (.c (.bool false)))⟩]) Bz8v),[.tmp 4]⟩
theorem czg9:cFn (drV none) Tryz.prog nz10 Az8w:=⟨_,_,Tryz.func14,rfl,by kernel_rfl,by decide,rfl,by kernel_rfl,by kernel_rfl⟩
def Bz8x:AC:=(.kp [0] [5000] (.dn (.seq (.reg false [⟨(some 3),none,.i (.mov (.t 0))⟩,⟨(some 4),none,.i (.bst [.slice none 0 0,.int .i64 0,.int .u64 0] [(0,1,(.t 3))])⟩,⟨(some 5),none,.i (.box (.t 4))⟩,⟨(some 2),none,.i (.mov (.t 5))⟩]) (.dn .ret))))
def Az8y:AFn:=⟨6,1,(.seq (.reg false [⟨(some 2),none,.i (.mov (.c (.pointer none)))⟩]) Bz8x),[.tmp 2]⟩
theorem czga:cFn (drV none) Tryz.prog nz11 Az8y:=⟨_,_,Tryz.func15,rfl,by kernel_rfl,by decide,rfl,by kernel_rfl,by kernel_rfl⟩
def Bz4c:AC:=(.kp [2,3,4,16] [2,3,6,5000,901] (.cond (.t 16) .skip (.exit 0)))
def Bz8z:AC:=(.kp [2,3,4] [2,3,6,5000,901] (.regi false [⟨(some 17),none,.i (.mov (.t 4))⟩,⟨(some 18),none,.i (.bin .add (.t 17) (.c (.int .i64 1)))⟩,⟨(some 4),none,.i (.mov (.t 18))⟩]))
def Bz90:AC:=(.kp [2,3,4] [2,3,6,5000,901] (.seq (.block 1 (.regi true [⟨(some 19),none,.i (.fad 1 (.t 3))⟩,⟨(some 20),none,.i (.ld (.t 19))⟩,⟨(some 21),none,.i (.iad 1 (.t 20) (.c (.int .i64 0)))⟩,⟨(some 22),none,.i (.ld (.t 21))⟩,⟨(some 23),none,.i (.mov (.t 4))⟩,⟨(some 24),none,.i (.mov (.t 4))⟩,⟨(some 25),none,.i (.bin .add (.t 24) (.c (.int .i64 1)))⟩,⟨(some 26),none,.i (.fad 0 (.t 3))⟩,⟨(some 27),none,.i (.ld (.t 26))⟩,⟨(some 28),none,.i (.bin .rem (.t 25) (.t 27))⟩,⟨(some 29),none,.i (.iad 1 (.t 22) (.t 23))⟩,⟨none,none,.i (.sto 1 (.t 29) (.t 28))⟩])) Bz8z))
def Bz1x:AC:=(.kp [2,3,4] [2,3,6,5000,901] (.seq (.seq (.regi false [⟨(some 13),none,.i (.mov (.t 4))⟩,⟨(some 14),none,.i (.fad 0 (.t 3))⟩,⟨(some 15),none,.i (.ld (.t 14))⟩,⟨(some 16),none,.i (.bin .lss (.t 13) (.t 15))⟩]) Bz4c) Bz90))
def Bz91:AC:=(.kp [2,3,4] [2,3,6,5000,901] (.gh (.block 0 (.loop Bz1x))))
def Bz1y:AC:=(.kp [2,3,12] [2,3,6,5000,901] (.cond (.t 12) (.seq (.regi false [⟨(some 4),none,.i (.mov (.c (.int .i64 0)))⟩]) Bz91) .skip))
def Bz1z:AC:=(.kp [2,3] [2,3,6,5000,901] (.gh (.seq (.regi false [⟨(some 30),none,.i (.lda 2 (.t 3))⟩,⟨none,none,.i (.sto 2 (.t 2) (.t 30))⟩]) .ret)))
def Bz92:AC:=(.kp [0,2,3] [2,3,6,5000,901] (.seq (.seq (.regi false [⟨(some 7),none,.call nz13 [(.t 3)]⟩,⟨(some 8),none,.i (.mov (.t 7))⟩,⟨(some 9),(some (8,true)),.i (.mov (.t 0))⟩,⟨(some 10),(some (8,true)),.call nz4 [(.t 9),(.c (.int .i64 4))]⟩,⟨(some 11),(some (8,true)),.i (.un .not (.t 10))⟩,⟨(some 12),none,.i (.pick (.t 8) (.t 11) (.c (.bool false)))⟩]) Bz1y) Bz1z))
def Bz93:AC:=(.kp [0,2] [2,3,6,5000,901] (.seq (.regi false [⟨(some 5),none,.i (.mov (.t 0))⟩,⟨(some 6),none,.call nz3i [(.t 5)]⟩,⟨(some 3),none,.i (.new [.int .i64 0,.slice none 0 0])⟩,⟨none,none,.i (.sto 2 (.t 3) (.t 6))⟩]) Bz92))
def Az20:AFn:=⟨31,1,(.seq (.regi false [⟨(some 2),none,.i (.new [.int .i64 0,.slice none 0 0])⟩]) Bz93),[.cell (some 2) 2]⟩
theorem czgb:cFn (drV none) Tryz.prog nz12 Az20:=⟨_,_,Tryz.func16,rfl,by kernel_rfl,by decide,rfl,by kernel_rfl,by kernel_rfl⟩
def Bz21:AC:=(.kp [0,18] [5000] (.dn (.cond (.t 18) (.seq (.reg false [⟨(some 2),none,.i (.mov (.c (.bool false)))⟩]) (.dn .ret)) .skip)))
def Bz4d:AC:=(.kp [0,3,25] [5000] (.dn (.cond (.t 25) .skip (.exit 0))))
def Bz94:AC:=(.kp [0,3,40] [5000] (.dn (.cond (.t 40) (.seq (.reg false [⟨(some 2),none,.i (.mov (.c (.bool false)))⟩]) (.dn .ret)) .skip)))
def Bz95:AC:=(.kp [0,3] [5000] (.dn (.reg false [⟨(some 26),none,.i (.mov (.t 3))⟩,⟨(some 27),none,.i (.bin .add (.t 26) (.c (.int .i64 1)))⟩,⟨(some 3),none,.i (.mov (.t 27))⟩])))
def Bz4e:AC:=(.kp [0,3] [5000] (.dn (.seq (.block 1 (.seq (.reg true [⟨(some 28),none,.i (.mov (.t 0))⟩,⟨(some 29),none,.i (.nilck (.t 28))⟩,⟨(some 30),none,.i (.fad 1 (.t 29))⟩,⟨(some 31),none,.i (.ld (.t 30))⟩,⟨(some 32),none,.i (.mov (.t 3))⟩,⟨(some 33),none,.i (.iad 1 (.t 31) (.t 32))⟩,⟨(some 34),none,.i (.ld (.t 33))⟩,⟨(some 35),none,.i (.mov (.t 0))⟩,⟨(some 36),none,.i (.nilck (.t 35))⟩,⟨(some 37),none,.i (.fad 0 (.t 36))⟩,⟨(some 38),none,.i (.ld (.t 37))⟩,⟨(some 39),none,.calh nz3j [(.t 34),(.t 38)]⟩,⟨(some 40),none,.i (.un .not (.t 39))⟩]) Bz94)) Bz95)))
def Bz22:AC:=(.kp [0,3] [5000] (.dn (.seq (.seq (.reg false [⟨(some 19),none,.i (.mov (.t 3))⟩,⟨(some 20),none,.i (.mov (.t 0))⟩,⟨(some 21),none,.i (.nilck (.t 20))⟩,⟨(some 22),none,.i (.fad 1 (.t 21))⟩,⟨(some 23),none,.i (.ld (.t 22))⟩,⟨(some 24),none,.i (.len (.t 23))⟩,⟨(some 25),none,.i (.bin .lss (.t 19) (.t 24))⟩]) Bz4d) Bz4e)))
def Bz96:AC:=(.kp [0,3] [5000] (.dn (.block 0 (.loop Bz22))))
def Bz97:AC:=(.kp [] [5000] (.dn (.seq (.reg false [⟨(some 2),none,.i (.mov (.c (.bool true)))⟩]) (.dn .ret))))
def Bz98:AC:=(.kp [0] [5000] (.dn (.seq (.seq (.reg false [⟨(some 3),none,.i (.mov (.c (.int .i64 0)))⟩]) Bz96) Bz97)))
def Bz99:AC:=(.kp [0] [5000] (.dn (.seq (.seq (.reg false [⟨(some 4),none,.i (.mov (.t 0))⟩,⟨(some 5),none,.i (.nilck (.t 4))⟩,⟨(some 6),none,.i (.fad 0 (.t 5))⟩,⟨(some 7),none,.i (.ld (.t 6))⟩,⟨(some 8),none,.call nzi [(.t 7),(.c (.int .i64 1)),(.c (.int .i64 10))]⟩,⟨(some 9),none,.i (.un .not (.t 8))⟩,⟨(some 10),none,.i (.mov (.t 9))⟩,⟨(some 11),(some (10,false)),.i (.mov (.t 0))⟩,⟨(some 12),(some (10,false)),.i (.nilck (.t 11))⟩,⟨(some 13),(some (10,false)),.i (.fad 1 (.t 12))⟩,⟨(some 14),(some (10,false)),.i (.ld (.t 13))⟩,⟨(some 15),(some (10,false)),.i (.len (.t 14))⟩,⟨(some 16),(some (10,false)),.call nzi [(.t 15),(.c (.int .i64 1)),(.c (.int .i64 3))]⟩,⟨(some 17),(some (10,false)),.i (.un .not (.t 16))⟩,⟨(some 18),none,.i (.pick (.t 10) (.c (.bool true)) (.t 17))⟩]) Bz21) Bz98)))
def Az9a:AFn:=⟨41,1,(.seq (.reg false [⟨(some 2),none,.i (.mov (.c (.bool false)))⟩]) Bz99),[.tmp 2]⟩
theorem czgc:cFn (drV none) Tryz.prog nz13 Az9a:=⟨_,_,Tryz.func17,rfl,by kernel_rfl,by decide,rfl,by kernel_rfl,by kernel_rfl⟩
def Bz4f:AC:=(.kp [0,2,3,4,5,10] [2,6,7,19,26,30,5000] (.cond (.t 10) .skip (.exit 0)))
def Bz9b:AC:=(.kp [0,2,3,4,5] [2,6,7,19,26,30,5000] (.regi false [⟨(some 20),none,.i (.mov (.t 4))⟩,⟨(some 21),none,.i (.mov (.t 5))⟩,⟨(some 22),none,.i (.mov (.t 0))⟩,⟨(some 23),none,.i (.bin .sub (.t 22) (.c (.int .i64 1)))⟩,⟨(some 24),none,.i (.bin .rem (.t 21) (.t 23))⟩,⟨(some 25),none,.i (.bsl 1 false [(.t 24)])⟩,⟨(some 26),none,.i (.app 1 8 (.t 20) (.t 25))⟩,⟨(some 4),none,.i (.mov (.t 26))⟩]))
def Bz9c:AC:=(.kp [0,2,3,4,5] [2,6,7,19,26,30,5000] (.regi false [⟨(some 11),none,.i (.mov (.t 5))⟩,⟨(some 12),none,.i (.bin .add (.t 11) (.c (.int .i64 1)))⟩,⟨(some 5),none,.i (.mov (.t 12))⟩]))
def Bz9d:AC:=(.kp [0,2,3,4,5] [2,6,7,19,26,30,5000] (.seq (.block 1 (.seq (.regi false [⟨(some 13),none,.i (.mov (.t 3))⟩,⟨(some 14),none,.i (.mov (.t 5))⟩,⟨(some 15),none,.i (.bin .add (.t 14) (.c (.int .i64 1)))⟩,⟨(some 16),none,.i (.mov (.t 0))⟩,⟨(some 17),none,.i (.bin .rem (.t 15) (.t 16))⟩,⟨(some 18),none,.i (.bsl 1 false [(.t 17)])⟩,⟨(some 19),none,.i (.app 1 8 (.t 13) (.t 18))⟩,⟨(some 3),none,.i (.mov (.t 19))⟩]) Bz9b)) Bz9c))
def Bz23:AC:=(.kp [0,2,3,4,5] [2,6,7,19,26,30,5000] (.seq (.seq (.regi false [⟨(some 8),none,.i (.mov (.t 5))⟩,⟨(some 9),none,.i (.mov (.t 0))⟩,⟨(some 10),none,.i (.bin .lss (.t 8) (.t 9))⟩]) Bz4f) Bz9d))
def Bz9e:AC:=(.kp [0,2,3,4,5] [2,6,7,19,26,30,5000] (.block 0 (.loop Bz23)))
def Bz9f:AC:=(.kp [0,2,3,4] [2,6,7,19,26,30,5000] (.seq (.regi false [⟨(some 27),none,.i (.mov (.t 0))⟩,⟨(some 28),none,.i (.mov (.t 3))⟩,⟨(some 29),none,.i (.mov (.t 4))⟩,⟨(some 30),none,.i (.bsl 1 true [(.t 28),(.t 29)])⟩,⟨(some 31),none,.i (.bst [.int .i64 0,.slice none 0 0] [(0,1,(.t 27)),(1,1,(.t 30))])⟩,⟨none,none,.i (.sto 2 (.t 2) (.t 31))⟩]) .ret))
def Bz9g:AC:=(.kp [0,2,3,4] [2,6,7,19,26,30,5000] (.seq (.seq (.regi false [⟨(some 5),none,.i (.mov (.c (.int .i64 0)))⟩]) Bz9e) Bz9f))
def Bz9h:AC:=(.kp [0,2,3] [2,6,19,30,5000] (.seq (.regi false [⟨(some 7),none,.i (.bsl 1 false [])⟩,⟨(some 4),none,.i (.mov (.t 7))⟩]) Bz9g))
def Bz9i:AC:=(.kp [0,2] [2,30,5000] (.seq (.regi false [⟨(some 6),none,.i (.bsl 1 false [])⟩,⟨(some 3),none,.i (.mov (.t 6))⟩]) Bz9h))
def Az4g:AFn:=⟨32,1,(.seq (.regi false [⟨(some 2),none,.i (.new [.int .i64 0,.slice none 0 0])⟩]) Bz9i),[.cell (some 2) 2]⟩
theorem czgd:cFn (drV none) Tryz.prog nze Az4g:=⟨_,_,Tryz.func18,rfl,by kernel_rfl,by decide,rfl,by kernel_rfl,by kernel_rfl⟩
def Bz4h:AC:=(.kp [0,1,7] [5000,5001] (.dn (.cond (.t 7) (.seq (.reg false [⟨(some 4),none,.i (.mov (.c (.int .i64 0)))⟩]) (.dn .ret)) .skip)))
def Bz4i:AC:=(.kp [0,1,5,11] [5000,5001] (.dn (.cond (.t 11) (.reg false [⟨(some 12),none,.i (.mov (.t 5))⟩,⟨(some 13),none,.i (.bin .mul (.t 12) (.c (.int .i64 256)))⟩,⟨(some 14),none,.i (.mov (.t 0))⟩,⟨(some 15),none,.call nz1b [(.t 14)]⟩,⟨(some 16),none,.i (.bin .add (.t 13) (.t 15))⟩,⟨(some 5),none,.i (.mov (.t 16))⟩]) .skip)))
def Bz4j:AC:=(.kp [1,5] [5000,5001] (.dn (.seq (.reg false [⟨(some 17),none,.i (.mov (.t 5))⟩,⟨(some 18),none,.i (.mov (.t 1))⟩,⟨(some 19),none,.i (.bin .rem (.t 17) (.t 18))⟩,⟨(some 4),none,.i (.mov (.t 19))⟩]) (.dn .ret))))
def Bz4k:AC:=(.kp [0,1,5] [5000,5001] (.dn (.seq (.seq (.reg false [⟨(some 10),none,.i (.mov (.t 1))⟩,⟨(some 11),none,.i (.bin .gtr (.t 10) (.c (.int .i64 200)))⟩]) Bz4i) Bz4j)))
def Bz4l:AC:=(.kp [0,1] [5000,5001] (.dn (.seq (.reg false [⟨(some 8),none,.i (.mov (.t 0))⟩,⟨(some 9),none,.call nz1b [(.t 8)]⟩,⟨(some 5),none,.i (.mov (.t 9))⟩]) Bz4k)))
def Bz4m:AC:=(.kp [0,1] [5000,5001] (.dn (.seq (.seq (.reg false [⟨(some 6),none,.i (.mov (.t 1))⟩,⟨(some 7),none,.i (.bin .leq (.t 6) (.c (.int .i64 1)))⟩]) Bz4h) Bz4l)))
def Az4n:AFn:=⟨20,2,(.seq (.reg false [⟨(some 4),none,.i (.mov (.c (.int .i64 0)))⟩]) Bz4m),[.tmp 4]⟩
theorem czge:cFn (drV none) Tryz.prog nz0 Az4n:=⟨_,_,Tryz.func19,rfl,by kernel_rfl,by decide,rfl,by kernel_rfl,by kernel_rfl⟩
def Bz9j:AC:=(.kp [1] [1,5000] (.dn (.seq (.reg false [⟨(some 3),none,.i (.fad 0 (.t 1))⟩,⟨(some 4),none,.i (.ld (.t 3))⟩,⟨(some 5),none,.call nza [(.t 4),(.c (.int .i64 1)),(.c (.int .i64 10))]⟩,⟨(some 6),none,.i (.mov (.t 5))⟩,⟨(some 7),(some (6,true)),.i (.lda 2 (.t 1))⟩,⟨(some 8),(some (6,true)),.call nzj [(.t 7)]⟩,⟨(some 9),(some (6,true)),.call nza [(.t 8),(.c (.int .i64 1)),(.c (.int .i64 3))]⟩,⟨(some 10),none,.i (.pick (.t 6) (.t 9) (.c (.bool false)))⟩,⟨(some 11),none,.i (.mov (.t 10))⟩,⟨(some 12),(some (11,true)),.i (.fad 1 (.t 1))⟩,⟨(some 13),(some (11,true)),.i (.ld (.t 12))⟩,⟨(some 14),(some (11,true)),.i (.mkf nz1c [(.t 1)])⟩,⟨(some 15),(some (11,true)),.call nz3k [(.t 13),(.t 14)]⟩,⟨(some 16),(some (11,true)),.i (.un .not (.t 15))⟩,⟨(some 17),none,.i (.pick (.t 11) (.t 16) (.c (.bool false)))⟩,⟨(some 2),none,.i (.mov (.t 17))⟩]) (.dn .ret))))
def Az9k:AFn:=⟨18,1,(.seq (.reg false [⟨(some 1),none,.i (.box (.t 0))⟩,⟨(some 2),none,.i (.mov (.c (.bool false)))⟩]) Bz9j),[.tmp 2]⟩
theorem czgf:cFn (drV none) Tryz.prog nzf Az9k:=⟨_,_,Tryz.func20,rfl,by kernel_rfl,by decide,rfl,by kernel_rfl,by kernel_rfl⟩
def Bz4o:AC:=(.kp [2,4,5,6,23] [2,4,5,13,14,16,56,59,64,5000,5001] (.dn (.cond (.t 23) .skip (.exit 0))))
def Bz9l:AC:=(.kp [2,4,5,6,7,9,32,33] [2,4,5,13,14,16,56,59,64,5000,5001] (.dn (.reg false [⟨(some 60),none,.i (.fad 0 (.t 5))⟩,⟨(some 61),none,.i (.ld (.t 60))⟩,⟨(some 62),none,.i (.mov (.t 9))⟩,⟨(some 63),none,.i (.bsl 1 false [(.t 62)])⟩,⟨(some 64),none,.i (.app 1 8 (.t 61) (.t 63))⟩,⟨(some 65),none,.i (.fad 0 (.t 5))⟩,⟨none,none,.i (.sto 1 (.t 65) (.t 64))⟩])))
def Bz4p:AC:=(.kp [2,4,5,6,7,8,9,32,33,48] [2,4,5,13,14,16,56,59,64,5000,5001] (.dn (.cond (.t 48) (.seq (.reg true [⟨(some 49),none,.i (.fadb 1 (.t 5))⟩,⟨(some 50),none,.i (.ldb (.t 49))⟩,⟨(some 51),none,.i (.mov (.t 9))⟩,⟨(some 52),none,.i (.fad 1 (.t 5))⟩,⟨(some 53),none,.i (.ld (.t 52))⟩,⟨(some 54),none,.i (.mov (.t 7))⟩,⟨(some 55),none,.i (.lkp 0 false (.val (.slice none 0 0)) (.t 53) (.t 54))⟩,⟨(some 56),none,.call nz1e [(.t 55)]⟩,⟨(some 57),none,.i (.mov (.t 8))⟩,⟨(some 58),none,.i (.bsl 1 false [(.t 57)])⟩,⟨(some 59),none,.i (.app 1 8 (.t 56) (.t 58))⟩,⟨none,none,.i (.mup 0 (.t 50) (.t 51) (.t 59))⟩]) Bz9l) .skip)))
def Bz4q:AC:=(.kp [2,4,5,6,7,8,9,11,32,33] [2,4,5,13,14,16,56,59,64,5000,5001] (.dn (.seq (.reg false [⟨(some 47),none,.i (.mov (.t 11))⟩,⟨(some 48),none,.i (.un .not (.t 47))⟩]) Bz4p)))
def Bz4r:AC:=(.kp [2,4,5,6,7,8,9,32,33] [2,4,5,13,14,16,56,59,64,5000,5001] (.dn (.seq (.reg false [⟨(some 41),none,.i (.fad 1 (.t 5))⟩,⟨(some 42),none,.i (.ld (.t 41))⟩,⟨(some 43),none,.i (.mov (.t 9))⟩,⟨(some 44),none,.i (.lkp 0 true (.val (.slice none 0 0)) (.t 42) (.t 43))⟩,⟨(some 40),none,.i (.mov (.t 44))⟩,⟨(some 45),none,.i (.ext 0 (.t 40))⟩,⟨(some 46),none,.i (.ext 1 (.t 40))⟩,⟨(some 10),none,.i (.mov (.t 45))⟩,⟨(some 11),none,.i (.mov (.t 46))⟩]) Bz4q)))
def Bz9m:AC:=(.kp [2,4,5,6,7,8,32,33] [2,4,5,13,14,16,56,59,64,5000,5001] (.dn (.seq (.reg false [⟨(some 36),none,.i (.lda 2 (.t 2))⟩,⟨(some 37),none,.i (.mov (.t 7))⟩,⟨(some 38),none,.i (.mov (.t 8))⟩,⟨(some 39),none,.call nz3m [(.t 36),(.t 37),(.t 38)]⟩,⟨(some 9),none,.i (.mov (.t 39))⟩]) Bz4r)))
def Bz4s:AC:=(.kp [2,4,5,6,7,32,33] [2,4,5,13,14,16,56,59,64,5000,5001] (.dn (.reg false [⟨(some 66),none,.i (.bin .add (.t 33) (.c (.int .i64 1)))⟩,⟨(some 33),none,.i (.mov (.t 66))⟩])))
def Bz9n:AC:=(.kp [2,4,5,6,7,32,33] [2,4,5,13,14,16,56,59,64,5000,5001] (.dn (.seq (.block 3 (.seq (.reg false [⟨(some 35),none,.i (.mov (.t 33))⟩,⟨(some 8),none,.i (.mov (.t 35))⟩]) Bz9m)) Bz4s)))
def Bz4t:AC:=(.kp [2,4,5,6,7,32,33,34] [2,4,5,13,14,16,56,59,64,5000,5001] (.dn (.seq (.cond (.t 34) .skip (.exit 2)) Bz9n)))
def Bz24:AC:=(.kp [2,4,5,6,7,32,33] [2,4,5,13,14,16,56,59,64,5000,5001] (.dn (.seq (.reg false [⟨(some 34),none,.i (.bin .lss (.t 33) (.t 32))⟩]) Bz4t)))
def Bz9o:AC:=(.kp [2,4,5,6,7,32,33] [2,4,5,13,14,16,56,59,64,5000,5001] (.dn (.block 2 (.loop Bz24))))
def Bz9p:AC:=(.kp [2,4,5,6,7] [2,4,5,13,14,16,56,59,64,5000,5001] (.dn (.seq (.reg false [⟨(some 31),none,.i (.lda 2 (.t 2))⟩,⟨(some 32),none,.call nzj [(.t 31)]⟩,⟨(some 33),none,.i (.mov (.c (.int .i64 0)))⟩]) Bz9o)))
def Bz9q:AC:=(.kp [2,4,5,6] [2,4,5,13,14,16,56,59,64,5000,5001] (.dn (.reg false [⟨(some 24),none,.i (.mov (.t 6))⟩,⟨(some 25),none,.i (.bin .add (.t 24) (.c (.int .i64 1)))⟩,⟨(some 6),none,.i (.mov (.t 25))⟩])))
def Bz9r:AC:=(.kp [2,4,5,6] [2,4,5,13,14,16,56,59,64,5000,5001] (.dn (.seq (.block 1 (.seq (.reg false [⟨(some 26),none,.i (.fad 0 (.t 5))⟩,⟨(some 27),none,.i (.ld (.t 26))⟩,⟨(some 28),none,.i (.mov (.t 6))⟩,⟨(some 29),none,.i (.iad 1 (.t 27) (.t 28))⟩,⟨(some 30),none,.i (.ld (.t 29))⟩,⟨(some 7),none,.i (.mov (.t 30))⟩]) Bz9p)) Bz9q)))
def Bz25:AC:=(.kp [2,4,5,6] [2,4,5,13,14,16,56,59,64,5000,5001] (.dn (.seq (.seq (.reg false [⟨(some 19),none,.i (.mov (.t 6))⟩,⟨(some 20),none,.i (.fad 0 (.t 5))⟩,⟨(some 21),none,.i (.ld (.t 20))⟩,⟨(some 22),none,.i (.len (.t 21))⟩,⟨(some 23),none,.i (.bin .lss (.t 19) (.t 22))⟩]) Bz4o) Bz9r)))
def Bz9s:AC:=(.kp [2,4,5,6] [2,4,5,13,14,16,56,59,64,5000,5001] (.dn (.block 0 (.loop Bz25))))
def Bz9t:AC:=(.kp [4,5] [4,5,13,14,16,56,59,64,5000,5001] (.dn (.seq (.reg false [⟨(some 67),none,.i (.lda 2 (.t 5))⟩,⟨none,none,.i (.sto 2 (.t 4) (.t 67))⟩]) (.dn .ret))))
def Bz9u:AC:=(.kp [2,4,5] [2,4,5,13,14,16,56,59,64,5000,5001] (.dn (.seq (.seq (.reg false [⟨(some 6),none,.i (.mov (.c (.int .i64 0)))⟩]) Bz9s) Bz9t)))
def Bz9v:AC:=(.kp [1,2,4] [2,4,5,13,14,16,56,59,64,5000,5001] (.dn (.seq (.reg false [⟨(some 12),none,.i (.mov (.t 1))⟩,⟨(some 13),none,.i (.bsl 1 false [(.t 12)])⟩,⟨(some 14),none,.i (.mkm)⟩,⟨(some 15),none,.i (.mov (.t 1))⟩,⟨(some 16),none,.i (.bsl 1 false [])⟩,⟨none,none,.i (.mup 0 (.t 14) (.t 15) (.t 16))⟩,⟨(some 17),none,.i (.mov (.t 14))⟩,⟨(some 18),none,.i (.bst [.slice none 0 0,.map none] [(0,1,(.t 13)),(1,1,(.t 17))])⟩,⟨(some 5),none,.i (.new [.slice none 0 0,.map none])⟩,⟨none,none,.i (.sto 2 (.t 5) (.t 18))⟩]) Bz9u)))
def Az4u:AFn:=⟨68,2,(.seq (.reg false [⟨(some 2),none,.i (.box (.t 0))⟩,⟨(some 4),none,.i (.new [.slice none 0 0,.map none])⟩]) Bz9v),[.cell (some 2) 4]⟩
theorem czgg:cFn (drV none) Tryz.prog nzg Az4u:=⟨_,_,Tryz.func21,rfl,by kernel_rfl,by decide,rfl,by kernel_rfl,by kernel_rfl⟩
def Bz9w:AC:=(.kp [3,5,6,7,8] [5000] (.dn (.reg false [⟨(some 12),none,.i (.mov (.t 3))⟩,⟨(some 13),none,.i (.mov (.t 5))⟩,⟨(some 14),none,.i (.bin .shl (.c (.int .u64 1)) (.t 13))⟩,⟨(some 15),none,.i (.bin .or (.t 12) (.t 14))⟩,⟨(some 3),none,.i (.mov (.t 15))⟩])))
def Bz9x:AC:=(.kp [3,6,7,8] [5000] (.dn (.reg false [⟨(some 16),none,.i (.bin .add (.t 8) (.c (.int .i64 1)))⟩,⟨(some 8),none,.i (.mov (.t 16))⟩])))
def Bz4v:AC:=(.kp [3,6,7,8] [5000] (.dn (.seq (.block 1 (.seq (.reg false [⟨(some 10),none,.i (.iad 1 (.t 6) (.t 8))⟩,⟨(some 11),none,.i (.ld (.t 10))⟩,⟨(some 5),none,.i (.mov (.t 11))⟩]) Bz9w)) Bz9x)))
def Bz4w:AC:=(.kp [3,6,7,8,9] [5000] (.dn (.seq (.cond (.t 9) .skip (.exit 0)) Bz4v)))
def Bz26:AC:=(.kp [3,6,7,8] [5000] (.dn (.seq (.reg false [⟨(some 9),none,.i (.bin .lss (.t 8) (.t 7))⟩]) Bz4w)))
def Bz9y:AC:=(.kp [3,6,7,8] [5000] (.dn (.block 0 (.loop Bz26))))
def Bz9z:AC:=(.kp [3] [5000] (.dn (.seq (.reg false [⟨(some 17),none,.i (.mov (.t 3))⟩,⟨(some 2),none,.i (.mov (.t 17))⟩]) (.dn .ret))))
def Bza0:AC:=(.kp [0,3] [5000] (.dn (.seq (.seq (.reg false [⟨(some 6),none,.i (.mov (.t 0))⟩,⟨(some 7),none,.i (.len (.t 6))⟩,⟨(some 8),none,.i (.mov (.c (.int .i64 0)))⟩]) Bz9y) Bz9z)))
def Bza1:AC:=(.kp [0] [5000] (.dn (.seq (.reg false [⟨(some 3),none,.i (.mov (.c (.int .u64 0)))⟩]) Bza0)))
def Aza2:AFn:=⟨18,1,(.seq (.reg false [⟨(some 2),none,.i (.mov (.c (.int .u64 0)))⟩]) Bza1),[.tmp 2]⟩
theorem czgh:cFn (drV none) Tryz.prog nz9 Aza2:=⟨_,_,Tryz.func22,rfl,by kernel_rfl,by decide,rfl,by kernel_rfl,by kernel_rfl⟩
def Bza3:AC:=(.kp [1] [1,5000] (.dn (.seq (.reg false [⟨(some 3),none,.i (.lda 2 (.t 1))⟩,⟨(some 4),none,.call nz3n [(.t 3),(.c (.slice none 0 0))]⟩,⟨(some 2),none,.i (.mov (.t 4))⟩]) (.dn .ret))))
def Aza4:AFn:=⟨5,1,(.seq (.reg false [⟨(some 1),none,.i (.box (.t 0))⟩,⟨(some 2),none,.i (.mov (.c (.slice none 0 0)))⟩]) Bza3),[.tmp 2]⟩
theorem czgi:cFn (drV none) Tryz.prog nzh Aza4:=⟨_,_,Tryz.func23,rfl,by kernel_rfl,by decide,rfl,by kernel_rfl,by kernel_rfl⟩
def Bz27:AC:=(.kp [0,3,4,9] [5,20,5000] (.dn (.cond (.t 9) .skip (.exit 0))))
def Bz4x:AC:=(.kp [0,3,4,16] [5,20,5000] (.dn (.cond (.t 16) (.reg false [⟨(some 17),none,.i (.mov (.t 3))⟩,⟨(some 18),none,.i (.mov (.t 4))⟩,⟨(some 19),none,.i (.bsl 1 false [(.t 18)])⟩,⟨(some 20),none,.i (.app 1 8 (.t 17) (.t 19))⟩,⟨(some 3),none,.i (.mov (.t 20))⟩]) .skip)))
def Bz4y:AC:=(.kp [0,3,4] [5,20,5000] (.dn (.reg false [⟨(some 10),none,.i (.mov (.t 4))⟩,⟨(some 11),none,.i (.bin .add (.t 10) (.c (.int .i64 1)))⟩,⟨(some 4),none,.i (.mov (.t 11))⟩])))
def Bz28:AC:=(.kp [0,3,4] [5,20,5000] (.dn (.seq (.block 1 (.seq (.reg false [⟨(some 12),none,.i (.mov (.t 0))⟩,⟨(some 13),none,.i (.mov (.t 4))⟩,⟨(some 14),none,.i (.bin .shr (.t 12) (.t 13))⟩,⟨(some 15),none,.i (.bin .and (.t 14) (.c (.int .u64 1)))⟩,⟨(some 16),none,.i (.bin .eql (.t 15) (.c (.int .u64 1)))⟩]) Bz4x)) Bz4y)))
def Bzm:AC:=(.kp [0,3,4] [5,20,5000] (.dn (.seq (.seq (.reg false [⟨(some 6),none,.i (.mov (.t 0))⟩,⟨(some 7),none,.i (.mov (.t 4))⟩,⟨(some 8),none,.i (.bin .shr (.t 6) (.t 7))⟩,⟨(some 9),none,.i (.bin .gtr (.t 8) (.c (.int .u64 0)))⟩]) Bz27) Bz28)))
def Bza5:AC:=(.kp [0,3,4] [5,20,5000] (.dn (.block 0 (.loop Bzm))))
def Bza6:AC:=(.kp [3] [5,20,5000] (.dn (.seq (.reg false [⟨(some 21),none,.i (.mov (.t 3))⟩,⟨(some 2),none,.i (.mov (.t 21))⟩]) (.dn .ret))))
def Bza7:AC:=(.kp [0,3] [5,20,5000] (.dn (.seq (.seq (.reg false [⟨(some 4),none,.i (.mov (.c (.int .i64 0)))⟩]) Bza5) Bza6)))
def Bza8:AC:=(.kp [0] [5000] (.dn (.seq (.reg false [⟨(some 5),none,.i (.bsl 1 false [])⟩,⟨(some 3),none,.i (.mov (.t 5))⟩]) Bza7)))
def Aza9:AFn:=⟨22,1,(.seq (.reg false [⟨(some 2),none,.i (.mov (.c (.slice none 0 0)))⟩]) Bza8),[.tmp 2]⟩
theorem czgj:cFn (drV none) Tryz.prog nz14 Aza9:=⟨_,_,Tryz.func24,rfl,by kernel_rfl,by decide,rfl,by kernel_rfl,by kernel_rfl⟩
theorem x_slices_SortFunc_LLI:∃ fn,Tryz.prog.funcs[nz3b]?=some fn∧fn.body.isSome=true∧isNumG fn=false:=⟨_,Tryz.func25,by kernel_rfl,by decide⟩
def Bzaa:AC:=(.kp [0,1] [5000,5001] (.dn (.seq (.reg false [⟨(some 5),none,.i (.mov (.t 1))⟩,⟨(some 6),none,.i (.len (.t 5))⟩,⟨(some 7),none,.i (.mov (.t 0))⟩,⟨(some 8),none,.i (.len (.t 7))⟩,⟨(some 9),none,.call nz3d [(.t 6),(.t 8)]⟩,⟨(some 10),none,.i (.mov (.t 0))⟩,⟨(some 11),none,.i (.mov (.t 1))⟩,⟨(some 12),none,.call nz3e [(.t 10),(.t 11)]⟩,⟨(some 13),none,.i (.bsl 1 false [(.t 9),(.t 12)])⟩,⟨(some 14),none,.call nz3c [(.t 13)]⟩,⟨(some 4),none,.i (.mov (.t 14))⟩]) (.dn .ret))))
def Azab:AFn:=⟨15,2,(.seq (.reg false [⟨(some 4),none,.i (.mov (.c (.int .i64 0)))⟩]) Bzaa),[.tmp 4]⟩
theorem czgk:cFn (drV none) Tryz.prog nz15 Azab:=⟨_,_,Tryz.func26,rfl,by kernel_rfl,by decide,rfl,by kernel_rfl,by kernel_rfl⟩
def Bzn:AC:=(.kp [3,5,6,7,8,14] [5000] (.dn (.cond (.t 14) (.seq (.reg false [⟨(some 15),none,.i (.mov (.t 5))⟩,⟨(some 2),none,.i (.mov (.t 15))⟩]) (.dn .ret)) .skip)))
def Bzo:AC:=(.kp [3,5,6,7,8] [5000] (.dn (.seq (.reg false [⟨(some 12),none,.i (.mov (.t 5))⟩,⟨(some 13),none,.i (.mov (.t 3))⟩,⟨(some 14),none,.i (.bin .neq (.t 12) (.t 13))⟩]) Bzn)))
def Bz4z:AC:=(.kp [3,6,7,8] [5000] (.dn (.reg false [⟨(some 16),none,.i (.bin .add (.t 8) (.c (.int .i64 1)))⟩,⟨(some 8),none,.i (.mov (.t 16))⟩])))
def Bz50:AC:=(.kp [3,6,7,8] [5000] (.dn (.seq (.block 1 (.seq (.reg false [⟨(some 10),none,.i (.iad 1 (.t 6) (.t 8))⟩,⟨(some 11),none,.i (.ld (.t 10))⟩,⟨(some 5),none,.i (.mov (.t 11))⟩]) Bzo)) Bz4z)))
def Bz29:AC:=(.kp [3,6,7,8,9] [5000] (.dn (.seq (.cond (.t 9) .skip (.exit 0)) Bz50)))
def Bzp:AC:=(.kp [3,6,7,8] [5000] (.dn (.seq (.reg false [⟨(some 9),none,.i (.bin .lss (.t 8) (.t 7))⟩]) Bz29)))
def Bzac:AC:=(.kp [3,6,7,8] [5000] (.dn (.block 0 (.loop Bzp))))
def Bzad:AC:=(.kp [3] [5000] (.dn (.seq (.reg false [⟨(some 17),none,.i (.mov (.t 3))⟩,⟨(some 2),none,.i (.mov (.t 17))⟩]) (.dn .ret))))
def Bzae:AC:=(.kp [0,3] [5000] (.dn (.seq (.seq (.reg false [⟨(some 6),none,.i (.mov (.t 0))⟩,⟨(some 7),none,.i (.len (.t 6))⟩,⟨(some 8),none,.i (.mov (.c (.int .i64 0)))⟩]) Bzac) Bzad)))
def Bzaf:AC:=(.kp [0] [5000] (.dn (.seq (.reg false [⟨(some 3),none,.i (.mov (.c (.int .i64 0)))⟩]) Bzae)))
def Azag:AFn:=⟨18,1,(.seq (.reg false [⟨(some 2),none,.i (.mov (.c (.int .i64 0)))⟩]) Bzaf),[.tmp 2]⟩
theorem czgl:cFn (drV none) Tryz.prog nz3c Azag:=⟨_,_,Tryz.func27,rfl,by kernel_rfl,by decide,rfl,by kernel_rfl,by kernel_rfl⟩
def Bzgm:AC:=(.kp [12] [5000,5001] (.dn (.cond (.t 12) (.seq (.reg false [⟨(some 4),none,.i (.mov (.c (.int .i64 0)))⟩]) (.dn .ret)) .skip)))
def Bzgn:AC:=(.kp [] [5000,5001] (.dn (.seq (.reg false [⟨(some 4),none,.i (.mov (.c (.int .i64 (-1))))⟩]) (.dn .ret))))
def Bzah:AC:=(.kp [0,1,6,11] [5000,5001] (.dn (.cond (.t 11) (.seq (.seq (.reg false [⟨(some 12),none,.i (.mov (.t 6))⟩]) Bzgm) Bzgn) .skip)))
def Bzai:AC:=(.kp [0,1,13] [5000,5001] (.dn (.cond (.t 13) (.seq (.reg false [⟨(some 4),none,.i (.mov (.c (.int .i64 1)))⟩]) (.dn .ret)) .skip)))
def Bz2a:AC:=(.kp [0,1,16] [5000,5001] (.dn (.cond (.t 16) (.seq (.reg false [⟨(some 4),none,.i (.mov (.c (.int .i64 (-1))))⟩]) (.dn .ret)) .skip)))
def Bz51:AC:=(.kp [19] [5000,5001] (.dn (.cond (.t 19) (.seq (.reg false [⟨(some 4),none,.i (.mov (.c (.int .i64 1)))⟩]) (.dn .ret)) .skip)))
def Bzaj:AC:=(.kp [] [5000,5001] (.dn (.seq (.reg false [⟨(some 4),none,.i (.mov (.c (.int .i64 0)))⟩]) (.dn .ret))))
def Bz52:AC:=(.kp [0,1] [5000,5001] (.dn (.seq (.seq (.reg false [⟨(some 17),none,.i (.mov (.t 0))⟩,⟨(some 18),none,.i (.mov (.t 1))⟩,⟨(some 19),none,.i (.bin .gtr (.t 17) (.t 18))⟩]) Bz51) Bzaj)))
def Bz2b:AC:=(.kp [0,1] [5000,5001] (.dn (.seq (.seq (.reg false [⟨(some 14),none,.i (.mov (.t 0))⟩,⟨(some 15),none,.i (.mov (.t 1))⟩,⟨(some 16),none,.i (.bin .lss (.t 14) (.t 15))⟩]) Bz2a) Bz52)))
def Bzak:AC:=(.kp [0,1,6] [5000,5001] (.dn (.seq (.seq (.reg false [⟨(some 13),none,.i (.mov (.t 6))⟩]) Bzai) Bz2b)))
def Bzal:AC:=(.kp [0,1,5,6] [5000,5001] (.dn (.seq (.seq (.reg false [⟨(some 11),none,.i (.mov (.t 5))⟩]) Bzah) Bzak)))
def Bzam:AC:=(.kp [0,1,5] [5000,5001] (.dn (.seq (.reg false [⟨(some 9),none,.i (.mov (.t 1))⟩,⟨(some 10),none,.call nz1f [(.t 9)]⟩,⟨(some 6),none,.i (.mov (.t 10))⟩]) Bzal)))
def Bzan:AC:=(.kp [0,1] [5000,5001] (.dn (.seq (.reg false [⟨(some 7),none,.i (.mov (.t 0))⟩,⟨(some 8),none,.call nz1f [(.t 7)]⟩,⟨(some 5),none,.i (.mov (.t 8))⟩]) Bzam)))
def Azao:AFn:=⟨20,2,(.seq (.reg false [⟨(some 4),none,.i (.mov (.c (.int .i64 0)))⟩]) Bzan),[.tmp 4]⟩
theorem czgo:cFn (drV none) Tryz.prog nz3d Azao:=⟨_,_,Tryz.func28,rfl,by kernel_rfl,by decide,rfl,by kernel_rfl,by kernel_rfl⟩
def Bz53:AC:=(.kp [0,1,5,6,9,10,11,19] [5000,5001] (.dn (.cond (.t 19) (.seq (.reg false [⟨(some 4),none,.i (.mov (.c (.int .i64 1)))⟩]) (.dn .ret)) .skip)))
def Bz54:AC:=(.kp [0,1,8,9,10,11,28] [5000,5001] (.dn (.cond (.t 28) (.seq (.reg false [⟨(some 29),none,.i (.mov (.t 8))⟩,⟨(some 4),none,.i (.mov (.t 29))⟩]) (.dn .ret)) .skip)))
def Bz55:AC:=(.kp [0,1,8,9,10,11] [5000,5001] (.dn (.seq (.reg false [⟨(some 27),none,.i (.mov (.t 8))⟩,⟨(some 28),none,.i (.bin .neq (.t 27) (.c (.int .i64 0)))⟩]) Bz54)))
def Bzap:AC:=(.kp [0,1,6,7,9,10,11] [5000,5001] (.dn (.seq (.reg false [⟨(some 24),none,.i (.mov (.t 6))⟩,⟨(some 25),none,.i (.mov (.t 7))⟩,⟨(some 26),none,.call nz3o [(.t 24),(.t 25)]⟩,⟨(some 8),none,.i (.mov (.t 26))⟩]) Bz55)))
def Bzaq:AC:=(.kp [0,1,5,6,9,10,11] [5000,5001] (.dn (.seq (.reg false [⟨(some 20),none,.i (.mov (.t 1))⟩,⟨(some 21),none,.i (.mov (.t 5))⟩,⟨(some 22),none,.i (.iad 1 (.t 20) (.t 21))⟩,⟨(some 23),none,.i (.ld (.t 22))⟩,⟨(some 7),none,.i (.mov (.t 23))⟩]) Bzap)))
def Bzar:AC:=(.kp [0,1,5,6,9,10,11] [5000,5001] (.dn (.seq (.seq (.reg false [⟨(some 16),none,.i (.mov (.t 5))⟩,⟨(some 17),none,.i (.mov (.t 1))⟩,⟨(some 18),none,.i (.len (.t 17))⟩,⟨(some 19),none,.i (.bin .geq (.t 16) (.t 18))⟩]) Bz53) Bzaq)))
def Bzas:AC:=(.kp [0,1,9,10,11] [5000,5001] (.dn (.reg false [⟨(some 30),none,.i (.bin .add (.t 11) (.c (.int .i64 1)))⟩,⟨(some 11),none,.i (.mov (.t 30))⟩])))
def Bz56:AC:=(.kp [0,1,9,10,11] [5000,5001] (.dn (.seq (.block 1 (.seq (.reg false [⟨(some 13),none,.i (.mov (.t 11))⟩,⟨(some 14),none,.i (.iad 1 (.t 9) (.t 11))⟩,⟨(some 15),none,.i (.ld (.t 14))⟩,⟨(some 5),none,.i (.mov (.t 13))⟩,⟨(some 6),none,.i (.mov (.t 15))⟩]) Bzar)) Bzas)))
def Bz57:AC:=(.kp [0,1,9,10,11,12] [5000,5001] (.dn (.seq (.cond (.t 12) .skip (.exit 0)) Bz56)))
def Bz2c:AC:=(.kp [0,1,9,10,11] [5000,5001] (.dn (.seq (.reg false [⟨(some 12),none,.i (.bin .lss (.t 11) (.t 10))⟩]) Bz57)))
def Bzat:AC:=(.kp [0,1,9,10,11] [5000,5001] (.dn (.block 0 (.loop Bz2c))))
def Bz58:AC:=(.kp [35] [5000,5001] (.dn (.cond (.t 35) (.seq (.reg false [⟨(some 4),none,.i (.mov (.c (.int .i64 (-1))))⟩]) (.dn .ret)) .skip)))
def Bzau:AC:=(.kp [] [5000,5001] (.dn (.seq (.reg false [⟨(some 4),none,.i (.mov (.c (.int .i64 0)))⟩]) (.dn .ret))))
def Bzav:AC:=(.kp [0,1] [5000,5001] (.dn (.seq (.seq (.reg false [⟨(some 31),none,.i (.mov (.t 0))⟩,⟨(some 32),none,.i (.len (.t 31))⟩,⟨(some 33),none,.i (.mov (.t 1))⟩,⟨(some 34),none,.i (.len (.t 33))⟩,⟨(some 35),none,.i (.bin .lss (.t 32) (.t 34))⟩]) Bz58) Bzau)))
def Bzaw:AC:=(.kp [0,1] [5000,5001] (.dn (.seq (.seq (.reg false [⟨(some 9),none,.i (.mov (.t 0))⟩,⟨(some 10),none,.i (.len (.t 9))⟩,⟨(some 11),none,.i (.mov (.c (.int .i64 0)))⟩]) Bzat) Bzav)))
def Azax:AFn:=⟨36,2,(.seq (.reg false [⟨(some 4),none,.i (.mov (.c (.int .i64 0)))⟩]) Bzaw),[.tmp 4]⟩
theorem czgp:cFn (drV none) Tryz.prog nz3e Azax:=⟨_,_,Tryz.func29,rfl,by kernel_rfl,by decide,rfl,by kernel_rfl,by kernel_rfl⟩
def Bzay:AC:=(.kp [9] [11,1011,5000,5001] (.dn (.cond (.t 9) (.seq (.reg false [⟨(some 4),none,.i (.mov (.c (.int .i64 2)))⟩]) (.dn .ret)) .skip)))
def Bzaz:AC:=(.kp [1,5] [5000,5001] (.dn (.cond (.t 5) (.seq (.reg false [⟨(some 4),none,.i (.mov (.c (.int .i64 1)))⟩]) (.dn .ret)) (.seq (.reg false [⟨(some 10),none,.i (.mov (.t 1))⟩,⟨(some 11),none,.calv (.t 10) []⟩,⟨(some 12),none,.i (.un .not (.t 11))⟩,⟨(some 9),none,.i (.mov (.t 12))⟩]) Bzay))))
def Bzb0:AC:=(.kp [] [5000,5001] (.dn (.seq (.reg false [⟨(some 4),none,.i (.mov (.c (.int .i64 0)))⟩]) (.dn .ret))))
def Bzb1:AC:=(.kp [1,2] [2,5000,5001] (.dn (.seq (.block 0 (.seq (.reg false [⟨(some 6),none,.i (.lda 2 (.t 2))⟩,⟨(some 7),none,.call nzf [(.t 6)]⟩,⟨(some 8),none,.i (.un .not (.t 7))⟩,⟨(some 5),none,.i (.mov (.t 8))⟩]) Bzaz)) Bzb0)))
def Azb2:AFn:=⟨13,2,(.seq (.reg false [⟨(some 2),none,.i (.box (.t 0))⟩,⟨(some 4),none,.i (.mov (.c (.int .i64 0)))⟩]) Bzb1),[.tmp 4]⟩
theorem czgq:cFn (drV none) Tryz.prog nz16 Azb2:=⟨_,_,Tryz.func30,rfl,by kernel_rfl,by decide,rfl,by kernel_rfl,by kernel_rfl⟩
def Bzb3:AC:=(.kp [0,1,2] [5000,5001,5002] (.dn (.seq (.reg false [⟨(some 4),none,.i (.ld (.t 0))⟩,⟨(some 5),none,.i (.fad 0 (.t 1))⟩,⟨(some 6),none,.i (.ld (.t 5))⟩,⟨(some 7),none,.call nz18 [(.t 4),(.t 6)]⟩,⟨(some 8),none,.i (.mov (.t 7))⟩,⟨(some 9),(some (8,true)),.i (.lda 2 (.t 1))⟩,⟨(some 10),(some (8,true)),.i (.ld (.t 2))⟩,⟨(some 11),(some (8,true)),.call nz3f [(.t 9),(.t 10)]⟩,⟨(some 12),none,.i (.pick (.t 8) (.t 11) (.c (.bool false)))⟩,⟨(some 3),none,.i (.mov (.t 12))⟩]) (.dn .ret))))
def Azb4:AFn:=⟨13,3,(.seq (.reg false [⟨(some 3),none,.i (.mov (.c (.bool false)))⟩]) Bzb3),[.tmp 3]⟩
theorem czgr:cFn (drV none) Tryz.prog nz17 Azb4:=⟨_,_,Tryz.func31,rfl,by kernel_rfl,by decide,rfl,by kernel_rfl,by kernel_rfl⟩
def Bzq:AC:=(.kp [0,1,7,8,9,31] [5000,5001] (.dn (.cond (.t 31) (.seq (.reg false [⟨(some 4),none,.i (.mov (.c (.bool false)))⟩]) (.dn .ret)) .skip)))
def Bzb5:AC:=(.kp [0,1,5,6,7,8,9] [5000,5001] (.dn (.seq (.reg false [⟨(some 14),none,.i (.mov (.t 6))⟩,⟨(some 15),none,.i (.mov (.t 1))⟩,⟨(some 16),none,.i (.bin .sub (.t 15) (.c (.int .i64 1)))⟩,⟨(some 17),none,.call nza [(.t 14),(.c (.int .i64 0)),(.t 16)]⟩,⟨(some 18),none,.i (.un .not (.t 17))⟩,⟨(some 19),none,.i (.mov (.t 18))⟩,⟨(some 20),(some (19,false)),.i (.mov (.t 5))⟩,⟨(some 21),(some (19,false)),.i (.bin .gtr (.t 20) (.c (.int .i64 0)))⟩,⟨(some 22),(some (19,false)),.i (.mov (.t 21))⟩,⟨(some 23),(some (22,true)),.i (.mov (.t 6))⟩,⟨(some 24),(some (22,true)),.i (.mov (.t 0))⟩,⟨(some 25),(some (22,true)),.i (.mov (.t 5))⟩,⟨(some 26),(some (22,true)),.i (.bin .sub (.t 25) (.c (.int .i64 1)))⟩,⟨(some 27),(some (22,true)),.i (.iad 1 (.t 24) (.t 26))⟩,⟨(some 28),(some (22,true)),.i (.ld (.t 27))⟩,⟨(some 29),(some (22,true)),.i (.bin .leq (.t 23) (.t 28))⟩,⟨(some 30),(some (19,false)),.i (.pick (.t 22) (.t 29) (.c (.bool false)))⟩,⟨(some 31),none,.i (.pick (.t 19) (.c (.bool true)) (.t 30))⟩]) Bzq)))
def Bz59:AC:=(.kp [0,1,7,8,9] [5000,5001] (.dn (.reg false [⟨(some 32),none,.i (.bin .add (.t 9) (.c (.int .i64 1)))⟩,⟨(some 9),none,.i (.mov (.t 32))⟩])))
def Bz5a:AC:=(.kp [0,1,7,8,9] [5000,5001] (.dn (.seq (.block 1 (.seq (.reg false [⟨(some 11),none,.i (.mov (.t 9))⟩,⟨(some 12),none,.i (.iad 1 (.t 7) (.t 9))⟩,⟨(some 13),none,.i (.ld (.t 12))⟩,⟨(some 5),none,.i (.mov (.t 11))⟩,⟨(some 6),none,.i (.mov (.t 13))⟩]) Bzb5)) Bz59)))
def Bz5b:AC:=(.kp [0,1,7,8,9,10] [5000,5001] (.dn (.seq (.cond (.t 10) .skip (.exit 0)) Bz5a)))
def Bz2d:AC:=(.kp [0,1,7,8,9] [5000,5001] (.dn (.seq (.reg false [⟨(some 10),none,.i (.bin .lss (.t 9) (.t 8))⟩]) Bz5b)))
def Bzb6:AC:=(.kp [0,1,7,8,9] [5000,5001] (.dn (.block 0 (.loop Bz2d))))
def Bzb7:AC:=(.kp [] [5000,5001] (.dn (.seq (.reg false [⟨(some 4),none,.i (.mov (.c (.bool true)))⟩]) (.dn .ret))))
def Bzb8:AC:=(.kp [0,1] [5000,5001] (.dn (.seq (.seq (.reg false [⟨(some 7),none,.i (.mov (.t 0))⟩,⟨(some 8),none,.i (.len (.t 7))⟩,⟨(some 9),none,.i (.mov (.c (.int .i64 0)))⟩]) Bzb6) Bzb7)))
def Azb9:AFn:=⟨33,2,(.seq (.reg false [⟨(some 4),none,.i (.mov (.c (.bool false)))⟩]) Bzb8),[.tmp 4]⟩
theorem czgs:cFn (drV none) Tryz.prog nz18 Azb9:=⟨_,_,Tryz.func32,rfl,by kernel_rfl,by decide,rfl,by kernel_rfl,by kernel_rfl⟩
def Bzba:AC:=(.kp [1,2] [2,5000,5001] (.dn (.seq (.reg false [⟨(some 5),none,.i (.mov (.t 1))⟩,⟨(some 6),none,.i (.len (.t 5))⟩,⟨(some 7),none,.i (.bin .leq (.t 6) (.c (.int .i64 400)))⟩,⟨(some 8),none,.i (.mov (.t 7))⟩,⟨(some 9),(some (8,true)),.i (.mov (.t 1))⟩,⟨(some 10),(some (8,true)),.i (.lda 2 (.t 2))⟩,⟨(some 11),(some (8,true)),.call nzj [(.t 10)]⟩,⟨(some 12),(some (8,true)),.i (.bin .sub (.t 11) (.c (.int .i64 1)))⟩,⟨(some 13),(some (8,true)),.call nz1d [(.t 9),(.c (.int .i64 0)),(.t 12)]⟩,⟨(some 14),none,.i (.pick (.t 8) (.t 13) (.c (.bool false)))⟩,⟨(some 4),none,.i (.mov (.t 14))⟩]) (.dn .ret))))
def Azbb:AFn:=⟨15,2,(.seq (.reg false [⟨(some 2),none,.i (.box (.t 0))⟩,⟨(some 4),none,.i (.mov (.c (.bool false)))⟩]) Bzba),[.tmp 4]⟩
theorem czgt:cFn (drV none) Tryz.prog nz3f Azbb:=⟨_,_,Tryz.func33,rfl,by kernel_rfl,by decide,rfl,by kernel_rfl,by kernel_rfl⟩
def Bzbc:AC:=(.kp [2,3,7,9,11,12,13] [3,10,23,5000,5001,5002] (.dn (.reg false [⟨(some 17),none,.i (.mov (.t 7))⟩,⟨(some 18),none,.i (.lda 2 (.t 3))⟩,⟨(some 19),none,.i (.mov (.t 9))⟩,⟨(some 20),none,.i (.mov (.t 2))⟩,⟨(some 21),none,.call nz1g [(.t 18),(.t 19),(.t 20)]⟩,⟨(some 22),none,.i (.bsl 1 false [(.t 21)])⟩,⟨(some 23),none,.i (.app 1 8 (.t 17) (.t 22))⟩,⟨(some 7),none,.i (.mov (.t 23))⟩])))
def Bzbd:AC:=(.kp [2,3,7,11,12,13] [3,10,23,5000,5001,5002] (.dn (.reg false [⟨(some 24),none,.i (.bin .add (.t 13) (.c (.int .i64 1)))⟩,⟨(some 13),none,.i (.mov (.t 24))⟩])))
def Bz5c:AC:=(.kp [2,3,7,11,12,13] [3,10,23,5000,5001,5002] (.dn (.seq (.block 1 (.seq (.reg false [⟨(some 15),none,.i (.iad 1 (.t 11) (.t 13))⟩,⟨(some 16),none,.i (.ld (.t 15))⟩,⟨(some 9),none,.i (.mov (.t 16))⟩]) Bzbc)) Bzbd)))
def Bz5d:AC:=(.kp [2,3,7,11,12,13,14] [3,10,23,5000,5001,5002] (.dn (.seq (.cond (.t 14) .skip (.exit 0)) Bz5c)))
def Bz2e:AC:=(.kp [2,3,7,11,12,13] [3,10,23,5000,5001,5002] (.dn (.seq (.reg false [⟨(some 14),none,.i (.bin .lss (.t 13) (.t 12))⟩]) Bz5d)))
def Bzbe:AC:=(.kp [2,3,7,11,12,13] [3,10,23,5000,5001,5002] (.dn (.block 0 (.loop Bz2e))))
def Bzbf:AC:=(.kp [7] [10,23,5000,5001,5002] (.dn (.seq (.reg false [⟨(some 25),none,.i (.mov (.t 7))⟩,⟨(some 26),none,.call nz3p [(.t 25)]⟩,⟨(some 6),none,.i (.mov (.t 26))⟩]) (.dn .ret))))
def Bzbg:AC:=(.kp [1,2,3,7] [3,10,23,5000,5001,5002] (.dn (.seq (.seq (.reg false [⟨(some 11),none,.i (.mov (.t 1))⟩,⟨(some 12),none,.i (.len (.t 11))⟩,⟨(some 13),none,.i (.mov (.c (.int .i64 0)))⟩]) Bzbe) Bzbf)))
def Bzbh:AC:=(.kp [1,2,3] [3,5000,5001,5002] (.dn (.seq (.reg false [⟨(some 10),none,.i (.bsl 1 false [])⟩,⟨(some 7),none,.i (.mov (.t 10))⟩]) Bzbg)))
def Azbi:AFn:=⟨27,3,(.seq (.reg false [⟨(some 3),none,.i (.box (.t 0))⟩,⟨(some 6),none,.i (.mov (.c (.slice none 0 0)))⟩]) Bzbh),[.tmp 6]⟩
theorem czgu:cFn (drV none) Tryz.prog nz3g Azbi:=⟨_,_,Tryz.func34,rfl,by kernel_rfl,by decide,rfl,by kernel_rfl,by kernel_rfl⟩
def Bzbj:AC:=(.kp [0,1] [5000,5001] (.dn (.seq (.reg false [⟨(some 3),none,.i (.ld (.t 0))⟩,⟨(some 4),none,.i (.fad 0 (.t 1))⟩,⟨(some 5),none,.i (.ld (.t 4))⟩,⟨(some 6),none,.call nz18 [(.t 3),(.t 5)]⟩,⟨(some 2),none,.i (.mov (.t 6))⟩]) (.dn .ret))))
def Azbk:AFn:=⟨7,2,(.seq (.reg false [⟨(some 2),none,.i (.mov (.c (.bool false)))⟩]) Bzbj),[.tmp 2]⟩
theorem czgv:cFn (drV none) Tryz.prog nz19 Azbk:=⟨_,_,Tryz.func35,rfl,by kernel_rfl,by decide,rfl,by kernel_rfl,by kernel_rfl⟩
def Bz5e:AC:=(.kp [2,6,12] [2,5000,5001,5002] (.dn (.cond (.t 12) (.seq (.reg false [⟨(some 4),none,.i (.mov (.c (.slice none 0 0)))⟩,⟨(some 5),none,.i (.mov (.c (.int .i64 6)))⟩]) (.dn .ret)) .skip)))
def Bzbl:AC:=(.kp [2,6] [2,5000,5001,5002] (.dn (.seq (.reg true [⟨(some 13),none,.i (.fad 1 (.t 2))⟩,⟨(some 14),none,.i (.ld (.t 13))⟩,⟨(some 15),none,.i (.fad 0 (.t 2))⟩,⟨(some 16),none,.i (.ld (.t 15))⟩,⟨(some 17),none,.i (.mov (.t 6))⟩,⟨(some 18),none,.i (.iad 1 (.t 16) (.t 17))⟩,⟨(some 19),none,.i (.ld (.t 18))⟩,⟨(some 20),none,.i (.lkp 0 false (.val (.slice none 0 0)) (.t 14) (.t 19))⟩,⟨(some 4),none,.i (.mov (.t 20))⟩,⟨(some 5),none,.i (.mov (.c (.int .i64 0)))⟩]) (.dn .ret))))
def Bz5f:AC:=(.kp [2,6] [2,5000,5001,5002] (.dn (.seq (.seq (.reg false [⟨(some 11),none,.i (.mov (.t 6))⟩,⟨(some 12),none,.i (.bin .lss (.t 11) (.c (.int .i64 0)))⟩]) Bz5e) Bzbl)))
def Bzbm:AC:=(.kp [1,2] [2,5000,5001,5002] (.dn (.seq (.reg false [⟨(some 7),none,.i (.fad 0 (.t 2))⟩,⟨(some 8),none,.i (.ld (.t 7))⟩,⟨(some 9),none,.i (.mov (.t 1))⟩,⟨(some 10),none,.call nz1h [(.t 8),(.t 9)]⟩,⟨(some 6),none,.i (.mov (.t 10))⟩]) Bz5f)))
def Az2f:AFn:=⟨21,2,(.seq (.reg false [⟨(some 2),none,.i (.box (.t 0))⟩,⟨(some 4),none,.i (.mov (.c (.slice none 0 0)))⟩,⟨(some 5),none,.i (.mov (.c (.int .i64 0)))⟩]) Bzbm),[.tmp 4,.tmp 5]⟩
theorem czgw:cFn (drV none) Tryz.prog nz3h Az2f:=⟨_,_,Tryz.func36,rfl,by kernel_rfl,by decide,rfl,by kernel_rfl,by kernel_rfl⟩
def Bzbn:AC:=(.kp [0,1] [5000,5001] (.dn (.seq (.reg false [⟨(some 4),none,.i (.mov (.t 0))⟩,⟨(some 5),none,.i (.ld (.t 1))⟩,⟨(some 6),none,.call nz9 [(.t 5)]⟩,⟨(some 7),none,.i (.bin .eql (.t 4) (.t 6))⟩,⟨(some 3),none,.i (.mov (.t 7))⟩]) (.dn .ret))))
def Azbo:AFn:=⟨8,2,(.seq (.reg false [⟨(some 3),none,.i (.mov (.c (.bool false)))⟩]) Bzbn),[.tmp 3]⟩
theorem czgx:cFn (drV none) Tryz.prog nz1a Azbo:=⟨_,_,Tryz.func37,rfl,by kernel_rfl,by decide,rfl,by kernel_rfl,by kernel_rfl⟩
def Bzbp:AC:=(.kp [2,3] [2,3,5,14,19,26,28,1019,5000,901] (.seq (.regi false [⟨(some 22),none,.i (.lda 2 (.t 3))⟩,⟨none,none,.i (.sto 2 (.t 2) (.t 22))⟩]) .ret))
def Bz5g:AC:=(.kp [0,2,23] [2,3,5,14,19,26,28,1019,5000,901] (.cond (.t 23) (.seq (.regi false [⟨(some 25),none,.i (.mov (.t 0))⟩,⟨(some 26),none,.call nz3r [(.t 25)]⟩,⟨none,none,.i (.sto 2 (.t 2) (.t 26))⟩]) .ret) .skip))
def Bz2g:AC:=(.kp [0,2,8,15] [2,3,5,14,19,26,28,1019,5000,901] (.cond (.t 15) (.seq (.regi false [⟨(some 18),none,.i (.mov (.t 0))⟩,⟨(some 19),none,.call nz3q [(.t 18)]⟩,⟨(some 17),none,.i (.mov (.t 19))⟩,⟨(some 20),none,.i (.ext 0 (.t 17))⟩,⟨(some 21),none,.i (.ext 1 (.t 17))⟩,⟨(some 3),none,.i (.new [.int .i64 0,.slice none 0 0])⟩,⟨none,none,.i (.sto 2 (.t 3) (.t 20))⟩,⟨(some 4),none,.i (.mov (.t 21))⟩]) Bzbp) (.seq (.regi false [⟨(some 24),none,.i (.bin .eql (.t 8) (.c (.int .i64 2)))⟩,⟨(some 23),none,.i (.mov (.t 24))⟩]) Bz5g)))
def Bzr:AC:=(.kp [0,2,8,9] [2,3,5,14,19,26,28,1019,5000,901] (.cond (.t 9) (.seq (.regi false [⟨(some 11),none,.i (.mov (.t 0))⟩,⟨(some 12),none,.call nz0 [(.t 11),(.c (.int .i64 6))]⟩,⟨(some 13),none,.i (.bin .add (.c (.int .i64 2)) (.t 12))⟩,⟨(some 14),none,.call nze [(.t 13)]⟩,⟨none,none,.i (.sto 2 (.t 2) (.t 14))⟩]) .ret) (.seq (.regi false [⟨(some 16),none,.i (.bin .eql (.t 8) (.c (.int .i64 1)))⟩,⟨(some 15),none,.i (.mov (.t 16))⟩]) Bz2g)))
def Bzs:AC:=(.kp [0,2,8] [2,3,5,14,19,26,28,1019,5000,901] (.block 0 (.seq (.regi false [⟨(some 10),none,.i (.bin .eql (.t 8) (.c (.int .i64 0)))⟩,⟨(some 9),none,.i (.mov (.t 10))⟩]) Bzr)))
def Bzbq:AC:=(.kp [0,2,5,6] [2,3,5,14,19,26,28,1019,5000,901] (.gh (.regi true [⟨(some 36),none,.r [5000] (.fad 1 (.t 5))⟩,⟨(some 37),none,.r [5000] (.ld (.t 36))⟩,⟨(some 38),none,.i (.mov (.t 6))⟩,⟨(some 39),none,.r [5000] (.iad 1 (.t 37) (.t 38))⟩,⟨(some 40),none,.r [5000] (.ld (.t 39))⟩,⟨(some 41),none,.i (.mov (.t 0))⟩,⟨(some 42),none,.r [5000] (.fad 0 (.t 5))⟩,⟨(some 43),none,.r [5000] (.ld (.t 42))⟩,⟨(some 44),none,.calm [5000] nz0 [(.t 41),(.t 43)]⟩,⟨(some 45),none,.r [5000] (.fad 1 (.t 5))⟩,⟨(some 46),none,.r [5000] (.ld (.t 45))⟩,⟨(some 47),none,.i (.mov (.t 6))⟩,⟨(some 48),none,.r [5000] (.iad 1 (.t 46) (.t 47))⟩,⟨(some 49),none,.r [5000] (.ld (.t 48))⟩,⟨(some 50),none,.i (.mov (.t 0))⟩,⟨(some 51),none,.r [5000] (.fad 0 (.t 5))⟩,⟨(some 52),none,.r [5000] (.ld (.t 51))⟩,⟨(some 53),none,.calm [5000] nz0 [(.t 50),(.t 52)]⟩,⟨(some 54),none,.r [5000] (.iad 1 (.t 49) (.t 53))⟩,⟨(some 55),none,.r [5000] (.ld (.t 54))⟩,⟨(some 56),none,.r [5000] (.iad 1 (.t 40) (.t 44))⟩,⟨none,none,.i (.sto 1 (.t 56) (.t 55))⟩])))
def Bz5h:AC:=(.kp [0,2,5,30] [2,3,5,14,19,26,28,1019,5000,901] (.cond (.t 30) (.seq (.regi false [⟨(some 31),none,.i (.mov (.t 0))⟩,⟨(some 32),none,.i (.fad 1 (.t 5))⟩,⟨(some 33),none,.i (.ld (.t 32))⟩,⟨(some 34),none,.i (.len (.t 33))⟩,⟨(some 35),none,.call nz0 [(.t 31),(.t 34)]⟩,⟨(some 6),none,.i (.mov (.t 35))⟩]) Bzbq) .skip))
def Bz2h:AC:=(.kp [2,5] [2,3,5,14,19,26,28,1019,5000,901] (.gh (.seq (.regi false [⟨(some 57),none,.i (.lda 2 (.t 5))⟩,⟨none,none,.i (.sto 2 (.t 2) (.t 57))⟩]) .ret)))
def Bzbr:AC:=(.kp [0,2,5] [2,3,5,14,19,26,28,1019,5000,901] (.seq (.seq (.regi false [⟨(some 29),none,.i (.mov (.t 0))⟩,⟨(some 30),none,.call nz4 [(.t 29),(.c (.int .i64 2))]⟩]) Bz5h) Bz2h))
def Bzbs:AC:=(.kp [0,2] [2,3,5,14,19,26,28,1019,5000,901] (.seq (.regi false [⟨(some 27),none,.i (.mov (.t 0))⟩,⟨(some 28),none,.call nzb [(.t 27),(.c (.int .i64 6))]⟩,⟨(some 5),none,.i (.new [.int .i64 0,.slice none 0 0])⟩,⟨none,none,.i (.sto 2 (.t 5) (.t 28))⟩]) Bzbr))
def Bzbt:AC:=(.kp [0,2] [2,3,5,14,19,26,28,1019,5000,901] (.seq (.seq (.regi false [⟨(some 7),none,.i (.mov (.t 0))⟩,⟨(some 8),none,.call nz0 [(.t 7),(.c (.int .i64 6))]⟩]) Bzs) Bzbs))
def Az6:AFn:=⟨58,1,(.seq (.regi false [⟨(some 2),none,.i (.new [.int .i64 0,.slice none 0 0])⟩]) Bzbt),[.cell (some 2) 2]⟩
theorem czgy:cFn (drV (some ([5000],[nz0]))) Tryz.prog nz3i Az6:=⟨_,_,Tryz.func38,rfl,by kernel_rfl,by decide,rfl,by kernel_rfl,by kernel_rfl⟩
def Bzbu:AC:=(.kp [0,1] [5000,5001] (.dn (.seq (.reg false [⟨(some 5),none,.i (.mov (.t 0))⟩,⟨(some 6),none,.i (.mov (.t 1))⟩,⟨(some 7),none,.call nz0 [(.t 5),(.t 6)]⟩,⟨(some 8),none,.i (.bin .eql (.t 7) (.c (.int .i64 0)))⟩,⟨(some 4),none,.i (.mov (.t 8))⟩]) (.dn .ret))))
def Azbv:AFn:=⟨9,2,(.seq (.reg false [⟨(some 4),none,.i (.mov (.c (.bool false)))⟩]) Bzbu),[.tmp 4]⟩
theorem czgz:cFn (drV none) Tryz.prog nz4 Azbv:=⟨_,_,Tryz.func39,rfl,by kernel_rfl,by decide,rfl,by kernel_rfl,by kernel_rfl⟩
def Bzbw:AC:=(.kp [0,1,2] [5000,5001,5002] (.dn (.seq (.reg false [⟨(some 7),none,.i (.mov (.t 0))⟩,⟨(some 8),none,.i (.mov (.t 1))⟩,⟨(some 9),none,.i (.bin .geq (.t 7) (.t 8))⟩,⟨(some 10),none,.i (.mov (.t 9))⟩,⟨(some 11),(some (10,true)),.i (.mov (.t 0))⟩,⟨(some 12),(some (10,true)),.i (.mov (.t 2))⟩,⟨(some 13),(some (10,true)),.i (.bin .leq (.t 11) (.t 12))⟩,⟨(some 14),none,.i (.pick (.t 10) (.t 13) (.c (.bool false)))⟩,⟨(some 6),none,.i (.mov (.t 14))⟩]) (.dn .ret))))
def Azbx:AFn:=⟨15,3,(.seq (.reg false [⟨(some 6),none,.i (.mov (.c (.bool false)))⟩]) Bzbw),[.tmp 6]⟩
theorem czh0:cFn (drV none) Tryz.prog nzi Azbx:=⟨_,_,Tryz.func40,rfl,by kernel_rfl,by decide,rfl,by kernel_rfl,by kernel_rfl⟩
def Bz5i:AC:=(.kp [0,1,5,9] [5000,5001] (.dn (.cond (.t 9) .skip (.exit 0))))
def Bzby:AC:=(.kp [0,1,5,19] [5000,5001] (.dn (.cond (.t 19) (.seq (.reg false [⟨(some 4),none,.i (.mov (.c (.bool false)))⟩]) (.dn .ret)) .skip)))
def Bzbz:AC:=(.kp [0,1,5] [5000,5001] (.dn (.reg false [⟨(some 10),none,.i (.mov (.t 5))⟩,⟨(some 11),none,.i (.bin .add (.t 10) (.c (.int .i64 1)))⟩,⟨(some 5),none,.i (.mov (.t 11))⟩])))
def Bz5j:AC:=(.kp [0,1,5] [5000,5001] (.dn (.seq (.block 1 (.seq (.reg false [⟨(some 12),none,.i (.mov (.t 0))⟩,⟨(some 13),none,.i (.mov (.t 5))⟩,⟨(some 14),none,.i (.iad 1 (.t 12) (.t 13))⟩,⟨(some 15),none,.i (.ld (.t 14))⟩,⟨(some 16),none,.i (.mov (.t 1))⟩,⟨(some 17),none,.i (.bin .sub (.t 16) (.c (.int .i64 1)))⟩,⟨(some 18),none,.call nzi [(.t 15),(.c (.int .i64 0)),(.t 17)]⟩,⟨(some 19),none,.i (.un .not (.t 18))⟩]) Bzby)) Bzbz)))
def Bz2i:AC:=(.kp [0,1,5] [5000,5001] (.dn (.seq (.seq (.reg false [⟨(some 6),none,.i (.mov (.t 5))⟩,⟨(some 7),none,.i (.mov (.t 0))⟩,⟨(some 8),none,.i (.len (.t 7))⟩,⟨(some 9),none,.i (.bin .lss (.t 6) (.t 8))⟩]) Bz5i) Bz5j)))
def Bzc0:AC:=(.kp [0,1,5] [5000,5001] (.dn (.block 0 (.loop Bz2i))))
def Bzc1:AC:=(.kp [0,1] [5000,5001] (.dn (.seq (.reg false [⟨(some 20),none,.i (.mov (.t 0))⟩,⟨(some 21),none,.i (.len (.t 20))⟩,⟨(some 22),none,.i (.mov (.t 1))⟩,⟨(some 23),none,.i (.bin .eql (.t 21) (.t 22))⟩,⟨(some 4),none,.i (.mov (.t 23))⟩]) (.dn .ret))))
def Bzc2:AC:=(.kp [0,1] [5000,5001] (.dn (.seq (.seq (.reg false [⟨(some 5),none,.i (.mov (.c (.int .i64 0)))⟩]) Bzc0) Bzc1)))
def Azc3:AFn:=⟨24,2,(.seq (.reg false [⟨(some 4),none,.i (.mov (.c (.bool false)))⟩]) Bzc2),[.tmp 4]⟩
theorem czh1:cFn (drV none) Tryz.prog nz3j Azc3:=⟨_,_,Tryz.func41,rfl,by kernel_rfl,by decide,rfl,by kernel_rfl,by kernel_rfl⟩
def Bz5k:AC:=(.kp [0,3,13] [5000] (.dn (.cond (.t 13) (.reg true [⟨(some 14),none,.i (.mov (.t 0))⟩,⟨(some 15),none,.i (.nilck (.t 14))⟩,⟨(some 16),none,.i (.fad 0 (.t 15))⟩,⟨(some 17),none,.i (.ld (.t 16))⟩,⟨(some 18),none,.i (.mov (.t 0))⟩,⟨(some 19),none,.i (.nilck (.t 18))⟩,⟨(some 20),none,.i (.fad 1 (.t 19))⟩,⟨(some 21),none,.i (.ld (.t 20))⟩,⟨(some 22),none,.i (.iad 1 (.t 17) (.t 21))⟩,⟨(some 23),none,.i (.ld (.t 22))⟩,⟨(some 24),none,.i (.cvi .i64 (.t 23))⟩,⟨(some 3),none,.i (.mov (.t 24))⟩]) .skip)))
def Bz5l:AC:=(.kp [0,3,53] [5000] (.dn (.cond (.t 53) (.seq (.reg false [⟨(some 54),none,.i (.mov (.t 3))⟩,⟨(some 2),none,.i (.mov (.t 54))⟩]) (.dn .ret)) .skip)))
def Bz5m:AC:=(.kp [0] [5000] (.dn (.seq (.reg false [⟨(some 55),none,.i (.mov (.t 0))⟩,⟨(some 56),none,.i (.nilck (.t 55))⟩,⟨(some 57),none,.i (.fad 2 (.t 56))⟩,⟨(some 58),none,.i (.ld (.t 57))⟩,⟨(some 59),none,.i (.bin .shr (.t 58) (.c (.int .u64 40)))⟩,⟨(some 60),none,.i (.bin .and (.t 59) (.c (.int .u64 255)))⟩,⟨(some 61),none,.i (.cvi .i64 (.t 60))⟩,⟨(some 2),none,.i (.mov (.t 61))⟩]) (.dn .ret))))
def Bz5n:AC:=(.kp [0,3] [5000] (.dn (.seq (.seq (.reg true [⟨(some 44),none,.i (.mov (.t 0))⟩,⟨(some 45),none,.i (.nilck (.t 44))⟩,⟨(some 46),none,.i (.fad 1 (.t 45))⟩,⟨(some 47),none,.i (.ld (.t 46))⟩,⟨(some 48),none,.i (.mov (.t 0))⟩,⟨(some 49),none,.i (.nilck (.t 48))⟩,⟨(some 50),none,.i (.fad 0 (.t 49))⟩,⟨(some 51),none,.i (.ld (.t 50))⟩,⟨(some 52),none,.i (.len (.t 51))⟩,⟨(some 53),none,.i (.bin .leq (.t 47) (.t 52))⟩]) Bz5l) Bz5m)))
def Bz5o:AC:=(.kp [0,3] [5000] (.dn (.seq (.reg false [⟨(some 32),none,.i (.mov (.t 0))⟩,⟨(some 33),none,.i (.mov (.t 0))⟩,⟨(some 34),none,.i (.nilck (.t 33))⟩,⟨(some 35),none,.i (.fad 2 (.t 34))⟩,⟨(some 36),none,.i (.ld (.t 35))⟩,⟨(some 37),none,.i (.bin .mul (.t 36) (.c (.int .u64 6364136223846793005)))⟩,⟨(some 38),none,.i (.mov (.t 3))⟩,⟨(some 39),none,.i (.cvi .u64 (.t 38))⟩,⟨(some 40),none,.i (.bin .add (.t 37) (.t 39))⟩,⟨(some 41),none,.i (.bin .add (.t 40) (.c (.int .u64 1442695040888963407)))⟩,⟨(some 42),none,.i (.nilck (.t 32))⟩,⟨(some 43),none,.i (.fad 2 (.t 42))⟩,⟨none,none,.i (.sto 1 (.t 43) (.t 41))⟩]) Bz5n)))
def Bz5p:AC:=(.kp [0,3] [5000] (.dn (.seq (.reg false [⟨(some 25),none,.i (.mov (.t 0))⟩,⟨(some 26),none,.i (.nilck (.t 25))⟩,⟨(some 27),none,.i (.fad 1 (.t 26))⟩,⟨(some 28),none,.i (.ld (.t 27))⟩,⟨(some 29),none,.i (.bin .add (.t 28) (.c (.int .i64 1)))⟩,⟨(some 30),none,.i (.nilck (.t 25))⟩,⟨(some 31),none,.i (.fad 1 (.t 30))⟩,⟨none,none,.i (.sto 1 (.t 31) (.t 29))⟩]) Bz5o)))
def Bz5q:AC:=(.kp [0,3] [5000] (.dn (.seq (.seq (.reg true [⟨(some 4),none,.i (.mov (.t 0))⟩,⟨(some 5),none,.i (.nilck (.t 4))⟩,⟨(some 6),none,.i (.fad 1 (.t 5))⟩,⟨(some 7),none,.i (.ld (.t 6))⟩,⟨(some 8),none,.i (.mov (.t 0))⟩,⟨(some 9),none,.i (.nilck (.t 8))⟩,⟨(some 10),none,.i (.fad 0 (.t 9))⟩,⟨(some 11),none,.i (.ld (.t 10))⟩,⟨(some 12),none,.i (.len (.t 11))⟩,⟨(some 13),none,.i (.bin .lss (.t 7) (.t 12))⟩]) Bz5k) Bz5p)))
def Bz5r:AC:=(.kp [0] [5000] (.dn (.seq (.reg false [⟨(some 3),none,.i (.mov (.c (.int .i64 0)))⟩]) Bz5q)))
def Az5s:AFn:=⟨62,1,(.seq (.reg false [⟨(some 2),none,.i (.mov (.c (.int .i64 0)))⟩]) Bz5r),[.tmp 2]⟩
theorem czh2:cFn (drV none) Tryz.prog nz1b Az5s:=⟨_,_,Tryz.func42,rfl,by kernel_rfl,by decide,rfl,by kernel_rfl,by kernel_rfl⟩
def Bzc4:AC:=(.kp [0,1,2] [5000,5001,5002] (.dn (.seq (.reg false [⟨(some 7),none,.i (.mov (.t 0))⟩,⟨(some 8),none,.i (.mov (.t 1))⟩,⟨(some 9),none,.i (.bin .geq (.t 7) (.t 8))⟩,⟨(some 10),none,.i (.mov (.t 9))⟩,⟨(some 11),(some (10,true)),.i (.mov (.t 0))⟩,⟨(some 12),(some (10,true)),.i (.mov (.t 2))⟩,⟨(some 13),(some (10,true)),.i (.bin .leq (.t 11) (.t 12))⟩,⟨(some 14),none,.i (.pick (.t 10) (.t 13) (.c (.bool false)))⟩,⟨(some 6),none,.i (.mov (.t 14))⟩]) (.dn .ret))))
def Azc5:AFn:=⟨15,3,(.seq (.reg false [⟨(some 6),none,.i (.mov (.c (.bool false)))⟩]) Bzc4),[.tmp 6]⟩
theorem czh3:cFn (drV none) Tryz.prog nza Azc5:=⟨_,_,Tryz.func43,rfl,by kernel_rfl,by decide,rfl,by kernel_rfl,by kernel_rfl⟩
def Bzc6:AC:=(.kp [1] [1,5000] (.dn (.seq (.reg false [⟨(some 3),none,.i (.fad 1 (.t 1))⟩,⟨(some 4),none,.i (.ld (.t 3))⟩,⟨(some 5),none,.call nz3s [(.t 4)]⟩,⟨(some 2),none,.i (.mov (.t 5))⟩]) (.dn .ret))))
def Azc7:AFn:=⟨6,1,(.seq (.reg false [⟨(some 1),none,.i (.box (.t 0))⟩,⟨(some 2),none,.i (.mov (.c (.int .i64 0)))⟩]) Bzc6),[.tmp 2]⟩
theorem czh4:cFn (drV none) Tryz.prog nzj Azc7:=⟨_,_,Tryz.func44,rfl,by kernel_rfl,by decide,rfl,by kernel_rfl,by kernel_rfl⟩
def Bzc8:AC:=(.kp [0,1] [5000,5001] (.dn (.seq (.reg false [⟨(some 5),none,.i (.mov (.t 0))⟩,⟨(some 6),none,.i (.mov (.t 1))⟩,⟨(some 7),none,.call nz3t [(.t 5),(.t 6)]⟩,⟨(some 8),none,.i (.bin .geq (.t 7) (.c (.int .i64 0)))⟩,⟨(some 4),none,.i (.mov (.t 8))⟩]) (.dn .ret))))
def Azc9:AFn:=⟨9,2,(.seq (.reg false [⟨(some 4),none,.i (.mov (.c (.bool false)))⟩]) Bzc8),[.tmp 4]⟩
theorem czh5:cFn (drV none) Tryz.prog nz3k Azc9:=⟨_,_,Tryz.func45,rfl,by kernel_rfl,by decide,rfl,by kernel_rfl,by kernel_rfl⟩
def Bzca:AC:=(.kp [0,1] [5000,5001] (.dn (.seq (.reg true [⟨(some 4),none,.i (.mov (.t 0))⟩,⟨(some 5),none,.call nz3l [(.t 4)]⟩,⟨(some 6),none,.i (.fad 0 (.t 1))⟩,⟨(some 7),none,.i (.ld (.t 6))⟩,⟨(some 8),none,.i (.bin .neq (.t 5) (.t 7))⟩,⟨(some 9),none,.i (.mov (.t 8))⟩,⟨(some 10),(some (9,false)),.i (.mov (.t 0))⟩,⟨(some 11),(some (9,false)),.i (.fad 0 (.t 1))⟩,⟨(some 12),(some (9,false)),.i (.ld (.t 11))⟩,⟨(some 13),(some (9,false)),.i (.bin .sub (.t 12) (.c (.int .i64 1)))⟩,⟨(some 14),(some (9,false)),.calh nz1d [(.t 10),(.c (.int .i64 0)),(.t 13)]⟩,⟨(some 15),(some (9,false)),.i (.un .not (.t 14))⟩,⟨(some 16),none,.i (.pick (.t 9) (.c (.bool true)) (.t 15))⟩,⟨(some 3),none,.i (.mov (.t 16))⟩]) (.dn .ret))))
def Azcb:AFn:=⟨17,2,(.seq (.reg false [⟨(some 3),none,.i (.mov (.c (.bool false)))⟩]) Bzca),[.tmp 3]⟩
theorem czh6:cFn (drV none) Tryz.prog nz1c Azcb:=⟨_,_,Tryz.func46,rfl,by kernel_rfl,by decide,rfl,by kernel_rfl,by kernel_rfl⟩
def Bzcc:AC:=(.kp [0] [5000] (.dn (.seq (.reg false [⟨(some 3),none,.i (.mov (.t 0))⟩,⟨(some 4),none,.i (.len (.t 3))⟩,⟨(some 2),none,.i (.mov (.t 4))⟩]) (.dn .ret))))
def Azcd:AFn:=⟨5,1,(.seq (.reg false [⟨(some 2),none,.i (.mov (.c (.int .i64 0)))⟩]) Bzcc),[.tmp 2]⟩
theorem czh7:cFn (drV none) Tryz.prog nz3l Azcd:=⟨_,_,Tryz.func47,rfl,by kernel_rfl,by decide,rfl,by kernel_rfl,by kernel_rfl⟩
def Bzce:AC:=(.kp [0,4,5] [4,5,5000,5001,5002] (.dn (.seq (.reg false [⟨(some 7),none,.i (.mov (.t 0))⟩,⟨(some 8),none,.i (.mkf nz1i [(.t 4),(.t 5)])⟩,⟨(some 9),none,.call nz3u [(.t 7),(.t 8)]⟩,⟨(some 10),none,.i (.un .not (.t 9))⟩,⟨(some 6),none,.i (.mov (.t 10))⟩]) (.dn .ret))))
def Azcf:AFn:=⟨11,3,(.seq (.reg false [⟨(some 4),none,.i (.box (.t 1))⟩,⟨(some 5),none,.i (.box (.t 2))⟩,⟨(some 6),none,.i (.mov (.c (.bool false)))⟩]) Bzce),[.tmp 6]⟩
theorem czh8:cFn (drV none) Tryz.prog nz1d Azcf:=⟨_,_,Tryz.func48,rfl,by kernel_rfl,by decide,rfl,by kernel_rfl,by kernel_rfl⟩
def Bzcg:AC:=(.kp [2,3,7,9,11,12,13] [3,11,5000,5001,5002] (.dn (.reg false [⟨(some 17),none,.i (.mov (.t 7))⟩,⟨(some 18),none,.i (.fad 1 (.t 3))⟩,⟨(some 19),none,.i (.ld (.t 18))⟩,⟨(some 20),none,.i (.mov (.t 2))⟩,⟨(some 21),none,.i (.iad 1 (.t 19) (.t 20))⟩,⟨(some 22),none,.i (.ld (.t 21))⟩,⟨(some 23),none,.i (.mov (.t 9))⟩,⟨(some 24),none,.i (.iad 1 (.t 22) (.t 23))⟩,⟨(some 25),none,.i (.ld (.t 24))⟩,⟨(some 26),none,.i (.bin .shl (.c (.int .u64 1)) (.t 25))⟩,⟨(some 27),none,.i (.bin .or (.t 17) (.t 26))⟩,⟨(some 7),none,.i (.mov (.t 27))⟩])))
def Bzch:AC:=(.kp [2,3,7,11,12,13] [3,11,5000,5001,5002] (.dn (.reg false [⟨(some 28),none,.i (.bin .add (.t 13) (.c (.int .i64 1)))⟩,⟨(some 13),none,.i (.mov (.t 28))⟩])))
def Bzci:AC:=(.kp [2,3,7,11,12,13] [3,11,5000,5001,5002] (.dn (.seq (.block 1 (.seq (.reg false [⟨(some 15),none,.i (.iad 1 (.t 11) (.t 13))⟩,⟨(some 16),none,.i (.ld (.t 15))⟩,⟨(some 9),none,.i (.mov (.t 16))⟩]) Bzcg)) Bzch)))
def Bz5t:AC:=(.kp [2,3,7,11,12,13,14] [3,11,5000,5001,5002] (.dn (.seq (.cond (.t 14) .skip (.exit 0)) Bzci)))
def Bz2j:AC:=(.kp [2,3,7,11,12,13] [3,11,5000,5001,5002] (.dn (.seq (.reg false [⟨(some 14),none,.i (.bin .lss (.t 13) (.t 12))⟩]) Bz5t)))
def Bzcj:AC:=(.kp [2,3,7,11,12,13] [3,11,5000,5001,5002] (.dn (.block 0 (.loop Bz2j))))
def Bzck:AC:=(.kp [7] [3,11,5000,5001,5002] (.dn (.seq (.reg false [⟨(some 29),none,.i (.mov (.t 7))⟩,⟨(some 6),none,.i (.mov (.t 29))⟩]) (.dn .ret))))
def Bzcl:AC:=(.kp [1,2,3,7] [3,11,5000,5001,5002] (.dn (.seq (.seq (.reg false [⟨(some 10),none,.i (.mov (.t 1))⟩,⟨(some 11),none,.call nz14 [(.t 10)]⟩,⟨(some 12),none,.i (.len (.t 11))⟩,⟨(some 13),none,.i (.mov (.c (.int .i64 0)))⟩]) Bzcj) Bzck)))
def Bzcm:AC:=(.kp [1,2,3] [3,5000,5001,5002] (.dn (.seq (.reg false [⟨(some 7),none,.i (.mov (.c (.int .u64 0)))⟩]) Bzcl)))
def Azcn:AFn:=⟨30,3,(.seq (.reg false [⟨(some 3),none,.i (.box (.t 0))⟩,⟨(some 6),none,.i (.mov (.c (.int .u64 0)))⟩]) Bzcm),[.tmp 6]⟩
theorem czh9:cFn (drV none) Tryz.prog nz3m Azcn:=⟨_,_,Tryz.func49,rfl,by kernel_rfl,by decide,rfl,by kernel_rfl,by kernel_rfl⟩
def Bzco:AC:=(.kp [0,4] [5000] (.dn (.cond (.t 4) (.seq (.reg false [⟨(some 2),none,.i (.mov (.c (.slice none 0 0)))⟩]) (.dn .ret)) .skip)))
def Bzcp:AC:=(.kp [0] [5000] (.dn (.seq (.reg false [⟨(some 5),none,.i (.bsl 1 false [])⟩,⟨(some 6),none,.i (.mov (.t 0))⟩,⟨(some 7),none,.i (.app 1 8 (.t 5) (.t 6))⟩,⟨(some 2),none,.i (.mov (.t 7))⟩]) (.dn .ret))))
def Bzcq:AC:=(.kp [0] [5000] (.dn (.seq (.seq (.reg false [⟨(some 3),none,.i (.mov (.t 0))⟩,⟨(some 4),none,.i (.isnil false (.t 3))⟩]) Bzco) Bzcp)))
def Azcr:AFn:=⟨8,1,(.seq (.reg false [⟨(some 2),none,.i (.mov (.c (.slice none 0 0)))⟩]) Bzcq),[.tmp 2]⟩
theorem czha:cFn (drV none) Tryz.prog nz1e Azcr:=⟨_,_,Tryz.func50,rfl,by kernel_rfl,by decide,rfl,by kernel_rfl,by kernel_rfl⟩
def Bzcs:AC:=(.kp [1,2,5,6,9,10] [2,7,19,5000,5001] (.dn (.reg false [⟨(some 13),none,.i (.mov (.t 5))⟩,⟨(some 14),none,.i (.lda 2 (.t 2))⟩,⟨(some 15),none,.i (.mov (.t 6))⟩,⟨(some 16),none,.i (.mov (.t 1))⟩,⟨(some 17),none,.call nz1g [(.t 14),(.t 15),(.t 16)]⟩,⟨(some 18),none,.i (.bsl 1 false [(.t 17)])⟩,⟨(some 19),none,.i (.app 1 8 (.t 13) (.t 18))⟩,⟨(some 5),none,.i (.mov (.t 19))⟩])))
def Bzct:AC:=(.kp [1,2,5,9,10] [2,7,19,5000,5001] (.dn (.reg false [⟨(some 20),none,.i (.bin .add (.t 10) (.c (.int .i64 1)))⟩,⟨(some 10),none,.i (.mov (.t 20))⟩])))
def Bz5u:AC:=(.kp [1,2,5,9,10] [2,7,19,5000,5001] (.dn (.seq (.block 1 (.seq (.reg false [⟨(some 12),none,.i (.mov (.t 10))⟩,⟨(some 6),none,.i (.mov (.t 12))⟩]) Bzcs)) Bzct)))
def Bz5v:AC:=(.kp [1,2,5,9,10,11] [2,7,19,5000,5001] (.dn (.seq (.cond (.t 11) .skip (.exit 0)) Bz5u)))
def Bz2k:AC:=(.kp [1,2,5,9,10] [2,7,19,5000,5001] (.dn (.seq (.reg false [⟨(some 11),none,.i (.bin .lss (.t 10) (.t 9))⟩]) Bz5v)))
def Bzcu:AC:=(.kp [1,2,5,9,10] [2,7,19,5000,5001] (.dn (.block 0 (.loop Bz2k))))
def Bzcv:AC:=(.kp [5] [7,19,5000,5001] (.dn (.seq (.reg false [⟨(some 21),none,.i (.mov (.t 5))⟩,⟨(some 4),none,.i (.mov (.t 21))⟩]) (.dn .ret))))
def Bzcw:AC:=(.kp [1,2,5] [2,7,19,5000,5001] (.dn (.seq (.seq (.reg false [⟨(some 8),none,.i (.fad 0 (.t 2))⟩,⟨(some 9),none,.i (.ld (.t 8))⟩,⟨(some 10),none,.i (.mov (.c (.int .i64 0)))⟩]) Bzcu) Bzcv)))
def Bzcx:AC:=(.kp [1,2] [2,5000,5001] (.dn (.seq (.reg false [⟨(some 7),none,.i (.bsl 1 false [])⟩,⟨(some 5),none,.i (.mov (.t 7))⟩]) Bzcw)))
def Azcy:AFn:=⟨22,2,(.seq (.reg false [⟨(some 2),none,.i (.box (.t 0))⟩,⟨(some 4),none,.i (.mov (.c (.slice none 0 0)))⟩]) Bzcx),[.tmp 4]⟩
theorem czhb:cFn (drV none) Tryz.prog nz3n Azcy:=⟨_,_,Tryz.func51,rfl,by kernel_rfl,by decide,rfl,by kernel_rfl,by kernel_rfl⟩
def Bzcz:AC:=(.kp [0] [5000] (.dn (.seq (.reg false [⟨(some 3),none,.i (.mov (.t 0))⟩,⟨(some 4),none,.i (.mov (.t 0))⟩,⟨(some 5),none,.i (.bin .neq (.t 3) (.t 4))⟩,⟨(some 2),none,.i (.mov (.t 5))⟩]) (.dn .ret))))
def Azd0:AFn:=⟨6,1,(.seq (.reg false [⟨(some 2),none,.i (.mov (.c (.bool false)))⟩]) Bzcz),[.tmp 2]⟩
theorem czhc:cFn (drV none) Tryz.prog nz1f Azd0:=⟨_,_,Tryz.func54,rfl,by kernel_rfl,by decide,rfl,by kernel_rfl,by kernel_rfl⟩
def Bzhd:AC:=(.kp [12] [5000,5001] (.dn (.cond (.t 12) (.seq (.reg false [⟨(some 4),none,.i (.mov (.c (.int .i64 0)))⟩]) (.dn .ret)) .skip)))
def Bzhe:AC:=(.kp [] [5000,5001] (.dn (.seq (.reg false [⟨(some 4),none,.i (.mov (.c (.int .i64 (-1))))⟩]) (.dn .ret))))
def Bz2l:AC:=(.kp [0,1,6,11] [5000,5001] (.dn (.cond (.t 11) (.seq (.seq (.reg false [⟨(some 12),none,.i (.mov (.t 6))⟩]) Bzhd) Bzhe) .skip)))
def Bz2m:AC:=(.kp [0,1,13] [5000,5001] (.dn (.cond (.t 13) (.seq (.reg false [⟨(some 4),none,.i (.mov (.c (.int .i64 1)))⟩]) (.dn .ret)) .skip)))
def Bz2n:AC:=(.kp [0,1,16] [5000,5001] (.dn (.cond (.t 16) (.seq (.reg false [⟨(some 4),none,.i (.mov (.c (.int .i64 (-1))))⟩]) (.dn .ret)) .skip)))
def Bz5w:AC:=(.kp [19] [5000,5001] (.dn (.cond (.t 19) (.seq (.reg false [⟨(some 4),none,.i (.mov (.c (.int .i64 1)))⟩]) (.dn .ret)) .skip)))
def Bzd1:AC:=(.kp [] [5000,5001] (.dn (.seq (.reg false [⟨(some 4),none,.i (.mov (.c (.int .i64 0)))⟩]) (.dn .ret))))
def Bz5x:AC:=(.kp [0,1] [5000,5001] (.dn (.seq (.seq (.reg false [⟨(some 17),none,.i (.mov (.t 0))⟩,⟨(some 18),none,.i (.mov (.t 1))⟩,⟨(some 19),none,.i (.bin .gtr (.t 17) (.t 18))⟩]) Bz5w) Bzd1)))
def Bz2o:AC:=(.kp [0,1] [5000,5001] (.dn (.seq (.seq (.reg false [⟨(some 14),none,.i (.mov (.t 0))⟩,⟨(some 15),none,.i (.mov (.t 1))⟩,⟨(some 16),none,.i (.bin .lss (.t 14) (.t 15))⟩]) Bz2n) Bz5x)))
def Bz2p:AC:=(.kp [0,1,6] [5000,5001] (.dn (.seq (.seq (.reg false [⟨(some 13),none,.i (.mov (.t 6))⟩]) Bz2m) Bz2o)))
def Bz2q:AC:=(.kp [0,1,5,6] [5000,5001] (.dn (.seq (.seq (.reg false [⟨(some 11),none,.i (.mov (.t 5))⟩]) Bz2l) Bz2p)))
def Bzd2:AC:=(.kp [0,1,5] [5000,5001] (.dn (.seq (.reg false [⟨(some 9),none,.i (.mov (.t 1))⟩,⟨(some 10),none,.call nz1j [(.t 9)]⟩,⟨(some 6),none,.i (.mov (.t 10))⟩]) Bz2q)))
def Bzd3:AC:=(.kp [0,1] [5000,5001] (.dn (.seq (.reg false [⟨(some 7),none,.i (.mov (.t 0))⟩,⟨(some 8),none,.call nz1j [(.t 7)]⟩,⟨(some 5),none,.i (.mov (.t 8))⟩]) Bzd2)))
def Azd4:AFn:=⟨20,2,(.seq (.reg false [⟨(some 4),none,.i (.mov (.c (.int .i64 0)))⟩]) Bzd3),[.tmp 4]⟩
theorem czhf:cFn (drV none) Tryz.prog nz3o Azd4:=⟨_,_,Tryz.func55,rfl,by kernel_rfl,by decide,rfl,by kernel_rfl,by kernel_rfl⟩
def Bzd5:AC:=(.kp [1,3,8,9,10,11] [3,5000,5001,5002] (.dn (.reg false [⟨(some 15),none,.i (.fad 1 (.t 3))⟩,⟨(some 16),none,.i (.ld (.t 15))⟩,⟨(some 17),none,.i (.mov (.t 8))⟩,⟨(some 18),none,.i (.iad 1 (.t 16) (.t 17))⟩,⟨(some 19),none,.i (.ld (.t 18))⟩,⟨(some 20),none,.i (.mov (.t 1))⟩,⟨(some 21),none,.i (.iad 1 (.t 19) (.t 20))⟩,⟨(some 22),none,.i (.ld (.t 21))⟩,⟨(some 1),none,.i (.mov (.t 22))⟩])))
def Bzd6:AC:=(.kp [1,3,9,10,11] [3,5000,5001,5002] (.dn (.reg false [⟨(some 23),none,.i (.bin .add (.t 11) (.c (.int .i64 1)))⟩,⟨(some 11),none,.i (.mov (.t 23))⟩])))
def Bz5y:AC:=(.kp [1,3,9,10,11] [3,5000,5001,5002] (.dn (.seq (.block 1 (.seq (.reg false [⟨(some 13),none,.i (.iad 1 (.t 9) (.t 11))⟩,⟨(some 14),none,.i (.ld (.t 13))⟩,⟨(some 8),none,.i (.mov (.t 14))⟩]) Bzd5)) Bzd6)))
def Bz5z:AC:=(.kp [1,3,9,10,11,12] [3,5000,5001,5002] (.dn (.seq (.cond (.t 12) .skip (.exit 0)) Bz5y)))
def Bz2r:AC:=(.kp [1,3,9,10,11] [3,5000,5001,5002] (.dn (.seq (.reg false [⟨(some 12),none,.i (.bin .lss (.t 11) (.t 10))⟩]) Bz5z)))
def Bzd7:AC:=(.kp [1,3,9,10,11] [3,5000,5001,5002] (.dn (.block 0 (.loop Bz2r))))
def Bzd8:AC:=(.kp [1] [3,5000,5001,5002] (.dn (.seq (.reg false [⟨(some 24),none,.i (.mov (.t 1))⟩,⟨(some 6),none,.i (.mov (.t 24))⟩]) (.dn .ret))))
def Bzd9:AC:=(.kp [1,2,3] [3,5000,5001,5002] (.dn (.seq (.seq (.reg false [⟨(some 9),none,.i (.mov (.t 2))⟩,⟨(some 10),none,.i (.len (.t 9))⟩,⟨(some 11),none,.i (.mov (.c (.int .i64 0)))⟩]) Bzd7) Bzd8)))
def Azda:AFn:=⟨25,3,(.seq (.reg false [⟨(some 3),none,.i (.box (.t 0))⟩,⟨(some 6),none,.i (.mov (.c (.int .i64 0)))⟩]) Bzd9),[.tmp 6]⟩
theorem czhg:cFn (drV none) Tryz.prog nz1g Azda:=⟨_,_,Tryz.func56,rfl,by kernel_rfl,by decide,rfl,by kernel_rfl,by kernel_rfl⟩
def Bzdb:AC:=(.kp [3] [5,5000] (.dn (.seq (.reg false [⟨(some 8),none,.i (.mov (.t 3))⟩,⟨(some 9),none,.call nz3w [(.t 8)]⟩,⟨(some 2),none,.i (.mov (.t 9))⟩]) (.dn .ret))))
def Bzdc:AC:=(.kp [3] [5,5000] (.dn (.seq (.reg false [⟨(some 6),none,.i (.mov (.t 3))⟩,⟨(some 7),none,.call nz3v [(.t 6)]⟩]) Bzdb)))
def Bzdd:AC:=(.kp [0] [5000] (.dn (.seq (.reg false [⟨(some 4),none,.i (.mov (.t 0))⟩,⟨(some 5),none,.call nz1e [(.t 4)]⟩,⟨(some 3),none,.i (.mov (.t 5))⟩]) Bzdc)))
def Azde:AFn:=⟨10,1,(.seq (.reg false [⟨(some 2),none,.i (.mov (.c (.slice none 0 0)))⟩]) Bzdd),[.tmp 2]⟩
theorem czhh:cFn (drV none) Tryz.prog nz3p Azde:=⟨_,_,Tryz.func57,rfl,by kernel_rfl,by decide,rfl,by kernel_rfl,by kernel_rfl⟩
def Bzdf:AC:=(.kp [0,1,5,7,8,16] [16,1016,5000,5001] (.dn (.cond (.t 16) (.seq (.reg false [⟨(some 17),none,.i (.mov (.t 5))⟩,⟨(some 4),none,.i (.mov (.t 17))⟩]) (.dn .ret)) .skip)))
def Bzdg:AC:=(.kp [0,1,5,7,8] [5000,5001] (.dn (.seq (.reg false [⟨(some 11),none,.i (.mov (.t 1))⟩,⟨(some 12),none,.i (.mov (.t 0))⟩,⟨(some 13),none,.i (.mov (.t 5))⟩,⟨(some 14),none,.i (.iad 1 (.t 12) (.t 13))⟩,⟨(some 15),none,.i (.ld (.t 14))⟩,⟨(some 16),none,.calv (.t 11) [(.t 15)]⟩]) Bzdf)))
def Bzdh:AC:=(.kp [0,1,7,8] [5000,5001] (.dn (.reg false [⟨(some 18),none,.i (.bin .add (.t 8) (.c (.int .i64 1)))⟩,⟨(some 8),none,.i (.mov (.t 18))⟩])))
def Bz60:AC:=(.kp [0,1,7,8] [5000,5001] (.dn (.seq (.block 1 (.seq (.reg false [⟨(some 10),none,.i (.mov (.t 8))⟩,⟨(some 5),none,.i (.mov (.t 10))⟩]) Bzdg)) Bzdh)))
def Bz61:AC:=(.kp [0,1,7,8,9] [5000,5001] (.dn (.seq (.cond (.t 9) .skip (.exit 0)) Bz60)))
def Bz2s:AC:=(.kp [0,1,7,8] [5000,5001] (.dn (.seq (.reg false [⟨(some 9),none,.i (.bin .lss (.t 8) (.t 7))⟩]) Bz61)))
def Bzdi:AC:=(.kp [0,1,7,8] [5000,5001] (.dn (.block 0 (.loop Bz2s))))
def Bzdj:AC:=(.kp [] [5000,5001] (.dn (.seq (.reg false [⟨(some 4),none,.i (.mov (.c (.int .i64 (-1))))⟩]) (.dn .ret))))
def Bzdk:AC:=(.kp [0,1] [5000,5001] (.dn (.seq (.seq (.reg false [⟨(some 6),none,.i (.mov (.t 0))⟩,⟨(some 7),none,.i (.len (.t 6))⟩,⟨(some 8),none,.i (.mov (.c (.int .i64 0)))⟩]) Bzdi) Bzdj)))
def Azdl:AFn:=⟨19,2,(.seq (.reg false [⟨(some 4),none,.i (.mov (.c (.int .i64 0)))⟩]) Bzdk),[.tmp 4]⟩
theorem czhi:cFn (drV none) Tryz.prog nz1h Azdl:=⟨_,_,Tryz.func58,rfl,by kernel_rfl,by decide,rfl,by kernel_rfl,by kernel_rfl⟩
def Bz62:AC:=(.kp [0,2,4,5,6,7,26] [2,4,8,17,23,36,43,93,5000] (.cond (.t 26) .skip (.exit 0)))
def Bz63:AC:=(.kp [0,2,4,5,6,7,32] [2,4,8,17,23,36,43,93,5000] (.cond (.t 32) (.regi false [⟨(some 33),none,.i (.mov (.t 6))⟩,⟨(some 34),none,.i (.mov (.t 7))⟩,⟨(some 35),none,.i (.bsl 1 false [(.t 34)])⟩,⟨(some 36),none,.i (.app 1 8 (.t 33) (.t 35))⟩,⟨(some 6),none,.i (.mov (.t 36))⟩]) (.regi false [⟨(some 37),none,.i (.mov (.t 6))⟩,⟨(some 38),none,.i (.mov (.t 0))⟩,⟨(some 39),none,.i (.fad 0 (.t 4))⟩,⟨(some 40),none,.i (.ld (.t 39))⟩,⟨(some 41),none,.call nz0 [(.t 38),(.t 40)]⟩,⟨(some 42),none,.i (.bsl 1 false [(.t 41)])⟩,⟨(some 43),none,.i (.app 1 8 (.t 37) (.t 42))⟩,⟨(some 6),none,.i (.mov (.t 43))⟩])))
def Bz64:AC:=(.kp [0,2,4,5,6,7] [2,4,8,17,23,36,43,93,5000] (.regi false [⟨(some 27),none,.i (.mov (.t 7))⟩,⟨(some 28),none,.i (.bin .add (.t 27) (.c (.int .i64 1)))⟩,⟨(some 7),none,.i (.mov (.t 28))⟩]))
def Bzdm:AC:=(.kp [0,2,4,5,6,7] [2,4,8,17,23,36,43,93,5000] (.seq (.block 1 (.seq (.regi false [⟨(some 29),none,.i (.mov (.t 7))⟩,⟨(some 30),none,.i (.fad 0 (.t 4))⟩,⟨(some 31),none,.i (.ld (.t 30))⟩,⟨(some 32),none,.i (.bin .lss (.t 29) (.t 31))⟩]) Bz63)) Bz64))
def Bz2t:AC:=(.kp [0,2,4,5,6,7] [2,4,8,17,23,36,43,93,5000] (.seq (.seq (.regi false [⟨(some 24),none,.i (.mov (.t 7))⟩,⟨(some 25),none,.i (.mov (.t 5))⟩,⟨(some 26),none,.i (.bin .lss (.t 24) (.t 25))⟩]) Bz62) Bzdm))
def Bzdn:AC:=(.kp [0,2,4,5,6,7] [2,4,8,17,23,36,43,93,5000] (.block 0 (.loop Bz2t)))
def Bz65:AC:=(.kp [0,2,4,5,6,8,9,50] [2,4,8,17,23,36,43,93,5000] (.cond (.t 50) .skip (.exit 2)))
def Bz66:AC:=(.kp [0,2,4,5,6,8,9,10,11,56] [2,4,8,17,23,36,43,53,88,93,5000] (.cond (.t 56) .skip (.exit 4)))
def Bz67:AC:=(.kp [0,2,4,5,6,8,9,10,11,12,13,14,72] [2,4,8,17,23,36,43,53,88,93,5000] (.cond (.t 72) .skip (.exit 6)))
def Bzdo:AC:=(.kp [0,2,4,5,6,8,9,10,11,12,13,14,15,83] [2,4,8,17,23,36,43,53,88,93,5000] (.cond (.t 83) (.regi false [⟨(some 84),none,.i (.mov (.t 15))⟩,⟨(some 13),none,.i (.mov (.t 84))⟩]) .skip))
def Bzdp:AC:=(.kp [0,2,4,5,6,8,9,10,11,12,13,14,15] [2,4,8,17,23,36,43,53,88,93,5000] (.seq (.regi false [⟨(some 78),none,.i (.mov (.t 6))⟩,⟨(some 79),none,.i (.mov (.t 15))⟩,⟨(some 80),none,.i (.iad 1 (.t 78) (.t 79))⟩,⟨(some 81),none,.i (.ld (.t 80))⟩,⟨(some 82),none,.i (.mov (.t 12))⟩,⟨(some 83),none,.i (.bin .eql (.t 81) (.t 82))⟩]) Bzdo))
def Bzdq:AC:=(.kp [0,2,4,5,6,8,9,10,11,12,13,14] [2,4,8,17,23,36,43,53,88,93,5000] (.regi false [⟨(some 73),none,.i (.mov (.t 14))⟩,⟨(some 74),none,.i (.bin .add (.t 73) (.c (.int .i64 1)))⟩,⟨(some 14),none,.i (.mov (.t 74))⟩]))
def Bzdr:AC:=(.kp [0,2,4,5,6,8,9,10,11,12,13,14] [2,4,8,17,23,36,43,53,88,93,5000] (.seq (.block 7 (.seq (.regi false [⟨(some 75),none,.i (.mov (.t 0))⟩,⟨(some 76),none,.i (.mov (.t 5))⟩,⟨(some 77),none,.call nz0 [(.t 75),(.t 76)]⟩,⟨(some 15),none,.i (.mov (.t 77))⟩]) Bzdp)) Bzdq))
def Bz2u:AC:=(.kp [0,2,4,5,6,8,9,10,11,12,13,14] [2,4,8,17,23,36,43,53,88,93,5000] (.seq (.seq (.regi false [⟨(some 71),none,.i (.mov (.t 14))⟩,⟨(some 72),none,.i (.bin .lss (.t 71) (.c (.int .i64 4)))⟩]) Bz67) Bzdr))
def Bzds:AC:=(.kp [0,2,4,5,6,8,9,10,11,12,13,14] [2,4,8,17,23,36,43,53,88,93,5000] (.block 6 (.loop Bz2u)))
def Bzdt:AC:=(.kp [0,2,4,5,6,8,9,10,11,13] [2,4,8,17,23,36,43,53,88,93,5000] (.regi false [⟨(some 85),none,.i (.mov (.t 10))⟩,⟨(some 86),none,.i (.mov (.t 13))⟩,⟨(some 87),none,.i (.bsl 1 false [(.t 86)])⟩,⟨(some 88),none,.i (.app 1 8 (.t 85) (.t 87))⟩,⟨(some 10),none,.i (.mov (.t 88))⟩]))
def Bzdu:AC:=(.kp [0,2,4,5,6,8,9,10,11,12,13] [2,4,8,17,23,36,43,53,88,93,5000] (.seq (.seq (.regi false [⟨(some 14),none,.i (.mov (.c (.int .i64 0)))⟩]) Bzds) Bzdt))
def Bzdv:AC:=(.kp [0,2,4,5,6,8,9,10,11,12] [2,4,8,17,23,36,43,53,88,93,5000] (.seq (.regi false [⟨(some 70),none,.i (.mov (.t 12))⟩,⟨(some 13),none,.i (.mov (.t 70))⟩]) Bzdu))
def Bzdw:AC:=(.kp [0,2,4,5,6,8,9,10,11] [2,4,8,17,23,36,43,53,88,93,5000] (.regi false [⟨(some 57),none,.i (.mov (.t 11))⟩,⟨(some 58),none,.i (.bin .add (.t 57) (.c (.int .i64 1)))⟩,⟨(some 11),none,.i (.mov (.t 58))⟩]))
def Bzdx:AC:=(.kp [0,2,4,5,6,8,9,10,11] [2,4,8,17,23,36,43,53,88,93,5000] (.seq (.block 5 (.seq (.regi true [⟨(some 59),none,.r [5000] (.fad 1 (.t 4))⟩,⟨(some 60),none,.r [5000] (.ld (.t 59))⟩,⟨(some 61),none,.i (.mov (.t 9))⟩,⟨(some 62),none,.r [5000] (.iad 1 (.t 60) (.t 61))⟩,⟨(some 63),none,.r [5000] (.ld (.t 62))⟩,⟨(some 64),none,.i (.mov (.t 6))⟩,⟨(some 65),none,.i (.mov (.t 11))⟩,⟨(some 66),none,.r [5000] (.iad 1 (.t 64) (.t 65))⟩,⟨(some 67),none,.r [5000] (.ld (.t 66))⟩,⟨(some 68),none,.r [5000] (.iad 1 (.t 63) (.t 67))⟩,⟨(some 69),none,.r [5000] (.ld (.t 68))⟩,⟨(some 12),none,.i (.mov (.t 69))⟩]) Bzdv)) Bzdw))
def Bz2v:AC:=(.kp [0,2,4,5,6,8,9,10,11] [2,4,8,17,23,36,43,53,88,93,5000] (.seq (.seq (.regi false [⟨(some 54),none,.i (.mov (.t 11))⟩,⟨(some 55),none,.i (.mov (.t 5))⟩,⟨(some 56),none,.i (.bin .lss (.t 54) (.t 55))⟩]) Bz66) Bzdx))
def Bzdy:AC:=(.kp [0,2,4,5,6,8,9,10,11] [2,4,8,17,23,36,43,53,88,93,5000] (.block 4 (.loop Bz2v)))
def Bzdz:AC:=(.kp [0,2,4,5,6,8,9,10] [2,4,8,17,23,36,43,53,88,93,5000] (.gh (.regi false [⟨(some 89),none,.i (.fad 1 (.t 8))⟩,⟨(some 90),none,.i (.ld (.t 89))⟩,⟨(some 91),none,.i (.mov (.t 10))⟩,⟨(some 92),none,.i (.bsl 1 true [(.t 91)])⟩,⟨(some 93),none,.i (.app 1 24 (.t 90) (.t 92))⟩,⟨(some 94),none,.i (.fad 1 (.t 8))⟩,⟨none,none,.i (.sto 1 (.t 94) (.t 93))⟩])))
def Bze0:AC:=(.kp [0,2,4,5,6,8,9,10] [2,4,8,17,23,36,43,53,88,93,5000] (.seq (.seq (.regi false [⟨(some 11),none,.i (.mov (.c (.int .i64 0)))⟩]) Bzdy) Bzdz))
def Bze1:AC:=(.kp [0,2,4,5,6,8,9] [2,4,8,17,23,36,43,93,5000] (.regi false [⟨(some 51),none,.i (.mov (.t 9))⟩,⟨(some 52),none,.i (.bin .add (.t 51) (.c (.int .i64 1)))⟩,⟨(some 9),none,.i (.mov (.t 52))⟩]))
def Bze2:AC:=(.kp [0,2,4,5,6,8,9] [2,4,8,17,23,36,43,93,5000] (.seq (.block 3 (.seq (.regi false [⟨(some 53),none,.i (.bsl 1 false [])⟩,⟨(some 10),none,.i (.mov (.t 53))⟩]) Bze0)) Bze1))
def Bz2w:AC:=(.kp [0,2,4,5,6,8,9] [2,4,8,17,23,36,43,93,5000] (.seq (.seq (.regi false [⟨(some 46),none,.i (.mov (.t 9))⟩,⟨(some 47),none,.i (.fad 1 (.t 4))⟩,⟨(some 48),none,.i (.ld (.t 47))⟩,⟨(some 49),none,.i (.len (.t 48))⟩,⟨(some 50),none,.i (.bin .lss (.t 46) (.t 49))⟩]) Bz65) Bze2))
def Bze3:AC:=(.kp [0,2,4,5,6,8,9] [2,4,8,17,23,36,43,93,5000] (.ad 8 1 93 1 (.block 2 (.loop Bz2w))))
def Bze4:AC:=(.kp [2,6,8] [2,4,8,17,23,36,43,93,5000] (.seq (.regi true [⟨(some 95),none,.r [5000] (.lda 2 (.t 8))⟩,⟨(some 96),none,.i (.mov (.t 6))⟩,⟨(some 97),none,.call nz3x [(.t 96)]⟩,⟨none,none,.i (.sto 2 (.t 2) (.t 95))⟩,⟨(some 3),none,.i (.mov (.t 97))⟩]) .ret))
def Bze5:AC:=(.kp [0,2,4,5,6,8] [2,4,8,17,23,36,43,93,5000] (.seq (.seq (.regi false [⟨(some 9),none,.i (.mov (.c (.int .i64 0)))⟩]) Bze3) Bze4))
def Bze6:AC:=(.kp [0,2,4,5,6] [2,4,8,17,23,36,43,93,5000] (.seq (.regi false [⟨(some 44),none,.i (.mov (.t 5))⟩,⟨(some 45),none,.i (.bst [.int .i64 0,.slice none 0 0] [(0,1,(.t 44))])⟩,⟨(some 8),none,.i (.new [.int .i64 0,.slice none 0 0])⟩,⟨none,none,.i (.sto 2 (.t 8) (.t 45))⟩]) Bze5))
def Bze7:AC:=(.kp [0,2,4,5,6] [2,4,8,17,23,36,43,93,5000] (.seq (.seq (.regi false [⟨(some 7),none,.i (.mov (.c (.int .i64 0)))⟩]) Bzdn) Bze6))
def Bze8:AC:=(.kp [0,2,4,5] [2,4,8,17,93,5000] (.seq (.regi false [⟨(some 23),none,.i (.bsl 1 false [])⟩,⟨(some 6),none,.i (.mov (.t 23))⟩]) Bze7))
def Bze9:AC:=(.kp [0,2,4] [2,4,8,17,93,5000] (.seq (.regi true [⟨(some 18),none,.r [5000] (.fad 0 (.t 4))⟩,⟨(some 19),none,.r [5000] (.ld (.t 18))⟩,⟨(some 20),none,.i (.mov (.t 0))⟩,⟨(some 21),none,.calm [5000] nz0 [(.t 20),(.c (.int .i64 4))]⟩,⟨(some 22),none,.i (.bin .add (.t 19) (.t 21))⟩,⟨(some 5),none,.i (.mov (.t 22))⟩]) Bze8))
def Bzea:AC:=(.kp [0,2] [2,4,8,17,93,5000] (.seq (.regi false [⟨(some 16),none,.i (.mov (.t 0))⟩,⟨(some 17),none,.call nzb [(.t 16),(.c (.int .i64 3))]⟩,⟨(some 4),none,.i (.new [.int .i64 0,.slice none 0 0])⟩,⟨none,none,.i (.sto 2 (.t 4) (.t 17))⟩]) Bze9))
def Az68:AFn:=⟨98,1,(.seq (.regi false [⟨(some 2),none,.i (.new [.int .i64 0,.slice none 0 0])⟩,⟨(some 3),none,.i (.mov (.c (.slice none 0 0)))⟩]) Bzea),[.cell (some 2) 2,.tmp 3]⟩
theorem czhj:cFn (drV (some ([5000],[nz0]))) Tryz.prog nz3q Az68:=⟨_,_,Tryz.func59,rfl,by kernel_rfl,by decide,rfl,by kernel_rfl,by kernel_rfl⟩
def Bzeb:AC:=(.kp [0,2,3,8] [2,3,6,10,61,73,77,5000,901] (.cond (.t 8) (.regi false [⟨(some 9),none,.i (.mov (.t 0))⟩,⟨(some 10),none,.call nzb [(.t 9),(.c (.int .i64 10))]⟩,⟨none,none,.i (.sto 2 (.t 3) (.t 10))⟩]) .skip))
def Bzt:AC:=(.kp [2,3,75] [2,3,6,10,61,73,77,5000,901] (.cond (.t 75) (.regi false [⟨(some 77),none,.i (.bsl 1 true [])⟩,⟨(some 78),none,.i (.fad 1 (.t 3))⟩,⟨none,none,.i (.sto 1 (.t 78) (.t 77))⟩]) .skip))
def Bz7:AC:=(.kp [2,3,17,52] [2,3,6,10,61,73,77,5000,901] (.cond (.t 52) (.regi true [⟨(some 54),none,.i (.fad 1 (.t 3))⟩,⟨(some 55),none,.i (.ld (.t 54))⟩,⟨(some 56),none,.i (.fad 1 (.t 3))⟩,⟨(some 57),none,.i (.ld (.t 56))⟩,⟨(some 58),none,.i (.iad 1 (.t 57) (.c (.int .i64 0)))⟩,⟨(some 59),none,.i (.ld (.t 58))⟩,⟨(some 63),none,.i (.fad 1 (.t 3))⟩,⟨(some 64),none,.i (.ld (.t 63))⟩,⟨(some 65),none,.i (.iad 1 (.t 64) (.c (.int .i64 0)))⟩,⟨(some 66),none,.i (.ld (.t 65))⟩,⟨(some 67),none,.i (.fad 1 (.t 3))⟩,⟨(some 68),none,.i (.ld (.t 67))⟩,⟨(some 69),none,.i (.iad 1 (.t 68) (.c (.int .i64 0)))⟩,⟨(some 70),none,.i (.ld (.t 69))⟩,⟨(some 60),none,.i (.bslm [62,71] 1 [(.t 59)])⟩,⟨(some 61),none,.i (.appn [60] 1 24 (.t 55) (.t 60))⟩,⟨(some 62),none,.i (.bslm [71,60] 1 [])⟩,⟨(some 71),none,.i (.bslm [60] 1 [(.t 66),(.t 70)])⟩,⟨(some 72),none,.i (.app 1 24 (.t 62) (.t 71))⟩,⟨(some 73),none,.i (.app 1 24 (.t 61) (.t 72))⟩,⟨(some 74),none,.i (.fad 1 (.t 3))⟩,⟨none,none,.i (.sto 1 (.t 74) (.t 73))⟩]) (.seq (.regi false [⟨(some 76),none,.i (.bin .eql (.t 17) (.c (.int .i64 4)))⟩,⟨(some 75),none,.i (.mov (.t 76))⟩]) Bzt)))
def Bz5:AC:=(.kp [0,2,3,4,17,39] [2,3,6,10,61,73,77,5000,901] (.gh (.cond (.t 39) (.regi true [⟨(some 41),none,.r [5000,49] (.fad 1 (.t 3))⟩,⟨(some 42),none,.r [5000,49] (.ld (.t 41))⟩,⟨(some 43),none,.i (.mov (.t 4))⟩,⟨(some 44),none,.r [5000,49] (.iad 1 (.t 42) (.t 43))⟩,⟨(some 45),none,.r [5000,49] (.ld (.t 44))⟩,⟨(some 46),none,.i (.mov (.t 0))⟩,⟨(some 47),none,.r [5000,49] (.fad 0 (.t 3))⟩,⟨(some 48),none,.r [5000,49] (.ld (.t 47))⟩,⟨(some 49),none,.i (.bsl 1 false [(.c (.int .i64 (-1))),(.t 48)])⟩,⟨(some 50),none,.calm [5000,49] nzk [(.t 46),(.t 49)]⟩,⟨(some 51),none,.r [5000,49] (.iad 1 (.t 45) (.c (.int .i64 0)))⟩,⟨none,none,.i (.sto 1 (.t 51) (.t 50))⟩]) (.seq (.regi false [⟨(some 53),none,.i (.bin .eql (.t 17) (.c (.int .i64 3)))⟩,⟨(some 52),none,.i (.mov (.t 53))⟩]) Bz7))))
def Bz3:AC:=(.kp [0,2,3,4,17,27] [2,3,6,10,61,73,77,5000,901] (.cond (.t 27) (.regi true [⟨(some 29),none,.r [5000,49] (.fad 1 (.t 3))⟩,⟨(some 30),none,.r [5000,49] (.ld (.t 29))⟩,⟨(some 31),none,.i (.mov (.t 4))⟩,⟨(some 32),none,.r [5000,49] (.fad 1 (.t 3))⟩,⟨(some 33),none,.r [5000,49] (.ld (.t 32))⟩,⟨(some 34),none,.i (.mov (.t 4))⟩,⟨(some 35),none,.r [5000,49] (.iad 1 (.t 33) (.t 34))⟩,⟨(some 36),none,.r [5000,49] (.ld (.t 35))⟩,⟨(some 37),none,.i (.slcr 1 (.t 36) (some (.c (.int .i64 1))) none)⟩,⟨(some 38),none,.r [5000,49] (.iad 1 (.t 30) (.t 31))⟩,⟨none,none,.i (.sto 1 (.t 38) (.t 37))⟩]) (.seq (.regi false [⟨(some 40),none,.i (.bin .eql (.t 17) (.c (.int .i64 2)))⟩,⟨(some 39),none,.i (.mov (.t 40))⟩]) Bz5)))
def Bz1:AC:=(.kp [0,2,3,4,17,18] [2,3,6,10,61,73,77,5000,901] (.cond (.t 18) (.regi false [⟨(some 20),none,.i (.mov (.t 0))⟩,⟨(some 21),none,.i (.fad 0 (.t 3))⟩,⟨(some 22),none,.i (.ld (.t 21))⟩,⟨(some 23),none,.i (.bin .add (.t 22) (.c (.int .i64 1)))⟩,⟨(some 24),none,.i (.bsl 1 false [(.c (.int .i64 0)),(.c (.int .i64 (-1))),(.t 23),(.c (.int .i64 11))])⟩,⟨(some 25),none,.call nzk [(.t 20),(.t 24)]⟩,⟨(some 26),none,.i (.fad 0 (.t 3))⟩,⟨none,none,.i (.sto 1 (.t 26) (.t 25))⟩]) (.seq (.regi false [⟨(some 28),none,.i (.bin .eql (.t 17) (.c (.int .i64 1)))⟩,⟨(some 27),none,.i (.mov (.t 28))⟩]) Bz3)))
def Bz2:AC:=(.kp [0,2,3,4,17] [2,3,6,10,61,73,77,5000,901] (.block 0 (.seq (.regi false [⟨(some 19),none,.i (.bin .eql (.t 17) (.c (.int .i64 0)))⟩,⟨(some 18),none,.i (.mov (.t 19))⟩]) Bz1)))
def Bzu:AC:=(.kp [2,3] [2,3,6,10,61,73,77,5000,901] (.gh (.seq (.regi false [⟨(some 79),none,.i (.lda 2 (.t 3))⟩,⟨none,none,.i (.sto 2 (.t 2) (.t 79))⟩]) .ret)))
def Bz69:AC:=(.kp [0,2,3,4] [2,3,6,10,61,73,77,5000,901] (.seq (.seq (.regi false [⟨(some 16),none,.i (.mov (.t 0))⟩,⟨(some 17),none,.call nz0 [(.t 16),(.c (.int .i64 24))]⟩]) Bz2) Bzu))
def Bz6a:AC:=(.kp [0,2,3] [2,3,6,10,61,73,77,5000,901] (.seq (.regi false [⟨(some 11),none,.i (.mov (.t 0))⟩,⟨(some 12),none,.i (.fad 1 (.t 3))⟩,⟨(some 13),none,.i (.ld (.t 12))⟩,⟨(some 14),none,.i (.len (.t 13))⟩,⟨(some 15),none,.call nz0 [(.t 11),(.t 14)]⟩,⟨(some 4),none,.i (.mov (.t 15))⟩]) Bz69))
def Bzec:AC:=(.kp [0,2,3] [2,3,6,10,61,73,77,5000,901] (.seq (.seq (.regi false [⟨(some 7),none,.i (.mov (.t 0))⟩,⟨(some 8),none,.call nz4 [(.t 7),(.c (.int .i64 8))]⟩]) Bzeb) Bz6a))
def Bzed:AC:=(.kp [0,2] [2,3,6,10,61,73,77,5000,901] (.seq (.regi false [⟨(some 5),none,.i (.mov (.t 0))⟩,⟨(some 6),none,.call nzb [(.t 5),(.c (.int .i64 6))]⟩,⟨(some 3),none,.i (.new [.int .i64 0,.slice none 0 0])⟩,⟨none,none,.i (.sto 2 (.t 3) (.t 6))⟩]) Bzec))
def Az8:AFn:=⟨80,1,(.seq (.regi false [⟨(some 2),none,.i (.new [.int .i64 0,.slice none 0 0])⟩]) Bzed),[.cell (some 2) 2]⟩
theorem czhk:cFn (drW (some ([5000,49],[nzk]))) Tryz.prog nz3r Az8:=⟨_,_,Tryz.func60,rfl,by kernel_rfl,by decide,rfl,by kernel_rfl,by kernel_rfl⟩
def Bz6b:AC:=(.kp [0,1,4,5,23] [4,7,87,5000,5001] (.cond (.t 23) (.regi false [⟨(some 24),none,.i (.mov (.t 1))⟩,⟨(some 25),none,.i (.mov (.t 0))⟩,⟨(some 26),none,.call nz0 [(.t 25),(.c (.int .i64 3))]⟩,⟨(some 27),none,.i (.bin .add (.c (.int .i64 3)) (.t 26))⟩,⟨(some 28),none,.call nz3y [(.t 24),(.t 27)]⟩,⟨(some 5),none,.i (.mov (.t 28))⟩]) .skip))
def Bz6c:AC:=(.kp [0,4,5,6,38] [4,7,87,5000,5001] (.cond (.t 38) (.regi false [⟨(some 6),none,.i (.mov (.c (.int .i64 2)))⟩]) .skip))
def Bz6d:AC:=(.kp [0,4,5,6,7,8,43] [4,7,87,5000,5001] (.cond (.t 43) .skip (.exit 0)))
def Bz6e:AC:=(.kp [0,4,5,6,7,8,9,10,11,51] [4,7,46,82,87,5000,5001] (.cond (.t 51) .skip (.exit 2)))
def Bzee:AC:=(.kp [0,4,5,6,7,8,9,10,11,12,68] [4,7,46,82,87,5000,5001] (.cond (.t 68) (.regi false [⟨(some 69),none,.i (.mov (.t 11))⟩,⟨(some 12),none,.i (.mov (.t 69))⟩]) .skip))
def Bzef:AC:=(.kp [0,4,5,6,7,8,9,10,11,12,74] [4,7,46,82,87,5000,5001] (.cond (.t 74) (.regi false [⟨(some 75),none,.i (.mov (.t 5))⟩,⟨(some 76),none,.i (.bin .sub (.t 75) (.c (.int .i64 1)))⟩,⟨(some 77),none,.i (.mov (.t 11))⟩,⟨(some 78),none,.i (.bin .sub (.t 76) (.t 77))⟩,⟨(some 12),none,.i (.mov (.t 78))⟩]) .skip))
def Bz6f:AC:=(.kp [0,4,5,6,7,8,9,10,11,12,70] [4,7,46,82,87,5000,5001] (.cond (.t 70) (.seq (.regi false [⟨(some 72),none,.i (.mov (.t 0))⟩,⟨(some 73),none,.call nz4 [(.t 72),(.c (.int .i64 3))]⟩,⟨(some 74),none,.i (.un .not (.t 73))⟩]) Bzef) .skip))
def Bz2x:AC:=(.kp [0,4,5,6,7,8,9,10,11,12,57,64] [4,7,46,82,87,5000,5001] (.cond (.t 64) (.seq (.regi false [⟨(some 66),none,.i (.mov (.t 0))⟩,⟨(some 67),none,.call nz4 [(.t 66),(.c (.int .i64 4))]⟩,⟨(some 68),none,.i (.un .not (.t 67))⟩]) Bzee) (.seq (.regi false [⟨(some 71),none,.i (.bin .eql (.t 57) (.c (.int .i64 2)))⟩,⟨(some 70),none,.i (.mov (.t 71))⟩]) Bz6f)))
def Bzv:AC:=(.kp [0,4,5,6,7,8,9,10,11,12,57,58] [4,7,46,82,87,5000,5001] (.cond (.t 58) (.regi false [⟨(some 60),none,.i (.mov (.t 11))⟩,⟨(some 61),none,.i (.bin .add (.t 60) (.c (.int .i64 1)))⟩,⟨(some 62),none,.i (.mov (.t 5))⟩,⟨(some 63),none,.i (.bin .rem (.t 61) (.t 62))⟩,⟨(some 12),none,.i (.mov (.t 63))⟩]) (.seq (.regi false [⟨(some 65),none,.i (.bin .eql (.t 57) (.c (.int .i64 1)))⟩,⟨(some 64),none,.i (.mov (.t 65))⟩]) Bz2x)))
def Bzw:AC:=(.kp [0,4,5,6,7,8,9,10,11,12,57] [4,7,46,82,87,5000,5001] (.block 4 (.seq (.regi false [⟨(some 59),none,.i (.bin .eql (.t 57) (.c (.int .i64 0)))⟩,⟨(some 58),none,.i (.mov (.t 59))⟩]) Bzv)))
def Bzeg:AC:=(.kp [0,4,5,6,7,8,9,10,11,12] [4,7,46,82,87,5000,5001] (.regi false [⟨(some 79),none,.i (.mov (.t 9))⟩,⟨(some 80),none,.i (.mov (.t 12))⟩,⟨(some 81),none,.i (.bsl 1 false [(.t 80)])⟩,⟨(some 82),none,.i (.app 1 8 (.t 79) (.t 81))⟩,⟨(some 9),none,.i (.mov (.t 82))⟩]))
def Bzeh:AC:=(.kp [0,4,5,6,7,8,9,10,11,12] [4,7,46,82,87,5000,5001] (.seq (.seq (.regi false [⟨(some 57),none,.i (.mov (.t 10))⟩]) Bzw) Bzeg))
def Bzei:AC:=(.kp [0,4,5,6,7,8,9,10,11] [4,7,46,82,87,5000,5001] (.regi false [⟨(some 52),none,.i (.mov (.t 11))⟩,⟨(some 53),none,.i (.bin .add (.t 52) (.c (.int .i64 1)))⟩,⟨(some 11),none,.i (.mov (.t 53))⟩]))
def Bz6g:AC:=(.kp [0,4,5,6,7,8,9,10,11] [4,7,46,82,87,5000,5001] (.seq (.block 3 (.seq (.regi false [⟨(some 54),none,.i (.mov (.t 0))⟩,⟨(some 55),none,.i (.mov (.t 5))⟩,⟨(some 56),none,.call nz0 [(.t 54),(.t 55)]⟩,⟨(some 12),none,.i (.mov (.t 56))⟩]) Bzeh)) Bzei))
def Bz2y:AC:=(.kp [0,4,5,6,7,8,9,10,11] [4,7,46,82,87,5000,5001] (.seq (.seq (.regi false [⟨(some 49),none,.i (.mov (.t 11))⟩,⟨(some 50),none,.i (.mov (.t 5))⟩,⟨(some 51),none,.i (.bin .lss (.t 49) (.t 50))⟩]) Bz6e) Bz6g))
def Bzej:AC:=(.kp [0,4,5,6,7,8,9,10,11] [4,7,46,82,87,5000,5001] (.block 2 (.loop Bz2y)))
def Bzek:AC:=(.kp [0,4,5,6,7,8,9] [4,7,46,82,87,5000,5001] (.gh (.regi false [⟨(some 83),none,.i (.fad 1 (.t 7))⟩,⟨(some 84),none,.i (.ld (.t 83))⟩,⟨(some 85),none,.i (.mov (.t 9))⟩,⟨(some 86),none,.i (.bsl 1 true [(.t 85)])⟩,⟨(some 87),none,.i (.app 1 24 (.t 84) (.t 86))⟩,⟨(some 88),none,.i (.fad 1 (.t 7))⟩,⟨none,none,.i (.sto 1 (.t 88) (.t 87))⟩])))
def Bzel:AC:=(.kp [0,4,5,6,7,8,9,10] [4,7,46,82,87,5000,5001] (.seq (.seq (.regi false [⟨(some 11),none,.i (.mov (.c (.int .i64 0)))⟩]) Bzej) Bzek))
def Bzem:AC:=(.kp [0,4,5,6,7,8,9] [4,7,46,82,87,5000,5001] (.seq (.regi false [⟨(some 47),none,.i (.mov (.t 0))⟩,⟨(some 48),none,.call nz0 [(.t 47),(.c (.int .i64 5))]⟩,⟨(some 10),none,.i (.mov (.t 48))⟩]) Bzel))
def Bzen:AC:=(.kp [0,4,5,6,7,8] [4,7,87,5000,5001] (.regi false [⟨(some 44),none,.i (.mov (.t 8))⟩,⟨(some 45),none,.i (.bin .add (.t 44) (.c (.int .i64 1)))⟩,⟨(some 8),none,.i (.mov (.t 45))⟩]))
def Bz6h:AC:=(.kp [0,4,5,6,7,8] [4,7,87,5000,5001] (.seq (.block 1 (.seq (.regi false [⟨(some 46),none,.i (.bsl 1 false [])⟩,⟨(some 9),none,.i (.mov (.t 46))⟩]) Bzem)) Bzen))
def Bz2z:AC:=(.kp [0,4,5,6,7,8] [4,7,87,5000,5001] (.seq (.seq (.regi false [⟨(some 41),none,.i (.mov (.t 8))⟩,⟨(some 42),none,.i (.mov (.t 6))⟩,⟨(some 43),none,.i (.bin .lss (.t 41) (.t 42))⟩]) Bz6d) Bz6h))
def Bzeo:AC:=(.kp [0,4,5,6,7,8] [4,7,87,5000,5001] (.ad 7 1 87 1 (.block 0 (.loop Bz2z))))
def Bzep:AC:=(.kp [4,7] [4,7,87,5000,5001] (.seq (.regi false [⟨(some 89),none,.i (.lda 2 (.t 7))⟩,⟨none,none,.i (.sto 2 (.t 4) (.t 89))⟩]) .ret))
def Bzeq:AC:=(.kp [0,4,5,6,7] [4,7,87,5000,5001] (.seq (.seq (.regi false [⟨(some 8),none,.i (.mov (.c (.int .i64 0)))⟩]) Bzeo) Bzep))
def Bzx:AC:=(.kp [0,4,5,6] [4,7,87,5000,5001] (.seq (.regi false [⟨(some 39),none,.i (.mov (.t 5))⟩,⟨(some 40),none,.i (.bst [.int .i64 0,.slice none 0 0] [(0,1,(.t 39))])⟩,⟨(some 7),none,.i (.new [.int .i64 0,.slice none 0 0])⟩,⟨none,none,.i (.sto 2 (.t 7) (.t 40))⟩]) Bzeq))
def Bz6i:AC:=(.kp [0,4,5,6] [4,7,87,5000,5001] (.seq (.seq (.regi false [⟨(some 32),none,.i (.mov (.t 6))⟩,⟨(some 33),none,.i (.bin .eql (.t 32) (.c (.int .i64 1)))⟩,⟨(some 34),none,.i (.mov (.t 33))⟩,⟨(some 35),(some (34,true)),.i (.mov (.t 0))⟩,⟨(some 36),(some (34,true)),.call nz4 [(.t 35),(.c (.int .i64 3))]⟩,⟨(some 37),(some (34,true)),.i (.un .not (.t 36))⟩,⟨(some 38),none,.i (.pick (.t 34) (.t 37) (.c (.bool false)))⟩]) Bz6c) Bzx))
def Bzc:AC:=(.kp [0,4,5] [4,7,87,5000,5001] (.seq (.regi false [⟨(some 29),none,.i (.mov (.t 0))⟩,⟨(some 30),none,.call nz0 [(.t 29),(.c (.int .i64 3))]⟩,⟨(some 31),none,.i (.bin .add (.c (.int .i64 1)) (.t 30))⟩,⟨(some 6),none,.i (.mov (.t 31))⟩]) Bz6i))
def Bz6j:AC:=(.kp [0,1,4,5] [4,7,87,5000,5001] (.seq (.seq (.regi false [⟨(some 17),none,.i (.mov (.t 5))⟩,⟨(some 18),none,.i (.bin .lss (.t 17) (.c (.int .i64 3)))⟩,⟨(some 19),none,.i (.mov (.t 18))⟩,⟨(some 20),(some (19,true)),.i (.mov (.t 0))⟩,⟨(some 21),(some (19,true)),.call nz4 [(.t 20),(.c (.int .i64 3))]⟩,⟨(some 22),(some (19,true)),.i (.un .not (.t 21))⟩,⟨(some 23),none,.i (.pick (.t 19) (.t 22) (.c (.bool false)))⟩]) Bz6b) Bzc))
def Bzer:AC:=(.kp [0,1,4] [4,7,87,5000,5001] (.seq (.regi false [⟨(some 13),none,.i (.mov (.t 0))⟩,⟨(some 14),none,.i (.mov (.t 1))⟩,⟨(some 15),none,.call nz0 [(.t 13),(.t 14)]⟩,⟨(some 16),none,.i (.bin .add (.c (.int .i64 1)) (.t 15))⟩,⟨(some 5),none,.i (.mov (.t 16))⟩]) Bz6j))
def Az6k:AFn:=⟨90,2,(.seq (.regi false [⟨(some 4),none,.i (.new [.int .i64 0,.slice none 0 0])⟩]) Bzer),[.cell (some 2) 4]⟩
theorem czhl:cFn (drV none) Tryz.prog nzb Az6k:=⟨_,_,Tryz.func61,rfl,by kernel_rfl,by decide,rfl,by kernel_rfl,by kernel_rfl⟩
def Bzes:AC:=(.kp [0] [5000] (.dn (.seq (.reg false [⟨(some 3),none,.i (.mov (.t 0))⟩,⟨(some 4),none,.i (.len (.t 3))⟩,⟨(some 2),none,.i (.mov (.t 4))⟩]) (.dn .ret))))
def Azet:AFn:=⟨5,1,(.seq (.reg false [⟨(some 2),none,.i (.mov (.c (.int .i64 0)))⟩]) Bzes),[.tmp 2]⟩
theorem czhm:cFn (drV none) Tryz.prog nz3s Azet:=⟨_,_,Tryz.func62,rfl,by kernel_rfl,by decide,rfl,by kernel_rfl,by kernel_rfl⟩
def Bzeu:AC:=(.kp [0,1,5,7,8,16] [16,1016,5000,5001] (.dn (.cond (.t 16) (.seq (.reg false [⟨(some 17),none,.i (.mov (.t 5))⟩,⟨(some 4),none,.i (.mov (.t 17))⟩]) (.dn .ret)) .skip)))
def Bzev:AC:=(.kp [0,1,5,7,8] [5000,5001] (.dn (.seq (.reg false [⟨(some 11),none,.i (.mov (.t 1))⟩,⟨(some 12),none,.i (.mov (.t 0))⟩,⟨(some 13),none,.i (.mov (.t 5))⟩,⟨(some 14),none,.i (.iad 1 (.t 12) (.t 13))⟩,⟨(some 15),none,.i (.ld (.t 14))⟩,⟨(some 16),none,.calv (.t 11) [(.t 15)]⟩]) Bzeu)))
def Bzew:AC:=(.kp [0,1,7,8] [5000,5001] (.dn (.reg false [⟨(some 18),none,.i (.bin .add (.t 8) (.c (.int .i64 1)))⟩,⟨(some 8),none,.i (.mov (.t 18))⟩])))
def Bz6l:AC:=(.kp [0,1,7,8] [5000,5001] (.dn (.seq (.block 1 (.seq (.reg false [⟨(some 10),none,.i (.mov (.t 8))⟩,⟨(some 5),none,.i (.mov (.t 10))⟩]) Bzev)) Bzew)))
def Bz6m:AC:=(.kp [0,1,7,8,9] [5000,5001] (.dn (.seq (.cond (.t 9) .skip (.exit 0)) Bz6l)))
def Bz30:AC:=(.kp [0,1,7,8] [5000,5001] (.dn (.seq (.reg false [⟨(some 9),none,.i (.bin .lss (.t 8) (.t 7))⟩]) Bz6m)))
def Bzex:AC:=(.kp [0,1,7,8] [5000,5001] (.dn (.block 0 (.loop Bz30))))
def Bzey:AC:=(.kp [] [5000,5001] (.dn (.seq (.reg false [⟨(some 4),none,.i (.mov (.c (.int .i64 (-1))))⟩]) (.dn .ret))))
def Bzez:AC:=(.kp [0,1] [5000,5001] (.dn (.seq (.seq (.reg false [⟨(some 6),none,.i (.mov (.t 0))⟩,⟨(some 7),none,.i (.len (.t 6))⟩,⟨(some 8),none,.i (.mov (.c (.int .i64 0)))⟩]) Bzex) Bzey)))
def Azf0:AFn:=⟨19,2,(.seq (.reg false [⟨(some 4),none,.i (.mov (.c (.int .i64 0)))⟩]) Bzez),[.tmp 4]⟩
theorem czhn:cFn (drV none) Tryz.prog nz3t Azf0:=⟨_,_,Tryz.func63,rfl,by kernel_rfl,by decide,rfl,by kernel_rfl,by kernel_rfl⟩
def Bzf1:AC:=(.kp [0,1] [5000,5001] (.dn (.seq (.reg false [⟨(some 5),none,.i (.mov (.t 0))⟩,⟨(some 6),none,.i (.mov (.t 1))⟩,⟨(some 7),none,.call nz3z [(.t 5),(.t 6)]⟩,⟨(some 8),none,.i (.bin .geq (.t 7) (.c (.int .i64 0)))⟩,⟨(some 4),none,.i (.mov (.t 8))⟩]) (.dn .ret))))
def Azf2:AFn:=⟨9,2,(.seq (.reg false [⟨(some 4),none,.i (.mov (.c (.bool false)))⟩]) Bzf1),[.tmp 4]⟩
theorem czho:cFn (drV none) Tryz.prog nz3u Azf2:=⟨_,_,Tryz.func64,rfl,by kernel_rfl,by decide,rfl,by kernel_rfl,by kernel_rfl⟩
def Bzf3:AC:=(.kp [0,1,2] [5000,5001,5002] (.dn (.seq (.reg false [⟨(some 5),none,.i (.mov (.t 0))⟩,⟨(some 6),none,.i (.ld (.t 1))⟩,⟨(some 7),none,.i (.ld (.t 2))⟩,⟨(some 8),none,.call nza [(.t 5),(.t 6),(.t 7)]⟩,⟨(some 9),none,.i (.un .not (.t 8))⟩,⟨(some 4),none,.i (.mov (.t 9))⟩]) (.dn .ret))))
def Azf4:AFn:=⟨10,3,(.seq (.reg false [⟨(some 4),none,.i (.mov (.c (.bool false)))⟩]) Bzf3),[.tmp 4]⟩
theorem czhp:cFn (drV none) Tryz.prog nz1i Azf4:=⟨_,_,Tryz.func65,rfl,by kernel_rfl,by decide,rfl,by kernel_rfl,by kernel_rfl⟩
def Bzf5:AC:=(.kp [0] [5000] (.dn (.seq (.reg false [⟨(some 3),none,.i (.mov (.t 0))⟩,⟨(some 4),none,.i (.mov (.t 0))⟩,⟨(some 5),none,.i (.bin .neq (.t 3) (.t 4))⟩,⟨(some 2),none,.i (.mov (.t 5))⟩]) (.dn .ret))))
def Azf6:AFn:=⟨6,1,(.seq (.reg false [⟨(some 2),none,.i (.mov (.c (.bool false)))⟩]) Bzf5),[.tmp 2]⟩
theorem czhq:cFn (drV none) Tryz.prog nz1j Azf6:=⟨_,_,Tryz.func76,rfl,by kernel_rfl,by decide,rfl,by kernel_rfl,by kernel_rfl⟩
theorem x_slices_Sort_LI:∃ fn,Tryz.prog.funcs[nz3v]?=some fn∧fn.body.isSome=true∧isNumG fn=false:=⟨_,Tryz.func77,by kernel_rfl,by decide⟩
theorem x_slices_Compact_LI:∃ fn,Tryz.prog.funcs[nz3w]?=some fn∧fn.body.isSome=true∧isNumG fn=false:=⟨_,Tryz.func78,by kernel_rfl,by decide⟩
def Bz6n:AC:=(.kp [0,3,4,5,12] [8,41,5000] (.dn (.cond (.t 12) .skip (.exit 0))))
def Bz6o:AC:=(.kp [0,3,4,5,6,7,17] [8,41,5000] (.dn (.cond (.t 17) .skip (.exit 2))))
def Bzf7:AC:=(.kp [0,3,4,5,6,7,28] [8,41,5000] (.dn (.cond (.t 28) (.reg false [⟨(some 29),none,.i (.mov (.t 3))⟩,⟨(some 30),none,.i (.mov (.t 7))⟩,⟨(some 31),none,.i (.iad 1 (.t 29) (.t 30))⟩,⟨(some 32),none,.i (.ld (.t 31))⟩,⟨(some 6),none,.i (.mov (.t 32))⟩]) .skip)))
def Bzf8:AC:=(.kp [0,3,4,5,6,7] [8,41,5000] (.dn (.reg false [⟨(some 18),none,.i (.mov (.t 7))⟩,⟨(some 19),none,.i (.bin .add (.t 18) (.c (.int .i64 1)))⟩,⟨(some 7),none,.i (.mov (.t 19))⟩])))
def Bzf9:AC:=(.kp [0,3,4,5,6,7] [8,41,5000] (.dn (.seq (.block 3 (.seq (.reg true [⟨(some 20),none,.i (.mov (.t 0))⟩,⟨(some 21),none,.i (.mov (.t 7))⟩,⟨(some 22),none,.i (.iad 1 (.t 20) (.t 21))⟩,⟨(some 23),none,.i (.ld (.t 22))⟩,⟨(some 24),none,.i (.mov (.t 0))⟩,⟨(some 25),none,.i (.mov (.t 5))⟩,⟨(some 26),none,.i (.iad 1 (.t 24) (.t 25))⟩,⟨(some 27),none,.i (.ld (.t 26))⟩,⟨(some 28),none,.i (.bin .eql (.t 23) (.t 27))⟩]) Bzf7)) Bzf8)))
def Bz31:AC:=(.kp [0,3,4,5,6,7] [8,41,5000] (.dn (.seq (.seq (.reg false [⟨(some 15),none,.i (.mov (.t 7))⟩,⟨(some 16),none,.i (.mov (.t 5))⟩,⟨(some 17),none,.i (.bin .lss (.t 15) (.t 16))⟩]) Bz6o) Bzf9)))
def Bzfa:AC:=(.kp [0,3,4,5,6,7] [8,41,5000] (.dn (.block 2 (.loop Bz31))))
def Bzfb:AC:=(.kp [0,3,4,5,6] [8,41,5000] (.dn (.reg false [⟨(some 36),none,.i (.mov (.t 4))⟩,⟨(some 37),none,.i (.bin .add (.t 36) (.c (.int .i64 1)))⟩,⟨(some 4),none,.i (.mov (.t 37))⟩])))
def Bz6p:AC:=(.kp [0,3,4,5,6,34] [8,41,5000] (.dn (.cond (.t 34) (.seq (.reg false [⟨(some 35),none,.i (.mov (.t 4))⟩,⟨(some 6),none,.i (.mov (.t 35))⟩]) Bzfb) .skip)))
def Bz6q:AC:=(.kp [0,3,4,5,6] [8,41,5000] (.dn (.reg false [⟨(some 38),none,.i (.mov (.t 3))⟩,⟨(some 39),none,.i (.mov (.t 6))⟩,⟨(some 40),none,.i (.bsl 1 false [(.t 39)])⟩,⟨(some 41),none,.i (.app 1 8 (.t 38) (.t 40))⟩,⟨(some 3),none,.i (.mov (.t 41))⟩])))
def Bzfc:AC:=(.kp [0,3,4,5,6] [8,41,5000] (.dn (.seq (.seq (.reg false [⟨(some 33),none,.i (.mov (.t 6))⟩,⟨(some 34),none,.i (.bin .lss (.t 33) (.c (.int .i64 0)))⟩]) Bz6p) Bz6q)))
def Bzfd:AC:=(.kp [0,3,4,5,6] [8,41,5000] (.dn (.seq (.seq (.reg false [⟨(some 7),none,.i (.mov (.c (.int .i64 0)))⟩]) Bzfa) Bzfc)))
def Bz6r:AC:=(.kp [0,3,4,5] [8,41,5000] (.dn (.reg false [⟨(some 13),none,.i (.mov (.t 5))⟩,⟨(some 14),none,.i (.bin .add (.t 13) (.c (.int .i64 1)))⟩,⟨(some 5),none,.i (.mov (.t 14))⟩])))
def Bzfe:AC:=(.kp [0,3,4,5] [8,41,5000] (.dn (.seq (.block 1 (.seq (.reg false [⟨(some 6),none,.i (.mov (.c (.int .i64 (-1))))⟩]) Bzfd)) Bz6r)))
def Bz32:AC:=(.kp [0,3,4,5] [8,41,5000] (.dn (.seq (.seq (.reg false [⟨(some 9),none,.i (.mov (.t 5))⟩,⟨(some 10),none,.i (.mov (.t 0))⟩,⟨(some 11),none,.i (.len (.t 10))⟩,⟨(some 12),none,.i (.bin .lss (.t 9) (.t 11))⟩]) Bz6n) Bzfe)))
def Bzff:AC:=(.kp [0,3,4,5] [8,41,5000] (.dn (.block 0 (.loop Bz32))))
def Bzfg:AC:=(.kp [3] [8,41,5000] (.dn (.seq (.reg false [⟨(some 42),none,.i (.mov (.t 3))⟩,⟨(some 2),none,.i (.mov (.t 42))⟩]) (.dn .ret))))
def Bzfh:AC:=(.kp [0,3,4] [8,41,5000] (.dn (.seq (.seq (.reg false [⟨(some 5),none,.i (.mov (.c (.int .i64 0)))⟩]) Bzff) Bzfg)))
def Bzfi:AC:=(.kp [0,3] [8,41,5000] (.dn (.seq (.reg false [⟨(some 4),none,.i (.mov (.c (.int .i64 0)))⟩]) Bzfh)))
def Bzfj:AC:=(.kp [0] [5000] (.dn (.seq (.reg false [⟨(some 8),none,.i (.bsl 1 false [])⟩,⟨(some 3),none,.i (.mov (.t 8))⟩]) Bzfi)))
def Azfk:AFn:=⟨43,1,(.seq (.reg false [⟨(some 2),none,.i (.mov (.c (.slice none 0 0)))⟩]) Bzfj),[.tmp 2]⟩
theorem czhr:cFn (drV none) Tryz.prog nz3x Azfk:=⟨_,_,Tryz.func79,rfl,by kernel_rfl,by decide,rfl,by kernel_rfl,by kernel_rfl⟩
def Bzfl:AC:=(.kp [0,1] [5000,5001] (.dn (.seq (.reg false [⟨(some 5),none,.i (.mov (.t 1))⟩,⟨(some 6),none,.i (.mov (.t 0))⟩,⟨(some 7),none,.i (.mov (.t 1))⟩,⟨(some 8),none,.i (.len (.t 7))⟩,⟨(some 9),none,.call nz0 [(.t 6),(.t 8)]⟩,⟨(some 10),none,.i (.iad 1 (.t 5) (.t 9))⟩,⟨(some 11),none,.i (.ld (.t 10))⟩,⟨(some 4),none,.i (.mov (.t 11))⟩]) (.dn .ret))))
def Azfm:AFn:=⟨12,2,(.seq (.reg false [⟨(some 4),none,.i (.mov (.c (.int .i64 0)))⟩]) Bzfl),[.tmp 4]⟩
theorem czhs:cFn (drV none) Tryz.prog nzk Azfm:=⟨_,_,Tryz.func80,rfl,by kernel_rfl,by decide,rfl,by kernel_rfl,by kernel_rfl⟩
def Bzfn:AC:=(.kp [0,1,7] [5000,5001] (.dn (.cond (.t 7) (.seq (.reg false [⟨(some 8),none,.i (.mov (.t 0))⟩,⟨(some 4),none,.i (.mov (.t 8))⟩]) (.dn .ret)) .skip)))
def Bzfo:AC:=(.kp [1] [5000,5001] (.dn (.seq (.reg false [⟨(some 9),none,.i (.mov (.t 1))⟩,⟨(some 4),none,.i (.mov (.t 9))⟩]) (.dn .ret))))
def Bzfp:AC:=(.kp [0,1] [5000,5001] (.dn (.seq (.seq (.reg false [⟨(some 5),none,.i (.mov (.t 0))⟩,⟨(some 6),none,.i (.mov (.t 1))⟩,⟨(some 7),none,.i (.bin .lss (.t 5) (.t 6))⟩]) Bzfn) Bzfo)))
def Azfq:AFn:=⟨10,2,(.seq (.reg false [⟨(some 4),none,.i (.mov (.c (.int .i64 0)))⟩]) Bzfp),[.tmp 4]⟩
theorem czht:cFn (drV none) Tryz.prog nz3y Azfq:=⟨_,_,Tryz.func81,rfl,by kernel_rfl,by decide,rfl,by kernel_rfl,by kernel_rfl⟩
def Bzfr:AC:=(.kp [0,1,5,7,8,16] [16,1016,5000,5001] (.dn (.cond (.t 16) (.seq (.reg false [⟨(some 17),none,.i (.mov (.t 5))⟩,⟨(some 4),none,.i (.mov (.t 17))⟩]) (.dn .ret)) .skip)))
def Bzfs:AC:=(.kp [0,1,5,7,8] [5000,5001] (.dn (.seq (.reg false [⟨(some 11),none,.i (.mov (.t 1))⟩,⟨(some 12),none,.i (.mov (.t 0))⟩,⟨(some 13),none,.i (.mov (.t 5))⟩,⟨(some 14),none,.i (.iad 1 (.t 12) (.t 13))⟩,⟨(some 15),none,.i (.ld (.t 14))⟩,⟨(some 16),none,.calv (.t 11) [(.t 15)]⟩]) Bzfr)))
def Bzft:AC:=(.kp [0,1,7,8] [5000,5001] (.dn (.reg false [⟨(some 18),none,.i (.bin .add (.t 8) (.c (.int .i64 1)))⟩,⟨(some 8),none,.i (.mov (.t 18))⟩])))
def Bz6s:AC:=(.kp [0,1,7,8] [5000,5001] (.dn (.seq (.block 1 (.seq (.reg false [⟨(some 10),none,.i (.mov (.t 8))⟩,⟨(some 5),none,.i (.mov (.t 10))⟩]) Bzfs)) Bzft)))
def Bz6t:AC:=(.kp [0,1,7,8,9] [5000,5001] (.dn (.seq (.cond (.t 9) .skip (.exit 0)) Bz6s)))
def Bz33:AC:=(.kp [0,1,7,8] [5000,5001] (.dn (.seq (.reg false [⟨(some 9),none,.i (.bin .lss (.t 8) (.t 7))⟩]) Bz6t)))
def Bzfu:AC:=(.kp [0,1,7,8] [5000,5001] (.dn (.block 0 (.loop Bz33))))
def Bzfv:AC:=(.kp [] [5000,5001] (.dn (.seq (.reg false [⟨(some 4),none,.i (.mov (.c (.int .i64 (-1))))⟩]) (.dn .ret))))
def Bzfw:AC:=(.kp [0,1] [5000,5001] (.dn (.seq (.seq (.reg false [⟨(some 6),none,.i (.mov (.t 0))⟩,⟨(some 7),none,.i (.len (.t 6))⟩,⟨(some 8),none,.i (.mov (.c (.int .i64 0)))⟩]) Bzfu) Bzfv)))
def Azfx:AFn:=⟨19,2,(.seq (.reg false [⟨(some 4),none,.i (.mov (.c (.int .i64 0)))⟩]) Bzfw),[.tmp 4]⟩
theorem czhu:cFn (drV none) Tryz.prog nz3z Azfx:=⟨_,_,Tryz.func82,rfl,by kernel_rfl,by decide,rfl,by kernel_rfl,by kernel_rfl⟩
end Go.Ab
namespace Go.Ab
open Go Go.Proofs Go.Sort
theorem Good.grown {W:World} {c1:Cz} (G:Good W (fun _=>False) c1):∃ q os,c1.w=grow (W.drewN q) os:=by
  refine ⟨c1.w.drawn - W.drawn,c1.w.heap.extract W.heap.size c1.w.heap.size,?_⟩
  have h1:c1.w.heap=W.heap ++ c1.w.heap.extract W.heap.size c1.w.heap.size:=by
    have hs:=G.size
    apply Array.ext_getElem?
    intro i
    by_cases hi:i<W.heap.size
    · rw [Array.getElem?_append_left hi]
      exact G.frame i hi (fun h=>h)
    · rw [Array.getElem?_append_right (by omega),Array.getElem?_extract]
      split
      · congr 1;omega
      · rw [Array.getElem?_eq_none (by omega)]
  have h2:=G.tape
  have h3:=G.os
  have h4:=G.output
  show c1.w={ heap:=W.heap ++ c1.w.heap.extract W.heap.size c1.w.heap.size,tape:=W.tape,drawn:=W.drawn+(c1.w.drawn - W.drawn),os:=W.os,output:=W.output }
  rw [← h1,← h2.1,← h3,← h4,Nat.add_sub_cancel' h2.2]
section
variable {P:Program} {f:FuncId}
theorem con_inrowT (hfn:∃ fn,P.funcs[f]?=some fn∧fn.body.isSome=true∧isNumG fn=false) (cs:List AVal) (hz:cs≠[]) (As:List AVal) (C:List AVal→Prop)
    (H:∀ (c:Cz) (us L:List Value) (g off cap:Nat),RepL c As us→RepL c cs L→(∀ b,c.imm b→b≠g)→(∀ b,c.imm b→b<c.w.heap.size)→HoldsV c.w g off L→g<c.w.heap.size→L.length≤maxLen→L.length≤cap →
      Calls P f (Value.slice (some ⟨g,off,none⟩) L.length cap :: us).toArray c.w fun e w'=>∃ cs' D,C cs'∧D.length=L.length∧RepL c cs' D∧e=.returned (.tuple #[])∧LeftV c.w w' g off D) (nn:Bool) :
    Con P f [.row 0 1 nn cs] (.own 5000 0 :: As) true fun outs rows res=>∃ cs',C cs'∧outs=[.row 0 1 nn cs']∧rows=[]∧res=.tup []:=by
  refine ⟨hfn,fun c0 outsB vs G hhp hrep=>?_⟩
  have hr:c0.hp 5000=.row 0 1 nn cs:=by rw [hhp];rfl
  have hne:∀ r,r≠5000→c0.hp r=.gone:=by
    intro r h
    rw [hhp]
    by_cases hg:outHp [.row 0 1 nn cs] [] r=.gone
    · exact hg
    · rcases outHp_live hg with ⟨j,rfl,_,hj,_⟩ | ⟨i,_,_,hi,_⟩
      · simp at hj;subst hj;exact absurd rfl h
      · simp at hi
  match vs,hrep with
  | v :: us,hrep =>
  simp only [RepL,Rep] at hrep
  have hv:v=c0.loc 5000:=hrep.1.2 (by rw [hr];rfl)
  have hO:=G.obj 5000
  rw [hr] at hO
  obtain ⟨base,n,cap,hloc,_,hl,hnc,hcm,hnn,hcase⟩:=hO
  have hlen:cs.length=n:=by simpa using hl
  have hupd:∀ (c1:Cz) (u:Nat) (xs:List AVal),(∀ r,c1.hp r=if r=5000 then .row u 1 nn xs else c0.hp r)→c1.hp=outHp [.row u 1 nn xs] []:=by
    intro c1 u xs h
    funext r
    rw [h r]
    by_cases e:r=5000
    · subst e;rfl
    · rw [if_neg e,hne r e]
      by_cases hg:outHp [AObj.row u 1 nn xs] [] r=.gone
      · exact hg.symm
      · rcases outHp_live hg with ⟨j,rfl,_,hj,_⟩ | ⟨i,_,_,hi,_⟩
        · simp at hj;subst hj;exact absurd rfl e
        · simp at hi
  have hn0:n≠0:=by rw [← hlen];exact fun e=>hz (List.eq_nil_of_length_eq_zero e)
  have hc0:cap≠0:=by omega
  rcases hcase with h | ⟨g,off,t,cells,rfl,hheap,hfit,hrepr⟩
  · exact absurd h hc0
  have hrL:=hrepr
  rw [Nat.mul_one] at hrL
  generalize hL:(cells.toList.drop off).take n=L at hrL
  have hLn:L.length=n:=by rw [← hrL.length];exact hlen
  rw [hv,hloc,← hLn]
  refine (H c0 us L g off cap hrep.2 hrL ?_ ?_ (holds_rowV hheap (by rw [hLn];exact hL)) (yzz hheap) (by omega) (by omega)).mono ?_
  · rintro b ⟨_,_,h3⟩ rfl
    exact h3 ⟨5000,by rw [hr];simp,by rw [hloc];simp [blockOf,hc0]⟩
  · rintro b ⟨_,h2,_⟩
    exact h2
  rintro e w' ⟨cs',D,hC,hDl,hrD,rfl,hLv⟩
  have hcl:=hrD.length
  obtain ⟨G1,K1⟩:=inrow_coreV G hr hloc hnc hcm hc0 hheap hfit hLv (by omega) hrD (m:=n) (ver:=0) (Nat.le_refl _) (.inl ⟨rfl,rfl⟩)
  rw [List.take_of_length_le (by omega)] at G1 K1
  refine ⟨_,_,_,_,_,⟨cs',hC,rfl,rfl,rfl⟩,rfl,rfl,G1,hupd _ _ _ fun r=>rfl,?_,fun b hb=>.inl ⟨rfl,hb⟩,fun _ h=>h,?_,fun _ h=>.inl h⟩
  · simp only [Rep]
    exact ⟨#[],rfl,by simp [RepL]⟩
  · intro r u' hu' h
    exact K1.loc r u' hu' h
theorem cmp_lays {gc:FuncId} {cf:List Int→List Int→Int} (c:Cz) (nm:Option (Option Nat)) {g off size:Nat} (himm:∀ b,c.imm b→b≠g) (hlt:∀ b,c.imm b→b<c.w.heap.size)
    (h:∀ xs ys:Value×List Int,Rep c (.ro nm 1 (ints xs.2)) xs.1→Rep c (.ro nm 1 (ints ys.2)) ys.1→Fun P gc [.ro none 1 (ints xs.2),.ro none 1 (ints ys.2)] (iv (cf xs.2 ys.2))) [Inhabited {p:Value×List Int // Rep c (.ro nm 1 (ints p.2)) p.1}] :
    CmpLays1 P gc #[] (fun x:{p:Value×List Int // Rep c (.ro nm 1 (ints p.2)) p.1}=>x.1.1) (fun x y=>cf x.1.2 y.1.2) g off size c.w:=by
  intro m os dk hsz x y
  generalize hW:sortWorld _ c.w g off m dk os=W
  have hblk:∀ b,c.imm b→W.heap[b]?=c.w.heap[b]?:=fun b hb=>by
    rw [← hW]
    have h1:b<(c.w.heap.modify g (onCells (putCells (fun x:{p:Value×List Int // Rep c (.ro nm 1 (ints p.2)) p.1}=>x.1.1) off dk))).size:=by rw [Array.size_modify];exact hlt b hb
    show (c.w.heap.modify g (onCells (putCells _ off dk)) ++ os)[b]?=_
    rw [Array.getElem?_append_left h1,Array.getElem?_modify,if_neg (Ne.symm (himm b hb))]
  have hsize:c.w.heap.size≤W.heap.size:=by
    rw [← hW]
    show c.w.heap.size≤(c.w.heap.modify g (onCells (putCells _ off dk)) ++ os).size
    rw [Array.size_append,Array.size_modify];omega
  have hrp:∀ p:Value×List Int,Rep c (.ro nm 1 (ints p.2)) p.1→Rep (Cz.start W) (.ro none 1 (ints p.2)) p.1:=fun p hp=>by
    simp only [Rep] at hp ⊢
    obtain ⟨base,len,cap,h1,h2,h3,h4,_,h6⟩:=hp
    refine ⟨base,len,cap,h1,h2,h3,h4,(fun n e=>by cases e),?_⟩
    rcases h6 with h6 | ⟨b,o,e,hb,hr⟩
    · exact .inl h6
    · refine .inr ⟨b,o,e,start_imm (Nat.lt_of_lt_of_le (hlt b hb) hsize),RepAt.of_get fun i A hA=>?_⟩
      obtain ⟨v,g1,g2⟩:=hr.get hA
      obtain ⟨z,rfl⟩:∃ z,A=.val z:=by
        have:=List.mem_of_getElem? hA
        simp only [List.mem_map] at this
        obtain ⟨y,_,rfl⟩:=this
        exact ⟨_,rfl⟩
      refine ⟨v,?_,by simpa only [Rep] using g2⟩
      rw [← g1];exact World.cell?_of_block (w:=c.w) (hblk b hb)
  refine ((h x.1 y.1 x.2 y.2).2 (Cz.start W) (fun _=>False) [x.1.1,y.1.1] (start_good W) (start_outHp W) (by simp only [RepL];exact ⟨hrp _ x.2,hrp _ y.2,trivial⟩)).mono ?_
  rintro e w' ⟨v,c1,outs,rows,res,⟨rfl,rfl,rfl⟩,rfl,rfl,G1,_,hr,_⟩
  simp only [Rep] at hr
  subst hr
  exact ⟨rfl,G1.grown⟩
end
theorem cells_sub {c:Cz} {nm:Option (Option Nat)}:∀ {xss:List (List Int)} {L:List Value},RepL c (xss.map fun xs=>.ro nm 1 (ints xs)) L →
    ∃ d:List {p:Value×List Int // Rep c (.ro nm 1 (ints p.2)) p.1},d.map (fun p=>p.1.1)=L∧d.map (fun p=>p.1.2)=xss
  | [],[],_=>⟨[],rfl,rfl⟩
  | [],_ :: _,h=>by simp [RepL] at h
  | _ :: _,[],h=>by simp [RepL] at h
  | xs :: xss,v :: L,h=>by
    simp only [List.map_cons,RepL] at h
    obtain ⟨d,h1,h2⟩:=cells_sub h.2
    exact ⟨⟨(v,xs),h.1⟩ :: d,by rw [List.map_cons,h1],by rw [List.map_cons,h2]⟩
theorem repL_sub {c:Cz} {nm:Option (Option Nat)}:∀ (d:List {p:Value×List Int // Rep c (.ro nm 1 (ints p.2)) p.1}),RepL c ((d.map fun p=>p.1.2).map fun xs=>.ro nm 1 (ints xs)) (d.map fun p=>p.1.1)
  | []=>by simp [RepL]
  | p :: d=>by
    simp only [List.map_cons,RepL]
    exact ⟨p.2,repL_sub d⟩
theorem k_SortRows (xss:List (List Int)) (hz:xss≠[]) (hxl:xss.length≤1000000) (nm:Option (Option Nat)) (gc:FuncId) (eg:∀ args w,(callFunc gc args).run Tryz.prog w=.ok (.enter gc args) w) (cf:List Int→List Int→Int) (hO:SWO (ltOf cf))
    (h:∀ xs ys:List Int,xs.length≤maxLen→ys.length≤maxLen→Fun Tryz.prog gc [.ro none 1 (ints xs),.ro none 1 (ints ys)] (iv (cf xs ys))) :
    Con Tryz.prog nz3b [.row 0 1 true (xss.map fun xs=>.ro nm 1 (ints xs))] [.own 5000 0,.clo gc []] true
      fun outs rows res=>∃ yss:List (List Int),yss.Perm xss∧yss.Pairwise (fun x y=>¬ cf y x<0)∧outs=[.row 0 1 true (yss.map fun xs=>.ro nm 1 (ints xs))]∧rows=[]∧res=.tup []:=by
  refine Con.mono (con_inrowT x_slices_SortFunc_LLI (xss.map fun xs=>.ro nm 1 (ints xs)) (by simpa using hz) [.clo gc []]
    (fun cs'=>∃ yss:List (List Int),yss.Perm xss∧yss.Pairwise (fun x y=>¬ cf y x<0)∧cs'=yss.map fun xs=>.ro nm 1 (ints xs)) ?_ true) ?_
  · intro c us L g off cap hu hL himm hlt hH hg hm hcap
    match us,hu with
    | [u],hu =>
    simp only [RepL,Rep,and_true] at hu
    obtain ⟨vs,rfl,hvs⟩:=hu
    have:vs=#[]:=by
      cases hv:vs.toList with
      | nil=>exact Array.toList_eq_nil_iff.1 hv
      | cons a b=>rw [hv] at hvs;simp [RepL] at hvs
    subst this
    obtain ⟨d,h1,h2⟩:=cells_sub hL
    have hd0:d≠[]:=fun e=>hz (by rw [← h2,e];rfl)
    have hne:Nonempty {p:Value×List Int // Rep c (.ro nm 1 (ints p.2)) p.1}:=by
      cases d with
      | nil=>exact absurd rfl hd0
      | cons a b=>exact ⟨a⟩
    have:Inhabited {p:Value×List Int // Rep c (.ro nm 1 (ints p.2)) p.1}:=⟨Classical.choice hne⟩
    have hlen:L.length=d.length:=by rw [← h1,List.length_map]
    have hmm:=maxLen_le
    have hlenb:∀ xs:Value×List Int,Rep c (.ro nm 1 (ints xs.2)) xs.1→xs.2.length≤maxLen:=fun xs hx=>by
      simp only [Rep] at hx
      obtain ⟨base,len,cap,_,_,h3,h4,_⟩:=hx
      rw [List.length_map,Nat.mul_one] at h3
      omega
    have hOne:OneCell (fun x:{p:Value×List Int // Rep c (.ro nm 1 (ints p.2)) p.1}=>x.1.1):=fun x=>by
      have hx:=x.2
      simp only [Rep] at hx
      obtain ⟨base,len,cap,h3,_⟩:=hx
      show x.1.1.oneCell'=true
      rw [h3];rfl
    have hcmp:=cmp_lays (P:=Tryz.prog) (gc:=gc) (cf:=cf) c nm (g:=g) (off:=off) (size:=d.length) himm hlt (fun xs ys hx hy=>h xs.2 ys.2 (hlenb xs hx) (hlenb ys hy))
    have hO2:SWO (ltOf fun x y:{p:Value×List Int // Rep c (.ro nm 1 (ints p.2)) p.1}=>cf x.1.2 y.1.2):=⟨fun x=>hO.irrefl x.1.2,fun x y z=>hO.trans x.1.2 y.1.2 z.1.2,fun x y z=>hO.ntrans x.1.2 y.1.2 z.1.2⟩
    have hcon:=Any.slices_SortFunc Tryz.lsortf (fun x:{p:Value×List Int // Rep c (.ro nm 1 (ints p.2)) p.1}=>x.1.1) hOne _ hO2 gc #[] g off cap d.toArray c.w eg (by simpa using hcmp) (fun j hj=>by
      have hj2:j<L.length:=by simpa [hlen] using hj
      have:=hH j hj2
      rw [getElem!_pos _ j hj]
      have e:L[j]=(d.toArray[j]).1.1:=by simp [← h1]
      show c.w.cell? _=some (d.toArray[j]).1.1∧_
      rw [← e];exact this) hg (by
      have h5:d.length=xss.length:=by rw [← h2,List.length_map]
      rw [List.size_toArray];omega)
    rw [hlen]
    change Calls Tryz.prog 25 _ _ _ at hcon
    have e2:d.toArray.size=d.length:=by simp
    rw [e2] at hcon
    refine hcon.mono ?_
    rintro e w' ⟨rfl,d',n,os,hp,hs,rfl⟩
    obtain ⟨p1,p2,p3⟩:=hp
    have hsz:d'.size=d.length:=by rw [p1];simp
    have hperm:d'.toList.Perm d:=by
      have e3:d'.extract 0 d.length=d':=by rw [← hsz];simp
      have e4:d.toArray.extract 0 d.length=d.toArray:=by rw [← e2];simp
      rw [e3,e4] at p3
      simpa using p3
    refine ⟨_,d'.toList.map fun p=>p.1.1,⟨d'.toList.map fun p=>p.1.2,?_,?_,rfl⟩,by simp [hsz],repL_sub d'.toList,rfl,n,os,?_⟩
    · rw [← h2];exact hperm.map _
    · rw [List.pairwise_map,List.pairwise_iff_getElem]
      intro i j hi hj hij
      have hi2:i<d'.size:=by simpa using hi
      have hj2:j<d'.size:=by simpa using hj
      have:=hs i j (Nat.zero_le _) hij (by omega)
      rw [getElem!_pos _ i hi2,getElem!_pos _ j hj2] at this
      simpa [ltOf] using this
    · unfold sortWorld
      rw [← putRow_map]
  · rintro outs rows res ⟨cs',⟨yss,h1,h2,rfl⟩,rfl,rfl,rfl⟩
    exact ⟨yss,h1,h2,rfl,rfl,rfl⟩
end Go.Ab
namespace Go.Ab
open Go.Proofs
theorem k_l00In (n lo hi:Int):Fun Tryz.prog nzi [iv n,iv lo,iv hi] (bv (decide (lo≤n) && decide (n≤hi))):=by
  refine fun_of mixed czh0 rfl ⟨rfl,trivial⟩ ?_
  simp only [Bzbw,Azbx,go_sem,yz0,xx9,xx8,xx6,xx7,xx5,xx0,xx1,xx2,reduceIte,xx3,xx4,reduceCtorEq]
  by_cases h:lo≤n <;> simp [h,dn_val]
theorem k_within (n lo hi:Int):Fun Tryz.prog nza [iv n,iv lo,iv hi] (bv (decide (lo≤n) && decide (n≤hi))):=by
  refine fun_of mixed czh3 rfl ⟨rfl,trivial⟩ ?_
  simp only [Bzc4,Azc5,go_sem,yz0,xx9,xx8,xx6,xx7,xx5,xx0,xx1,xx2,reduceIte,xx3,xx4,reduceCtorEq]
  by_cases h:lo≤n <;> simp [h,dn_val]
theorem k_l00Min (a b:Int):Fun Tryz.prog nz3y [iv a,iv b] (iv (min a b)):=by
  refine fun_of mixed czht rfl ⟨rfl,trivial⟩ ?_
  simp only [Bzfn,Bzfo,Bzfp,Azfq,go_sem,yz0,xx9,xx8,xx6,xx7,xx5,xx0,xx1,xx2,reduceIte,xx3,xx4,reduceCtorEq]
  by_cases h:a<b
  · have:min a b=a:=by omega
    simp [h,this]
  · have:min a b=b:=by omega
    simp [h,this]
theorem k_size (xs:List Int):Fun Tryz.prog nz3l [.ro none 1 (ints xs)] (iv xs.length):=by
  refine fun_of mixed czh7 rfl ⟨rfl,trivial⟩ ?_
  simp only [Bzcc,Azcd,go_sem,yz0,xx9,xx8,xx6,xx7,xx5,xx0,xx1,xx2,reduceIte,xx3,xx4,reduceCtorEq]
theorem k_size1 (xss:List (List Int)):Fun Tryz.prog nz3s [.ro none 1 (rwn xss)] (iv xss.length):=by
  refine fun_of mixed czhm rfl ⟨rfl,trivial⟩ ?_
  simp only [Bzes,Azet,go_sem,yz0,xx9,xx8,xx6,xx7,xx5,xx0,xx1,xx2,reduceIte,xx3,xx4,reduceCtorEq]
abbrev srcC (code:List Int) (at_ seed:Int):List AVal:=[.ro (some (some 0)) 1 (intsK .u8 code),iv at_,.val (.int .u64 seed)]
theorem u64_and255 (x:Int):0≤IntKind.u64.wrap ((BitVec.ofInt 64 x &&& BitVec.ofInt 64 255).toNat)∧IntKind.u64.wrap ((BitVec.ofInt 64 x &&& BitVec.ofInt 64 255).toNat)≤255:=by
  have h:(BitVec.ofInt 64 x &&& BitVec.ofInt 64 255).toNat≤255:=by
    rw [BitVec.toNat_and]
    exact Nat.le_trans Nat.and_le_right (by decide)
  rw [IntWalk.u64_in _ (by omega)]
  omega
theorem k_next (code:List Int) (at_ seed:Int) (hb:∀ x∈code,0≤x∧x≤255) (ha:0≤at_∧at_≤4611686018427387904) :
    FunB Tryz.prog nz1b (srcC code at_ seed) [] (fun cs v=>∃ seed' b,cs=srcC code (at_+1) seed'∧v=.int .i64 b∧0≤b∧b≤255):=by
  refine funB_of mixed czh2 rfl ?_
  have hw:IntKind.i64.wrap (at_+1)=at_+1:=w64 (by omega)
  by_cases h:at_<code.length
  · have h1:at_.toNat<code.length:=by omega
    have hm:code.getD at_.toNat 0∈code:=by
      rw [List.getD_eq_getElem?_getD,List.getElem?_eq_getElem h1];exact List.getElem_mem h1
    have hb1:=hb _ hm
    have h2:at_+1≤code.length:=by omega
    simp only [Bz5k,Bz5l,Bz5m,Bz5n,Bz5o,Bz5p,Bz5q,Bz5r,Az5s,yz14 h1,hw,decide_eq_true h,decide_eq_true h2,go_sem,yz0,xx9,xx8,xx6,xx7,xx5,xx0,xx1,xx2,reduceIte,xx3,xx4,reduceCtorEq]
    refine ⟨⟨ha.1,h1⟩,h1,_,_,rfl,rfl,?_,_,_,rfl,rfl,?_⟩
    · simp [flatL,AVal.flat,flat_vals]
    · rw [w64 (by omega)];exact hb1
  · have h2:¬ at_+1≤code.length:=by omega
    simp only [Bz5k,Bz5l,Bz5m,Bz5n,Bz5o,Bz5p,Bz5q,Bz5r,Az5s,hw,decide_eq_false h,decide_eq_false h2,go_sem,yz0,xx9,xx8,xx6,xx7,xx5,xx0,xx1,xx2,reduceIte,xx3,xx4,reduceCtorEq]
    refine ⟨_,_,rfl,rfl,?_,_,_,rfl,rfl,?_⟩
    · simp [flatL,AVal.flat,flat_vals]
    · have:=u64_and255 ((IntKind.u64.wrap (IntKind.u64.wrap (IntKind.u64.wrap (seed * 6364136223846793005)+IntKind.u64.wrap 0)+1442695040888963407)).fdiv (2 ^ min 40 IntKind.u64.bits))
      rw [w64 (by show _≤_∧_≤_;exact ⟨by have:=this.1;exact Int.le_trans (by decide) this,by have:=this.2;exact Int.le_trans this (by decide)⟩)]
      exact this
theorem k_pick (code:List Int) (at_ seed n:Int) (hb:∀ x∈code,0≤x∧x≤255) (ha:0≤at_∧at_≤1000000000000) :
    FunB Tryz.prog nz0 (srcC code at_ seed) [iv n] (fun cs v=>∃ at' seed' b,cs=srcC code at' seed'∧at_≤at'∧at'≤at_+2∧v=.int .i64 b∧0≤b∧(b<n∨b=0)):=by
  refine funB_of mixed czge rfl ?_
  by_cases h:n≤1
  · simp only [Bz4h,Bz4i,Bz4j,Bz4k,Bz4l,Bz4m,Az4n,decide_eq_true h,go_sem,yz0,xx9,xx8,xx6,xx7,xx5,xx0,xx1,xx2,reduceIte,xx3,xx4,reduceCtorEq]
    exact ⟨_,_,rfl,rfl,by simp [flatL,AVal.flat,flat_vals],_,_,_,rfl,by omega,by omega,rfl,by omega,.inr rfl⟩
  · simp only [Bz4h,Bz4i,Bz4j,Bz4k,Bz4l,Bz4m,Az4n,decide_eq_false h,go_sem,yz0,xx9,xx8,xx6,xx7,xx5,xx0,xx1,xx2,reduceIte,xx3,xx4,reduceCtorEq]
    intro vs
    refine call_funB (k_next code at_ seed hb (by omega)) rfl qCS qCS ?_
    rintro cs' x ⟨s',b,rfl,rfl,hb1⟩
    have ht:∀ y:Int,0≤y→y≤100000→0≤y.tmod n∧(y.tmod n<n∨y.tmod n=0):=fun y h1 h2=>⟨Int.tmod_nonneg _ h1,.inl (Int.tmod_lt_of_pos _ (by omega))⟩
    have hn:¬ n=0:=by omega
    by_cases h2:n > 200
    · simp only [decide_eq_true h2,go_sem,yz0,xx9,xx8,xx6,xx7,xx5,xx0,xx1,xx2,reduceIte,xx3,xx4,reduceCtorEq]
      intro vs2
      refine call_funB (k_next code (at_+1) s' hb (by omega)) rfl qCS qCS ?_
      rintro cs' x ⟨s'',c,rfl,rfl,hc1⟩
      simp only [hn,w64 (show -9223372036854775808≤b * 256∧b * 256≤9223372036854775807 by omega),w64 (show -9223372036854775808≤b * 256+c∧b * 256+c≤9223372036854775807 by omega),go_sem,yz0,xx9,xx8,xx6,xx7,xx5,xx0,xx1,xx2,reduceIte,xx3,xx4,reduceCtorEq]
      exact ⟨_,_,rfl,rfl,by simp [flatL,AVal.flat,flat_vals],_,_,_,rfl,by omega,by omega,rfl,ht _ (by omega) (by omega)⟩
    · simp only [decide_eq_false h2,hn,go_sem,yz0,xx9,xx8,xx6,xx7,xx5,xx0,xx1,xx2,reduceIte,xx3,xx4,reduceCtorEq]
      exact ⟨_,_,rfl,rfl,by simp [flatL,AVal.flat,flat_vals],_,_,_,rfl,by omega,by omega,rfl,ht _ (by omega) (by omega)⟩
theorem k_one (code:List Int) (at_ seed n:Int) (hb:∀ x∈code,0≤x∧x≤255) (ha:0≤at_∧at_≤1000000000000) :
    FunB Tryz.prog nz4 (srcC code at_ seed) [iv n] (fun cs v=>∃ at' seed' b,cs=srcC code at' seed'∧at_≤at'∧at'≤at_+2∧v=.bool b):=by
  refine funB_of mixed czgz rfl ?_
  simp only [Bzbu,Azbv,go_sem,yz0,xx9,xx8,xx6,xx7,xx5,xx0,xx1,xx2,reduceIte,xx3,xx4,reduceCtorEq]
  intro vs
  refine call_funB (k_pick code at_ seed n hb ha) rfl qCS qCS ?_
  rintro cs' x ⟨a',s',b,rfl,h1,h2,rfl,_⟩
  simp only [go_sem,yz0,xx9,xx8,xx6,xx7,xx5,xx0,xx1,xx2,reduceIte,xx3,xx4,reduceCtorEq]
  exact ⟨_,_,rfl,rfl,by simp [flatL,AVal.flat,flat_vals],_,_,_,rfl,h1,h2,rfl⟩
theorem k_from (code:List Int):Con Tryz.prog nz11 [] [.ro (some (some 0)) 1 (intsK .u8 code)] true fun outs rows res=>outs=[]∧∃ v,rows=[.box v (srcC code 0 0)]∧res=.ptr 6000 v 0:=by
  refine con_sh mixed czga rfl (by simp) ?_
  simp only [Bz8x,Az8y,go_sem,yz0,xx9,xx8,xx6,xx7,xx5,xx0,xx1,xx2,reduceIte,xx3,xx4,reduceCtorEq]
  intro vs
  refine ⟨[5],by simp,by simp,by simp,?_⟩
  simp only [go_sem,yz0,xx9,xx8,xx6,xx7,xx5,xx0,xx1,xx2,reduceIte,xx3,xx4,reduceCtorEq,Nat.not_lt_zero,range1,yzy,yz12,ren_ro,rnNm_n,yz13,rnNm_o,rnNm_s,ren_st,yz10,yzr,yzf,yz4,yzw,yzt,yzo,yzp,yzv,yz9,yz8,yze,yzd,yzj,yzi,yz3,yz7,yzc,yza,yzk,yzl,List.range_zero,yz5,yz6,yzb,yzu,yzm,yzq,AVal.fresh,freshL,yz2,yzh,AObj.fresh,id,Option.isSome_some,or_true,true_or]
  exact ⟨_,rfl,rfl⟩
end Go.Ab
