/- Contracts and what they lean on, part 6. Conditions: none. -/
import Derived.Test.YtooaiipmcegplaaChecked
import Derived.Test.YtooaiipmcegplaaZ5
set_option maxRecDepth 100000
set_option maxHeartbeats 4000000
set_option linter.all false
open Nat renaming reduceLeDiff → xx0, reduceMul → xx1, reduceSub → xx2, reduceEqDiff → xx3, reduceAdd → xx4, reduceLT → xx5
open Int renaming reduceToNat → xx6, reduceNeg → xx7, reduceLE → xx8, reduceLT → xx9
namespace Go.Ab
open Go.Proofs
theorem mixed:Try.prog.follows .mixedOrders=true:=by kernel_rfl
abbrev n_main_main:FuncId:=0
abbrev n_gosem_cut:FuncId:=1
abbrev n_gosem_cut_init:FuncId:=2
abbrev nz1s:FuncId:=3
abbrev nzgk:FuncId:=4
abbrev nzgl:FuncId:=5
abbrev nz1t:FuncId:=6
abbrev nzh:FuncId:=7
abbrev nz0:FuncId:=8
abbrev nz5:FuncId:=9
abbrev nz1:FuncId:=10
abbrev nz1u:FuncId:=11
abbrev nz1v:FuncId:=12
abbrev nz6:FuncId:=13
abbrev nz7:FuncId:=14
abbrev nzgm:FuncId:=15
abbrev nz1w:FuncId:=16
abbrev nzgn:FuncId:=17
abbrev nzgo:FuncId:=18
abbrev nzgp:FuncId:=19
abbrev nz1x:FuncId:=20
abbrev nz1y:FuncId:=21
abbrev nz1z:FuncId:=22
abbrev nz20:FuncId:=23
abbrev nz21:FuncId:=24
abbrev nz22:FuncId:=25
abbrev nz23:FuncId:=26
abbrev nz24:FuncId:=27
abbrev nz25:FuncId:=28
abbrev nzgq:FuncId:=29
abbrev nzgr:FuncId:=30
abbrev nzgs:FuncId:=31
abbrev nzgt:FuncId:=32
abbrev nzgu:FuncId:=33
abbrev nzgv:FuncId:=34
abbrev nzgw:FuncId:=35
abbrev nzgx:FuncId:=36
abbrev nz26:FuncId:=37
abbrev nzgy:FuncId:=38
abbrev nzgz:FuncId:=39
abbrev nzh0:FuncId:=40
abbrev nz27:FuncId:=41
abbrev nz8:FuncId:=42
abbrev nz28:FuncId:=43
abbrev nz29:FuncId:=44
abbrev nz2a:FuncId:=45
abbrev nz2b:FuncId:=46
abbrev nz2c:FuncId:=47
abbrev nzi:FuncId:=48
abbrev nz2d:FuncId:=49
abbrev nz2e:FuncId:=50
abbrev nz2f:FuncId:=51
abbrev nz2g:FuncId:=52
abbrev nzh1:FuncId:=53
abbrev nzh2:FuncId:=54
abbrev nz2h:FuncId:=55
abbrev nz2i:FuncId:=56
abbrev nzh3:FuncId:=57
abbrev nzh4:FuncId:=58
abbrev nzh5:FuncId:=59
abbrev nzh6:FuncId:=60
abbrev nz2j:FuncId:=61
abbrev nz2k:FuncId:=62
abbrev nz2l:FuncId:=63
abbrev nz2m:FuncId:=64
abbrev nz2:FuncId:=65
abbrev nzj:FuncId:=66
abbrev nz2n:FuncId:=67
abbrev nz2o:FuncId:=68
abbrev nzk:FuncId:=69
abbrev nz2p:FuncId:=70
abbrev nzh7:FuncId:=71
abbrev nzh8:FuncId:=72
abbrev nz2q:FuncId:=73
abbrev nzl:FuncId:=74
abbrev nz2r:FuncId:=75
abbrev nz2s:FuncId:=76
abbrev nzh9:FuncId:=77
abbrev nz2t:FuncId:=78
abbrev nz2u:FuncId:=79
abbrev nzm:FuncId:=80
abbrev nz2v:FuncId:=81
abbrev nz2w:FuncId:=82
abbrev nz2x:FuncId:=83
abbrev nzha:FuncId:=84
abbrev n_math_bits_Len:FuncId:=85
abbrev nzhb:FuncId:=86
abbrev nzhc:FuncId:=87
abbrev nzhd:FuncId:=88
abbrev nzhe:FuncId:=89
abbrev nzhf:FuncId:=90
abbrev nzhg:FuncId:=91
abbrev nzhh:FuncId:=92
abbrev nzhi:FuncId:=93
abbrev nzhj:FuncId:=94
abbrev n_math_bits_Len32:FuncId:=95
abbrev n_math_bits_Len64:FuncId:=96
abbrev nzhk:FuncId:=97
abbrev nzhl:FuncId:=98
abbrev nzhm:FuncId:=99
abbrev nzhn:FuncId:=100
abbrev nzho:FuncId:=101
abbrev nzhp:FuncId:=102
abbrev n_runtime_boundsError_Error:FuncId:=103
abbrev n_runtime_boundsError_RuntimeError:FuncId:=104
abbrev n_runtime_errorString_Error:FuncId:=105
abbrev n_runtime_errorString_RuntimeError:FuncId:=106
abbrev n_runtime_plainError_Error:FuncId:=107
abbrev n_runtime_plainError_RuntimeError:FuncId:=108
abbrev n_runtime_errorAddressString_Error:FuncId:=109
abbrev n_runtime_errorAddressString_RuntimeError:FuncId:=110
abbrev n_runtime_TypeAssertionError_Error:FuncId:=111
abbrev n_runtime_TypeAssertionError_RuntimeError:FuncId:=112
abbrev n_runtime_PanicNilError_Error:FuncId:=113
abbrev n_runtime_PanicNilError_RuntimeError:FuncId:=114
abbrev n_internal_abi_Type_Align:FuncId:=115
abbrev n_internal_runtime_maps_unhashableTypeError_Error:FuncId:=116
abbrev n_internal_runtime_maps_unhashableTypeError_RuntimeError:FuncId:=117
abbrev nzhq:FuncId:=118
abbrev n_internal_abi_Kind_String:FuncId:=119
def Bz2y:AC:=(.kp [1,18] [1,5000] (.cond (.t 18) (.seq (.regi false [⟨(some 2),none,.i (.mov (.c (.bool true)))⟩]) .ret) .skip))
def Bz2z:AC:=(.kp [1,4,5,6,7,8,40] [1,6,21,22,26,29,5000] (.cond (.t 40) (.seq (.regi false [⟨(some 2),none,.i (.mov (.c (.bool false)))⟩]) .ret) .skip))
def Bz30:AC:=(.kp [1,4,5,6,7,8,45] [1,6,21,22,26,29,5000] (.cond (.t 45) (.seq (.regi false [⟨(some 2),none,.i (.mov (.c (.bool false)))⟩]) .ret) .skip))
def Bz31:AC:=(.kp [1,4,5,7,61] [1,6,21,22,26,29,5000] (.cond (.t 61) (.seq (.regi false [⟨(some 2),none,.i (.mov (.c (.bool false)))⟩]) .ret) .skip))
def Bz32:AC:=(.kp [1,4,5,7,10,11,69] [1,6,21,22,26,29,5000] (.cond (.t 69) (.seq (.regi false [⟨(some 2),none,.i (.mov (.c (.bool false)))⟩]) .ret) .skip))
def Bz33:AC:=(.kp [1,4,5,7,10,72] [1,6,21,22,26,29,5000] (.cond (.t 72) (.seq (.regi false [⟨(some 2),none,.i (.mov (.c (.bool false)))⟩]) .ret) .skip))
def Bz34:AC:=(.kp [7,10,87] [1,6,21,22,26,29,75,76,5000] (.cond (.t 87) (.seq (.regi false [⟨(some 2),none,.i (.mov (.c (.bool false)))⟩]) .ret) .skip))
def Bz35:AC:=(.kp [10,11,92] [5000] (.cond (.t 92) (.seq (.regi false [⟨(some 2),none,.i (.mov (.c (.bool false)))⟩]) .ret) .skip))
def Bz36:AC:=(.kp [95] [5000] (.cond (.t 95) (.seq (.regi false [⟨(some 2),none,.i (.mov (.c (.bool false)))⟩]) .ret) .skip))
def Bz37:AC:=(.kp [] [5000] (.seq (.regi false [⟨(some 2),none,.i (.mov (.c (.bool true)))⟩]) .ret))
def Bz38:AC:=(.kp [10,11] [5000] (.seq (.seq (.regi false [⟨(some 93),none,.i (.mov (.t 11))⟩,⟨(some 94),none,.i (.mov (.t 10))⟩,⟨(some 95),none,.i (.bin .neq (.t 93) (.t 94))⟩]) Bz36) Bz37))
def Bz39:AC:=(.kp [10,11] [5000] (.seq (.seq (.regi false [⟨(some 91),none,.i (.mov (.t 11))⟩,⟨(some 92),none,.i (.bin .lss (.t 91) (.c (.int .i64 0)))⟩]) Bz35) Bz38))
def Bz3a:AC:=(.kp [7,10,11] [1,6,26,29,5000] (.seq (.regi false [⟨(some 88),none,.i (.mov (.t 7))⟩,⟨(some 89),none,.i (.mov (.t 11))⟩,⟨(some 90),none,.call nz7 [(.t 88),(.t 89)]⟩,⟨(some 11),none,.i (.mov (.t 90))⟩]) Bz39))
def Bz3b:AC:=(.kp [7,10] [1,6,26,29,5000] (.seq (.regi false [⟨(some 11),none,.i (.mov (.c (.int .i64 1)))⟩]) Bz3a))
def Bz3c:AC:=(.kp [4,5,7,10,12,13] [1,6,21,22,26,29,75,76,5000] (.seq (.seq (.regi false [⟨(some 79),none,.i (.mov (.t 12))⟩,⟨(some 80),none,.i (.mov (.t 4))⟩,⟨(some 81),none,.call nz1 [(.t 79),(.t 80)]⟩,⟨(some 82),none,.i (.un .not (.t 81))⟩,⟨(some 83),none,.i (.mov (.t 82))⟩,⟨(some 84),(some (83,false)),.i (.mov (.t 13))⟩,⟨(some 85),(some (83,false)),.i (.mov (.t 5))⟩,⟨(some 86),(some (83,false)),.i (.bin .neq (.t 84) (.t 85))⟩,⟨(some 87),none,.i (.pick (.t 83) (.c (.bool true)) (.t 86))⟩]) Bz34) Bz3b))
def Bz3d:AC:=(.kp [1,4,5,7,10] [1,6,21,22,26,29,5000] (.seq (.regi false [⟨(some 74),none,.i (.lda 2 (.t 1))⟩,⟨(some 75),none,.call nz0 [(.t 74)]⟩,⟨(some 76),none,.call nz5 [(.t 75)]⟩,⟨(some 73),none,.i (.mov (.t 76))⟩,⟨(some 77),none,.i (.ext 0 (.t 73))⟩,⟨(some 78),none,.i (.ext 1 (.t 73))⟩,⟨(some 12),none,.i (.mov (.t 77))⟩,⟨(some 13),none,.i (.mov (.t 78))⟩]) Bz3c))
def Bz3e:AC:=(.kp [1,4,5,7,10,11] [1,6,21,22,26,29,5000] (.seq (.seq (.regi false [⟨(some 70),none,.i (.mov (.t 11))⟩,⟨(some 71),none,.i (.mov (.t 10))⟩,⟨(some 72),none,.i (.bin .neq (.t 70) (.t 71))⟩]) Bz33) Bz3d))
def Bz3f:AC:=(.kp [1,4,5,7,10,11] [1,6,21,22,26,29,5000] (.seq (.seq (.regi false [⟨(some 68),none,.i (.mov (.t 11))⟩,⟨(some 69),none,.i (.bin .lss (.t 68) (.c (.int .i64 0)))⟩]) Bz32) Bz3e))
def Bz3g:AC:=(.kp [1,4,5,7,10,11] [1,6,21,22,26,29,5000] (.seq (.regi false [⟨(some 65),none,.i (.mov (.t 7))⟩,⟨(some 66),none,.i (.mov (.t 11))⟩,⟨(some 67),none,.call nz7 [(.t 65),(.t 66)]⟩,⟨(some 11),none,.i (.mov (.t 67))⟩]) Bz3f))
def Bz3h:AC:=(.kp [1,4,5,7,10] [1,6,21,22,26,29,5000] (.seq (.regi false [⟨(some 11),none,.i (.mov (.c (.int .i64 1)))⟩]) Bz3g))
def Bz3i:AC:=(.kp [1,4,5,7,10] [1,6,21,22,26,29,5000] (.seq (.regi false [⟨(some 62),none,.i (.mov (.t 7))⟩,⟨(some 63),none,.i (.mov (.t 10))⟩,⟨(some 64),none,.call nz6 [(.t 62),(.t 63)]⟩,⟨(some 10),none,.i (.mov (.t 64))⟩]) Bz3h))
def Bz3j:AC:=(.kp [1,4,5,7] [1,6,21,22,26,29,5000] (.seq (.regi false [⟨(some 10),none,.i (.mov (.c (.int .i64 1)))⟩]) Bz3i))
def Bz3k:AC:=(.kp [1,4,5,7,8,9] [1,6,21,22,26,29,5000] (.seq (.seq (.regi false [⟨(some 49),none,.i (.mov (.t 9))⟩,⟨(some 50),none,.i (.bin .lss (.t 49) (.c (.int .i64 0)))⟩,⟨(some 51),none,.i (.mov (.t 50))⟩,⟨(some 52),(some (51,false)),.i (.mov (.t 7))⟩,⟨(some 53),(some (51,false)),.i (.mov (.t 4))⟩,⟨(some 54),(some (51,false)),.call nz1 [(.t 52),(.t 53)]⟩,⟨(some 55),(some (51,false)),.i (.un .not (.t 54))⟩,⟨(some 56),none,.i (.pick (.t 51) (.c (.bool true)) (.t 55))⟩,⟨(some 57),none,.i (.mov (.t 56))⟩,⟨(some 58),(some (57,false)),.i (.mov (.t 8))⟩,⟨(some 59),(some (57,false)),.i (.mov (.t 5))⟩,⟨(some 60),(some (57,false)),.i (.bin .neq (.t 58) (.t 59))⟩,⟨(some 61),none,.i (.pick (.t 57) (.c (.bool true)) (.t 60))⟩]) Bz31) Bz3j))
def Bz3l:AC:=(.kp [1,4,5,6,7,8,9] [1,6,21,22,26,29,5000] (.seq (.regi false [⟨(some 46),none,.i (.lda 2 (.t 6))⟩,⟨(some 47),none,.i (.mov (.t 9))⟩,⟨(some 48),none,.call nz1v [(.t 46),(.t 47)]⟩,⟨(some 9),none,.i (.mov (.t 48))⟩]) Bz3k))
def Bz3m:AC:=(.kp [1,4,5,6,7,8] [1,6,21,22,26,29,5000] (.seq (.regi false [⟨(some 9),none,.i (.mov (.c (.int .i64 1)))⟩]) Bz3l))
def Bz3n:AC:=(.kp [1,4,5,6,7,8] [1,6,21,22,26,29,5000] (.seq (.seq (.regi true [⟨(some 41),none,.i (.lda 2 (.t 6))⟩,⟨(some 42),none,.i (.lda 2 (.t 1))⟩,⟨(some 43),none,.call nz0 [(.t 42)]⟩,⟨(some 44),none,.calh nz1u [(.t 41),(.t 43)]⟩,⟨(some 45),none,.i (.un .not (.t 44))⟩]) Bz30) Bz3m))
def Bz3o:AC:=(.kp [1,4,5,6,7,8] [1,6,21,22,26,29,5000] (.seq (.seq (.regi false [⟨(some 32),none,.i (.mov (.t 7))⟩,⟨(some 33),none,.i (.mov (.t 4))⟩,⟨(some 34),none,.call nz1 [(.t 32),(.t 33)]⟩,⟨(some 35),none,.i (.un .not (.t 34))⟩,⟨(some 36),none,.i (.mov (.t 35))⟩,⟨(some 37),(some (36,false)),.i (.mov (.t 8))⟩,⟨(some 38),(some (36,false)),.i (.mov (.t 5))⟩,⟨(some 39),(some (36,false)),.i (.bin .neq (.t 37) (.t 38))⟩,⟨(some 40),none,.i (.pick (.t 36) (.c (.bool true)) (.t 39))⟩]) Bz2z) Bz3n))
def Bz6m:AC:=(.kp [1,4,5,6] [1,6,21,22,26,5000] (.seq (.regi false [⟨(some 28),none,.i (.lda 2 (.t 6))⟩,⟨(some 29),none,.call nz5 [(.t 28)]⟩,⟨(some 27),none,.i (.mov (.t 29))⟩,⟨(some 30),none,.i (.ext 0 (.t 27))⟩,⟨(some 31),none,.i (.ext 1 (.t 27))⟩,⟨(some 7),none,.i (.mov (.t 30))⟩,⟨(some 8),none,.i (.mov (.t 31))⟩]) Bz3o))
def Bz6n:AC:=(.kp [1,4,5] [1,21,22,5000] (.seq (.regi false [⟨(some 25),none,.i (.lda 2 (.t 1))⟩,⟨(some 26),none,.call nz0 [(.t 25)]⟩,⟨(some 6),none,.i (.new [.int .i64 0,.slice none 0 0])⟩,⟨none,none,.i (.sto 2 (.t 6) (.t 26))⟩]) Bz6m))
def Bz6o:AC:=(.kp [1] [1,5000] (.seq (.regi false [⟨(some 20),none,.i (.lda 2 (.t 1))⟩,⟨(some 21),none,.call nz0 [(.t 20)]⟩,⟨(some 22),none,.call nzh [(.t 21)]⟩,⟨(some 19),none,.i (.mov (.t 22))⟩,⟨(some 23),none,.i (.ext 0 (.t 19))⟩,⟨(some 24),none,.i (.ext 1 (.t 19))⟩,⟨(some 4),none,.i (.mov (.t 23))⟩,⟨(some 5),none,.i (.mov (.t 24))⟩]) Bz6n))
def Bz3p:AC:=(.kp [1,3] [1,5000] (.seq (.seq (.regi false [⟨(some 17),none,.i (.mov (.t 3))⟩,⟨(some 18),none,.i (.bin .lss (.t 17) (.c (.int .i64 0)))⟩]) Bz2y) Bz6o))
def Bz6p:AC:=(.kp [1,3] [1,5000] (.seq (.regi false [⟨(some 14),none,.i (.lda 2 (.t 1))⟩,⟨(some 15),none,.i (.mov (.t 3))⟩,⟨(some 16),none,.call nz1t [(.t 14),(.t 15)]⟩,⟨(some 3),none,.i (.mov (.t 16))⟩]) Bz3p))
def Bz6q:AC:=(.kp [1] [1,5000] (.seq (.regi false [⟨(some 3),none,.i (.mov (.c (.int .i64 1048576)))⟩]) Bz6p))
def Az6r:AFn:=⟨96,1,(.seq (.regi false [⟨(some 1),none,.i (.box (.t 0))⟩,⟨(some 2),none,.i (.mov (.c (.bool false)))⟩]) Bz6q),[.tmp 2]⟩
theorem czf1:cFn (drV none) Try.prog nz1s Az6r:=⟨_,_,Try.func3,rfl,by kernel_rfl,by decide,rfl,by kernel_rfl,by kernel_rfl⟩
def Bz3q:AC:=(.kp [1,10] [5000,5001] (.dn (.cond (.t 10) (.seq (.reg false [⟨(some 4),none,.i (.mov (.c (.int .i64 (-1))))⟩]) (.dn .ret)) .skip)))
def Bz6s:AC:=(.kp [1] [5000,5001] (.dn (.seq (.reg false [⟨(some 11),none,.i (.mov (.t 1))⟩,⟨(some 4),none,.i (.mov (.t 11))⟩]) (.dn .ret))))
def Bz3r:AC:=(.kp [1] [5000,5001] (.dn (.seq (.seq (.reg false [⟨(some 9),none,.i (.mov (.t 1))⟩,⟨(some 10),none,.i (.bin .lss (.t 9) (.c (.int .i64 0)))⟩]) Bz3q) Bz6s)))
def Bz6t:AC:=(.kp [1,2] [2,5000,5001] (.dn (.seq (.reg false [⟨(some 5),none,.i (.fad 1 (.t 2))⟩,⟨(some 6),none,.i (.ld (.t 5))⟩,⟨(some 7),none,.i (.mov (.t 1))⟩,⟨(some 8),none,.call nz1x [(.t 6),(.t 7)]⟩,⟨(some 1),none,.i (.mov (.t 8))⟩]) Bz3r)))
def Az6u:AFn:=⟨12,2,(.seq (.reg false [⟨(some 2),none,.i (.box (.t 0))⟩,⟨(some 4),none,.i (.mov (.c (.int .i64 0)))⟩]) Bz6t),[.tmp 4]⟩
theorem czf2:cFn (drV none) Try.prog nz1t Az6u:=⟨_,_,Try.func6,rfl,by kernel_rfl,by decide,rfl,by kernel_rfl,by kernel_rfl⟩
def Bz3s:AC:=(.kp [1,5] [1,5000] (.dn (.cond (.t 5) (.seq (.reg false [⟨(some 6),none,.i (.bsl 1 false [])⟩,⟨(some 2),none,.i (.mov (.t 6))⟩,⟨(some 3),none,.i (.mov (.c (.int .i64 1)))⟩]) (.dn .ret)) .skip)))
def Bz3t:AC:=(.kp [1,8] [1,5000] (.dn (.cond (.t 8) (.seq (.reg false [⟨(some 9),none,.i (.bsl 1 false [])⟩,⟨(some 2),none,.i (.mov (.t 9))⟩,⟨(some 3),none,.i (.mov (.c (.int .i64 4)))⟩]) (.dn .ret)) .skip)))
def Bz6v:AC:=(.kp [1] [1,5000] (.dn (.seq (.reg false [⟨(some 10),none,.call nz20 [(.t 1)]⟩,⟨(some 2),none,.i (.mov (.t 10))⟩,⟨(some 3),none,.i (.mov (.c (.int .i64 0)))⟩]) (.dn .ret))))
def Bz6w:AC:=(.kp [1] [1,5000] (.dn (.seq (.seq (.reg false [⟨(some 7),none,.call nz1z [(.t 1)]⟩,⟨(some 8),none,.i (.un .not (.t 7))⟩]) Bz3t) Bz6v)))
def Bz6x:AC:=(.kp [1] [1,5000] (.dn (.seq (.seq (.reg false [⟨(some 4),none,.call nz1y [(.t 1)]⟩,⟨(some 5),none,.i (.un .not (.t 4))⟩]) Bz3s) Bz6w)))
def Az6y:AFn:=⟨11,1,(.seq (.reg false [⟨(some 1),none,.i (.box (.t 0))⟩,⟨(some 2),none,.i (.mov (.c (.slice none 0 0)))⟩,⟨(some 3),none,.i (.mov (.c (.int .i64 0)))⟩]) Bz6x),[.tmp 2,.tmp 3]⟩
theorem czf3:cFn (drV none) Try.prog nzh Az6y:=⟨_,_,Try.func7,rfl,by kernel_rfl,by decide,rfl,by kernel_rfl,by kernel_rfl⟩
def Bz6z:AC:=(.kp [2,3] [1,2,3,9,5000] (.seq (.regi false [⟨(some 11),none,.i (.lda 2 (.t 3))⟩,⟨none,none,.i (.sto 2 (.t 2) (.t 11))⟩]) .ret))
def Bz70:AC:=(.kp [1,2,3] [1,2,3,9,5000] (.seq (.regi false [⟨(some 7),none,.i (.fad 1 (.t 1))⟩,⟨(some 8),none,.i (.ld (.t 7))⟩,⟨(some 9),none,.call nz21 [(.t 8)]⟩,⟨(some 10),none,.i (.fad 1 (.t 3))⟩,⟨none,none,.i (.sto 1 (.t 10) (.t 9))⟩]) Bz6z))
def Bz71:AC:=(.kp [1,2,3] [1,2,3,9,5000] (.seq (.regi false [⟨(some 4),none,.i (.fad 0 (.t 1))⟩,⟨(some 5),none,.i (.ld (.t 4))⟩,⟨(some 6),none,.i (.fad 0 (.t 3))⟩,⟨none,none,.i (.sto 1 (.t 6) (.t 5))⟩]) Bz70))
def Bz72:AC:=(.kp [1,2] [1,2,3,9,5000] (.seq (.regi false [⟨(some 3),none,.i (.new [.int .i64 0,.slice none 0 0])⟩]) Bz71))
def Az73:AFn:=⟨12,1,(.seq (.regi false [⟨(some 1),none,.i (.box (.t 0))⟩,⟨(some 2),none,.i (.new [.int .i64 0,.slice none 0 0])⟩]) Bz72),[.cell (some 2) 2]⟩
theorem czf4:cFn (drV none) Try.prog nz0 Az73:=⟨_,_,Try.func8,rfl,by kernel_rfl,by decide,rfl,by kernel_rfl,by kernel_rfl⟩
def Bz3u:AC:=(.kp [1,4,8] [1,5000] (.dn (.cond (.t 8) (.seq (.reg false [⟨(some 9),none,.i (.mov (.t 4))⟩,⟨(some 2),none,.i (.mov (.c (.slice none 0 0)))⟩,⟨(some 3),none,.i (.mov (.t 9))⟩]) (.dn .ret)) .skip)))
def Bz3v:AC:=(.kp [1,4] [1,5000] (.dn (.seq (.reg false [⟨(some 7),none,.i (.mov (.t 4))⟩,⟨(some 8),none,.i (.bin .neq (.t 7) (.c (.int .i64 0)))⟩]) Bz3u)))
def Bz74:AC:=(.kp [1] [1,5000] (.dn (.seq (.reg false [⟨(some 10),none,.i (.lda 2 (.t 1))⟩,⟨(some 11),none,.call nz23 [(.t 10)]⟩,⟨(some 2),none,.i (.mov (.t 11))⟩,⟨(some 3),none,.i (.mov (.c (.int .i64 0)))⟩]) (.dn .ret))))
def Bz75:AC:=(.kp [1] [1,5000] (.dn (.seq (.seq (.reg false [⟨(some 5),none,.i (.lda 2 (.t 1))⟩,⟨(some 6),none,.call nz22 [(.t 5),(.c (.slice none 0 0))]⟩,⟨(some 4),none,.i (.mov (.t 6))⟩]) Bz3v) Bz74)))
def Az76:AFn:=⟨12,1,(.seq (.reg false [⟨(some 1),none,.i (.box (.t 0))⟩,⟨(some 2),none,.i (.mov (.c (.slice none 0 0)))⟩,⟨(some 3),none,.i (.mov (.c (.int .i64 0)))⟩]) Bz75),[.tmp 2,.tmp 3]⟩
theorem czf5:cFn (drV none) Try.prog nz5 Az76:=⟨_,_,Try.func9,rfl,by kernel_rfl,by decide,rfl,by kernel_rfl,by kernel_rfl⟩
def Bz3w:AC:=(.kp [0,1,10] [5000,5001] (.dn (.cond (.t 10) (.seq (.reg false [⟨(some 4),none,.i (.mov (.c (.bool false)))⟩]) (.dn .ret)) .skip)))
def Bz3x:AC:=(.kp [0,1,5,14] [5000,5001] (.dn (.cond (.t 14) .skip (.exit 0))))
def Bz77:AC:=(.kp [0,1,5,25] [5000,5001] (.dn (.cond (.t 25) (.seq (.reg false [⟨(some 4),none,.i (.mov (.c (.bool false)))⟩]) (.dn .ret)) .skip)))
def Bz78:AC:=(.kp [0,1,5] [5000,5001] (.dn (.reg false [⟨(some 15),none,.i (.mov (.t 5))⟩,⟨(some 16),none,.i (.bin .add (.t 15) (.c (.int .i64 1)))⟩,⟨(some 5),none,.i (.mov (.t 16))⟩])))
def Bz3y:AC:=(.kp [0,1,5] [5000,5001] (.dn (.seq (.block 1 (.seq (.reg true [⟨(some 17),none,.i (.mov (.t 0))⟩,⟨(some 18),none,.i (.mov (.t 5))⟩,⟨(some 19),none,.i (.iad 1 (.t 17) (.t 18))⟩,⟨(some 20),none,.i (.ld (.t 19))⟩,⟨(some 21),none,.i (.mov (.t 1))⟩,⟨(some 22),none,.i (.mov (.t 5))⟩,⟨(some 23),none,.i (.iad 1 (.t 21) (.t 22))⟩,⟨(some 24),none,.i (.ld (.t 23))⟩,⟨(some 25),none,.i (.bin .neq (.t 20) (.t 24))⟩]) Bz77)) Bz78)))
def Bzn:AC:=(.kp [0,1,5] [5000,5001] (.dn (.seq (.seq (.reg false [⟨(some 11),none,.i (.mov (.t 5))⟩,⟨(some 12),none,.i (.mov (.t 0))⟩,⟨(some 13),none,.i (.len (.t 12))⟩,⟨(some 14),none,.i (.bin .lss (.t 11) (.t 13))⟩]) Bz3x) Bz3y)))
def Bz79:AC:=(.kp [0,1,5] [5000,5001] (.dn (.block 0 (.loop Bzn))))
def Bz7a:AC:=(.kp [] [5000,5001] (.dn (.seq (.reg false [⟨(some 4),none,.i (.mov (.c (.bool true)))⟩]) (.dn .ret))))
def Bz7b:AC:=(.kp [0,1] [5000,5001] (.dn (.seq (.seq (.reg false [⟨(some 5),none,.i (.mov (.c (.int .i64 0)))⟩]) Bz79) Bz7a)))
def Bz7c:AC:=(.kp [0,1] [5000,5001] (.dn (.seq (.seq (.reg false [⟨(some 6),none,.i (.mov (.t 0))⟩,⟨(some 7),none,.i (.len (.t 6))⟩,⟨(some 8),none,.i (.mov (.t 1))⟩,⟨(some 9),none,.i (.len (.t 8))⟩,⟨(some 10),none,.i (.bin .neq (.t 7) (.t 9))⟩]) Bz3w) Bz7b)))
def Az7d:AFn:=⟨26,2,(.seq (.reg false [⟨(some 4),none,.i (.mov (.c (.bool false)))⟩]) Bz7c),[.tmp 4]⟩
theorem czf6:cFn (drV none) Try.prog nz1 Az7d:=⟨_,_,Try.func10,rfl,by kernel_rfl,by decide,rfl,by kernel_rfl,by kernel_rfl⟩
def Bz3z:AC:=(.kp [2,3,9] [2,3,5000,5001] (.dn (.cond (.t 9) (.seq (.reg false [⟨(some 4),none,.i (.mov (.c (.bool false)))⟩]) (.dn .ret)) .skip)))
def Bz40:AC:=(.kp [15] [5000,5001] (.dn (.cond (.t 15) (.seq (.reg false [⟨(some 4),none,.i (.mov (.c (.bool false)))⟩]) (.dn .ret)) .skip)))
def Bz41:AC:=(.kp [] [5000,5001] (.dn (.seq (.reg false [⟨(some 4),none,.i (.mov (.c (.bool true)))⟩]) (.dn .ret))))
def Bz7e:AC:=(.kp [2,3] [2,3,5000,5001] (.dn (.seq (.seq (.reg false [⟨(some 10),none,.i (.fad 1 (.t 2))⟩,⟨(some 11),none,.i (.ld (.t 10))⟩,⟨(some 12),none,.i (.fad 1 (.t 3))⟩,⟨(some 13),none,.i (.ld (.t 12))⟩,⟨(some 14),none,.call nz24 [(.t 11),(.t 13)]⟩,⟨(some 15),none,.i (.un .not (.t 14))⟩]) Bz40) Bz41)))
def Bz7f:AC:=(.kp [2,3] [2,3,5000,5001] (.dn (.seq (.seq (.reg false [⟨(some 5),none,.i (.fad 0 (.t 2))⟩,⟨(some 6),none,.i (.ld (.t 5))⟩,⟨(some 7),none,.i (.fad 0 (.t 3))⟩,⟨(some 8),none,.i (.ld (.t 7))⟩,⟨(some 9),none,.i (.bin .neq (.t 6) (.t 8))⟩]) Bz3z) Bz7e)))
def Az7g:AFn:=⟨16,2,(.seq (.reg false [⟨(some 2),none,.i (.box (.t 0))⟩,⟨(some 3),none,.i (.box (.t 1))⟩,⟨(some 4),none,.i (.mov (.c (.bool false)))⟩]) Bz7f),[.tmp 4]⟩
theorem czf7:cFn (drV none) Try.prog nz1u Az7g:=⟨_,_,Try.func11,rfl,by kernel_rfl,by decide,rfl,by kernel_rfl,by kernel_rfl⟩
def Bz7h:AC:=(.kp [1] [5000,5001,5002,5003] (.seq (.regi false [⟨(some 9),none,.i (.mov (.t 1))⟩,⟨(some 4),none,.i (.mov (.t 9))⟩]) .ret))
def Bz7i:AC:=(.kp [1,2] [2,5000,5001,5002,5003] (.seq (.regi false [⟨(some 5),none,.i (.fad 1 (.t 2))⟩,⟨(some 6),none,.i (.ld (.t 5))⟩,⟨(some 7),none,.i (.mov (.t 1))⟩,⟨(some 8),none,.call nz25 [(.t 6),(.t 7)]⟩,⟨(some 1),none,.i (.mov (.t 8))⟩]) Bz7h))
def Az7j:AFn:=⟨10,2,(.seq (.regi false [⟨(some 2),none,.i (.box (.t 0))⟩,⟨(some 4),none,.i (.mov (.c (.int .i64 0)))⟩]) Bz7i),[.tmp 4]⟩
theorem czf8:cFn (drV none) Try.prog nz1v Az7j:=⟨_,_,Try.func12,rfl,by kernel_rfl,by decide,rfl,by kernel_rfl,by kernel_rfl⟩
def Bzo:AC:=(.kp [0,1,5,9] [5000,5001] (.dn (.cond (.t 9) .skip (.exit 0))))
def Bz7k:AC:=(.kp [0,1,5] [5000,5001] (.dn (.reg false [⟨(some 16),none,.i (.mov (.t 1))⟩,⟨(some 17),none,.i (.bin .add (.t 16) (.c (.int .i64 1)))⟩,⟨(some 1),none,.i (.mov (.t 17))⟩])))
def Bz7l:AC:=(.kp [0,1,5] [5000,5001] (.dn (.reg false [⟨(some 10),none,.i (.mov (.t 5))⟩,⟨(some 11),none,.i (.bin .add (.t 10) (.c (.int .i64 1)))⟩,⟨(some 5),none,.i (.mov (.t 11))⟩])))
def Bzp:AC:=(.kp [0,1,5] [5000,5001] (.dn (.seq (.block 1 (.seq (.reg false [⟨(some 12),none,.i (.mov (.t 0))⟩,⟨(some 13),none,.i (.mov (.t 5))⟩,⟨(some 14),none,.i (.mov (.t 1))⟩,⟨(some 15),none,.i (.iad 1 (.t 12) (.t 13))⟩,⟨none,none,.i (.sto 1 (.t 15) (.t 14))⟩]) Bz7k)) Bz7l)))
def Bz3:AC:=(.kp [0,1,5] [5000,5001] (.dn (.seq (.seq (.reg false [⟨(some 6),none,.i (.mov (.t 5))⟩,⟨(some 7),none,.i (.mov (.t 0))⟩,⟨(some 8),none,.i (.len (.t 7))⟩,⟨(some 9),none,.i (.bin .lss (.t 6) (.t 8))⟩]) Bzo) Bzp)))
def Bz42:AC:=(.kp [0,1,5] [5000,5001] (.dn (.block 0 (.loop Bz3))))
def Bz43:AC:=(.kp [1] [5000,5001] (.dn (.seq (.reg false [⟨(some 18),none,.i (.mov (.t 1))⟩,⟨(some 4),none,.i (.mov (.t 18))⟩]) (.dn .ret))))
def Bz44:AC:=(.kp [0,1] [5000,5001] (.dn (.seq (.seq (.reg false [⟨(some 5),none,.i (.mov (.c (.int .i64 0)))⟩]) Bz42) Bz43)))
def Az45:AFn:=⟨19,2,(.seq (.reg false [⟨(some 4),none,.i (.mov (.c (.int .i64 0)))⟩]) Bz44),[.tmp 4]⟩
theorem cz7m:cFn (drV none) Try.prog nz6 Az45:=⟨_,_,Try.func13,rfl,by kernel_rfl,by decide,rfl,by kernel_rfl,by kernel_rfl⟩
def Bz46:AC:=(.kp [0,1,5,9] [5000,5001] (.dn (.cond (.t 9) .skip (.exit 0))))
def Bz7n:AC:=(.kp [0,1,5,17] [5000,5001] (.dn (.cond (.t 17) (.seq (.reg false [⟨(some 4),none,.i (.mov (.c (.int .i64 (-1))))⟩]) (.dn .ret)) .skip)))
def Bz7o:AC:=(.kp [0,1,5] [5000,5001] (.dn (.reg false [⟨(some 18),none,.i (.mov (.t 1))⟩,⟨(some 19),none,.i (.bin .add (.t 18) (.c (.int .i64 1)))⟩,⟨(some 1),none,.i (.mov (.t 19))⟩])))
def Bz7p:AC:=(.kp [0,1,5] [5000,5001] (.dn (.reg false [⟨(some 10),none,.i (.mov (.t 5))⟩,⟨(some 11),none,.i (.bin .add (.t 10) (.c (.int .i64 1)))⟩,⟨(some 5),none,.i (.mov (.t 11))⟩])))
def Bz47:AC:=(.kp [0,1,5] [5000,5001] (.dn (.seq (.block 1 (.seq (.seq (.reg false [⟨(some 12),none,.i (.mov (.t 0))⟩,⟨(some 13),none,.i (.mov (.t 5))⟩,⟨(some 14),none,.i (.iad 1 (.t 12) (.t 13))⟩,⟨(some 15),none,.i (.ld (.t 14))⟩,⟨(some 16),none,.i (.mov (.t 1))⟩,⟨(some 17),none,.i (.bin .neq (.t 15) (.t 16))⟩]) Bz7n) Bz7o)) Bz7p)))
def Bzq:AC:=(.kp [0,1,5] [5000,5001] (.dn (.seq (.seq (.reg false [⟨(some 6),none,.i (.mov (.t 5))⟩,⟨(some 7),none,.i (.mov (.t 0))⟩,⟨(some 8),none,.i (.len (.t 7))⟩,⟨(some 9),none,.i (.bin .lss (.t 6) (.t 8))⟩]) Bz46) Bz47)))
def Bz7q:AC:=(.kp [0,1,5] [5000,5001] (.dn (.block 0 (.loop Bzq))))
def Bz7r:AC:=(.kp [1] [5000,5001] (.dn (.seq (.reg false [⟨(some 20),none,.i (.mov (.t 1))⟩,⟨(some 4),none,.i (.mov (.t 20))⟩]) (.dn .ret))))
def Bz7s:AC:=(.kp [0,1] [5000,5001] (.dn (.seq (.seq (.reg false [⟨(some 5),none,.i (.mov (.c (.int .i64 0)))⟩]) Bz7q) Bz7r)))
def Az7t:AFn:=⟨21,2,(.seq (.reg false [⟨(some 4),none,.i (.mov (.c (.int .i64 0)))⟩]) Bz7s),[.tmp 4]⟩
theorem czf9:cFn (drV none) Try.prog nz7 Az7t:=⟨_,_,Try.func14,rfl,by kernel_rfl,by decide,rfl,by kernel_rfl,by kernel_rfl⟩
def Bz48:AC:=(.kp [0,3,4,11] [7,5000] (.dn (.cond (.t 11) .skip (.exit 0))))
def Bz7u:AC:=(.kp [0,3,4] [7,5000] (.dn (.reg false [⟨(some 12),none,.i (.mov (.t 4))⟩,⟨(some 13),none,.i (.bin .add (.t 12) (.c (.int .i64 1)))⟩,⟨(some 4),none,.i (.mov (.t 13))⟩])))
def Bz49:AC:=(.kp [0,3,4] [7,5000] (.dn (.seq (.block 1 (.reg false [⟨(some 14),none,.i (.mov (.t 3))⟩,⟨(some 15),none,.i (.mov (.t 4))⟩,⟨(some 16),none,.i (.mov (.t 0))⟩,⟨(some 17),none,.i (.mov (.t 4))⟩,⟨(some 18),none,.i (.iad 1 (.t 16) (.t 17))⟩,⟨(some 19),none,.i (.ld (.t 18))⟩,⟨(some 20),none,.i (.iad 1 (.t 14) (.t 15))⟩,⟨none,none,.i (.sto 1 (.t 20) (.t 19))⟩])) Bz7u)))
def Bzr:AC:=(.kp [0,3,4] [7,5000] (.dn (.seq (.seq (.reg false [⟨(some 8),none,.i (.mov (.t 4))⟩,⟨(some 9),none,.i (.mov (.t 0))⟩,⟨(some 10),none,.i (.len (.t 9))⟩,⟨(some 11),none,.i (.bin .lss (.t 8) (.t 10))⟩]) Bz48) Bz49)))
def Bz7v:AC:=(.kp [0,3,4] [7,5000] (.dn (.block 0 (.loop Bzr))))
def Bz7w:AC:=(.kp [3] [7,5000] (.dn (.seq (.reg false [⟨(some 21),none,.i (.mov (.t 3))⟩,⟨(some 2),none,.i (.mov (.t 21))⟩]) (.dn .ret))))
def Bz7x:AC:=(.kp [0,3] [7,5000] (.dn (.seq (.seq (.reg false [⟨(some 4),none,.i (.mov (.c (.int .i64 0)))⟩]) Bz7v) Bz7w)))
def Bz7y:AC:=(.kp [0] [5000] (.dn (.seq (.reg false [⟨(some 5),none,.i (.mov (.t 0))⟩,⟨(some 6),none,.i (.len (.t 5))⟩,⟨(some 7),none,.i (.mks 1 8 [.int .i64 0] (.t 6) (.t 6))⟩,⟨(some 3),none,.i (.mov (.t 7))⟩]) Bz7x)))
def Az7z:AFn:=⟨22,1,(.seq (.reg false [⟨(some 2),none,.i (.mov (.c (.slice none 0 0)))⟩]) Bz7y),[.tmp 2]⟩
theorem czfa:cFn (drV none) Try.prog nz1w Az7z:=⟨_,_,Try.func16,rfl,by kernel_rfl,by decide,rfl,by kernel_rfl,by kernel_rfl⟩
def Bz4a:AC:=(.kp [0,1,11] [5000,5001] (.dn (.cond (.t 11) (.seq (.reg false [⟨(some 4),none,.i (.mov (.c (.int .i64 (-1))))⟩]) (.dn .ret)) .skip)))
def Bz4b:AC:=(.kp [0,1,5,15] [5000,5001] (.dn (.cond (.t 15) .skip (.exit 0))))
def Bz4c:AC:=(.kp [0,1,5,25] [5000,5001] (.dn (.cond (.t 25) (.seq (.reg false [⟨(some 4),none,.i (.mov (.c (.int .i64 (-1))))⟩]) (.dn .ret)) .skip)))
def Bz4d:AC:=(.kp [0,1,5] [5000,5001] (.dn (.seq (.reg false [⟨(some 24),none,.i (.mov (.t 1))⟩,⟨(some 25),none,.i (.bin .lss (.t 24) (.c (.int .i64 0)))⟩]) Bz4c)))
def Bz80:AC:=(.kp [0,1,5] [5000,5001] (.dn (.reg false [⟨(some 16),none,.i (.mov (.t 5))⟩,⟨(some 17),none,.i (.bin .add (.t 16) (.c (.int .i64 1)))⟩,⟨(some 5),none,.i (.mov (.t 17))⟩])))
def Bz4e:AC:=(.kp [0,1,5] [5000,5001] (.dn (.seq (.block 1 (.seq (.reg false [⟨(some 18),none,.i (.mov (.t 0))⟩,⟨(some 19),none,.i (.mov (.t 5))⟩,⟨(some 20),none,.i (.iad 1 (.t 18) (.t 19))⟩,⟨(some 21),none,.i (.ld (.t 20))⟩,⟨(some 22),none,.i (.mov (.t 1))⟩,⟨(some 23),none,.call nz27 [(.t 21),(.t 22)]⟩,⟨(some 1),none,.i (.mov (.t 23))⟩]) Bz4d)) Bz80)))
def Bzs:AC:=(.kp [0,1,5] [5000,5001] (.dn (.seq (.seq (.reg false [⟨(some 12),none,.i (.mov (.t 5))⟩,⟨(some 13),none,.i (.mov (.t 0))⟩,⟨(some 14),none,.i (.len (.t 13))⟩,⟨(some 15),none,.i (.bin .lss (.t 12) (.t 14))⟩]) Bz4b) Bz4e)))
def Bz81:AC:=(.kp [0,1,5] [5000,5001] (.dn (.block 0 (.loop Bzs))))
def Bz82:AC:=(.kp [1] [5000,5001] (.dn (.seq (.reg false [⟨(some 26),none,.i (.mov (.t 1))⟩,⟨(some 4),none,.i (.mov (.t 26))⟩]) (.dn .ret))))
def Bz83:AC:=(.kp [0,1] [5000,5001] (.dn (.seq (.seq (.reg false [⟨(some 5),none,.i (.mov (.c (.int .i64 0)))⟩]) Bz81) Bz82)))
def Bz4f:AC:=(.kp [0,1] [5000,5001] (.dn (.seq (.seq (.reg false [⟨(some 10),none,.i (.mov (.t 1))⟩,⟨(some 11),none,.i (.bin .lss (.t 10) (.c (.int .i64 0)))⟩]) Bz4a) Bz83)))
def Bz84:AC:=(.kp [0,1] [5000,5001] (.dn (.seq (.reg false [⟨(some 6),none,.i (.mov (.t 1))⟩,⟨(some 7),none,.i (.mov (.t 0))⟩,⟨(some 8),none,.i (.len (.t 7))⟩,⟨(some 9),none,.i (.bin .sub (.t 6) (.t 8))⟩,⟨(some 1),none,.i (.mov (.t 9))⟩]) Bz4f)))
def Az85:AFn:=⟨27,2,(.seq (.reg false [⟨(some 4),none,.i (.mov (.c (.int .i64 0)))⟩]) Bz84),[.tmp 4]⟩
theorem czfb:cFn (drV none) Try.prog nz1x Az85:=⟨_,_,Try.func20,rfl,by kernel_rfl,by decide,rfl,by kernel_rfl,by kernel_rfl⟩
def Bzt:AC:=(.kp [0,18] [5000] (.dn (.cond (.t 18) (.seq (.reg false [⟨(some 2),none,.i (.mov (.c (.bool false)))⟩]) (.dn .ret)) .skip)))
def Bz4g:AC:=(.kp [0,3,25] [5000] (.dn (.cond (.t 25) .skip (.exit 0))))
def Bz86:AC:=(.kp [0,3,40] [5000] (.dn (.cond (.t 40) (.seq (.reg false [⟨(some 2),none,.i (.mov (.c (.bool false)))⟩]) (.dn .ret)) .skip)))
def Bz87:AC:=(.kp [0,3] [5000] (.dn (.reg false [⟨(some 26),none,.i (.mov (.t 3))⟩,⟨(some 27),none,.i (.bin .add (.t 26) (.c (.int .i64 1)))⟩,⟨(some 3),none,.i (.mov (.t 27))⟩])))
def Bz4h:AC:=(.kp [0,3] [5000] (.dn (.seq (.block 1 (.seq (.reg true [⟨(some 28),none,.i (.mov (.t 0))⟩,⟨(some 29),none,.i (.nilck (.t 28))⟩,⟨(some 30),none,.i (.fad 1 (.t 29))⟩,⟨(some 31),none,.i (.ld (.t 30))⟩,⟨(some 32),none,.i (.mov (.t 3))⟩,⟨(some 33),none,.i (.iad 1 (.t 31) (.t 32))⟩,⟨(some 34),none,.i (.ld (.t 33))⟩,⟨(some 35),none,.i (.mov (.t 0))⟩,⟨(some 36),none,.i (.nilck (.t 35))⟩,⟨(some 37),none,.i (.fad 0 (.t 36))⟩,⟨(some 38),none,.i (.ld (.t 37))⟩,⟨(some 39),none,.calh nz28 [(.t 34),(.t 38)]⟩,⟨(some 40),none,.i (.un .not (.t 39))⟩]) Bz86)) Bz87)))
def Bzu:AC:=(.kp [0,3] [5000] (.dn (.seq (.seq (.reg false [⟨(some 19),none,.i (.mov (.t 3))⟩,⟨(some 20),none,.i (.mov (.t 0))⟩,⟨(some 21),none,.i (.nilck (.t 20))⟩,⟨(some 22),none,.i (.fad 1 (.t 21))⟩,⟨(some 23),none,.i (.ld (.t 22))⟩,⟨(some 24),none,.i (.len (.t 23))⟩,⟨(some 25),none,.i (.bin .lss (.t 19) (.t 24))⟩]) Bz4g) Bz4h)))
def Bz88:AC:=(.kp [0,3] [5000] (.dn (.block 0 (.loop Bzu))))
def Bz89:AC:=(.kp [] [5000] (.dn (.seq (.reg false [⟨(some 2),none,.i (.mov (.c (.bool true)))⟩]) (.dn .ret))))
def Bz8a:AC:=(.kp [0] [5000] (.dn (.seq (.seq (.reg false [⟨(some 3),none,.i (.mov (.c (.int .i64 0)))⟩]) Bz88) Bz89)))
def Bz8b:AC:=(.kp [0] [5000] (.dn (.seq (.seq (.reg false [⟨(some 4),none,.i (.mov (.t 0))⟩,⟨(some 5),none,.i (.nilck (.t 4))⟩,⟨(some 6),none,.i (.fad 0 (.t 5))⟩,⟨(some 7),none,.i (.ld (.t 6))⟩,⟨(some 8),none,.call nz8 [(.t 7),(.c (.int .i64 1)),(.c (.int .i64 10))]⟩,⟨(some 9),none,.i (.un .not (.t 8))⟩,⟨(some 10),none,.i (.mov (.t 9))⟩,⟨(some 11),(some (10,false)),.i (.mov (.t 0))⟩,⟨(some 12),(some (10,false)),.i (.nilck (.t 11))⟩,⟨(some 13),(some (10,false)),.i (.fad 1 (.t 12))⟩,⟨(some 14),(some (10,false)),.i (.ld (.t 13))⟩,⟨(some 15),(some (10,false)),.i (.len (.t 14))⟩,⟨(some 16),(some (10,false)),.call nz8 [(.t 15),(.c (.int .i64 1)),(.c (.int .i64 3))]⟩,⟨(some 17),(some (10,false)),.i (.un .not (.t 16))⟩,⟨(some 18),none,.i (.pick (.t 10) (.c (.bool true)) (.t 17))⟩]) Bzt) Bz8a)))
def Az8c:AFn:=⟨41,1,(.seq (.reg false [⟨(some 2),none,.i (.mov (.c (.bool false)))⟩]) Bz8b),[.tmp 2]⟩
theorem czfc:cFn (drV none) Try.prog nz1y Az8c:=⟨_,_,Try.func21,rfl,by kernel_rfl,by decide,rfl,by kernel_rfl,by kernel_rfl⟩
def Bz4i:AC:=(.kp [0,3,9] [5000] (.dn (.cond (.t 9) .skip (.exit 0))))
def Bz4j:AC:=(.kp [0,3,20] [14,5000] (.dn (.cond (.t 20) (.seq (.reg false [⟨(some 2),none,.i (.mov (.c (.bool false)))⟩]) (.dn .ret)) .skip)))
def Bz8d:AC:=(.kp [0,3] [5000] (.dn (.reg false [⟨(some 10),none,.i (.mov (.t 3))⟩,⟨(some 11),none,.i (.bin .add (.t 10) (.c (.int .i64 1)))⟩,⟨(some 3),none,.i (.mov (.t 11))⟩])))
def Bz8e:AC:=(.kp [0,3] [5000] (.dn (.seq (.block 1 (.seq (.reg true [⟨(some 12),none,.i (.mov (.t 0))⟩,⟨(some 13),none,.i (.mov (.t 3))⟩,⟨(some 14),none,.call nz29 [(.t 12),(.t 13)]⟩,⟨(some 15),none,.i (.len (.t 14))⟩,⟨(some 16),none,.i (.mov (.t 0))⟩,⟨(some 17),none,.i (.nilck (.t 16))⟩,⟨(some 18),none,.i (.fad 0 (.t 17))⟩,⟨(some 19),none,.i (.ld (.t 18))⟩,⟨(some 20),none,.i (.bin .neq (.t 15) (.t 19))⟩]) Bz4j)) Bz8d)))
def Bzv:AC:=(.kp [0,3] [5000] (.dn (.seq (.seq (.reg false [⟨(some 4),none,.i (.mov (.t 3))⟩,⟨(some 5),none,.i (.mov (.t 0))⟩,⟨(some 6),none,.i (.nilck (.t 5))⟩,⟨(some 7),none,.i (.fad 0 (.t 6))⟩,⟨(some 8),none,.i (.ld (.t 7))⟩,⟨(some 9),none,.i (.bin .lss (.t 4) (.t 8))⟩]) Bz4i) Bz8e)))
def Bz8f:AC:=(.kp [0,3] [5000] (.dn (.block 0 (.loop Bzv))))
def Bz8g:AC:=(.kp [] [5000] (.dn (.seq (.reg false [⟨(some 2),none,.i (.mov (.c (.bool true)))⟩]) (.dn .ret))))
def Bz8h:AC:=(.kp [0] [5000] (.dn (.seq (.seq (.reg false [⟨(some 3),none,.i (.mov (.c (.int .i64 0)))⟩]) Bz8f) Bz8g)))
def Az8i:AFn:=⟨21,1,(.seq (.reg false [⟨(some 2),none,.i (.mov (.c (.bool false)))⟩]) Bz8h),[.tmp 2]⟩
theorem czfd:cFn (drV none) Try.prog nz1z Az8i:=⟨_,_,Try.func22,rfl,by kernel_rfl,by decide,rfl,by kernel_rfl,by kernel_rfl⟩
def Bz4k:AC:=(.kp [0,3,4,5,13] [7,21,5000] (.dn (.cond (.t 13) .skip (.exit 0))))
def Bz8j:AC:=(.kp [0,3,4,5] [7,21,5000] (.dn (.reg false [⟨(some 22),none,.i (.mov (.t 4))⟩,⟨(some 23),none,.i (.mov (.t 3))⟩,⟨(some 24),none,.i (.mov (.t 5))⟩,⟨(some 25),none,.i (.iad 1 (.t 23) (.t 24))⟩,⟨(some 26),none,.i (.ld (.t 25))⟩,⟨(some 27),none,.call nz2b [(.t 22),(.t 26)]⟩,⟨(some 4),none,.i (.mov (.t 27))⟩])))
def Bz8k:AC:=(.kp [0,3,4,5] [7,21,5000] (.dn (.reg false [⟨(some 14),none,.i (.mov (.t 5))⟩,⟨(some 15),none,.i (.bin .add (.t 14) (.c (.int .i64 1)))⟩,⟨(some 5),none,.i (.mov (.t 15))⟩])))
def Bz8l:AC:=(.kp [0,3,4,5] [7,21,5000] (.dn (.seq (.block 1 (.seq (.reg false [⟨(some 16),none,.i (.mov (.t 3))⟩,⟨(some 17),none,.i (.mov (.t 0))⟩,⟨(some 18),none,.i (.mov (.t 5))⟩,⟨(some 19),none,.call nz2a [(.t 17),(.t 18)]⟩,⟨(some 20),none,.i (.bsl 1 false [(.t 19)])⟩,⟨(some 21),none,.i (.app 1 8 (.t 16) (.t 20))⟩,⟨(some 3),none,.i (.mov (.t 21))⟩]) Bz8j)) Bz8k)))
def Bzw:AC:=(.kp [0,3,4,5] [7,21,5000] (.dn (.seq (.seq (.reg false [⟨(some 8),none,.i (.mov (.t 5))⟩,⟨(some 9),none,.i (.mov (.t 0))⟩,⟨(some 10),none,.i (.nilck (.t 9))⟩,⟨(some 11),none,.i (.fad 0 (.t 10))⟩,⟨(some 12),none,.i (.ld (.t 11))⟩,⟨(some 13),none,.i (.bin .lss (.t 8) (.t 12))⟩]) Bz4k) Bz8l)))
def Bz8m:AC:=(.kp [0,3,4,5] [7,21,5000] (.dn (.block 0 (.loop Bzw))))
def Bz4l:AC:=(.kp [3,4,6,31] [7,21,5000] (.dn (.cond (.t 31) .skip (.exit 2))))
def Bz8n:AC:=(.kp [3,4,6] [7,21,5000] (.dn (.reg false [⟨(some 32),none,.i (.mov (.t 6))⟩,⟨(some 33),none,.i (.bin .add (.t 32) (.c (.int .i64 1)))⟩,⟨(some 6),none,.i (.mov (.t 33))⟩])))
def Bz8o:AC:=(.kp [3,4,6] [7,21,5000] (.dn (.seq (.block 3 (.reg false [⟨(some 34),none,.i (.mov (.t 3))⟩,⟨(some 35),none,.i (.mov (.t 6))⟩,⟨(some 36),none,.i (.mov (.t 3))⟩,⟨(some 37),none,.i (.mov (.t 6))⟩,⟨(some 38),none,.i (.iad 1 (.t 36) (.t 37))⟩,⟨(some 39),none,.i (.ld (.t 38))⟩,⟨(some 40),none,.i (.mov (.t 4))⟩,⟨(some 41),none,.i (.bin .quo (.t 39) (.t 40))⟩,⟨(some 42),none,.i (.iad 1 (.t 34) (.t 35))⟩,⟨none,none,.i (.sto 1 (.t 42) (.t 41))⟩])) Bz8n)))
def Bzx:AC:=(.kp [3,4,6] [7,21,5000] (.dn (.seq (.seq (.reg false [⟨(some 28),none,.i (.mov (.t 6))⟩,⟨(some 29),none,.i (.mov (.t 3))⟩,⟨(some 30),none,.i (.len (.t 29))⟩,⟨(some 31),none,.i (.bin .lss (.t 28) (.t 30))⟩]) Bz4l) Bz8o)))
def Bz8p:AC:=(.kp [3,4,6] [7,21,5000] (.dn (.block 2 (.loop Bzx))))
def Bz8q:AC:=(.kp [3] [7,21,5000] (.dn (.seq (.reg false [⟨(some 43),none,.i (.mov (.t 3))⟩,⟨(some 2),none,.i (.mov (.t 43))⟩]) (.dn .ret))))
def Bz8r:AC:=(.kp [3,4] [7,21,5000] (.dn (.seq (.seq (.reg false [⟨(some 6),none,.i (.mov (.c (.int .i64 0)))⟩]) Bz8p) Bz8q)))
def Bz8s:AC:=(.kp [0,3,4] [7,21,5000] (.dn (.seq (.seq (.reg false [⟨(some 5),none,.i (.mov (.c (.int .i64 0)))⟩]) Bz8m) Bz8r)))
def Bz8t:AC:=(.kp [0,3] [7,21,5000] (.dn (.seq (.reg false [⟨(some 4),none,.i (.mov (.c (.int .i64 0)))⟩]) Bz8s)))
def Bz8u:AC:=(.kp [0] [5000] (.dn (.seq (.reg false [⟨(some 7),none,.i (.bsl 1 false [])⟩,⟨(some 3),none,.i (.mov (.t 7))⟩]) Bz8t)))
def Az4m:AFn:=⟨44,1,(.seq (.reg false [⟨(some 2),none,.i (.mov (.c (.slice none 0 0)))⟩]) Bz8u),[.tmp 2]⟩
theorem czfe:cFn (drV none) Try.prog nz20 Az4m:=⟨_,_,Try.func23,rfl,by kernel_rfl,by decide,rfl,by kernel_rfl,by kernel_rfl⟩
def Bz4n:AC:=(.kp [0,3,4,11] [7,20,5000] (.cond (.t 11) .skip (.exit 0)))
def Bz8v:AC:=(.kp [0,3,4] [7,20,5000] (.regi false [⟨(some 12),none,.i (.mov (.t 4))⟩,⟨(some 13),none,.i (.bin .add (.t 12) (.c (.int .i64 1)))⟩,⟨(some 4),none,.i (.mov (.t 13))⟩]))
def Bz4o:AC:=(.kp [0,3,4] [7,20,5000] (.seq (.block 1 (.regi false [⟨(some 14),none,.i (.mov (.t 3))⟩,⟨(some 15),none,.i (.mov (.t 4))⟩,⟨(some 16),none,.i (.mov (.t 0))⟩,⟨(some 17),none,.i (.mov (.t 4))⟩,⟨(some 18),none,.i (.iad 1 (.t 16) (.t 17))⟩,⟨(some 19),none,.i (.ld (.t 18))⟩,⟨(some 20),none,.call nz1w [(.t 19)]⟩,⟨(some 21),none,.i (.iad 1 (.t 14) (.t 15))⟩,⟨none,none,.i (.sto 1 (.t 21) (.t 20))⟩])) Bz8v))
def Bz8w:AC:=(.kp [0,3,4] [7,20,5000] (.seq (.seq (.regi false [⟨(some 8),none,.i (.mov (.t 4))⟩,⟨(some 9),none,.i (.mov (.t 0))⟩,⟨(some 10),none,.i (.len (.t 9))⟩,⟨(some 11),none,.i (.bin .lss (.t 8) (.t 10))⟩]) Bz4n) Bz4o))
def Bz8x:AC:=(.kp [0,3,4] [7,20,5000] (.block 0 (.loop Bz8w)))
def Bz8y:AC:=(.kp [3] [7,20,5000] (.seq (.regi false [⟨(some 22),none,.i (.mov (.t 3))⟩,⟨(some 2),none,.i (.mov (.t 22))⟩]) .ret))
def Bz8z:AC:=(.kp [0,3] [7,20,5000] (.seq (.seq (.regi false [⟨(some 4),none,.i (.mov (.c (.int .i64 0)))⟩]) Bz8x) Bz8y))
def Bz90:AC:=(.kp [0] [5000] (.seq (.regi false [⟨(some 5),none,.i (.mov (.t 0))⟩,⟨(some 6),none,.i (.len (.t 5))⟩,⟨(some 7),none,.i (.mks 1 24 [.slice none 0 0] (.t 6) (.t 6))⟩,⟨(some 3),none,.i (.mov (.t 7))⟩]) Bz8z))
def Az91:AFn:=⟨23,1,(.seq (.regi false [⟨(some 2),none,.i (.mov (.c (.slice none 0 0)))⟩]) Bz90),[.tmp 2]⟩
theorem czff:cFn (drV none) Try.prog nz21 Az91:=⟨_,_,Try.func24,rfl,by kernel_rfl,by decide,rfl,by kernel_rfl,by kernel_rfl⟩
def Bz9:AC:=(.kp [5,15] [5000,5001] (.dn (.cond (.t 15) (.reg false [⟨(some 5),none,.i (.mov (.c (.int .i64 4)))⟩]) .skip)))
def Bza:AC:=(.kp [5] [5000,5001] (.dn (.seq (.reg false [⟨(some 16),none,.i (.mov (.t 5))⟩,⟨(some 4),none,.i (.mov (.t 16))⟩]) (.dn .ret))))
def Bzy:AC:=(.kp [2,5] [2,5000,5001] (.dn (.seq (.seq (.reg false [⟨(some 9),none,.i (.mov (.t 5))⟩,⟨(some 10),none,.i (.bin .eql (.t 9) (.c (.int .i64 0)))⟩,⟨(some 11),none,.i (.mov (.t 10))⟩,⟨(some 12),(some (11,true)),.i (.lda 2 (.t 2))⟩,⟨(some 13),(some (11,true)),.call nz2e [(.t 12)]⟩,⟨(some 14),(some (11,true)),.i (.un .not (.t 13))⟩,⟨(some 15),none,.i (.pick (.t 11) (.t 14) (.c (.bool false)))⟩]) Bz9) Bza)))
def Bz92:AC:=(.kp [2,3] [2,3,5000,5001] (.dn (.seq (.reg false [⟨(some 6),none,.i (.lda 2 (.t 2))⟩,⟨(some 7),none,.i (.mkf nzi [(.t 3),(.t 2)])⟩,⟨(some 8),none,.call nz2c [(.t 6),(.t 7)]⟩,⟨(some 5),none,.i (.mov (.t 8))⟩]) Bzy)))
def Az93:AFn:=⟨17,2,(.seq (.reg false [⟨(some 2),none,.i (.box (.t 0))⟩,⟨(some 3),none,.i (.box (.t 1))⟩,⟨(some 4),none,.i (.mov (.c (.int .i64 0)))⟩]) Bz92),[.tmp 4]⟩
theorem czfg:cFn (drV none) Try.prog nz22 Az93:=⟨_,_,Try.func25,rfl,by kernel_rfl,by decide,rfl,by kernel_rfl,by kernel_rfl⟩
def Bz94:AC:=(.kp [1,3,4,5,7,15,16,23,24,25] [1,13,21,48,5000] (.dn (.reg false [⟨(some 35),none,.i (.mov (.t 5))⟩,⟨(some 36),none,.i (.mov (.t 7))⟩,⟨(some 37),none,.i (.mov (.t 4))⟩,⟨(some 38),none,.i (.iad 1 (.t 36) (.t 37))⟩,⟨(some 39),none,.i (.ld (.t 38))⟩,⟨(some 40),none,.i (.iad 1 (.t 35) (.t 39))⟩,⟨(some 41),none,.i (.ld (.t 40))⟩,⟨(some 42),none,.i (.bin .sub (.t 41) (.c (.int .i64 1)))⟩,⟨(some 43),none,.i (.iad 1 (.t 35) (.t 39))⟩,⟨none,none,.i (.sto 1 (.t 43) (.t 42))⟩])))
def Bz95:AC:=(.kp [1,3,4,5,7,15,16,23,24,25] [1,13,21,48,5000] (.dn (.seq (.reg false [⟨(some 29),none,.i (.mov (.t 5))⟩,⟨(some 30),none,.i (.mov (.t 4))⟩,⟨(some 31),none,.i (.iad 1 (.t 29) (.t 30))⟩,⟨(some 32),none,.i (.ld (.t 31))⟩,⟨(some 33),none,.i (.bin .add (.t 32) (.c (.int .i64 1)))⟩,⟨(some 34),none,.i (.iad 1 (.t 29) (.t 30))⟩,⟨none,none,.i (.sto 1 (.t 34) (.t 33))⟩]) Bz94)))
def Bz96:AC:=(.kp [1,3,4,5,15,16,23,24,25] [1,13,21,48,5000] (.dn (.reg false [⟨(some 44),none,.i (.bin .add (.t 25) (.c (.int .i64 1)))⟩,⟨(some 25),none,.i (.mov (.t 44))⟩])))
def Bz97:AC:=(.kp [1,3,4,5,15,16,23,24,25] [1,13,21,48,5000] (.dn (.seq (.block 3 (.seq (.reg false [⟨(some 27),none,.i (.iad 1 (.t 23) (.t 25))⟩,⟨(some 28),none,.i (.ld (.t 27))⟩,⟨(some 7),none,.i (.mov (.t 28))⟩]) Bz95)) Bz96)))
def Bz4p:AC:=(.kp [1,3,4,5,15,16,23,24,25,26] [1,13,21,48,5000] (.dn (.seq (.cond (.t 26) .skip (.exit 2)) Bz97)))
def Bzz:AC:=(.kp [1,3,4,5,15,16,23,24,25] [1,13,21,48,5000] (.dn (.seq (.reg false [⟨(some 26),none,.i (.bin .lss (.t 25) (.t 24))⟩]) Bz4p)))
def Bz98:AC:=(.kp [1,3,4,5,15,16,23,24,25] [1,13,21,48,5000] (.dn (.block 2 (.loop Bzz))))
def Bz99:AC:=(.kp [1,3,5,15,16] [1,13,21,48,5000] (.dn (.reg false [⟨(some 45),none,.i (.mov (.t 3))⟩,⟨(some 46),none,.i (.mov (.t 5))⟩,⟨(some 47),none,.i (.bsl 1 true [(.t 46)])⟩,⟨(some 48),none,.i (.app 1 24 (.t 45) (.t 47))⟩,⟨(some 3),none,.i (.mov (.t 48))⟩])))
def Bz9a:AC:=(.kp [1,3,4,5,15,16] [1,13,21,48,5000] (.dn (.seq (.seq (.reg false [⟨(some 22),none,.i (.fad 1 (.t 1))⟩,⟨(some 23),none,.i (.ld (.t 22))⟩,⟨(some 24),none,.i (.len (.t 23))⟩,⟨(some 25),none,.i (.mov (.c (.int .i64 0)))⟩]) Bz98) Bz99)))
def Bz9b:AC:=(.kp [1,3,4,15,16] [1,13,21,48,5000] (.dn (.seq (.reg false [⟨(some 19),none,.i (.fad 0 (.t 1))⟩,⟨(some 20),none,.i (.ld (.t 19))⟩,⟨(some 21),none,.i (.mks 1 8 [.int .i64 0] (.t 20) (.t 20))⟩,⟨(some 5),none,.i (.mov (.t 21))⟩]) Bz9a)))
def Bz9c:AC:=(.kp [1,3,15,16] [1,13,21,48,5000] (.dn (.reg false [⟨(some 49),none,.i (.bin .add (.t 16) (.c (.int .i64 1)))⟩,⟨(some 16),none,.i (.mov (.t 49))⟩])))
def Bz9d:AC:=(.kp [1,3,15,16] [1,13,21,48,5000] (.dn (.seq (.block 1 (.seq (.reg false [⟨(some 18),none,.i (.mov (.t 16))⟩,⟨(some 4),none,.i (.mov (.t 18))⟩]) Bz9b)) Bz9c)))
def Bz4q:AC:=(.kp [1,3,15,16,17] [1,13,21,48,5000] (.dn (.seq (.cond (.t 17) .skip (.exit 0)) Bz9d)))
def Bz10:AC:=(.kp [1,3,15,16] [1,13,21,48,5000] (.dn (.seq (.reg false [⟨(some 17),none,.i (.bin .lss (.t 16) (.t 15))⟩]) Bz4q)))
def Bz9e:AC:=(.kp [1,3,15,16] [1,13,21,48,5000] (.dn (.block 0 (.loop Bz10))))
def Bz9f:AC:=(.kp [3,8,9,11,52,53] [13,48,50,62,5000] (.dn (.reg false [⟨(some 59),none,.i (.mov (.t 8))⟩,⟨(some 60),none,.i (.mov (.t 11))⟩,⟨(some 61),none,.i (.bsl 1 false [(.t 60)])⟩,⟨(some 62),none,.i (.app 1 8 (.t 59) (.t 61))⟩,⟨(some 63),none,.i (.mov (.t 9))⟩,⟨(some 64),none,.i (.mov (.t 11))⟩,⟨(some 65),none,.call nz2g [(.t 63),(.t 64)]⟩,⟨(some 8),none,.i (.mov (.t 62))⟩,⟨(some 9),none,.i (.mov (.t 65))⟩])))
def Bz9g:AC:=(.kp [3,8,9,10,52,53] [13,48,50,62,5000] (.dn (.seq (.reg false [⟨(some 56),none,.i (.mov (.t 3))⟩,⟨(some 57),none,.i (.mov (.t 10))⟩,⟨(some 58),none,.call nz2f [(.t 56),(.t 57)]⟩,⟨(some 11),none,.i (.mov (.t 58))⟩]) Bz9f)))
def Bz9h:AC:=(.kp [3,8,9,52,53] [13,48,50,62,5000] (.dn (.reg false [⟨(some 66),none,.i (.bin .add (.t 53) (.c (.int .i64 1)))⟩,⟨(some 53),none,.i (.mov (.t 66))⟩])))
def Bz9i:AC:=(.kp [3,8,9,52,53] [13,48,50,62,5000] (.dn (.seq (.block 5 (.seq (.reg false [⟨(some 55),none,.i (.mov (.t 53))⟩,⟨(some 10),none,.i (.mov (.t 55))⟩]) Bz9g)) Bz9h)))
def Bz4r:AC:=(.kp [3,8,9,52,53,54] [13,48,50,62,5000] (.dn (.seq (.cond (.t 54) .skip (.exit 4)) Bz9i)))
def Bz11:AC:=(.kp [3,8,9,52,53] [13,48,50,62,5000] (.dn (.seq (.reg false [⟨(some 54),none,.i (.bin .lss (.t 53) (.t 52))⟩]) Bz4r)))
def Bz9j:AC:=(.kp [3,8,9,52,53] [13,48,50,62,5000] (.dn (.block 4 (.loop Bz11))))
def Bz9k:AC:=(.kp [8,9,12,68,69] [50,62,5000] (.dn (.reg false [⟨(some 72),none,.i (.mov (.t 8))⟩,⟨(some 73),none,.i (.mov (.t 12))⟩,⟨(some 74),none,.i (.iad 1 (.t 72) (.t 73))⟩,⟨(some 75),none,.i (.ld (.t 74))⟩,⟨(some 76),none,.i (.mov (.t 9))⟩,⟨(some 77),none,.i (.bin .quo (.t 75) (.t 76))⟩,⟨(some 78),none,.i (.iad 1 (.t 72) (.t 73))⟩,⟨none,none,.i (.sto 1 (.t 78) (.t 77))⟩])))
def Bz9l:AC:=(.kp [8,9,68,69] [50,62,5000] (.dn (.reg false [⟨(some 79),none,.i (.bin .add (.t 69) (.c (.int .i64 1)))⟩,⟨(some 69),none,.i (.mov (.t 79))⟩])))
def Bz9m:AC:=(.kp [8,9,68,69] [50,62,5000] (.dn (.seq (.block 7 (.seq (.reg false [⟨(some 71),none,.i (.mov (.t 69))⟩,⟨(some 12),none,.i (.mov (.t 71))⟩]) Bz9k)) Bz9l)))
def Bz4s:AC:=(.kp [8,9,68,69,70] [50,62,5000] (.dn (.seq (.cond (.t 70) .skip (.exit 6)) Bz9m)))
def Bz12:AC:=(.kp [8,9,68,69] [50,62,5000] (.dn (.seq (.reg false [⟨(some 70),none,.i (.bin .lss (.t 69) (.t 68))⟩]) Bz4s)))
def Bz9n:AC:=(.kp [8,9,68,69] [50,62,5000] (.dn (.block 6 (.loop Bz12))))
def Bz9o:AC:=(.kp [8] [50,62,5000] (.dn (.seq (.reg false [⟨(some 80),none,.i (.mov (.t 8))⟩,⟨(some 2),none,.i (.mov (.t 80))⟩]) (.dn .ret))))
def Bz9p:AC:=(.kp [8,9] [50,62,5000] (.dn (.seq (.seq (.reg false [⟨(some 67),none,.i (.mov (.t 8))⟩,⟨(some 68),none,.i (.len (.t 67))⟩,⟨(some 69),none,.i (.mov (.c (.int .i64 0)))⟩]) Bz9n) Bz9o)))
def Bz9q:AC:=(.kp [3,8,9] [13,48,50,62,5000] (.dn (.seq (.seq (.reg false [⟨(some 51),none,.i (.mov (.t 3))⟩,⟨(some 52),none,.i (.len (.t 51))⟩,⟨(some 53),none,.i (.mov (.c (.int .i64 0)))⟩]) Bz9j) Bz9p)))
def Bz9r:AC:=(.kp [3] [13,48,5000] (.dn (.seq (.reg false [⟨(some 50),none,.i (.bsl 1 false [])⟩,⟨(some 8),none,.i (.mov (.t 50))⟩,⟨(some 9),none,.i (.mov (.c (.int .i64 0)))⟩]) Bz9q)))
def Bz9s:AC:=(.kp [1,3] [1,13,21,48,5000] (.dn (.seq (.seq (.reg false [⟨(some 14),none,.i (.fad 0 (.t 1))⟩,⟨(some 15),none,.i (.ld (.t 14))⟩,⟨(some 16),none,.i (.mov (.c (.int .i64 0)))⟩]) Bz9e) Bz9r)))
def Bz9t:AC:=(.kp [1] [1,21,5000] (.dn (.seq (.reg false [⟨(some 13),none,.i (.bsl 1 true [])⟩,⟨(some 3),none,.i (.mov (.t 13))⟩]) Bz9s)))
def Az4t:AFn:=⟨81,1,(.seq (.reg false [⟨(some 1),none,.i (.box (.t 0))⟩,⟨(some 2),none,.i (.mov (.c (.slice none 0 0)))⟩]) Bz9t),[.tmp 2]⟩
theorem czfh:cFn (drV none) Try.prog nz23 Az4t:=⟨_,_,Try.func26,rfl,by kernel_rfl,by decide,rfl,by kernel_rfl,by kernel_rfl⟩
def Bz4u:AC:=(.kp [0,1,10] [5000,5001] (.dn (.cond (.t 10) (.seq (.reg false [⟨(some 4),none,.i (.mov (.c (.bool false)))⟩]) (.dn .ret)) .skip)))
def Bz4v:AC:=(.kp [0,1,5,14] [5000,5001] (.dn (.cond (.t 14) .skip (.exit 0))))
def Bz9u:AC:=(.kp [0,1,5,26] [5000,5001] (.dn (.cond (.t 26) (.seq (.reg false [⟨(some 4),none,.i (.mov (.c (.bool false)))⟩]) (.dn .ret)) .skip)))
def Bz9v:AC:=(.kp [0,1,5] [5000,5001] (.dn (.reg false [⟨(some 15),none,.i (.mov (.t 5))⟩,⟨(some 16),none,.i (.bin .add (.t 15) (.c (.int .i64 1)))⟩,⟨(some 5),none,.i (.mov (.t 16))⟩])))
def Bz4w:AC:=(.kp [0,1,5] [5000,5001] (.dn (.seq (.block 1 (.seq (.reg true [⟨(some 17),none,.i (.mov (.t 0))⟩,⟨(some 18),none,.i (.mov (.t 5))⟩,⟨(some 19),none,.i (.iad 1 (.t 17) (.t 18))⟩,⟨(some 20),none,.i (.ld (.t 19))⟩,⟨(some 21),none,.i (.mov (.t 1))⟩,⟨(some 22),none,.i (.mov (.t 5))⟩,⟨(some 23),none,.i (.iad 1 (.t 21) (.t 22))⟩,⟨(some 24),none,.i (.ld (.t 23))⟩,⟨(some 25),none,.calh nz1 [(.t 20),(.t 24)]⟩,⟨(some 26),none,.i (.un .not (.t 25))⟩]) Bz9u)) Bz9v)))
def Bz13:AC:=(.kp [0,1,5] [5000,5001] (.dn (.seq (.seq (.reg false [⟨(some 11),none,.i (.mov (.t 5))⟩,⟨(some 12),none,.i (.mov (.t 0))⟩,⟨(some 13),none,.i (.len (.t 12))⟩,⟨(some 14),none,.i (.bin .lss (.t 11) (.t 13))⟩]) Bz4v) Bz4w)))
def Bz9w:AC:=(.kp [0,1,5] [5000,5001] (.dn (.block 0 (.loop Bz13))))
def Bz9x:AC:=(.kp [] [5000,5001] (.dn (.seq (.reg false [⟨(some 4),none,.i (.mov (.c (.bool true)))⟩]) (.dn .ret))))
def Bz9y:AC:=(.kp [0,1] [5000,5001] (.dn (.seq (.seq (.reg false [⟨(some 5),none,.i (.mov (.c (.int .i64 0)))⟩]) Bz9w) Bz9x)))
def Bz9z:AC:=(.kp [0,1] [5000,5001] (.dn (.seq (.seq (.reg false [⟨(some 6),none,.i (.mov (.t 0))⟩,⟨(some 7),none,.i (.len (.t 6))⟩,⟨(some 8),none,.i (.mov (.t 1))⟩,⟨(some 9),none,.i (.len (.t 8))⟩,⟨(some 10),none,.i (.bin .neq (.t 7) (.t 9))⟩]) Bz4u) Bz9y)))
def Aza0:AFn:=⟨27,2,(.seq (.reg false [⟨(some 4),none,.i (.mov (.c (.bool false)))⟩]) Bz9z),[.tmp 4]⟩
theorem czfi:cFn (drV none) Try.prog nz24 Aza0:=⟨_,_,Try.func27,rfl,by kernel_rfl,by decide,rfl,by kernel_rfl,by kernel_rfl⟩
def Bz4x:AC:=(.kp [0,1,5,9] [5000,5001,5002,5003,5004,5005,5006,5007,5008,5009] (.cond (.t 9) .skip (.exit 0)))
def Bz4y:AC:=(.kp [0,1,5] [5000,5001,5002,5003,5004,5005,5006,5007,5008,5009] (.regi false [⟨(some 10),none,.i (.mov (.t 5))⟩,⟨(some 11),none,.i (.bin .add (.t 10) (.c (.int .i64 1)))⟩,⟨(some 5),none,.i (.mov (.t 11))⟩]))
def Bz4z:AC:=(.kp [0,1,5] [5000,5001,5002,5003,5004,5005,5006,5007,5008,5009] (.gh (.seq (.block 1 (.regi false [⟨(some 12),none,.i (.mov (.t 0))⟩,⟨(some 13),none,.i (.mov (.t 5))⟩,⟨(some 14),none,.i (.iad 1 (.t 12) (.t 13))⟩,⟨(some 15),none,.i (.ld (.t 14))⟩,⟨(some 16),none,.i (.mov (.t 1))⟩,⟨(some 17),none,.call nz6 [(.t 15),(.t 16)]⟩,⟨(some 1),none,.i (.mov (.t 17))⟩])) Bz4y)))
def Bza1:AC:=(.kp [0,1,5] [5000,5001,5002,5003,5004,5005,5006,5007,5008,5009] (.seq (.seq (.regi false [⟨(some 6),none,.i (.mov (.t 5))⟩,⟨(some 7),none,.i (.mov (.t 0))⟩,⟨(some 8),none,.i (.len (.t 7))⟩,⟨(some 9),none,.i (.bin .lss (.t 6) (.t 8))⟩]) Bz4x) Bz4z))
def Bza2:AC:=(.kp [0,1,5] [5000,5001,5002,5003,5004,5005,5006,5007,5008,5009] (.block 0 (.loop Bza1)))
def Bza3:AC:=(.kp [1] [5000,5001,5002,5003,5004,5005,5006,5007,5008,5009] (.seq (.regi false [⟨(some 18),none,.i (.mov (.t 1))⟩,⟨(some 4),none,.i (.mov (.t 18))⟩]) .ret))
def Bza4:AC:=(.kp [0,1] [5000,5001,5002,5003,5004,5005,5006,5007,5008,5009] (.seq (.seq (.regi false [⟨(some 5),none,.i (.mov (.c (.int .i64 0)))⟩]) Bza2) Bza3))
def Aza5:AFn:=⟨19,2,(.seq (.regi false [⟨(some 4),none,.i (.mov (.c (.int .i64 0)))⟩]) Bza4),[.tmp 4]⟩
theorem czfj:cFn (drV none) Try.prog nz25 Aza5:=⟨_,_,Try.func28,rfl,by kernel_rfl,by decide,rfl,by kernel_rfl,by kernel_rfl⟩
def Bza6:AC:=(.kp [1] [1,5000] (.dn (.seq (.reg false [⟨(some 3),none,.i (.fad 1 (.t 1))⟩,⟨(some 4),none,.i (.ld (.t 3))⟩,⟨(some 5),none,.call nz2h [(.t 4)]⟩,⟨(some 2),none,.i (.mov (.t 5))⟩]) (.dn .ret))))
def Aza7:AFn:=⟨6,1,(.seq (.reg false [⟨(some 1),none,.i (.box (.t 0))⟩,⟨(some 2),none,.i (.mov (.c (.int .i64 0)))⟩]) Bza6),[.tmp 2]⟩
theorem czfk:cFn (drV none) Try.prog nz26 Aza7:=⟨_,_,Try.func37,rfl,by kernel_rfl,by decide,rfl,by kernel_rfl,by kernel_rfl⟩
def Bza8:AC:=(.kp [1,10] [5000,5001] (.dn (.cond (.t 10) (.seq (.reg false [⟨(some 4),none,.i (.mov (.c (.int .i64 (-1))))⟩]) (.dn .ret)) .skip)))
def Bza9:AC:=(.kp [1] [5000,5001] (.dn (.seq (.reg false [⟨(some 11),none,.i (.mov (.t 1))⟩,⟨(some 4),none,.i (.mov (.t 11))⟩]) (.dn .ret))))
def Bzaa:AC:=(.kp [1] [5000,5001] (.dn (.seq (.seq (.reg false [⟨(some 9),none,.i (.mov (.t 1))⟩,⟨(some 10),none,.i (.bin .lss (.t 9) (.c (.int .i64 0)))⟩]) Bza8) Bza9)))
def Bzab:AC:=(.kp [0,1] [5000,5001] (.dn (.seq (.reg false [⟨(some 5),none,.i (.mov (.t 1))⟩,⟨(some 6),none,.i (.mov (.t 0))⟩,⟨(some 7),none,.i (.len (.t 6))⟩,⟨(some 8),none,.i (.bin .sub (.t 5) (.t 7))⟩,⟨(some 1),none,.i (.mov (.t 8))⟩]) Bzaa)))
def Azac:AFn:=⟨12,2,(.seq (.reg false [⟨(some 4),none,.i (.mov (.c (.int .i64 0)))⟩]) Bzab),[.tmp 4]⟩
theorem czfl:cFn (drV none) Try.prog nz27 Azac:=⟨_,_,Try.func41,rfl,by kernel_rfl,by decide,rfl,by kernel_rfl,by kernel_rfl⟩
def Bzad:AC:=(.kp [0,1,2] [5000,5001,5002] (.dn (.seq (.reg false [⟨(some 7),none,.i (.mov (.t 0))⟩,⟨(some 8),none,.i (.mov (.t 1))⟩,⟨(some 9),none,.i (.bin .geq (.t 7) (.t 8))⟩,⟨(some 10),none,.i (.mov (.t 9))⟩,⟨(some 11),(some (10,true)),.i (.mov (.t 0))⟩,⟨(some 12),(some (10,true)),.i (.mov (.t 2))⟩,⟨(some 13),(some (10,true)),.i (.bin .leq (.t 11) (.t 12))⟩,⟨(some 14),none,.i (.pick (.t 10) (.t 13) (.c (.bool false)))⟩,⟨(some 6),none,.i (.mov (.t 14))⟩]) (.dn .ret))))
def Azae:AFn:=⟨15,3,(.seq (.reg false [⟨(some 6),none,.i (.mov (.c (.bool false)))⟩]) Bzad),[.tmp 6]⟩
theorem czfm:cFn (drV none) Try.prog nz8 Azae:=⟨_,_,Try.func42,rfl,by kernel_rfl,by decide,rfl,by kernel_rfl,by kernel_rfl⟩
def Bz50:AC:=(.kp [0,1,5,9] [5000,5001] (.dn (.cond (.t 9) .skip (.exit 0))))
def Bzaf:AC:=(.kp [0,1,5,19] [5000,5001] (.dn (.cond (.t 19) (.seq (.reg false [⟨(some 4),none,.i (.mov (.c (.bool false)))⟩]) (.dn .ret)) .skip)))
def Bzag:AC:=(.kp [0,1,5] [5000,5001] (.dn (.reg false [⟨(some 10),none,.i (.mov (.t 5))⟩,⟨(some 11),none,.i (.bin .add (.t 10) (.c (.int .i64 1)))⟩,⟨(some 5),none,.i (.mov (.t 11))⟩])))
def Bz51:AC:=(.kp [0,1,5] [5000,5001] (.dn (.seq (.block 1 (.seq (.reg false [⟨(some 12),none,.i (.mov (.t 0))⟩,⟨(some 13),none,.i (.mov (.t 5))⟩,⟨(some 14),none,.i (.iad 1 (.t 12) (.t 13))⟩,⟨(some 15),none,.i (.ld (.t 14))⟩,⟨(some 16),none,.i (.mov (.t 1))⟩,⟨(some 17),none,.i (.bin .sub (.t 16) (.c (.int .i64 1)))⟩,⟨(some 18),none,.call nz8 [(.t 15),(.c (.int .i64 0)),(.t 17)]⟩,⟨(some 19),none,.i (.un .not (.t 18))⟩]) Bzaf)) Bzag)))
def Bz14:AC:=(.kp [0,1,5] [5000,5001] (.dn (.seq (.seq (.reg false [⟨(some 6),none,.i (.mov (.t 5))⟩,⟨(some 7),none,.i (.mov (.t 0))⟩,⟨(some 8),none,.i (.len (.t 7))⟩,⟨(some 9),none,.i (.bin .lss (.t 6) (.t 8))⟩]) Bz50) Bz51)))
def Bzah:AC:=(.kp [0,1,5] [5000,5001] (.dn (.block 0 (.loop Bz14))))
def Bzai:AC:=(.kp [0,1] [5000,5001] (.dn (.seq (.reg false [⟨(some 20),none,.i (.mov (.t 0))⟩,⟨(some 21),none,.i (.len (.t 20))⟩,⟨(some 22),none,.i (.mov (.t 1))⟩,⟨(some 23),none,.i (.bin .eql (.t 21) (.t 22))⟩,⟨(some 4),none,.i (.mov (.t 23))⟩]) (.dn .ret))))
def Bzaj:AC:=(.kp [0,1] [5000,5001] (.dn (.seq (.seq (.reg false [⟨(some 5),none,.i (.mov (.c (.int .i64 0)))⟩]) Bzah) Bzai)))
def Azak:AFn:=⟨24,2,(.seq (.reg false [⟨(some 4),none,.i (.mov (.c (.bool false)))⟩]) Bzaj),[.tmp 4]⟩
theorem czfn:cFn (drV none) Try.prog nz28 Azak:=⟨_,_,Try.func43,rfl,by kernel_rfl,by decide,rfl,by kernel_rfl,by kernel_rfl⟩
def Bz52:AC:=(.kp [0,5,6,16] [11,13,47,51,5000,5001] (.dn (.cond (.t 16) .skip (.exit 0))))
def Bz53:AC:=(.kp [0,5,6,7,8,28] [11,13,47,51,5000,5001] (.dn (.cond (.t 28) .skip (.exit 2))))
def Bzal:AC:=(.kp [0,5,6,7,8,9] [11,13,47,51,5000,5001] (.dn (.reg false [⟨(some 48),none,.i (.mov (.t 6))⟩,⟨(some 49),none,.i (.mov (.t 9))⟩,⟨(some 50),none,.i (.bsl 1 false [(.t 49)])⟩,⟨(some 51),none,.i (.app 1 8 (.t 48) (.t 50))⟩,⟨(some 6),none,.i (.mov (.t 51))⟩])))
def Bz54:AC:=(.kp [0,5,6,7,8,9,44] [11,13,47,51,5000,5001] (.dn (.cond (.t 44) (.seq (.reg false [⟨(some 45),none,.i (.mov (.t 5))⟩,⟨(some 46),none,.i (.mov (.t 9))⟩,⟨(some 47),none,.call nz2k [(.t 45),(.t 46)]⟩,⟨(some 5),none,.i (.mov (.t 47))⟩]) Bzal) .skip)))
def Bzam:AC:=(.kp [0,5,6,7,8,9] [11,13,47,51,5000,5001] (.dn (.seq (.reg false [⟨(some 41),none,.i (.mov (.t 5))⟩,⟨(some 42),none,.i (.mov (.t 9))⟩,⟨(some 43),none,.call nz2j [(.t 41),(.t 42)]⟩,⟨(some 44),none,.i (.un .not (.t 43))⟩]) Bz54)))
def Bz55:AC:=(.kp [0,5,6,7,8] [11,13,47,51,5000,5001] (.dn (.reg false [⟨(some 29),none,.i (.mov (.t 8))⟩,⟨(some 30),none,.i (.bin .add (.t 29) (.c (.int .i64 1)))⟩,⟨(some 8),none,.i (.mov (.t 30))⟩])))
def Bz56:AC:=(.kp [0,5,6,7,8] [11,13,47,51,5000,5001] (.dn (.seq (.block 3 (.seq (.reg false [⟨(some 31),none,.i (.mov (.t 0))⟩,⟨(some 32),none,.i (.nilck (.t 31))⟩,⟨(some 33),none,.i (.fad 1 (.t 32))⟩,⟨(some 34),none,.i (.ld (.t 33))⟩,⟨(some 35),none,.i (.mov (.t 8))⟩,⟨(some 36),none,.i (.iad 1 (.t 34) (.t 35))⟩,⟨(some 37),none,.i (.ld (.t 36))⟩,⟨(some 38),none,.i (.mov (.t 7))⟩,⟨(some 39),none,.i (.iad 1 (.t 37) (.t 38))⟩,⟨(some 40),none,.i (.ld (.t 39))⟩,⟨(some 9),none,.i (.mov (.t 40))⟩]) Bzam)) Bz55)))
def Bz15:AC:=(.mv 47 11 (.kp [0,5,6,7,8] [11,13,47,51,5000,5001] (.dn (.seq (.seq (.reg false [⟨(some 22),none,.i (.mov (.t 8))⟩,⟨(some 23),none,.i (.mov (.t 0))⟩,⟨(some 24),none,.i (.nilck (.t 23))⟩,⟨(some 25),none,.i (.fad 1 (.t 24))⟩,⟨(some 26),none,.i (.ld (.t 25))⟩,⟨(some 27),none,.i (.len (.t 26))⟩,⟨(some 28),none,.i (.bin .lss (.t 22) (.t 27))⟩]) Bz53) Bz56))))
def Bzan:AC:=(.kp [0,5,6,7,8] [11,13,47,51,5000,5001] (.dn (.block 2 (.loop Bz15))))
def Bzao:AC:=(.kp [0,5,6,7] [11,13,47,51,5000,5001] (.dn (.seq (.reg false [⟨(some 8),none,.i (.mov (.c (.int .i64 0)))⟩]) Bzan)))
def Bzap:AC:=(.kp [0,5,6,7] [11,13,47,51,5000,5001] (.dn (.seq (.reg false [⟨(some 20),none,.i (.mov (.t 6))⟩,⟨(some 21),none,.i (.slc 1 (.t 20) (some (.c (.int .i64 1))) none)⟩,⟨(some 6),none,.i (.mov (.t 21))⟩]) Bzao)))
def Bz57:AC:=(.kp [0,5,6] [11,13,47,51,5000,5001] (.dn (.block 1 (.seq (.reg false [⟨(some 17),none,.i (.mov (.t 6))⟩,⟨(some 18),none,.i (.iad 1 (.t 17) (.c (.int .i64 0)))⟩,⟨(some 19),none,.i (.ld (.t 18))⟩,⟨(some 7),none,.i (.mov (.t 19))⟩]) Bzap))))
def Bz16:AC:=(.kp [0,5,6] [11,13,47,51,5000,5001] (.dn (.seq (.seq (.reg false [⟨(some 14),none,.i (.mov (.t 6))⟩,⟨(some 15),none,.i (.len (.t 14))⟩,⟨(some 16),none,.i (.bin .gtr (.t 15) (.c (.int .i64 0)))⟩]) Bz52) Bz57)))
def Bzaq:AC:=(.kp [5] [11,13,47,51,5000,5001] (.dn (.seq (.reg false [⟨(some 52),none,.i (.mov (.t 5))⟩,⟨(some 4),none,.i (.mov (.t 52))⟩]) (.dn .ret))))
def Bzar:AC:=(.kp [0,5,6] [11,13,47,51,5000,5001] (.dn (.seq (.block 0 (.loop Bz16)) Bzaq)))
def Bzas:AC:=(.kp [0,1,5] [11,13,47,51,5000,5001] (.dn (.seq (.reg false [⟨(some 12),none,.i (.mov (.t 1))⟩,⟨(some 13),none,.i (.bsl 1 false [(.t 12)])⟩,⟨(some 6),none,.i (.mov (.t 13))⟩]) Bzar)))
def Bzat:AC:=(.kp [0,1] [5000,5001] (.dn (.seq (.reg false [⟨(some 10),none,.i (.mov (.t 1))⟩,⟨(some 11),none,.i (.bsl 1 false [(.t 10)])⟩,⟨(some 5),none,.i (.mov (.t 11))⟩]) Bzas)))
def Azau:AFn:=⟨53,2,(.seq (.reg false [⟨(some 4),none,.i (.mov (.c (.slice none 0 0)))⟩]) Bzat),[.tmp 4]⟩
theorem czfo:cFn (drV none) Try.prog nz29 Azau:=⟨_,_,Try.func44,rfl,by kernel_rfl,by decide,rfl,by kernel_rfl,by kernel_rfl⟩
def Bz58:AC:=(.kp [0,1,5,6,17] [11,73,5000,5001] (.cond (.t 17) .skip (.exit 0)))
def Bz59:AC:=(.kp [0,1,5,6,7,8,26] [11,20,66,73,5000,5001] (.cond (.t 26) .skip (.exit 2)))
def Bz5a:AC:=(.kp [0,1,5,6,7,8,9,31] [11,20,66,73,5000,5001] (.cond (.t 31) (.regi false [⟨(some 32),none,.i (.mov (.t 0))⟩,⟨(some 33),none,.i (.nilck (.t 32))⟩,⟨(some 34),none,.i (.fad 1 (.t 33))⟩,⟨(some 35),none,.i (.ld (.t 34))⟩,⟨(some 36),none,.i (.len (.t 35))⟩,⟨(some 9),none,.i (.mov (.t 36))⟩]) .skip))
def Bz5b:AC:=(.kp [0,1,5,6,7,8,9,10,43] [11,20,66,73,5000,5001] (.cond (.t 43) .skip (.exit 4)))
def Bz5c:AC:=(.kp [0,1,5,6,7,8,9,10,57] [11,20,66,73,5000,5001] (.cond (.t 57) (.regi false [⟨(some 58),none,.i (.mov (.t 9))⟩,⟨(some 59),none,.i (.bin .sub (.t 58) (.c (.int .i64 1)))⟩,⟨(some 9),none,.i (.mov (.t 59))⟩]) .skip))
def Bz5d:AC:=(.kp [0,1,5,6,7,8,9,10] [11,20,66,73,5000,5001] (.regi false [⟨(some 44),none,.i (.mov (.t 10))⟩,⟨(some 45),none,.i (.bin .add (.t 44) (.c (.int .i64 1)))⟩,⟨(some 10),none,.i (.mov (.t 45))⟩]))
def Bzav:AC:=(.kp [0,1,5,6,7,8,9,10] [11,20,66,73,5000,5001] (.seq (.block 5 (.seq (.regi false [⟨(some 46),none,.i (.mov (.t 0))⟩,⟨(some 47),none,.i (.nilck (.t 46))⟩,⟨(some 48),none,.i (.fad 1 (.t 47))⟩,⟨(some 49),none,.i (.ld (.t 48))⟩,⟨(some 50),none,.i (.mov (.t 10))⟩,⟨(some 51),none,.i (.iad 1 (.t 49) (.t 50))⟩,⟨(some 52),none,.i (.ld (.t 51))⟩,⟨(some 53),none,.i (.mov (.t 6))⟩,⟨(some 54),none,.i (.iad 1 (.t 52) (.t 53))⟩,⟨(some 55),none,.i (.ld (.t 54))⟩,⟨(some 56),none,.i (.mov (.t 8))⟩,⟨(some 57),none,.i (.bin .eql (.t 55) (.t 56))⟩]) Bz5c)) Bz5d))
def Bz17:AC:=(.kp [0,1,5,6,7,8,9,10] [11,20,66,73,5000,5001] (.seq (.seq (.regi false [⟨(some 37),none,.i (.mov (.t 10))⟩,⟨(some 38),none,.i (.mov (.t 0))⟩,⟨(some 39),none,.i (.nilck (.t 38))⟩,⟨(some 40),none,.i (.fad 1 (.t 39))⟩,⟨(some 41),none,.i (.ld (.t 40))⟩,⟨(some 42),none,.i (.len (.t 41))⟩,⟨(some 43),none,.i (.bin .lss (.t 37) (.t 42))⟩]) Bz5b) Bzav))
def Bzaw:AC:=(.kp [0,1,5,6,7,8,9,10] [11,20,66,73,5000,5001] (.block 4 (.loop Bz17)))
def Bz5e:AC:=(.kp [0,1,5,6,7,8,9,62] [11,20,66,73,5000,5001] (.cond (.t 62) (.regi false [⟨(some 63),none,.i (.mov (.t 7))⟩,⟨(some 64),none,.i (.mov (.t 9))⟩,⟨(some 65),none,.i (.bsl 1 false [(.t 64)])⟩,⟨(some 66),none,.i (.app 1 8 (.t 63) (.t 65))⟩,⟨(some 7),none,.i (.mov (.t 66))⟩]) .skip))
def Bzax:AC:=(.kp [0,1,5,6,7,8,9] [11,20,66,73,5000,5001] (.seq (.regi false [⟨(some 60),none,.i (.mov (.t 8))⟩,⟨(some 61),none,.i (.mov (.t 1))⟩,⟨(some 62),none,.i (.bin .neq (.t 60) (.t 61))⟩]) Bz5e))
def Bzb:AC:=(.kp [0,1,5,6,7,8,9] [11,20,66,73,5000,5001] (.seq (.seq (.regi false [⟨(some 10),none,.i (.mov (.c (.int .i64 0)))⟩]) Bzaw) Bzax))
def Bzay:AC:=(.kp [0,1,5,6,7,8,9] [11,20,66,73,5000,5001] (.seq (.seq (.regi false [⟨(some 29),none,.i (.mov (.t 6))⟩,⟨(some 30),none,.i (.mov (.t 8))⟩,⟨(some 31),none,.i (.bin .eql (.t 29) (.t 30))⟩]) Bz5a) Bzb))
def Bz5f:AC:=(.kp [0,1,5,6,7,8] [11,20,66,73,5000,5001] (.regi false [⟨(some 27),none,.i (.mov (.t 8))⟩,⟨(some 28),none,.i (.bin .add (.t 27) (.c (.int .i64 1)))⟩,⟨(some 8),none,.i (.mov (.t 28))⟩]))
def Bzaz:AC:=(.kp [0,1,5,6,7,8] [11,20,66,73,5000,5001] (.seq (.block 3 (.seq (.regi false [⟨(some 9),none,.i (.mov (.c (.int .i64 0)))⟩]) Bzay)) Bz5f))
def Bz18:AC:=(.kp [0,1,5,6,7,8] [11,20,66,73,5000,5001] (.seq (.seq (.regi false [⟨(some 21),none,.i (.mov (.t 8))⟩,⟨(some 22),none,.i (.mov (.t 0))⟩,⟨(some 23),none,.i (.nilck (.t 22))⟩,⟨(some 24),none,.i (.fad 0 (.t 23))⟩,⟨(some 25),none,.i (.ld (.t 24))⟩,⟨(some 26),none,.i (.bin .lss (.t 21) (.t 25))⟩]) Bz59) Bzaz))
def Bzb0:AC:=(.kp [0,1,5,6,7,8] [11,20,66,73,5000,5001] (.block 2 (.loop Bz18)))
def Bz5g:AC:=(.kp [0,1,5,6,7,69] [11,20,66,73,5000,5001] (.gh (.cond (.t 69) (.regi false [⟨(some 70),none,.i (.mov (.t 5))⟩,⟨(some 71),none,.i (.mov (.t 7))⟩,⟨(some 72),none,.i (.bsl 1 true [(.t 71)])⟩,⟨(some 73),none,.i (.app 1 24 (.t 70) (.t 72))⟩,⟨(some 5),none,.i (.mov (.t 73))⟩]) .skip)))
def Bzb1:AC:=(.kp [0,1,5,6,7] [11,20,66,73,5000,5001] (.seq (.regi false [⟨(some 67),none,.i (.mov (.t 6))⟩,⟨(some 68),none,.i (.mov (.t 1))⟩,⟨(some 69),none,.i (.bin .neq (.t 67) (.t 68))⟩]) Bz5g))
def Bzb2:AC:=(.kp [0,1,5,6,7] [11,20,66,73,5000,5001] (.seq (.seq (.regi false [⟨(some 8),none,.i (.mov (.c (.int .i64 0)))⟩]) Bzb0) Bzb1))
def Bz5h:AC:=(.kp [0,1,5,6] [11,73,5000,5001] (.regi false [⟨(some 18),none,.i (.mov (.t 6))⟩,⟨(some 19),none,.i (.bin .add (.t 18) (.c (.int .i64 1)))⟩,⟨(some 6),none,.i (.mov (.t 19))⟩]))
def Bzb3:AC:=(.kp [0,1,5,6] [11,73,5000,5001] (.seq (.block 1 (.seq (.regi false [⟨(some 20),none,.i (.bsl 1 false [])⟩,⟨(some 7),none,.i (.mov (.t 20))⟩]) Bzb2)) Bz5h))
def Bz19:AC:=(.kp [0,1,5,6] [11,73,5000,5001] (.seq (.seq (.regi false [⟨(some 12),none,.i (.mov (.t 6))⟩,⟨(some 13),none,.i (.mov (.t 0))⟩,⟨(some 14),none,.i (.nilck (.t 13))⟩,⟨(some 15),none,.i (.fad 0 (.t 14))⟩,⟨(some 16),none,.i (.ld (.t 15))⟩,⟨(some 17),none,.i (.bin .lss (.t 12) (.t 16))⟩]) Bz58) Bzb3))
def Bzb4:AC:=(.kp [0,1,5,6] [11,73,5000,5001] (.block 0 (.loop Bz19)))
def Bzb5:AC:=(.kp [5] [11,73,5000,5001] (.seq (.regi false [⟨(some 74),none,.i (.mov (.t 5))⟩,⟨(some 75),none,.call nz2l [(.t 74)]⟩,⟨(some 4),none,.i (.mov (.t 75))⟩]) .ret))
def Bzb6:AC:=(.kp [0,1,5] [11,73,5000,5001] (.seq (.seq (.regi false [⟨(some 6),none,.i (.mov (.c (.int .i64 0)))⟩]) Bzb4) Bzb5))
def Bzb7:AC:=(.kp [0,1] [5000,5001] (.seq (.regi false [⟨(some 11),none,.i (.bsl 1 true [])⟩,⟨(some 5),none,.i (.mov (.t 11))⟩]) Bzb6))
def Az5i:AFn:=⟨76,2,(.seq (.regi false [⟨(some 4),none,.i (.mov (.c (.int .i64 0)))⟩]) Bzb7),[.tmp 4]⟩
theorem czfp:cFn (drV none) Try.prog nz2a Az5i:=⟨_,_,Try.func45,rfl,by kernel_rfl,by decide,rfl,by kernel_rfl,by kernel_rfl⟩
def Bz5j:AC:=(.kp [0,1,7] [5000,5001] (.dn (.cond (.t 7) .skip (.exit 0))))
def Bzb8:AC:=(.kp [0,5] [5000,5001] (.dn (.reg false [⟨(some 12),none,.i (.mov (.t 5))⟩,⟨(some 1),none,.i (.mov (.t 12))⟩])))
def Bzb9:AC:=(.kp [1,5] [5000,5001] (.dn (.seq (.reg false [⟨(some 11),none,.i (.mov (.t 1))⟩,⟨(some 0),none,.i (.mov (.t 11))⟩]) Bzb8)))
def Bzba:AC:=(.kp [0,1] [5000,5001] (.dn (.block 1 (.seq (.reg false [⟨(some 8),none,.i (.mov (.t 0))⟩,⟨(some 9),none,.i (.mov (.t 1))⟩,⟨(some 10),none,.i (.bin .rem (.t 8) (.t 9))⟩,⟨(some 5),none,.i (.mov (.t 10))⟩]) Bzb9))))
def Bz1a:AC:=(.kp [0,1] [5000,5001] (.dn (.seq (.seq (.reg false [⟨(some 6),none,.i (.mov (.t 1))⟩,⟨(some 7),none,.i (.bin .neq (.t 6) (.c (.int .i64 0)))⟩]) Bz5j) Bzba)))
def Bzbb:AC:=(.kp [0] [5000,5001] (.dn (.seq (.reg false [⟨(some 13),none,.i (.mov (.t 0))⟩,⟨(some 4),none,.i (.mov (.t 13))⟩]) (.dn .ret))))
def Bzbc:AC:=(.kp [0,1] [5000,5001] (.dn (.seq (.block 0 (.loop Bz1a)) Bzbb)))
def Azbd:AFn:=⟨14,2,(.seq (.reg false [⟨(some 4),none,.i (.mov (.c (.int .i64 0)))⟩]) Bzbc),[.tmp 4]⟩
theorem czfq:cFn (drV none) Try.prog nz2b Azbd:=⟨_,_,Try.func46,rfl,by kernel_rfl,by decide,rfl,by kernel_rfl,by kernel_rfl⟩
def Bzbe:AC:=(.kp [9] [11,1011,5000,5001] (.dn (.cond (.t 9) (.seq (.reg false [⟨(some 4),none,.i (.mov (.c (.int .i64 2)))⟩]) (.dn .ret)) .skip)))
def Bzbf:AC:=(.kp [1,5] [5000,5001] (.dn (.cond (.t 5) (.seq (.reg false [⟨(some 4),none,.i (.mov (.c (.int .i64 1)))⟩]) (.dn .ret)) (.seq (.reg false [⟨(some 10),none,.i (.mov (.t 1))⟩,⟨(some 11),none,.calv (.t 10) []⟩,⟨(some 12),none,.i (.un .not (.t 11))⟩,⟨(some 9),none,.i (.mov (.t 12))⟩]) Bzbe))))
def Bzbg:AC:=(.kp [] [5000,5001] (.dn (.seq (.reg false [⟨(some 4),none,.i (.mov (.c (.int .i64 0)))⟩]) (.dn .ret))))
def Bzbh:AC:=(.kp [1,2] [2,5000,5001] (.dn (.seq (.block 0 (.seq (.reg false [⟨(some 6),none,.i (.lda 2 (.t 2))⟩,⟨(some 7),none,.call nz2m [(.t 6)]⟩,⟨(some 8),none,.i (.un .not (.t 7))⟩,⟨(some 5),none,.i (.mov (.t 8))⟩]) Bzbf)) Bzbg)))
def Azbi:AFn:=⟨13,2,(.seq (.reg false [⟨(some 2),none,.i (.box (.t 0))⟩,⟨(some 4),none,.i (.mov (.c (.int .i64 0)))⟩]) Bzbh),[.tmp 4]⟩
theorem czfr:cFn (drV none) Try.prog nz2c Azbi:=⟨_,_,Try.func47,rfl,by kernel_rfl,by decide,rfl,by kernel_rfl,by kernel_rfl⟩
def Bzbj:AC:=(.kp [0,1] [5000,5001] (.dn (.seq (.reg false [⟨(some 3),none,.i (.ld (.t 0))⟩,⟨(some 4),none,.i (.fad 0 (.t 1))⟩,⟨(some 5),none,.i (.ld (.t 4))⟩,⟨(some 6),none,.call nz2d [(.t 3),(.t 5)]⟩,⟨(some 2),none,.i (.mov (.t 6))⟩]) (.dn .ret))))
def Azbk:AFn:=⟨7,2,(.seq (.reg false [⟨(some 2),none,.i (.mov (.c (.bool false)))⟩]) Bzbj),[.tmp 2]⟩
theorem czfs:cFn (drV none) Try.prog nzi Azbk:=⟨_,_,Try.func48,rfl,by kernel_rfl,by decide,rfl,by kernel_rfl,by kernel_rfl⟩
def Bzc:AC:=(.kp [0,1,7,8,9,31] [5000,5001] (.dn (.cond (.t 31) (.seq (.reg false [⟨(some 4),none,.i (.mov (.c (.bool false)))⟩]) (.dn .ret)) .skip)))
def Bzbl:AC:=(.kp [0,1,5,6,7,8,9] [5000,5001] (.dn (.seq (.reg false [⟨(some 14),none,.i (.mov (.t 6))⟩,⟨(some 15),none,.i (.mov (.t 1))⟩,⟨(some 16),none,.i (.bin .sub (.t 15) (.c (.int .i64 1)))⟩,⟨(some 17),none,.call nz2 [(.t 14),(.c (.int .i64 0)),(.t 16)]⟩,⟨(some 18),none,.i (.un .not (.t 17))⟩,⟨(some 19),none,.i (.mov (.t 18))⟩,⟨(some 20),(some (19,false)),.i (.mov (.t 5))⟩,⟨(some 21),(some (19,false)),.i (.bin .gtr (.t 20) (.c (.int .i64 0)))⟩,⟨(some 22),(some (19,false)),.i (.mov (.t 21))⟩,⟨(some 23),(some (22,true)),.i (.mov (.t 6))⟩,⟨(some 24),(some (22,true)),.i (.mov (.t 0))⟩,⟨(some 25),(some (22,true)),.i (.mov (.t 5))⟩,⟨(some 26),(some (22,true)),.i (.bin .sub (.t 25) (.c (.int .i64 1)))⟩,⟨(some 27),(some (22,true)),.i (.iad 1 (.t 24) (.t 26))⟩,⟨(some 28),(some (22,true)),.i (.ld (.t 27))⟩,⟨(some 29),(some (22,true)),.i (.bin .leq (.t 23) (.t 28))⟩,⟨(some 30),(some (19,false)),.i (.pick (.t 22) (.t 29) (.c (.bool false)))⟩,⟨(some 31),none,.i (.pick (.t 19) (.c (.bool true)) (.t 30))⟩]) Bzc)))
def Bz5k:AC:=(.kp [0,1,7,8,9] [5000,5001] (.dn (.reg false [⟨(some 32),none,.i (.bin .add (.t 9) (.c (.int .i64 1)))⟩,⟨(some 9),none,.i (.mov (.t 32))⟩])))
def Bz5l:AC:=(.kp [0,1,7,8,9] [5000,5001] (.dn (.seq (.block 1 (.seq (.reg false [⟨(some 11),none,.i (.mov (.t 9))⟩,⟨(some 12),none,.i (.iad 1 (.t 7) (.t 9))⟩,⟨(some 13),none,.i (.ld (.t 12))⟩,⟨(some 5),none,.i (.mov (.t 11))⟩,⟨(some 6),none,.i (.mov (.t 13))⟩]) Bzbl)) Bz5k)))
def Bz5m:AC:=(.kp [0,1,7,8,9,10] [5000,5001] (.dn (.seq (.cond (.t 10) .skip (.exit 0)) Bz5l)))
def Bz1b:AC:=(.kp [0,1,7,8,9] [5000,5001] (.dn (.seq (.reg false [⟨(some 10),none,.i (.bin .lss (.t 9) (.t 8))⟩]) Bz5m)))
def Bzbm:AC:=(.kp [0,1,7,8,9] [5000,5001] (.dn (.block 0 (.loop Bz1b))))
def Bzbn:AC:=(.kp [] [5000,5001] (.dn (.seq (.reg false [⟨(some 4),none,.i (.mov (.c (.bool true)))⟩]) (.dn .ret))))
def Bzbo:AC:=(.kp [0,1] [5000,5001] (.dn (.seq (.seq (.reg false [⟨(some 7),none,.i (.mov (.t 0))⟩,⟨(some 8),none,.i (.len (.t 7))⟩,⟨(some 9),none,.i (.mov (.c (.int .i64 0)))⟩]) Bzbm) Bzbn)))
def Azbp:AFn:=⟨33,2,(.seq (.reg false [⟨(some 4),none,.i (.mov (.c (.bool false)))⟩]) Bzbo),[.tmp 4]⟩
theorem czft:cFn (drV none) Try.prog nz2d Azbp:=⟨_,_,Try.func49,rfl,by kernel_rfl,by decide,rfl,by kernel_rfl,by kernel_rfl⟩
def Bz5n:AC:=(.kp [1,5,6,15] [1,5000] (.dn (.cond (.t 15) (.seq (.reg false [⟨(some 2),none,.i (.mov (.c (.bool false)))⟩]) (.dn .ret)) .skip)))
def Bzbq:AC:=(.kp [1,3,5,6] [1,5000] (.dn (.seq (.reg true [⟨(some 9),none,.i (.lda 2 (.t 1))⟩,⟨(some 10),none,.i (.mov (.t 3))⟩,⟨(some 11),none,.call nz2n [(.t 9),(.t 10)]⟩,⟨(some 12),none,.call nzj [(.t 11)]⟩,⟨(some 13),none,.i (.fad 0 (.t 1))⟩,⟨(some 14),none,.i (.ld (.t 13))⟩,⟨(some 15),none,.i (.bin .lss (.t 12) (.t 14))⟩]) Bz5n)))
def Bzbr:AC:=(.kp [1,5,6] [1,5000] (.dn (.reg false [⟨(some 16),none,.i (.bin .add (.t 6) (.c (.int .i64 1)))⟩,⟨(some 6),none,.i (.mov (.t 16))⟩])))
def Bzbs:AC:=(.kp [1,5,6] [1,5000] (.dn (.seq (.block 1 (.seq (.reg false [⟨(some 8),none,.i (.mov (.t 6))⟩,⟨(some 3),none,.i (.mov (.t 8))⟩]) Bzbq)) Bzbr)))
def Bz5o:AC:=(.kp [1,5,6,7] [1,5000] (.dn (.seq (.cond (.t 7) .skip (.exit 0)) Bzbs)))
def Bz1c:AC:=(.kp [1,5,6] [1,5000] (.dn (.seq (.reg false [⟨(some 7),none,.i (.bin .lss (.t 6) (.t 5))⟩]) Bz5o)))
def Bzbt:AC:=(.kp [1,5,6] [1,5000] (.dn (.block 0 (.loop Bz1c))))
def Bzbu:AC:=(.kp [] [5000] (.dn (.seq (.reg false [⟨(some 2),none,.i (.mov (.c (.bool true)))⟩]) (.dn .ret))))
def Bzbv:AC:=(.kp [1] [1,5000] (.dn (.seq (.seq (.reg false [⟨(some 4),none,.i (.fad 0 (.t 1))⟩,⟨(some 5),none,.i (.ld (.t 4))⟩,⟨(some 6),none,.i (.mov (.c (.int .i64 0)))⟩]) Bzbt) Bzbu)))
def Azbw:AFn:=⟨17,1,(.seq (.reg false [⟨(some 1),none,.i (.box (.t 0))⟩,⟨(some 2),none,.i (.mov (.c (.bool false)))⟩]) Bzbv),[.tmp 2]⟩
theorem czfu:cFn (drV none) Try.prog nz2e Azbw:=⟨_,_,Try.func50,rfl,by kernel_rfl,by decide,rfl,by kernel_rfl,by kernel_rfl⟩
def Bz5p:AC:=(.kp [1,5,7,13,14,15,22] [12,31,5000,5001,901] (.cond (.t 22) (.regi false [⟨(some 23),none,.i (.mov (.t 5))⟩,⟨(some 24),none,.i (.mov (.t 7))⟩,⟨(some 25),none,.call nzk [(.t 24)]⟩,⟨(some 26),none,.i (.mov (.t 1))⟩,⟨(some 27),none,.i (.mov (.t 1))⟩,⟨(some 28),none,.i (.bin .add (.t 27) (.c (.int .i64 1)))⟩,⟨(some 29),none,.call nz2o [(.t 25),(.t 26),(.t 28)]⟩,⟨(some 30),none,.i (.bsl 1 true [(.t 29)])⟩,⟨(some 31),none,.i (.app 1 24 (.t 23) (.t 30))⟩,⟨(some 5),none,.i (.mov (.t 31))⟩]) .skip))
def Bzbx:AC:=(.kp [1,5,6,7,13,14,15] [12,31,5000,5001,901] (.seq (.regi false [⟨(some 20),none,.i (.mov (.t 6))⟩,⟨(some 21),none,.i (.mov (.t 1))⟩,⟨(some 22),none,.i (.bin .neq (.t 20) (.t 21))⟩]) Bz5p))
def Bz5q:AC:=(.kp [1,5,13,14,15] [12,31,5000,5001,901] (.regi false [⟨(some 32),none,.i (.bin .add (.t 15) (.c (.int .i64 1)))⟩,⟨(some 15),none,.i (.mov (.t 32))⟩]))
def Bzby:AC:=(.kp [1,5,13,14,15] [12,31,5000,5001,901] (.seq (.block 1 (.seq (.regi false [⟨(some 17),none,.i (.mov (.t 15))⟩,⟨(some 18),none,.i (.iad 1 (.t 13) (.t 15))⟩,⟨(some 19),none,.i (.ld (.t 18))⟩,⟨(some 6),none,.i (.mov (.t 17))⟩,⟨(some 7),none,.i (.mov (.t 19))⟩]) Bzbx)) Bz5q))
def Bz5r:AC:=(.kp [1,5,13,14,15,16] [12,31,5000,5001,901] (.seq (.cond (.t 16) .skip (.exit 0)) Bzby))
def Bz1d:AC:=(.kp [1,5,13,14,15] [12,31,5000,5001,901] (.seq (.regi false [⟨(some 16),none,.i (.bin .lss (.t 15) (.t 14))⟩]) Bz5r))
def Bzbz:AC:=(.kp [1,5,13,14,15] [12,31,5000,5001,901] (.block 0 (.loop Bz1d)))
def Bz5s:AC:=(.kp [5,8,9,10,34,35,43] [12,31,5000,5001,901] (.cond (.t 43) .skip (.exit 4)))
def Bz5t:AC:=(.kp [5,8,9,10,11,34,35,51] [12,31,5000,5001,901] (.cond (.t 51) .skip (.exit 6)))
def Bzc0:AC:=(.kp [5,8,9,10,11,34,35] [12,31,5000,5001,901] (.regi false [⟨(some 52),none,.i (.mov (.t 11))⟩,⟨(some 53),none,.i (.bin .add (.t 52) (.c (.int .i64 1)))⟩,⟨(some 11),none,.i (.mov (.t 53))⟩]))
def Bzc1:AC:=(.kp [5,8,9,10,11,34,35] [12,31,5000,5001,901] (.seq (.block 7 (.regi true [⟨(some 54),none,.i (.mov (.t 5))⟩,⟨(some 55),none,.i (.mov (.t 10))⟩,⟨(some 56),none,.i (.iad 1 (.t 54) (.t 55))⟩,⟨(some 57),none,.i (.ld (.t 56))⟩,⟨(some 58),none,.i (.mov (.t 11))⟩,⟨(some 59),none,.i (.mov (.t 5))⟩,⟨(some 60),none,.i (.mov (.t 10))⟩,⟨(some 61),none,.i (.iad 1 (.t 59) (.t 60))⟩,⟨(some 62),none,.i (.ld (.t 61))⟩,⟨(some 63),none,.i (.mov (.t 11))⟩,⟨(some 64),none,.i (.iad 1 (.t 62) (.t 63))⟩,⟨(some 65),none,.i (.ld (.t 64))⟩,⟨(some 66),none,.i (.mov (.t 5))⟩,⟨(some 67),none,.i (.mov (.t 9))⟩,⟨(some 68),none,.i (.iad 1 (.t 66) (.t 67))⟩,⟨(some 69),none,.i (.ld (.t 68))⟩,⟨(some 70),none,.i (.mov (.t 9))⟩,⟨(some 71),none,.i (.iad 1 (.t 69) (.t 70))⟩,⟨(some 72),none,.i (.ld (.t 71))⟩,⟨(some 73),none,.i (.bin .mul (.t 65) (.t 72))⟩,⟨(some 74),none,.i (.mov (.t 5))⟩,⟨(some 75),none,.i (.mov (.t 10))⟩,⟨(some 76),none,.i (.iad 1 (.t 74) (.t 75))⟩,⟨(some 77),none,.i (.ld (.t 76))⟩,⟨(some 78),none,.i (.mov (.t 9))⟩,⟨(some 79),none,.i (.iad 1 (.t 77) (.t 78))⟩,⟨(some 80),none,.i (.ld (.t 79))⟩,⟨(some 81),none,.i (.mov (.t 5))⟩,⟨(some 82),none,.i (.mov (.t 9))⟩,⟨(some 83),none,.i (.iad 1 (.t 81) (.t 82))⟩,⟨(some 84),none,.i (.ld (.t 83))⟩,⟨(some 85),none,.i (.mov (.t 11))⟩,⟨(some 86),none,.i (.iad 1 (.t 84) (.t 85))⟩,⟨(some 87),none,.i (.ld (.t 86))⟩,⟨(some 88),none,.i (.bin .mul (.t 80) (.t 87))⟩,⟨(some 89),none,.i (.bin .sub (.t 73) (.t 88))⟩,⟨(some 90),none,.i (.mov (.t 8))⟩,⟨(some 91),none,.i (.bin .quo (.t 89) (.t 90))⟩,⟨(some 92),none,.i (.iad 1 (.t 57) (.t 58))⟩,⟨none,none,.i (.sto 1 (.t 92) (.t 91))⟩])) Bzc0))
def Bz1e:AC:=(.kp [5,8,9,10,11,34,35] [12,31,5000,5001,901] (.seq (.seq (.regi false [⟨(some 48),none,.i (.mov (.t 11))⟩,⟨(some 49),none,.i (.mov (.t 5))⟩,⟨(some 50),none,.i (.len (.t 49))⟩,⟨(some 51),none,.i (.bin .lss (.t 48) (.t 50))⟩]) Bz5t) Bzc1))
def Bzc2:AC:=(.kp [5,8,9,10,11,34,35] [12,31,5000,5001,901] (.block 6 (.loop Bz1e)))
def Bzc3:AC:=(.kp [5,8,9,10,34,35] [12,31,5000,5001,901] (.gh (.regi false [⟨(some 44),none,.i (.mov (.t 10))⟩,⟨(some 45),none,.i (.bin .add (.t 44) (.c (.int .i64 1)))⟩,⟨(some 10),none,.i (.mov (.t 45))⟩])))
def Bzc4:AC:=(.kp [5,8,9,10,34,35] [12,31,5000,5001,901] (.gh (.seq (.block 5 (.seq (.regi false [⟨(some 46),none,.i (.mov (.t 9))⟩,⟨(some 47),none,.i (.bin .add (.t 46) (.c (.int .i64 1)))⟩,⟨(some 11),none,.i (.mov (.t 47))⟩]) Bzc2)) Bzc3)))
def Bz1f:AC:=(.kp [5,8,9,10,34,35] [12,31,5000,5001,901] (.seq (.seq (.regi false [⟨(some 40),none,.i (.mov (.t 10))⟩,⟨(some 41),none,.i (.mov (.t 5))⟩,⟨(some 42),none,.i (.len (.t 41))⟩,⟨(some 43),none,.i (.bin .lss (.t 40) (.t 42))⟩]) Bz5s) Bzc4))
def Bzc5:AC:=(.kp [5,8,9,10,34,35] [12,31,5000,5001,901] (.block 4 (.loop Bz1f)))
def Bzc6:AC:=(.kp [5,9,34,35] [12,31,5000,5001,901] (.regi false [⟨(some 93),none,.i (.mov (.t 5))⟩,⟨(some 94),none,.i (.mov (.t 9))⟩,⟨(some 95),none,.i (.iad 1 (.t 93) (.t 94))⟩,⟨(some 96),none,.i (.ld (.t 95))⟩,⟨(some 97),none,.i (.mov (.t 9))⟩,⟨(some 98),none,.i (.iad 1 (.t 96) (.t 97))⟩,⟨(some 99),none,.i (.ld (.t 98))⟩,⟨(some 8),none,.i (.mov (.t 99))⟩]))
def Bzc7:AC:=(.kp [5,8,9,34,35] [12,31,5000,5001,901] (.seq (.seq (.regi false [⟨(some 38),none,.i (.mov (.t 9))⟩,⟨(some 39),none,.i (.bin .add (.t 38) (.c (.int .i64 1)))⟩,⟨(some 10),none,.i (.mov (.t 39))⟩]) Bzc5) Bzc6))
def Bzc8:AC:=(.kp [5,8,34,35] [12,31,5000,5001,901] (.regi false [⟨(some 100),none,.i (.bin .add (.t 35) (.c (.int .i64 1)))⟩,⟨(some 35),none,.i (.mov (.t 100))⟩]))
def Bzc9:AC:=(.kp [5,8,34,35] [12,31,5000,5001,901] (.seq (.block 3 (.seq (.regi false [⟨(some 37),none,.i (.mov (.t 35))⟩,⟨(some 9),none,.i (.mov (.t 37))⟩]) Bzc7)) Bzc8))
def Bz5u:AC:=(.kp [5,8,34,35,36] [12,31,5000,5001,901] (.seq (.cond (.t 36) .skip (.exit 2)) Bzc9))
def Bz1g:AC:=(.kp [5,8,34,35] [12,31,5000,5001,901] (.seq (.regi false [⟨(some 36),none,.i (.bin .lss (.t 35) (.t 34))⟩]) Bz5u))
def Bzca:AC:=(.kp [5,8,34,35] [12,31,5000,5001,901] (.block 2 (.loop Bz1g)))
def Bzcb:AC:=(.kp [8] [12,31,5000,5001,901] (.seq (.regi false [⟨(some 101),none,.i (.mov (.t 8))⟩,⟨(some 4),none,.i (.mov (.t 101))⟩]) .ret))
def Bzcc:AC:=(.kp [5,8] [12,31,5000,5001,901] (.seq (.seq (.regi false [⟨(some 33),none,.i (.mov (.t 5))⟩,⟨(some 34),none,.i (.len (.t 33))⟩,⟨(some 35),none,.i (.mov (.c (.int .i64 0)))⟩]) Bzca) Bzcb))
def Bzcd:AC:=(.kp [5] [12,31,5000,5001,901] (.seq (.regi false [⟨(some 8),none,.i (.mov (.c (.int .i64 1)))⟩]) Bzcc))
def Bzce:AC:=(.kp [0,1,5] [12,31,5000,5001,901] (.seq (.seq (.regi false [⟨(some 13),none,.i (.mov (.t 0))⟩,⟨(some 14),none,.i (.len (.t 13))⟩,⟨(some 15),none,.i (.mov (.c (.int .i64 0)))⟩]) Bzbz) Bzcd))
def Bzcf:AC:=(.kp [0,1] [5000,5001,901] (.seq (.regi false [⟨(some 12),none,.i (.bsl 1 true [])⟩,⟨(some 5),none,.i (.mov (.t 12))⟩]) Bzce))
def Az5v:AFn:=⟨102,2,(.seq (.regi false [⟨(some 4),none,.i (.mov (.c (.int .i64 0)))⟩]) Bzcf),[.tmp 4]⟩
theorem czfv:cFn (drV none) Try.prog nz2f Az5v:=⟨_,_,Try.func51,rfl,by kernel_rfl,by decide,rfl,by kernel_rfl,by kernel_rfl⟩
def Bz5w:AC:=(.kp [0,1,6] [5000,5001] (.dn (.cond (.t 6) .skip (.exit 0))))
def Bzcg:AC:=(.kp [0,1] [5000,5001] (.dn (.block 1 (.reg true [⟨(some 7),none,.i (.mov (.t 1))⟩,⟨(some 8),none,.i (.mov (.t 0))⟩,⟨(some 9),none,.i (.mov (.t 1))⟩,⟨(some 10),none,.i (.bin .rem (.t 8) (.t 9))⟩,⟨(some 0),none,.i (.mov (.t 7))⟩,⟨(some 1),none,.i (.mov (.t 10))⟩]))))
def Bz1h:AC:=(.kp [0,1] [5000,5001] (.dn (.seq (.seq (.reg false [⟨(some 5),none,.i (.mov (.t 1))⟩,⟨(some 6),none,.i (.bin .neq (.t 5) (.c (.int .i64 0)))⟩]) Bz5w) Bzcg)))
def Bzch:AC:=(.kp [0] [5000,5001] (.dn (.seq (.reg false [⟨(some 11),none,.i (.mov (.t 0))⟩,⟨(some 12),none,.i (.mov (.t 0))⟩,⟨(some 13),none,.i (.un .neg (.t 12))⟩,⟨(some 14),none,.i (.mx true (.t 11) (.t 13))⟩,⟨(some 4),none,.i (.mov (.t 14))⟩]) (.dn .ret))))
def Bzci:AC:=(.kp [0,1] [5000,5001] (.dn (.seq (.block 0 (.loop Bz1h)) Bzch)))
def Azcj:AFn:=⟨15,2,(.seq (.reg false [⟨(some 4),none,.i (.mov (.c (.int .i64 0)))⟩]) Bzci),[.tmp 4]⟩
theorem czfw:cFn (drV none) Try.prog nz2g Azcj:=⟨_,_,Try.func52,rfl,by kernel_rfl,by decide,rfl,by kernel_rfl,by kernel_rfl⟩
def Bzck:AC:=(.kp [0] [5000] (.dn (.seq (.reg false [⟨(some 3),none,.i (.mov (.t 0))⟩,⟨(some 4),none,.i (.len (.t 3))⟩,⟨(some 2),none,.i (.mov (.t 4))⟩]) (.dn .ret))))
def Azcl:AFn:=⟨5,1,(.seq (.reg false [⟨(some 2),none,.i (.mov (.c (.int .i64 0)))⟩]) Bzck),[.tmp 2]⟩
theorem czfx:cFn (drV none) Try.prog nz2h Azcl:=⟨_,_,Try.func55,rfl,by kernel_rfl,by decide,rfl,by kernel_rfl,by kernel_rfl⟩
def Bzcm:AC:=(.kp [0,1] [5000,5001] (.dn (.seq (.reg false [⟨(some 5),none,.i (.mov (.t 0))⟩,⟨(some 6),none,.i (.mov (.t 1))⟩,⟨(some 7),none,.call nz2p [(.t 5),(.t 6)]⟩,⟨(some 8),none,.i (.bin .geq (.t 7) (.c (.int .i64 0)))⟩,⟨(some 4),none,.i (.mov (.t 8))⟩]) (.dn .ret))))
def Azcn:AFn:=⟨9,2,(.seq (.reg false [⟨(some 4),none,.i (.mov (.c (.bool false)))⟩]) Bzcm),[.tmp 4]⟩
theorem czfy:cFn (drV none) Try.prog nz2i Azcn:=⟨_,_,Try.func56,rfl,by kernel_rfl,by decide,rfl,by kernel_rfl,by kernel_rfl⟩
def Bz5x:AC:=(.kp [0,1,5,9] [5000,5001] (.dn (.cond (.t 9) .skip (.exit 0))))
def Bz5y:AC:=(.kp [0,1,5,17] [5000,5001] (.dn (.cond (.t 17) (.seq (.reg false [⟨(some 4),none,.i (.mov (.c (.bool true)))⟩]) (.dn .ret)) .skip)))
def Bzco:AC:=(.kp [0,1,5] [5000,5001] (.dn (.reg false [⟨(some 10),none,.i (.mov (.t 5))⟩,⟨(some 11),none,.i (.bin .add (.t 10) (.c (.int .i64 1)))⟩,⟨(some 5),none,.i (.mov (.t 11))⟩])))
def Bz5z:AC:=(.kp [0,1,5] [5000,5001] (.dn (.seq (.block 1 (.seq (.reg false [⟨(some 12),none,.i (.mov (.t 0))⟩,⟨(some 13),none,.i (.mov (.t 5))⟩,⟨(some 14),none,.i (.iad 1 (.t 12) (.t 13))⟩,⟨(some 15),none,.i (.ld (.t 14))⟩,⟨(some 16),none,.i (.mov (.t 1))⟩,⟨(some 17),none,.i (.bin .eql (.t 15) (.t 16))⟩]) Bz5y)) Bzco)))
def Bz1i:AC:=(.kp [0,1,5] [5000,5001] (.dn (.seq (.seq (.reg false [⟨(some 6),none,.i (.mov (.t 5))⟩,⟨(some 7),none,.i (.mov (.t 0))⟩,⟨(some 8),none,.i (.len (.t 7))⟩,⟨(some 9),none,.i (.bin .lss (.t 6) (.t 8))⟩]) Bz5x) Bz5z)))
def Bzcp:AC:=(.kp [0,1,5] [5000,5001] (.dn (.block 0 (.loop Bz1i))))
def Bzcq:AC:=(.kp [] [5000,5001] (.dn (.seq (.reg false [⟨(some 4),none,.i (.mov (.c (.bool false)))⟩]) (.dn .ret))))
def Bzcr:AC:=(.kp [0,1] [5000,5001] (.dn (.seq (.seq (.reg false [⟨(some 5),none,.i (.mov (.c (.int .i64 0)))⟩]) Bzcp) Bzcq)))
def Azcs:AFn:=⟨18,2,(.seq (.reg false [⟨(some 4),none,.i (.mov (.c (.bool false)))⟩]) Bzcr),[.tmp 4]⟩
theorem czfz:cFn (drV none) Try.prog nz2j Azcs:=⟨_,_,Try.func61,rfl,by kernel_rfl,by decide,rfl,by kernel_rfl,by kernel_rfl⟩
def Bzd:AC:=(.kp [0,1,5,6,7,12] [8,34,41,47,5000,5001] (.dn (.cond (.t 12) .skip (.exit 0))))
def Bz60:AC:=(.kp [0,1,5,6,7,30] [8,34,41,47,5000,5001] (.dn (.cond (.t 30) (.reg false [⟨(some 31),none,.i (.mov (.t 5))⟩,⟨(some 32),none,.i (.mov (.t 1))⟩,⟨(some 33),none,.i (.bsl 1 false [(.t 32)])⟩,⟨(some 34),none,.i (.app 1 8 (.t 31) (.t 33))⟩,⟨(some 5),none,.i (.mov (.t 34))⟩]) .skip)))
def Bzct:AC:=(.kp [0,1,5,6,7] [8,34,41,47,5000,5001] (.dn (.seq (.reg false [⟨(some 25),none,.i (.mov (.t 0))⟩,⟨(some 26),none,.i (.mov (.t 7))⟩,⟨(some 27),none,.i (.iad 1 (.t 25) (.t 26))⟩,⟨(some 28),none,.i (.ld (.t 27))⟩,⟨(some 29),none,.i (.mov (.t 1))⟩,⟨(some 30),none,.i (.bin .gtr (.t 28) (.t 29))⟩]) Bz60)))
def Bz1j:AC:=(.kp [0,1,5,6,7,24] [8,34,41,47,5000,5001] (.dn (.cond (.t 24) (.seq (.reg false [⟨(some 6),none,.i (.mov (.c (.bool true)))⟩]) Bzct) .skip)))
def Bze:AC:=(.kp [0,1,5,6,7] [8,34,41,47,5000,5001] (.dn (.reg false [⟨(some 35),none,.i (.mov (.t 5))⟩,⟨(some 36),none,.i (.mov (.t 0))⟩,⟨(some 37),none,.i (.mov (.t 7))⟩,⟨(some 38),none,.i (.iad 1 (.t 36) (.t 37))⟩,⟨(some 39),none,.i (.ld (.t 38))⟩,⟨(some 40),none,.i (.bsl 1 false [(.t 39)])⟩,⟨(some 41),none,.i (.app 1 8 (.t 35) (.t 40))⟩,⟨(some 5),none,.i (.mov (.t 41))⟩])))
def Bzf:AC:=(.kp [0,1,5,6,7] [8,34,41,47,5000,5001] (.dn (.reg false [⟨(some 13),none,.i (.mov (.t 7))⟩,⟨(some 14),none,.i (.bin .add (.t 13) (.c (.int .i64 1)))⟩,⟨(some 7),none,.i (.mov (.t 14))⟩])))
def Bzg:AC:=(.kp [0,1,5,6,7] [8,34,41,47,5000,5001] (.dn (.seq (.block 1 (.seq (.seq (.reg false [⟨(some 15),none,.i (.mov (.t 6))⟩,⟨(some 16),none,.i (.un .not (.t 15))⟩,⟨(some 17),none,.i (.mov (.t 16))⟩,⟨(some 18),(some (17,true)),.i (.mov (.t 0))⟩,⟨(some 19),(some (17,true)),.i (.mov (.t 7))⟩,⟨(some 20),(some (17,true)),.i (.iad 1 (.t 18) (.t 19))⟩,⟨(some 21),(some (17,true)),.i (.ld (.t 20))⟩,⟨(some 22),(some (17,true)),.i (.mov (.t 1))⟩,⟨(some 23),(some (17,true)),.i (.bin .geq (.t 21) (.t 22))⟩,⟨(some 24),none,.i (.pick (.t 17) (.t 23) (.c (.bool false)))⟩]) Bz1j) Bze)) Bzf)))
def Bz4:AC:=(.kp [0,1,5,6,7] [8,34,41,47,5000,5001] (.dn (.seq (.seq (.reg false [⟨(some 9),none,.i (.mov (.t 7))⟩,⟨(some 10),none,.i (.mov (.t 0))⟩,⟨(some 11),none,.i (.len (.t 10))⟩,⟨(some 12),none,.i (.bin .lss (.t 9) (.t 11))⟩]) Bzd) Bzg)))
def Bzcu:AC:=(.kp [0,1,5,6,7] [8,34,41,47,5000,5001] (.dn (.block 0 (.loop Bz4))))
def Bz61:AC:=(.kp [1,5,43] [8,34,41,47,5000,5001] (.dn (.cond (.t 43) (.reg false [⟨(some 44),none,.i (.mov (.t 5))⟩,⟨(some 45),none,.i (.mov (.t 1))⟩,⟨(some 46),none,.i (.bsl 1 false [(.t 45)])⟩,⟨(some 47),none,.i (.app 1 8 (.t 44) (.t 46))⟩,⟨(some 5),none,.i (.mov (.t 47))⟩]) .skip)))
def Bz62:AC:=(.kp [5] [8,34,41,47,5000,5001] (.dn (.seq (.reg false [⟨(some 48),none,.i (.mov (.t 5))⟩,⟨(some 4),none,.i (.mov (.t 48))⟩]) (.dn .ret))))
def Bz63:AC:=(.kp [1,5,6] [8,34,41,47,5000,5001] (.dn (.seq (.seq (.reg false [⟨(some 42),none,.i (.mov (.t 6))⟩,⟨(some 43),none,.i (.un .not (.t 42))⟩]) Bz61) Bz62)))
def Bzcv:AC:=(.kp [0,1,5,6] [8,34,41,47,5000,5001] (.dn (.seq (.seq (.reg false [⟨(some 7),none,.i (.mov (.c (.int .i64 0)))⟩]) Bzcu) Bz63)))
def Bzcw:AC:=(.kp [0,1,5] [8,34,41,47,5000,5001] (.dn (.seq (.reg false [⟨(some 6),none,.i (.mov (.c (.bool false)))⟩]) Bzcv)))
def Bzcx:AC:=(.kp [0,1] [5000,5001] (.dn (.seq (.reg false [⟨(some 8),none,.i (.bsl 1 false [])⟩,⟨(some 5),none,.i (.mov (.t 8))⟩]) Bzcw)))
def Azcy:AFn:=⟨49,2,(.seq (.reg false [⟨(some 4),none,.i (.mov (.c (.slice none 0 0)))⟩]) Bzcx),[.tmp 4]⟩
theorem czg0:cFn (drV none) Try.prog nz2k Azcy:=⟨_,_,Try.func62,rfl,by kernel_rfl,by decide,rfl,by kernel_rfl,by kernel_rfl⟩
def Bz64:AC:=(.kp [0,3,4,5,13] [5000,901] (.cond (.t 13) .skip (.exit 0)))
def Bzcz:AC:=(.kp [0,3,4,5,6,30] [5000,901] (.cond (.t 30) .skip (.exit 2)))
def Bzg1:AC:=(.kp [0,3,4,5,6] [5000,901] (.block 3 (.regi false [⟨(some 31),none,.i (.mov (.t 6))⟩,⟨(some 32),none,.i (.bin .add (.t 31) (.c (.int .i64 1)))⟩,⟨(some 6),none,.i (.mov (.t 32))⟩])))
def Bz65:AC:=(.kp [0,3,4,5,6] [5000,901] (.seq (.seq (.regi false [⟨(some 17),none,.i (.mov (.t 6))⟩,⟨(some 18),none,.i (.mov (.t 0))⟩,⟨(some 19),none,.i (.len (.t 18))⟩,⟨(some 20),none,.i (.bin .lss (.t 17) (.t 19))⟩,⟨(some 21),none,.i (.mov (.t 20))⟩,⟨(some 22),(some (21,true)),.i (.mov (.t 0))⟩,⟨(some 23),(some (21,true)),.i (.mov (.t 6))⟩,⟨(some 24),(some (21,true)),.i (.iad 1 (.t 22) (.t 23))⟩,⟨(some 25),(some (21,true)),.i (.ld (.t 24))⟩,⟨(some 26),(some (21,true)),.i (.mov (.t 5))⟩,⟨(some 27),(some (21,true)),.i (.iad 1 (.t 25) (.t 26))⟩,⟨(some 28),(some (21,true)),.i (.ld (.t 27))⟩,⟨(some 29),(some (21,true)),.i (.bin .eql (.t 28) (.c (.int .i64 0)))⟩,⟨(some 30),none,.i (.pick (.t 21) (.t 29) (.c (.bool false)))⟩]) Bzcz) Bzg1))
def Bzd0:AC:=(.kp [0,3,4,5,6,36] [5000,901] (.cond (.t 36) (.seq (.regi false [⟨(some 2),none,.i (.mov (.c (.int .i64 0)))⟩]) .ret) .skip))
def Bzg2:AC:=(.kp [0,3,4,5] [5000,901] (.regi false [⟨(some 55),none,.i (.mov (.t 4))⟩,⟨(some 56),none,.i (.un .neg (.t 55))⟩,⟨(some 4),none,.i (.mov (.t 56))⟩]))
def Bzg3:AC:=(.kp [0,3,4,5,7] [5000,901] (.seq (.regi false [⟨(some 51),none,.i (.mov (.t 0))⟩,⟨(some 52),none,.i (.mov (.t 5))⟩,⟨(some 53),none,.i (.mov (.t 7))⟩,⟨(some 54),none,.i (.iad 1 (.t 51) (.t 52))⟩,⟨none,none,.i (.sto 1 (.t 54) (.t 53))⟩]) Bzg2))
def Bzg4:AC:=(.kp [0,3,4,5,6,7] [5000,901] (.seq (.regi false [⟨(some 44),none,.i (.mov (.t 0))⟩,⟨(some 45),none,.i (.mov (.t 6))⟩,⟨(some 46),none,.i (.mov (.t 0))⟩,⟨(some 47),none,.i (.mov (.t 5))⟩,⟨(some 48),none,.i (.iad 1 (.t 46) (.t 47))⟩,⟨(some 49),none,.i (.ld (.t 48))⟩,⟨(some 50),none,.i (.iad 1 (.t 44) (.t 45))⟩,⟨none,none,.i (.sto 1 (.t 50) (.t 49))⟩]) Bzg3))
def Bzd1:AC:=(.kp [0,3,4,5,6,39] [5000,901] (.cond (.t 39) (.seq (.regi false [⟨(some 40),none,.i (.mov (.t 0))⟩,⟨(some 41),none,.i (.mov (.t 6))⟩,⟨(some 42),none,.i (.iad 1 (.t 40) (.t 41))⟩,⟨(some 43),none,.i (.ld (.t 42))⟩,⟨(some 7),none,.i (.mov (.t 43))⟩]) Bzg4) .skip))
def Bz66:AC:=(.kp [0,3,4,5,8,62] [5000,901] (.cond (.t 62) .skip (.exit 4)))
def Bz67:AC:=(.kp [0,3,4,5,8,9,70] [5000,901] (.cond (.t 70) .skip (.exit 6)))
def Bzd2:AC:=(.kp [0,3,4,5,8,9] [5000,901] (.regi false [⟨(some 71),none,.i (.mov (.t 9))⟩,⟨(some 72),none,.i (.bin .add (.t 71) (.c (.int .i64 1)))⟩,⟨(some 9),none,.i (.mov (.t 72))⟩]))
def Bzd3:AC:=(.kp [0,3,4,5,8,9] [5000,901] (.seq (.block 7 (.regi true [⟨(some 73),none,.i (.mov (.t 0))⟩,⟨(some 74),none,.i (.mov (.t 8))⟩,⟨(some 75),none,.i (.iad 1 (.t 73) (.t 74))⟩,⟨(some 76),none,.i (.ld (.t 75))⟩,⟨(some 77),none,.i (.mov (.t 9))⟩,⟨(some 78),none,.i (.mov (.t 0))⟩,⟨(some 79),none,.i (.mov (.t 5))⟩,⟨(some 80),none,.i (.iad 1 (.t 78) (.t 79))⟩,⟨(some 81),none,.i (.ld (.t 80))⟩,⟨(some 82),none,.i (.mov (.t 5))⟩,⟨(some 83),none,.i (.iad 1 (.t 81) (.t 82))⟩,⟨(some 84),none,.i (.ld (.t 83))⟩,⟨(some 85),none,.i (.mov (.t 0))⟩,⟨(some 86),none,.i (.mov (.t 8))⟩,⟨(some 87),none,.i (.iad 1 (.t 85) (.t 86))⟩,⟨(some 88),none,.i (.ld (.t 87))⟩,⟨(some 89),none,.i (.mov (.t 9))⟩,⟨(some 90),none,.i (.iad 1 (.t 88) (.t 89))⟩,⟨(some 91),none,.i (.ld (.t 90))⟩,⟨(some 92),none,.i (.bin .mul (.t 84) (.t 91))⟩,⟨(some 93),none,.i (.mov (.t 0))⟩,⟨(some 94),none,.i (.mov (.t 8))⟩,⟨(some 95),none,.i (.iad 1 (.t 93) (.t 94))⟩,⟨(some 96),none,.i (.ld (.t 95))⟩,⟨(some 97),none,.i (.mov (.t 5))⟩,⟨(some 98),none,.i (.iad 1 (.t 96) (.t 97))⟩,⟨(some 99),none,.i (.ld (.t 98))⟩,⟨(some 100),none,.i (.mov (.t 0))⟩,⟨(some 101),none,.i (.mov (.t 5))⟩,⟨(some 102),none,.i (.iad 1 (.t 100) (.t 101))⟩,⟨(some 103),none,.i (.ld (.t 102))⟩,⟨(some 104),none,.i (.mov (.t 9))⟩,⟨(some 105),none,.i (.iad 1 (.t 103) (.t 104))⟩,⟨(some 106),none,.i (.ld (.t 105))⟩,⟨(some 107),none,.i (.bin .mul (.t 99) (.t 106))⟩,⟨(some 108),none,.i (.bin .sub (.t 92) (.t 107))⟩,⟨(some 109),none,.i (.mov (.t 3))⟩,⟨(some 110),none,.i (.bin .quo (.t 108) (.t 109))⟩,⟨(some 111),none,.i (.iad 1 (.t 76) (.t 77))⟩,⟨none,none,.i (.sto 1 (.t 111) (.t 110))⟩])) Bzd2))
def Bz1k:AC:=(.kp [0,3,4,5,8,9] [5000,901] (.seq (.seq (.regi false [⟨(some 67),none,.i (.mov (.t 9))⟩,⟨(some 68),none,.i (.mov (.t 0))⟩,⟨(some 69),none,.i (.len (.t 68))⟩,⟨(some 70),none,.i (.bin .lss (.t 67) (.t 69))⟩]) Bz67) Bzd3))
def Bzd4:AC:=(.kp [0,3,4,5,8,9] [5000,901] (.block 6 (.loop Bz1k)))
def Bzd5:AC:=(.kp [0,3,4,5,8] [5000,901] (.gh (.regi false [⟨(some 63),none,.i (.mov (.t 8))⟩,⟨(some 64),none,.i (.bin .add (.t 63) (.c (.int .i64 1)))⟩,⟨(some 8),none,.i (.mov (.t 64))⟩])))
def Bzd6:AC:=(.kp [0,3,4,5,8] [5000,901] (.gh (.seq (.block 5 (.seq (.regi false [⟨(some 65),none,.i (.mov (.t 5))⟩,⟨(some 66),none,.i (.bin .add (.t 65) (.c (.int .i64 1)))⟩,⟨(some 9),none,.i (.mov (.t 66))⟩]) Bzd4)) Bzd5)))
def Bz1l:AC:=(.kp [0,3,4,5,8] [5000,901] (.seq (.seq (.regi false [⟨(some 59),none,.i (.mov (.t 8))⟩,⟨(some 60),none,.i (.mov (.t 0))⟩,⟨(some 61),none,.i (.len (.t 60))⟩,⟨(some 62),none,.i (.bin .lss (.t 59) (.t 61))⟩]) Bz66) Bzd6))
def Bzd7:AC:=(.kp [0,3,4,5,8] [5000,901] (.block 4 (.loop Bz1l)))
def Bzd8:AC:=(.kp [0,4,5] [5000,901] (.regi false [⟨(some 112),none,.i (.mov (.t 0))⟩,⟨(some 113),none,.i (.mov (.t 5))⟩,⟨(some 114),none,.i (.iad 1 (.t 112) (.t 113))⟩,⟨(some 115),none,.i (.ld (.t 114))⟩,⟨(some 116),none,.i (.mov (.t 5))⟩,⟨(some 117),none,.i (.iad 1 (.t 115) (.t 116))⟩,⟨(some 118),none,.i (.ld (.t 117))⟩,⟨(some 3),none,.i (.mov (.t 118))⟩]))
def Bzd9:AC:=(.kp [0,3,4,5] [5000,901] (.seq (.seq (.regi false [⟨(some 57),none,.i (.mov (.t 5))⟩,⟨(some 58),none,.i (.bin .add (.t 57) (.c (.int .i64 1)))⟩,⟨(some 8),none,.i (.mov (.t 58))⟩]) Bzd7) Bzd8))
def Bzda:AC:=(.kp [0,3,4,5,6] [5000,901] (.seq (.seq (.regi false [⟨(some 37),none,.i (.mov (.t 6))⟩,⟨(some 38),none,.i (.mov (.t 5))⟩,⟨(some 39),none,.i (.bin .gtr (.t 37) (.t 38))⟩]) Bzd1) Bzd9))
def Bzdb:AC:=(.kp [0,3,4,5,6] [5000,901] (.seq (.seq (.regi false [⟨(some 33),none,.i (.mov (.t 6))⟩,⟨(some 34),none,.i (.mov (.t 0))⟩,⟨(some 35),none,.i (.len (.t 34))⟩,⟨(some 36),none,.i (.bin .eql (.t 33) (.t 35))⟩]) Bzd0) Bzda))
def Bzdc:AC:=(.kp [0,3,4,5,6] [5000,901] (.seq (.block 2 (.loop Bz65)) Bzdb))
def Bzdd:AC:=(.kp [0,3,4,5] [5000,901] (.regi false [⟨(some 14),none,.i (.mov (.t 5))⟩,⟨(some 15),none,.i (.bin .add (.t 14) (.c (.int .i64 1)))⟩,⟨(some 5),none,.i (.mov (.t 15))⟩]))
def Bzde:AC:=(.kp [0,3,4,5] [5000,901] (.seq (.block 1 (.seq (.regi false [⟨(some 16),none,.i (.mov (.t 5))⟩,⟨(some 6),none,.i (.mov (.t 16))⟩]) Bzdc)) Bzdd))
def Bz1m:AC:=(.kp [0,3,4,5] [5000,901] (.seq (.seq (.regi false [⟨(some 10),none,.i (.mov (.t 5))⟩,⟨(some 11),none,.i (.mov (.t 0))⟩,⟨(some 12),none,.i (.len (.t 11))⟩,⟨(some 13),none,.i (.bin .lss (.t 10) (.t 12))⟩]) Bz64) Bzde))
def Bzdf:AC:=(.kp [0,3,4,5] [5000,901] (.block 0 (.loop Bz1m)))
def Bzdg:AC:=(.kp [3,4] [5000,901] (.seq (.regi false [⟨(some 119),none,.i (.mov (.t 4))⟩,⟨(some 120),none,.i (.mov (.t 3))⟩,⟨(some 121),none,.i (.bin .mul (.t 119) (.t 120))⟩,⟨(some 2),none,.i (.mov (.t 121))⟩]) .ret))
def Bzdh:AC:=(.kp [0,3,4] [5000,901] (.seq (.seq (.regi false [⟨(some 5),none,.i (.mov (.c (.int .i64 0)))⟩]) Bzdf) Bzdg))
def Bzdi:AC:=(.kp [0,3] [5000,901] (.seq (.regi false [⟨(some 4),none,.i (.mov (.c (.int .i64 1)))⟩]) Bzdh))
def Bzdj:AC:=(.kp [0] [5000,901] (.seq (.regi false [⟨(some 3),none,.i (.mov (.c (.int .i64 1)))⟩]) Bzdi))
def Az68:AFn:=⟨122,1,(.seq (.regi false [⟨(some 2),none,.i (.mov (.c (.int .i64 0)))⟩]) Bzdj),[.tmp 2]⟩
theorem czg5:cFn (drV none) Try.prog nz2l Az68:=⟨_,_,Try.func63,rfl,by kernel_rfl,by decide,rfl,by kernel_rfl,by kernel_rfl⟩
def Bzdk:AC:=(.kp [1] [1,5000] (.dn (.seq (.reg false [⟨(some 3),none,.i (.fad 0 (.t 1))⟩,⟨(some 4),none,.i (.ld (.t 3))⟩,⟨(some 5),none,.call nz2 [(.t 4),(.c (.int .i64 1)),(.c (.int .i64 10))]⟩,⟨(some 6),none,.i (.mov (.t 5))⟩,⟨(some 7),(some (6,true)),.i (.lda 2 (.t 1))⟩,⟨(some 8),(some (6,true)),.call nz26 [(.t 7)]⟩,⟨(some 9),(some (6,true)),.call nz2 [(.t 8),(.c (.int .i64 1)),(.c (.int .i64 3))]⟩,⟨(some 10),none,.i (.pick (.t 6) (.t 9) (.c (.bool false)))⟩,⟨(some 11),none,.i (.mov (.t 10))⟩,⟨(some 12),(some (11,true)),.i (.fad 1 (.t 1))⟩,⟨(some 13),(some (11,true)),.i (.ld (.t 12))⟩,⟨(some 14),(some (11,true)),.i (.mkf nzl [(.t 1)])⟩,⟨(some 15),(some (11,true)),.call nz2q [(.t 13),(.t 14)]⟩,⟨(some 16),(some (11,true)),.i (.un .not (.t 15))⟩,⟨(some 17),none,.i (.pick (.t 11) (.t 16) (.c (.bool false)))⟩,⟨(some 2),none,.i (.mov (.t 17))⟩]) (.dn .ret))))
def Azdl:AFn:=⟨18,1,(.seq (.reg false [⟨(some 1),none,.i (.box (.t 0))⟩,⟨(some 2),none,.i (.mov (.c (.bool false)))⟩]) Bzdk),[.tmp 2]⟩
theorem czg6:cFn (drV none) Try.prog nz2m Azdl:=⟨_,_,Try.func64,rfl,by kernel_rfl,by decide,rfl,by kernel_rfl,by kernel_rfl⟩
def Bzdm:AC:=(.kp [0,1,2] [5000,5001,5002] (.dn (.seq (.reg false [⟨(some 7),none,.i (.mov (.t 0))⟩,⟨(some 8),none,.i (.mov (.t 1))⟩,⟨(some 9),none,.i (.bin .geq (.t 7) (.t 8))⟩,⟨(some 10),none,.i (.mov (.t 9))⟩,⟨(some 11),(some (10,true)),.i (.mov (.t 0))⟩,⟨(some 12),(some (10,true)),.i (.mov (.t 2))⟩,⟨(some 13),(some (10,true)),.i (.bin .leq (.t 11) (.t 12))⟩,⟨(some 14),none,.i (.pick (.t 10) (.t 13) (.c (.bool false)))⟩,⟨(some 6),none,.i (.mov (.t 14))⟩]) (.dn .ret))))
def Azdn:AFn:=⟨15,3,(.seq (.reg false [⟨(some 6),none,.i (.mov (.c (.bool false)))⟩]) Bzdm),[.tmp 6]⟩
theorem czg7:cFn (drV none) Try.prog nz2 Azdn:=⟨_,_,Try.func65,rfl,by kernel_rfl,by decide,rfl,by kernel_rfl,by kernel_rfl⟩
def Bzdo:AC:=(.kp [0] [5000] (.dn (.seq (.reg false [⟨(some 3),none,.i (.mov (.t 0))⟩,⟨(some 4),none,.i (.len (.t 3))⟩,⟨(some 2),none,.i (.mov (.t 4))⟩]) (.dn .ret))))
def Azdp:AFn:=⟨5,1,(.seq (.reg false [⟨(some 2),none,.i (.mov (.c (.int .i64 0)))⟩]) Bzdo),[.tmp 2]⟩
theorem czg8:cFn (drV none) Try.prog nzj Azdp:=⟨_,_,Try.func66,rfl,by kernel_rfl,by decide,rfl,by kernel_rfl,by kernel_rfl⟩
def Bz69:AC:=(.kp [2,5,6,15] [2,11,39,5000,5001] (.dn (.cond (.t 15) .skip (.exit 0))))
def Bz6a:AC:=(.kp [2,5,6,9,19,20,21,35] [2,11,39,5000,5001] (.dn (.cond (.t 35) (.reg false [⟨(some 36),none,.i (.mov (.t 5))⟩,⟨(some 37),none,.i (.mov (.t 9))⟩,⟨(some 38),none,.i (.bsl 1 false [(.t 37)])⟩,⟨(some 39),none,.i (.app 1 8 (.t 36) (.t 38))⟩,⟨(some 5),none,.i (.mov (.t 39))⟩]) .skip)))
def Bzdq:AC:=(.kp [2,5,6,9,19,20,21] [2,11,39,5000,5001] (.dn (.seq (.reg false [⟨(some 32),none,.i (.mov (.t 5))⟩,⟨(some 33),none,.i (.mov (.t 9))⟩,⟨(some 34),none,.call nz2i [(.t 32),(.t 33)]⟩,⟨(some 35),none,.i (.un .not (.t 34))⟩]) Bz6a)))
def Bzdr:AC:=(.kp [2,5,6,8,19,20,21] [2,11,39,5000,5001] (.dn (.seq (.reg false [⟨(some 25),none,.i (.mov (.t 8))⟩,⟨(some 26),none,.i (.mov (.t 5))⟩,⟨(some 27),none,.i (.mov (.t 6))⟩,⟨(some 28),none,.i (.iad 1 (.t 26) (.t 27))⟩,⟨(some 29),none,.i (.ld (.t 28))⟩,⟨(some 30),none,.i (.iad 1 (.t 25) (.t 29))⟩,⟨(some 31),none,.i (.ld (.t 30))⟩,⟨(some 9),none,.i (.mov (.t 31))⟩]) Bzdq)))
def Bz6b:AC:=(.kp [2,5,6,19,20,21] [2,11,39,5000,5001] (.dn (.reg false [⟨(some 40),none,.i (.bin .add (.t 21) (.c (.int .i64 1)))⟩,⟨(some 21),none,.i (.mov (.t 40))⟩])))
def Bz6c:AC:=(.kp [2,5,6,19,20,21] [2,11,39,5000,5001] (.dn (.seq (.block 3 (.seq (.reg false [⟨(some 23),none,.i (.iad 1 (.t 19) (.t 21))⟩,⟨(some 24),none,.i (.ld (.t 23))⟩,⟨(some 8),none,.i (.mov (.t 24))⟩]) Bzdr)) Bz6b)))
def Bz6d:AC:=(.kp [2,5,6,19,20,21,22] [2,11,39,5000,5001] (.dn (.seq (.cond (.t 22) .skip (.exit 2)) Bz6c)))
def Bz1n:AC:=(.kp [2,5,6,19,20,21] [2,11,39,5000,5001] (.dn (.seq (.reg false [⟨(some 22),none,.i (.bin .lss (.t 21) (.t 20))⟩]) Bz6d)))
def Bzds:AC:=(.kp [2,5,6,19,20,21] [2,11,39,5000,5001] (.dn (.block 2 (.loop Bz1n))))
def Bzdt:AC:=(.kp [2,5,6] [2,11,39,5000,5001] (.dn (.reg false [⟨(some 16),none,.i (.mov (.t 6))⟩,⟨(some 17),none,.i (.bin .add (.t 16) (.c (.int .i64 1)))⟩,⟨(some 6),none,.i (.mov (.t 17))⟩])))
def Bz6e:AC:=(.kp [2,5,6] [2,11,39,5000,5001] (.dn (.seq (.block 1 (.seq (.reg false [⟨(some 18),none,.i (.fad 1 (.t 2))⟩,⟨(some 19),none,.i (.ld (.t 18))⟩,⟨(some 20),none,.i (.len (.t 19))⟩,⟨(some 21),none,.i (.mov (.c (.int .i64 0)))⟩]) Bzds)) Bzdt)))
def Bz1o:AC:=(.kp [2,5,6] [2,11,39,5000,5001] (.dn (.seq (.seq (.reg false [⟨(some 12),none,.i (.mov (.t 6))⟩,⟨(some 13),none,.i (.mov (.t 5))⟩,⟨(some 14),none,.i (.len (.t 13))⟩,⟨(some 15),none,.i (.bin .lss (.t 12) (.t 14))⟩]) Bz69) Bz6e)))
def Bzdu:AC:=(.kp [2,5,6] [2,11,39,5000,5001] (.dn (.block 0 (.loop Bz1o))))
def Bzdv:AC:=(.kp [5] [11,39,5000,5001] (.dn (.seq (.reg false [⟨(some 41),none,.i (.mov (.t 5))⟩,⟨(some 42),none,.call nz2s [(.t 41)]⟩,⟨(some 4),none,.i (.mov (.t 42))⟩]) (.dn .ret))))
def Bzdw:AC:=(.kp [2,5] [2,11,39,5000,5001] (.dn (.seq (.seq (.reg false [⟨(some 6),none,.i (.mov (.c (.int .i64 0)))⟩]) Bzdu) Bzdv)))
def Bzdx:AC:=(.kp [1,2] [2,5000,5001] (.dn (.seq (.reg false [⟨(some 10),none,.i (.mov (.t 1))⟩,⟨(some 11),none,.i (.bsl 1 false [(.t 10)])⟩,⟨(some 5),none,.i (.mov (.t 11))⟩]) Bzdw)))
def Azdy:AFn:=⟨43,2,(.seq (.reg false [⟨(some 2),none,.i (.box (.t 0))⟩,⟨(some 4),none,.i (.mov (.c (.slice none 0 0)))⟩]) Bzdx),[.tmp 4]⟩
theorem czg9:cFn (drV none) Try.prog nz2n Azdy:=⟨_,_,Try.func67,rfl,by kernel_rfl,by decide,rfl,by kernel_rfl,by kernel_rfl⟩
theorem x_slices_Delete_LI:∃ fn,Try.prog.funcs[nz2o]?=some fn∧fn.body.isSome=true∧isNumG fn=false:=⟨_,Try.func68,by kernel_rfl,by decide⟩
def Bzdz:AC:=(.kp [0,4] [5000] (.dn (.cond (.t 4) (.seq (.reg false [⟨(some 2),none,.i (.mov (.c (.slice none 0 0)))⟩]) (.dn .ret)) .skip)))
def Bze0:AC:=(.kp [0] [5000] (.dn (.seq (.reg false [⟨(some 5),none,.i (.bsl 1 false [])⟩,⟨(some 6),none,.i (.mov (.t 0))⟩,⟨(some 7),none,.i (.app 1 8 (.t 5) (.t 6))⟩,⟨(some 2),none,.i (.mov (.t 7))⟩]) (.dn .ret))))
def Bze1:AC:=(.kp [0] [5000] (.dn (.seq (.seq (.reg false [⟨(some 3),none,.i (.mov (.t 0))⟩,⟨(some 4),none,.i (.isnil false (.t 3))⟩]) Bzdz) Bze0)))
def Aze2:AFn:=⟨8,1,(.seq (.reg false [⟨(some 2),none,.i (.mov (.c (.slice none 0 0)))⟩]) Bze1),[.tmp 2]⟩
theorem czga:cFn (drV none) Try.prog nzk Aze2:=⟨_,_,Try.func69,rfl,by kernel_rfl,by decide,rfl,by kernel_rfl,by kernel_rfl⟩
def Bz6f:AC:=(.kp [0,1,5,7,8,16] [5000,5001] (.dn (.cond (.t 16) (.seq (.reg false [⟨(some 17),none,.i (.mov (.t 5))⟩,⟨(some 4),none,.i (.mov (.t 17))⟩]) (.dn .ret)) .skip)))
def Bze3:AC:=(.kp [0,1,5,7,8] [5000,5001] (.dn (.seq (.reg false [⟨(some 11),none,.i (.mov (.t 1))⟩,⟨(some 12),none,.i (.mov (.t 0))⟩,⟨(some 13),none,.i (.mov (.t 5))⟩,⟨(some 14),none,.i (.iad 1 (.t 12) (.t 13))⟩,⟨(some 15),none,.i (.ld (.t 14))⟩,⟨(some 16),none,.i (.bin .eql (.t 11) (.t 15))⟩]) Bz6f)))
def Bze4:AC:=(.kp [0,1,7,8] [5000,5001] (.dn (.reg false [⟨(some 18),none,.i (.bin .add (.t 8) (.c (.int .i64 1)))⟩,⟨(some 8),none,.i (.mov (.t 18))⟩])))
def Bz6g:AC:=(.kp [0,1,7,8] [5000,5001] (.dn (.seq (.block 1 (.seq (.reg false [⟨(some 10),none,.i (.mov (.t 8))⟩,⟨(some 5),none,.i (.mov (.t 10))⟩]) Bze3)) Bze4)))
def Bz6h:AC:=(.kp [0,1,7,8,9] [5000,5001] (.dn (.seq (.cond (.t 9) .skip (.exit 0)) Bz6g)))
def Bz1p:AC:=(.kp [0,1,7,8] [5000,5001] (.dn (.seq (.reg false [⟨(some 9),none,.i (.bin .lss (.t 8) (.t 7))⟩]) Bz6h)))
def Bze5:AC:=(.kp [0,1,7,8] [5000,5001] (.dn (.block 0 (.loop Bz1p))))
def Bze6:AC:=(.kp [] [5000,5001] (.dn (.seq (.reg false [⟨(some 4),none,.i (.mov (.c (.int .i64 (-1))))⟩]) (.dn .ret))))
def Bze7:AC:=(.kp [0,1] [5000,5001] (.dn (.seq (.seq (.reg false [⟨(some 6),none,.i (.mov (.t 0))⟩,⟨(some 7),none,.i (.len (.t 6))⟩,⟨(some 8),none,.i (.mov (.c (.int .i64 0)))⟩]) Bze5) Bze6)))
def Aze8:AFn:=⟨19,2,(.seq (.reg false [⟨(some 4),none,.i (.mov (.c (.int .i64 0)))⟩]) Bze7),[.tmp 4]⟩
theorem czgb:cFn (drV none) Try.prog nz2p Aze8:=⟨_,_,Try.func70,rfl,by kernel_rfl,by decide,rfl,by kernel_rfl,by kernel_rfl⟩
def Bze9:AC:=(.kp [0,1] [5000,5001] (.dn (.seq (.reg false [⟨(some 5),none,.i (.mov (.t 0))⟩,⟨(some 6),none,.i (.mov (.t 1))⟩,⟨(some 7),none,.call nz2t [(.t 5),(.t 6)]⟩,⟨(some 8),none,.i (.bin .geq (.t 7) (.c (.int .i64 0)))⟩,⟨(some 4),none,.i (.mov (.t 8))⟩]) (.dn .ret))))
def Azea:AFn:=⟨9,2,(.seq (.reg false [⟨(some 4),none,.i (.mov (.c (.bool false)))⟩]) Bze9),[.tmp 4]⟩
theorem czgc:cFn (drV none) Try.prog nz2q Azea:=⟨_,_,Try.func73,rfl,by kernel_rfl,by decide,rfl,by kernel_rfl,by kernel_rfl⟩
def Bzeb:AC:=(.kp [0,1] [5000,5001] (.dn (.seq (.reg true [⟨(some 4),none,.i (.mov (.t 0))⟩,⟨(some 5),none,.call nzj [(.t 4)]⟩,⟨(some 6),none,.i (.fad 0 (.t 1))⟩,⟨(some 7),none,.i (.ld (.t 6))⟩,⟨(some 8),none,.i (.bin .neq (.t 5) (.t 7))⟩,⟨(some 9),none,.i (.mov (.t 8))⟩,⟨(some 10),(some (9,false)),.i (.mov (.t 0))⟩,⟨(some 11),(some (9,false)),.i (.fad 0 (.t 1))⟩,⟨(some 12),(some (9,false)),.i (.ld (.t 11))⟩,⟨(some 13),(some (9,false)),.i (.bin .sub (.t 12) (.c (.int .i64 1)))⟩,⟨(some 14),(some (9,false)),.calh nz2r [(.t 10),(.c (.int .i64 0)),(.t 13)]⟩,⟨(some 15),(some (9,false)),.i (.un .not (.t 14))⟩,⟨(some 16),none,.i (.pick (.t 9) (.c (.bool true)) (.t 15))⟩,⟨(some 3),none,.i (.mov (.t 16))⟩]) (.dn .ret))))
def Azec:AFn:=⟨17,2,(.seq (.reg false [⟨(some 3),none,.i (.mov (.c (.bool false)))⟩]) Bzeb),[.tmp 3]⟩
theorem czgd:cFn (drV none) Try.prog nzl Azec:=⟨_,_,Try.func74,rfl,by kernel_rfl,by decide,rfl,by kernel_rfl,by kernel_rfl⟩
def Bzed:AC:=(.kp [0,4,5] [4,5,5000,5001,5002] (.dn (.seq (.reg false [⟨(some 7),none,.i (.mov (.t 0))⟩,⟨(some 8),none,.i (.mkf nzm [(.t 4),(.t 5)])⟩,⟨(some 9),none,.call nz2u [(.t 7),(.t 8)]⟩,⟨(some 10),none,.i (.un .not (.t 9))⟩,⟨(some 6),none,.i (.mov (.t 10))⟩]) (.dn .ret))))
def Azee:AFn:=⟨11,3,(.seq (.reg false [⟨(some 4),none,.i (.box (.t 1))⟩,⟨(some 5),none,.i (.box (.t 2))⟩,⟨(some 6),none,.i (.mov (.c (.bool false)))⟩]) Bzed),[.tmp 6]⟩
theorem czge:cFn (drV none) Try.prog nz2r Azee:=⟨_,_,Try.func75,rfl,by kernel_rfl,by decide,rfl,by kernel_rfl,by kernel_rfl⟩
def Bzef:AC:=(.kp [3] [5,5000] (.dn (.seq (.reg false [⟨(some 8),none,.i (.mov (.t 3))⟩,⟨(some 9),none,.call nz2w [(.t 8)]⟩,⟨(some 2),none,.i (.mov (.t 9))⟩]) (.dn .ret))))
def Bzeg:AC:=(.kp [3] [5,5000] (.dn (.seq (.reg false [⟨(some 6),none,.i (.mov (.t 3))⟩,⟨(some 7),none,.call nz2v [(.t 6)]⟩]) Bzef)))
def Bzeh:AC:=(.kp [0] [5000] (.dn (.seq (.reg false [⟨(some 4),none,.i (.mov (.t 0))⟩,⟨(some 5),none,.call nzk [(.t 4)]⟩,⟨(some 3),none,.i (.mov (.t 5))⟩]) Bzeg)))
def Azei:AFn:=⟨10,1,(.seq (.reg false [⟨(some 2),none,.i (.mov (.c (.slice none 0 0)))⟩]) Bzeh),[.tmp 2]⟩
theorem czgf:cFn (drV none) Try.prog nz2s Azei:=⟨_,_,Try.func76,rfl,by kernel_rfl,by decide,rfl,by kernel_rfl,by kernel_rfl⟩
def Bzej:AC:=(.kp [0,1,5,7,8,16] [16,1016,5000,5001] (.dn (.cond (.t 16) (.seq (.reg false [⟨(some 17),none,.i (.mov (.t 5))⟩,⟨(some 4),none,.i (.mov (.t 17))⟩]) (.dn .ret)) .skip)))
def Bzek:AC:=(.kp [0,1,5,7,8] [5000,5001] (.dn (.seq (.reg false [⟨(some 11),none,.i (.mov (.t 1))⟩,⟨(some 12),none,.i (.mov (.t 0))⟩,⟨(some 13),none,.i (.mov (.t 5))⟩,⟨(some 14),none,.i (.iad 1 (.t 12) (.t 13))⟩,⟨(some 15),none,.i (.ld (.t 14))⟩,⟨(some 16),none,.calv (.t 11) [(.t 15)]⟩]) Bzej)))
def Bzel:AC:=(.kp [0,1,7,8] [5000,5001] (.dn (.reg false [⟨(some 18),none,.i (.bin .add (.t 8) (.c (.int .i64 1)))⟩,⟨(some 8),none,.i (.mov (.t 18))⟩])))
def Bz6i:AC:=(.kp [0,1,7,8] [5000,5001] (.dn (.seq (.block 1 (.seq (.reg false [⟨(some 10),none,.i (.mov (.t 8))⟩,⟨(some 5),none,.i (.mov (.t 10))⟩]) Bzek)) Bzel)))
def Bz6j:AC:=(.kp [0,1,7,8,9] [5000,5001] (.dn (.seq (.cond (.t 9) .skip (.exit 0)) Bz6i)))
def Bz1q:AC:=(.kp [0,1,7,8] [5000,5001] (.dn (.seq (.reg false [⟨(some 9),none,.i (.bin .lss (.t 8) (.t 7))⟩]) Bz6j)))
def Bzem:AC:=(.kp [0,1,7,8] [5000,5001] (.dn (.block 0 (.loop Bz1q))))
def Bzen:AC:=(.kp [] [5000,5001] (.dn (.seq (.reg false [⟨(some 4),none,.i (.mov (.c (.int .i64 (-1))))⟩]) (.dn .ret))))
def Bzeo:AC:=(.kp [0,1] [5000,5001] (.dn (.seq (.seq (.reg false [⟨(some 6),none,.i (.mov (.t 0))⟩,⟨(some 7),none,.i (.len (.t 6))⟩,⟨(some 8),none,.i (.mov (.c (.int .i64 0)))⟩]) Bzem) Bzen)))
def Azep:AFn:=⟨19,2,(.seq (.reg false [⟨(some 4),none,.i (.mov (.c (.int .i64 0)))⟩]) Bzeo),[.tmp 4]⟩
theorem czgg:cFn (drV none) Try.prog nz2t Azep:=⟨_,_,Try.func78,rfl,by kernel_rfl,by decide,rfl,by kernel_rfl,by kernel_rfl⟩
def Bzeq:AC:=(.kp [0,1] [5000,5001] (.dn (.seq (.reg false [⟨(some 5),none,.i (.mov (.t 0))⟩,⟨(some 6),none,.i (.mov (.t 1))⟩,⟨(some 7),none,.call nz2x [(.t 5),(.t 6)]⟩,⟨(some 8),none,.i (.bin .geq (.t 7) (.c (.int .i64 0)))⟩,⟨(some 4),none,.i (.mov (.t 8))⟩]) (.dn .ret))))
def Azer:AFn:=⟨9,2,(.seq (.reg false [⟨(some 4),none,.i (.mov (.c (.bool false)))⟩]) Bzeq),[.tmp 4]⟩
theorem czgh:cFn (drV none) Try.prog nz2u Azer:=⟨_,_,Try.func79,rfl,by kernel_rfl,by decide,rfl,by kernel_rfl,by kernel_rfl⟩
def Bzes:AC:=(.kp [0,1,2] [5000,5001,5002] (.dn (.seq (.reg false [⟨(some 5),none,.i (.mov (.t 0))⟩,⟨(some 6),none,.i (.ld (.t 1))⟩,⟨(some 7),none,.i (.ld (.t 2))⟩,⟨(some 8),none,.call nz2 [(.t 5),(.t 6),(.t 7)]⟩,⟨(some 9),none,.i (.un .not (.t 8))⟩,⟨(some 4),none,.i (.mov (.t 9))⟩]) (.dn .ret))))
def Azet:AFn:=⟨10,3,(.seq (.reg false [⟨(some 4),none,.i (.mov (.c (.bool false)))⟩]) Bzes),[.tmp 4]⟩
theorem czgi:cFn (drV none) Try.prog nzm Azet:=⟨_,_,Try.func80,rfl,by kernel_rfl,by decide,rfl,by kernel_rfl,by kernel_rfl⟩
theorem x_slices_Sort_LI:∃ fn,Try.prog.funcs[nz2v]?=some fn∧fn.body.isSome=true∧isNumG fn=false:=⟨_,Try.func81,by kernel_rfl,by decide⟩
theorem x_slices_Compact_LI:∃ fn,Try.prog.funcs[nz2w]?=some fn∧fn.body.isSome=true∧isNumG fn=false:=⟨_,Try.func82,by kernel_rfl,by decide⟩
def Bzeu:AC:=(.kp [0,1,5,7,8,16] [16,1016,5000,5001] (.dn (.cond (.t 16) (.seq (.reg false [⟨(some 17),none,.i (.mov (.t 5))⟩,⟨(some 4),none,.i (.mov (.t 17))⟩]) (.dn .ret)) .skip)))
def Bzev:AC:=(.kp [0,1,5,7,8] [5000,5001] (.dn (.seq (.reg false [⟨(some 11),none,.i (.mov (.t 1))⟩,⟨(some 12),none,.i (.mov (.t 0))⟩,⟨(some 13),none,.i (.mov (.t 5))⟩,⟨(some 14),none,.i (.iad 1 (.t 12) (.t 13))⟩,⟨(some 15),none,.i (.ld (.t 14))⟩,⟨(some 16),none,.calv (.t 11) [(.t 15)]⟩]) Bzeu)))
def Bzew:AC:=(.kp [0,1,7,8] [5000,5001] (.dn (.reg false [⟨(some 18),none,.i (.bin .add (.t 8) (.c (.int .i64 1)))⟩,⟨(some 8),none,.i (.mov (.t 18))⟩])))
def Bz6k:AC:=(.kp [0,1,7,8] [5000,5001] (.dn (.seq (.block 1 (.seq (.reg false [⟨(some 10),none,.i (.mov (.t 8))⟩,⟨(some 5),none,.i (.mov (.t 10))⟩]) Bzev)) Bzew)))
def Bz6l:AC:=(.kp [0,1,7,8,9] [5000,5001] (.dn (.seq (.cond (.t 9) .skip (.exit 0)) Bz6k)))
def Bz1r:AC:=(.kp [0,1,7,8] [5000,5001] (.dn (.seq (.reg false [⟨(some 9),none,.i (.bin .lss (.t 8) (.t 7))⟩]) Bz6l)))
def Bzex:AC:=(.kp [0,1,7,8] [5000,5001] (.dn (.block 0 (.loop Bz1r))))
def Bzey:AC:=(.kp [] [5000,5001] (.dn (.seq (.reg false [⟨(some 4),none,.i (.mov (.c (.int .i64 (-1))))⟩]) (.dn .ret))))
def Bzez:AC:=(.kp [0,1] [5000,5001] (.dn (.seq (.seq (.reg false [⟨(some 6),none,.i (.mov (.t 0))⟩,⟨(some 7),none,.i (.len (.t 6))⟩,⟨(some 8),none,.i (.mov (.c (.int .i64 0)))⟩]) Bzex) Bzey)))
def Azf0:AFn:=⟨19,2,(.seq (.reg false [⟨(some 4),none,.i (.mov (.c (.int .i64 0)))⟩]) Bzez),[.tmp 4]⟩
theorem czgj:cFn (drV none) Try.prog nz2x Azf0:=⟨_,_,Try.func83,rfl,by kernel_rfl,by decide,rfl,by kernel_rfl,by kernel_rfl⟩
end Go.Ab
namespace Go.Ab
open Go.Proofs
theorem k_l00In (n lo hi:Int):Fun Try.prog nz8 [iv n,iv lo,iv hi] (bv (decide (lo≤n) && decide (n≤hi))):=by
  refine fun_of mixed czfm rfl ⟨rfl,trivial⟩ ?_
  simp only [Bzad,Azae,go_sem,yz0,xx9,xx8,xx6,xx7,xx5,xx0,xx1,xx2,reduceIte,xx3,xx4,reduceCtorEq]
  by_cases h:lo≤n <;> simp [h,dn_val]
theorem k_within (n lo hi:Int):Fun Try.prog nz2 [iv n,iv lo,iv hi] (bv (decide (lo≤n) && decide (n≤hi))):=by
  refine fun_of mixed czg7 rfl ⟨rfl,trivial⟩ ?_
  simp only [Bzdm,Azdn,go_sem,yz0,xx9,xx8,xx6,xx7,xx5,xx0,xx1,xx2,reduceIte,xx3,xx4,reduceCtorEq]
  by_cases h:lo≤n <;> simp [h,dn_val]
theorem k_size (xs:List Int):Fun Try.prog nzj [.ro none 1 (ints xs)] (iv xs.length):=by
  refine fun_of mixed czg8 rfl ⟨rfl,trivial⟩ ?_
  simp only [Bzdo,Azdp,go_sem,yz0,xx9,xx8,xx6,xx7,xx5,xx0,xx1,xx2,reduceIte,xx3,xx4,reduceCtorEq]
theorem k_size1 (xss:List (List Int)):Fun Try.prog nz2h [.ro none 1 (rwn xss)] (iv xss.length):=by
  refine fun_of mixed czfx rfl ⟨rfl,trivial⟩ ?_
  simp only [Bzck,Azcl,go_sem,yz0,xx9,xx8,xx6,xx7,xx5,xx0,xx1,xx2,reduceIte,xx3,xx4,reduceCtorEq]
end Go.Ab
namespace Go.Ab
open Go.Proofs
section
variable {P:Program} {a b:AC} {Q:AEx→St→Prop} {σ:St}
end
end Go.Ab
namespace Go.Ab
open Go.Proofs
end Go.Ab
namespace Go.Ab
open Go.Proofs
theorem drop_getD {α:Type} {xs:List α} {i:Nat} (h:i<xs.length) (d:α):xs.drop i=xs.getD i d :: xs.drop (i+1):=by
  rw [List.drop_eq_getElem_cons h,List.getD_eq_getElem?_getD,List.getElem?_eq_getElem h];rfl
theorem yz2 {α:Type} {xs:List α} {i:Nat} (h:i<xs.length) (d:α):xs.getD i d∈xs:=by
  rw [List.getD_eq_getElem?_getD,List.getElem?_eq_getElem h];exact List.getElem_mem h
def fidx {α:Type} (p:α→Bool):List α→Nat→Int
  | [],_=>-1
  | x :: xs,i=>if p x then i else fidx p xs (i+1)
theorem fidx_ge {α:Type} (p:α→Bool):∀ (xs:List α) (i:Nat),decide (0≤fidx p xs i)=xs.any p
  | [],i=>by simp [fidx]
  | x :: xs,i=>by
    have h:=fidx_ge p xs (i+1)
    simp only [fidx,List.any_cons]
    by_cases hp:p x=true
    · simp [hp]
    · have h2:p x=false:=by simpa using hp
      simp only [h2,Bool.false_or,← h]
      simp
structure Caps (caps:List AVal):Prop where
  dn:dnL caps=caps
  coe:∀ hp m len,CoeL hp m len caps caps
theorem k_IndexFunc (xs:List (List Int)) (g:FuncId) (caps:List AVal) (p:List Int→Bool) (hc:Caps caps) (h:∀ x∈xs,Fun Try.prog g (.ro none 1 (ints x) :: caps) (bv (p x))) :
    Fun Try.prog nz2t [.ro none 1 (rwn xs),.clo g caps] (iv (fidx p xs 0)):=by
  refine fun_of mixed czgg rfl ⟨rfl,trivial⟩ ?_
  simp only [Azep,Bzeo,hc.dn,go_sem,yz0,xx9,xx8,xx6,xx7,xx5,xx0,xx1,xx2,reduceIte,xx3,xx4,reduceCtorEq]
  intro hM
  have hM2:=maxLen_le
  simp only [Bzem,hc.dn,go_sem,yz0,xx9,xx8,xx6,xx7,xx5,xx0,xx1,xx2,reduceIte,xx3,xx4,reduceCtorEq]
  refine wpD_lo (fun i=>xs.length - i) (fun i=>i≤xs.length∧fidx p (xs.drop i) i=fidx p xs 0)
    (fun i:Nat=>⟨L .any [(0,.ro none 1 (rwn xs)),(1,.clo g caps),(7,iv xs.length),(8,iv i)],L .gone []⟩) 0 (by simp) (by simp only [Bz1q,hc.dn,go_sem,yz0,xx9,xx8,xx6,xx7,xx5,xx0,xx1,xx2,reduceIte,xx3,xx4,reduceCtorEq];try rfl) ?_
  rintro i ⟨hi,he⟩
  by_cases hlt:(i:Int)<xs.length
  · have hlt':i<xs.length:=by omega
    have w1:IntKind.i64.wrap ((i:Int)+1)=((i+1:Nat):Int):=by rw [w64 (by omega)];simp
    have w2:IntKind.i64.wrap (i:Int)=i:=w64 (by omega)
    rw [drop_getD hlt' []] at he
    simp only [fidx] at he
    simp only [Bz1q,Bz6j,Bz6i,Bzek,rwn_getD hlt',decide_eq_true hlt,hc.dn,go_sem,yz0,xx9,xx8,xx6,xx7,xx5,xx0,xx1,xx2,reduceIte,xx3,xx4,reduceCtorEq]
    intro vs
    refine ⟨⟨by omega,hlt'⟩,hlt',?_⟩
    refine yz6 (h _ (yz2 hlt' [])) (by simp only [rowIs,boxIs,coe_argN,coe_argNs,coe_ro_o,coeL_nil,coeL_cons,coe_any,coe_val,coe_ro,coe_ro_nil,coe_ro_own,coe_st,coe_st_agg,coe_rp,coe_rp_ptr,coe_clo,coe_own0,coe_ptr0,coeL_intsK,coeL_rws,coeL_rwn,L_hit,L_miss,L_nil,xx3,ne_eq,reduceCtorEq,not_false_eq_true,true_and,and_true,and_self,exists_eq_left,exists_eq_right,List.mem_cons,List.not_mem_nil,or_false,AObj.row.injEq,AObj.box.injEq,exists_eq_left',exists_and_left,exists_eq,Nat.zero_lt_one,Nat.lt_add_one,List.map_cons,List.map_nil,AObj.ver,xx5,not_true_eq_false];exact hc.coe _ _ _) trivial ?_
    simp only [Bzej,Bzel,w1,hc.dn,go_sem,yz0,xx9,xx8,xx6,xx7,xx5,xx0,xx1,xx2,reduceIte,xx3,xx4,reduceCtorEq]
    refine ⟨fun hp=>?_,fun hp=>⟨i+1,by omega,⟨by omega,?_⟩,rfl⟩⟩
    · rw [hp] at he;simp at he;rw [← he]
    · rw [hp] at he;simpa using he
  · have:i=xs.length:=by omega
    subst this
    rw [List.drop_length] at he
    simp only [fidx] at he
    simp only [Bz1q,Bz6j,Bz6i,Bzen,decide_eq_false hlt,hc.dn,go_sem,yz0,xx9,xx8,xx6,xx7,xx5,xx0,xx1,xx2,reduceIte,xx3,xx4,reduceCtorEq]
    rw [← he]
theorem k_ContainsFunc (xs:List (List Int)) (g:FuncId) (caps:List AVal) (p:List Int→Bool) (hc:Caps caps) (h:∀ x∈xs,Fun Try.prog g (.ro none 1 (ints x) :: caps) (bv (p x))) :
    Fun Try.prog nz2q [.ro none 1 (rwn xs),.clo g caps] (bv (xs.any p)):=by
  refine fun_of mixed czgc rfl ⟨rfl,trivial⟩ ?_
  simp only [Bze9,Azea,hc.dn,go_sem,yz0,xx9,xx8,xx6,xx7,xx5,xx0,xx1,xx2,reduceIte,xx3,xx4,reduceCtorEq]
  intro vs
  refine yz6 (k_IndexFunc xs g caps p hc h) (by simp only [rowIs,boxIs,coe_argN,coe_argNs,coe_ro_o,coeL_nil,coeL_cons,coe_any,coe_val,coe_ro,coe_ro_nil,coe_ro_own,coe_st,coe_st_agg,coe_rp,coe_rp_ptr,coe_clo,coe_own0,coe_ptr0,coeL_intsK,coeL_rws,coeL_rwn,L_hit,L_miss,L_nil,xx3,ne_eq,reduceCtorEq,not_false_eq_true,true_and,and_true,and_self,exists_eq_left,exists_eq_right,List.mem_cons,List.not_mem_nil,or_false,AObj.row.injEq,AObj.box.injEq,exists_eq_left',exists_and_left,exists_eq,Nat.zero_lt_one,Nat.lt_add_one,List.map_cons,List.map_nil,AObj.ver,xx5,not_true_eq_false];exact hc.coe _ _ _) trivial ?_
  simp only [fidx_ge,go_sem,yz0,xx9,xx8,xx6,xx7,xx5,xx0,xx1,xx2,reduceIte,xx3,xx4,reduceCtorEq]
theorem k_IndexFunc2 (xs:List Int) (g:FuncId) (caps:List AVal) (p:Int→Bool) (hc:Caps caps) (h:∀ x∈xs,Fun Try.prog g (iv x :: caps) (bv (p x))) :
    Fun Try.prog nz2x [.ro none 1 (ints xs),.clo g caps] (iv (fidx p xs 0)):=by
  refine fun_of mixed czgj rfl ⟨rfl,trivial⟩ ?_
  simp only [Azf0,Bzez,hc.dn,go_sem,yz0,xx9,xx8,xx6,xx7,xx5,xx0,xx1,xx2,reduceIte,xx3,xx4,reduceCtorEq]
  intro hM
  have hM2:=maxLen_le
  simp only [Bzex,hc.dn,go_sem,yz0,xx9,xx8,xx6,xx7,xx5,xx0,xx1,xx2,reduceIte,xx3,xx4,reduceCtorEq]
  refine wpD_lo (fun i=>xs.length - i) (fun i=>i≤xs.length∧fidx p (xs.drop i) i=fidx p xs 0)
    (fun i:Nat=>⟨L .any [(0,.ro none 1 (ints xs)),(1,.clo g caps),(7,iv xs.length),(8,iv i)],L .gone []⟩) 0 (by simp) (by simp only [Bz1r,hc.dn,go_sem,yz0,xx9,xx8,xx6,xx7,xx5,xx0,xx1,xx2,reduceIte,xx3,xx4,reduceCtorEq];try rfl) ?_
  rintro i ⟨hi,he⟩
  by_cases hlt:(i:Int)<xs.length
  · have hlt':i<xs.length:=by omega
    have w1:IntKind.i64.wrap ((i:Int)+1)=((i+1:Nat):Int):=by rw [w64 (by omega)];simp
    rw [drop_getD hlt' 0] at he
    simp only [fidx] at he
    simp only [Bz1r,Bz6l,Bz6k,Bzev,yz4 hlt',decide_eq_true hlt,hc.dn,go_sem,yz0,xx9,xx8,xx6,xx7,xx5,xx0,xx1,xx2,reduceIte,xx3,xx4,reduceCtorEq]
    intro vs
    refine ⟨⟨by omega,hlt'⟩,hlt',?_⟩
    refine yz6 (h _ (yz2 hlt' 0)) (by simp only [rowIs,boxIs,coe_argN,coe_argNs,coe_ro_o,coeL_nil,coeL_cons,coe_any,coe_val,coe_ro,coe_ro_nil,coe_ro_own,coe_st,coe_st_agg,coe_rp,coe_rp_ptr,coe_clo,coe_own0,coe_ptr0,coeL_intsK,coeL_rws,coeL_rwn,L_hit,L_miss,L_nil,xx3,ne_eq,reduceCtorEq,not_false_eq_true,true_and,and_true,and_self,exists_eq_left,exists_eq_right,List.mem_cons,List.not_mem_nil,or_false,AObj.row.injEq,AObj.box.injEq,exists_eq_left',exists_and_left,exists_eq,Nat.zero_lt_one,Nat.lt_add_one,List.map_cons,List.map_nil,AObj.ver,xx5,not_true_eq_false];exact hc.coe _ _ _) trivial ?_
    simp only [Bzeu,Bzew,w1,hc.dn,go_sem,yz0,xx9,xx8,xx6,xx7,xx5,xx0,xx1,xx2,reduceIte,xx3,xx4,reduceCtorEq]
    refine ⟨fun hp=>?_,fun hp=>⟨i+1,by omega,⟨by omega,?_⟩,rfl⟩⟩
    · rw [hp] at he;simp at he;rw [← he]
    · rw [hp] at he;simpa using he
  · have:i=xs.length:=by omega
    subst this
    rw [List.drop_length] at he
    simp only [fidx] at he
    simp only [Bz1r,Bz6l,Bz6k,Bzey,decide_eq_false hlt,hc.dn,go_sem,yz0,xx9,xx8,xx6,xx7,xx5,xx0,xx1,xx2,reduceIte,xx3,xx4,reduceCtorEq]
    rw [← he]
theorem k_ContainsFunc1 (xs:List Int) (g:FuncId) (caps:List AVal) (p:Int→Bool) (hc:Caps caps) (h:∀ x∈xs,Fun Try.prog g (iv x :: caps) (bv (p x))) :
    Fun Try.prog nz2u [.ro none 1 (ints xs),.clo g caps] (bv (xs.any p)):=by
  refine fun_of mixed czgh rfl ⟨rfl,trivial⟩ ?_
  simp only [Bzeq,Azer,hc.dn,go_sem,yz0,xx9,xx8,xx6,xx7,xx5,xx0,xx1,xx2,reduceIte,xx3,xx4,reduceCtorEq]
  intro vs
  refine yz6 (k_IndexFunc2 xs g caps p hc h) (by simp only [rowIs,boxIs,coe_argN,coe_argNs,coe_ro_o,coeL_nil,coeL_cons,coe_any,coe_val,coe_ro,coe_ro_nil,coe_ro_own,coe_st,coe_st_agg,coe_rp,coe_rp_ptr,coe_clo,coe_own0,coe_ptr0,coeL_intsK,coeL_rws,coeL_rwn,L_hit,L_miss,L_nil,xx3,ne_eq,reduceCtorEq,not_false_eq_true,true_and,and_true,and_self,exists_eq_left,exists_eq_right,List.mem_cons,List.not_mem_nil,or_false,AObj.row.injEq,AObj.box.injEq,exists_eq_left',exists_and_left,exists_eq,Nat.zero_lt_one,Nat.lt_add_one,List.map_cons,List.map_nil,AObj.ver,xx5,not_true_eq_false];exact hc.coe _ _ _) trivial ?_
  simp only [fidx_ge,go_sem,yz0,xx9,xx8,xx6,xx7,xx5,xx0,xx1,xx2,reduceIte,xx3,xx4,reduceCtorEq]
def allIn (xs:List Int) (lo hi:Int):Bool:=xs.all fun x=>decide (lo≤x) && decide (x≤hi)
theorem allIn_iff {xs:List Int} {lo hi:Int}:allIn xs lo hi=true↔∀ x∈xs,lo≤x∧x≤hi:=by simp [allIn]
theorem k_areWithin_1 (n lo hi:Int):Fun Try.prog nzm [iv n,.rp [iv lo] 0,.rp [iv hi] 0] (bv !(decide (lo≤n) && decide (n≤hi))):=by
  refine fun_of mixed czgi rfl ⟨rfl,trivial⟩ ?_
  simp only [Bzes,Azet,go_sem,yz0,xx9,xx8,xx6,xx7,xx5,xx0,xx1,xx2,reduceIte,xx3,xx4,reduceCtorEq]
  intro vs
  refine yz6 (k_within n lo hi) qCS trivial ?_
  simp only [go_sem,yz0,xx9,xx8,xx6,xx7,xx5,xx0,xx1,xx2,reduceIte,xx3,xx4,reduceCtorEq]
theorem k_areWithin (xs:List Int) (lo hi:Int):Fun Try.prog nz2r [.ro none 1 (ints xs),iv lo,iv hi] (bv (allIn xs lo hi)):=by
  refine fun_of mixed czge rfl ⟨rfl,trivial⟩ ?_
  simp only [Bzed,Azee,go_sem,yz0,xx9,xx8,xx6,xx7,xx5,xx0,xx1,xx2,reduceIte,xx3,xx4,reduceCtorEq]
  intro vs vs2
  refine yz6 (k_ContainsFunc1 xs nzm [.rp [iv lo] 0,.rp [iv hi] 0] _ ⟨by simp only [go_sem,yz0,xx9,xx8,xx6,xx7,xx5,xx0,xx1,xx2,reduceIte,xx3,xx4,reduceCtorEq],by intros;simp only [rowIs,boxIs,coe_argN,coe_argNs,coe_ro_o,coeL_nil,coeL_cons,coe_any,coe_val,coe_ro,coe_ro_nil,coe_ro_own,coe_st,coe_st_agg,coe_rp,coe_rp_ptr,coe_clo,coe_own0,coe_ptr0,coeL_intsK,coeL_rws,coeL_rwn,L_hit,L_miss,L_nil,xx3,ne_eq,reduceCtorEq,not_false_eq_true,true_and,and_true,and_self,exists_eq_left,exists_eq_right,List.mem_cons,List.not_mem_nil,or_false,AObj.row.injEq,AObj.box.injEq,exists_eq_left',exists_and_left,exists_eq,Nat.zero_lt_one,Nat.lt_add_one,List.map_cons,List.map_nil,AObj.ver,xx5,not_true_eq_false]⟩ (fun x _=>k_areWithin_1 x lo hi)) qCS trivial ?_
  simp only [go_sem,yz0,xx9,xx8,xx6,xx7,xx5,xx0,xx1,xx2,reduceIte,xx3,xx4,reduceCtorEq]
  congr 2
  simp only [allIn,List.all_eq_not_any_not]
abbrev autA (n:Int) (next:List (List Int)):AVal:=.st [iv n,.ro none 1 (rwn next)]
abbrev autP (n:Int) (next:List (List Int)):AVal:=.rp [iv n,.ro none 1 (rwn next)] 0
def autB (n:Int) (next:List (List Int)):Bool:=(decide (1≤n) && decide (n≤10)) && ((decide (1≤(next.length:Int)) && decide ((next.length:Int)≤3)) && next.all fun row=>decide ((row.length:Int)=n) && allIn row 0 (n - 1))
theorem autB_iff {n:Int} {next:List (List Int)}:autB n next=true↔Aut n next:=by
  simp only [autB,Bool.and_eq_true,decide_eq_true_eq,List.all_eq_true,allIn_iff]
  constructor
  · rintro ⟨⟨h1,h2⟩,⟨h3,h4⟩,h5⟩
    exact ⟨h1,h2,by omega,by omega,fun row hr=>⟨(h5 row hr).1,fun x hx=>by have:=(h5 row hr).2 x hx;omega⟩⟩
  · rintro ⟨h1,h2,h3,h4,h5⟩
    exact ⟨⟨h1,h2⟩,⟨by omega,by omega⟩,fun row hr=>⟨(h5 row hr).1,fun x hx=>by have:=(h5 row hr).2 x hx;omega⟩⟩
theorem k_letters (n:Int) (next:List (List Int)):Fun Try.prog nz26 [autA n next] (iv next.length):=by
  refine fun_of mixed czfk rfl ⟨rfl,trivial⟩ ?_
  simp only [Bza6,Aza7,go_sem,yz0,xx9,xx8,xx6,xx7,xx5,xx0,xx1,xx2,reduceIte,xx3,xx4,reduceCtorEq]
  intro vs vs2
  refine yz6 (k_size1 next) qCS trivial ?_
  simp only [go_sem,yz0,xx9,xx8,xx6,xx7,xx5,xx0,xx1,xx2,reduceIte,xx3,xx4,reduceCtorEq]
theorem k_Valid_1 (row:List Int) (n:Int) (next:List (List Int)) (hn:1≤n∧n≤10):Fun Try.prog nzl [.ro none 1 (ints row),autP n next] (bv !(decide ((row.length:Int)=n) && allIn row 0 (n - 1))):=by
  refine fun_of mixed czgd rfl ⟨rfl,trivial⟩ ?_
  have w:IntKind.i64.wrap (n - 1)=n - 1:=w64 (by omega)
  simp only [Bzeb,Azec,w,go_sem,yz0,xx9,xx8,xx6,xx7,xx5,xx0,xx1,xx2,reduceIte,xx3,xx4,reduceCtorEq]
  intro vs
  refine yz6 (k_size row) qCS trivial ?_
  by_cases h:(row.length:Int)=n
  · have h2:((row.length:Int) != n)=false:=by simp [h]
    simp only [h2,w,go_sem,yz0,xx9,xx8,xx6,xx7,xx5,xx0,xx1,xx2,reduceIte,xx3,xx4,reduceCtorEq]
    refine yz6 (k_areWithin row 0 (n - 1)) qCS trivial ?_
    simp only [go_sem,yz0,xx9,xx8,xx6,xx7,xx5,xx0,xx1,xx2,reduceIte,xx3,xx4,reduceCtorEq]
    simp [h]
  · have h2:((row.length:Int) != n)=true:=by simp [h]
    simp only [h2,go_sem,yz0,xx9,xx8,xx6,xx7,xx5,xx0,xx1,xx2,reduceIte,xx3,xx4,reduceCtorEq]
    simp [h]
theorem k_Valid (n:Int) (next:List (List Int)):Fun Try.prog nz2m [autA n next] (bv (autB n next)):=by
  refine fun_of mixed czg6 rfl ⟨rfl,trivial⟩ ?_
  simp only [Bzdk,Azdl,go_sem,yz0,xx9,xx8,xx6,xx7,xx5,xx0,xx1,xx2,reduceIte,xx3,xx4,reduceCtorEq]
  intro vs vs2
  refine yz6 (k_within n 1 10) qCS trivial ?_
  by_cases hn:1≤n∧n≤10
  · have h1:(decide (1≤n) && decide (n≤10))=true:=by simp [hn]
    simp only [h1,go_sem,yz0,xx9,xx8,xx6,xx7,xx5,xx0,xx1,xx2,reduceIte,xx3,xx4,reduceCtorEq]
    refine yz6 (k_letters n next) qCS trivial ?_
    simp only [go_sem,yz0,xx9,xx8,xx6,xx7,xx5,xx0,xx1,xx2,reduceIte,xx3,xx4,reduceCtorEq]
    refine yz6 (k_within next.length 1 3) qCS trivial ?_
    by_cases hl:1≤(next.length:Int)∧(next.length:Int)≤3
    · have h2:(decide (1≤(next.length:Int)) && decide ((next.length:Int)≤3))=true:=by simp only [decide_eq_true hl.1,decide_eq_true hl.2,Bool.and_self]
      simp only [h2,go_sem,yz0,xx9,xx8,xx6,xx7,xx5,xx0,xx1,xx2,reduceIte,xx3,xx4,reduceCtorEq]
      refine yz6 (k_ContainsFunc next nzl [autP n next] _ ⟨by simp only [go_sem,yz0,xx9,xx8,xx6,xx7,xx5,xx0,xx1,xx2,reduceIte,xx3,xx4,reduceCtorEq],by intros;simp only [rowIs,boxIs,coe_argN,coe_argNs,coe_ro_o,coeL_nil,coeL_cons,coe_any,coe_val,coe_ro,coe_ro_nil,coe_ro_own,coe_st,coe_st_agg,coe_rp,coe_rp_ptr,coe_clo,coe_own0,coe_ptr0,coeL_intsK,coeL_rws,coeL_rwn,L_hit,L_miss,L_nil,xx3,ne_eq,reduceCtorEq,not_false_eq_true,true_and,and_true,and_self,exists_eq_left,exists_eq_right,List.mem_cons,List.not_mem_nil,or_false,AObj.row.injEq,AObj.box.injEq,exists_eq_left',exists_and_left,exists_eq,Nat.zero_lt_one,Nat.lt_add_one,List.map_cons,List.map_nil,AObj.ver,xx5,not_true_eq_false]⟩ (fun x _=>k_Valid_1 x n next hn)) qCS trivial ?_
      simp only [go_sem,yz0,xx9,xx8,xx6,xx7,xx5,xx0,xx1,xx2,reduceIte,xx3,xx4,reduceCtorEq]
      simp only [autB,h1,h2,Bool.true_and]
      congr 2
      simp only [List.all_eq_not_any_not]
    · have h2:(decide (1≤(next.length:Int)) && decide ((next.length:Int)≤3))=false:=by
        rw [Bool.and_eq_false_iff]
        by_cases h3:1≤(next.length:Int)
        · right;simp;omega
        · left;simp;omega
      simp only [h2,go_sem,yz0,xx9,xx8,xx6,xx7,xx5,xx0,xx1,xx2,reduceIte,xx3,xx4,reduceCtorEq]
      simp only [autB,h1,h2,Bool.true_and,Bool.false_and]
  · have h1:(decide (1≤n) && decide (n≤10))=false:=by
      rw [Bool.and_eq_false_iff]
      by_cases h3:1≤n
      · right;simp;omega
      · left;simp;omega
    simp only [h1,go_sem,yz0,xx9,xx8,xx6,xx7,xx5,xx0,xx1,xx2,reduceIte,xx3,xx4,reduceCtorEq]
    simp only [autB,h1,Bool.false_and]
def codeI (valid right:Bool):Int:=if valid then (if right then 0 else 2) else 1
theorem k_code (n:Int) (next:List (List Int)) (g:FuncId) (caps:List AVal) (r:Bool) (hc:Caps caps) (h:autB n next=true→Fun Try.prog g caps (bv r)) :
    Fun Try.prog nz2c [autA n next,.clo g caps] (iv (codeI (autB n next) r)):=by
  refine fun_of mixed czfr rfl ⟨rfl,trivial⟩ ?_
  simp only [Azbi,Bzbh,hc.dn,go_sem,yz0,xx9,xx8,xx6,xx7,xx5,xx0,xx1,xx2,reduceIte,xx3,xx4,reduceCtorEq]
  intro vs vs2
  refine yz6 (k_Valid n next) qCS trivial ?_
  simp only [Bzbf,hc.dn,go_sem,yz0,xx9,xx8,xx6,xx7,xx5,xx0,xx1,xx2,reduceIte,xx3,xx4,reduceCtorEq]
  cases hv:autB n next with
  | false =>
    simp only [codeI,go_sem,yz0,xx9,xx8,xx6,xx7,xx5,xx0,xx1,xx2,reduceIte,xx3,xx4,reduceCtorEq]
  | true =>
    simp only [go_sem,yz0,xx9,xx8,xx6,xx7,xx5,xx0,xx1,xx2,reduceIte,xx3,xx4,reduceCtorEq]
    intro vs3
    refine yz6 (h hv) (hc.coe _ _ _) trivial ?_
    simp only [Bzbe,Bzbg,go_sem,yz0,xx9,xx8,xx6,xx7,xx5,xx0,xx1,xx2,reduceIte,xx3,xx4,reduceCtorEq]
    cases r <;> simp [codeI]
def stepA (next:List (List Int)) (s l:Int):Int:=(next.getD l.toNat []).getD s.toNat 0
def atA (next:List (List Int)) (s:Int) (w:List Int):Int:=w.foldl (stepA next) s
def IsW (l:Nat) (w:List Int):Prop:=∀ x∈w,0≤x∧x<l
theorem Aut.step {n:Int} {next:List (List Int)} (A:Aut n next) {s l:Int} (hs:0≤s∧s<n) (hl:0≤l∧l<next.length) :
    l.toNat<next.length∧s.toNat<(next.getD l.toNat []).length∧0≤stepA next s l∧stepA next s l<n:=by
  have h1:l.toNat<next.length:=by omega
  have h2:=A.row _ (yz2 h1 [])
  have h3:s.toNat<(next.getD l.toNat []).length:=by omega
  exact ⟨h1,h3,h2.2 _ (yz2 h3 0)⟩
theorem Aut.at {n:Int} {next:List (List Int)} (A:Aut n next):∀ {w:List Int} {s:Int},0≤s∧s<n→IsW next.length w→0≤atA next s w∧atA next s w<n
  | [],s,hs,_=>hs
  | l :: w,s,hs,hw=>A.at (w:=w) (A.step hs (hw l (by simp))).2.2 fun x hx=>hw x (by simp [hx])
end Go.Ab
namespace Go.Ab
open Go.Proofs
theorem k_l01Map (xs:List Int) (n:Int) (hn:0≤n∧n≤1000000):Fun Try.prog nz28 [.ro none 1 (ints xs),iv n] (bv (allIn xs 0 (n - 1) && decide ((xs.length:Int)=n))):=by
  refine fun_of mixed czfn rfl ⟨rfl,trivial⟩ ?_
  have w0:IntKind.i64.wrap (n - 1)=n - 1:=w64 (by omega)
  simp only [Azak,Bzaj,Bzah,go_sem,yz0,xx9,xx8,xx6,xx7,xx5,xx0,xx1,xx2,reduceIte,xx3,xx4,reduceCtorEq]
  refine wpD_lo (fun i=>xs.length - i) (fun i=>i≤xs.length∧allIn (xs.drop i) 0 (n - 1)=allIn xs 0 (n - 1))
    (fun i:Nat=>⟨L .any [(0,.ro none 1 (ints xs)),(1,iv n),(5,iv i)],L .gone []⟩) 0 (by simp) (by simp only [Bz14,go_sem,yz0,xx9,xx8,xx6,xx7,xx5,xx0,xx1,xx2,reduceIte,xx3,xx4,reduceCtorEq];try rfl) ?_
  rintro i ⟨hi,he⟩
  have hM2:=maxLen_le
  by_cases hlt:(i:Int)<xs.length
  · have hlt':i<xs.length:=by omega
    simp only [Bz14,Bz50,Bz51,yz4 hlt',w0,decide_eq_true hlt,go_sem,yz0,xx9,xx8,xx6,xx7,xx5,xx0,xx1,xx2,reduceIte,xx3,xx4,reduceCtorEq]
    intro hM vs
    refine ⟨⟨by omega,hlt'⟩,hlt',?_⟩
    refine yz6 (k_l00In (xs.getD i 0) 0 (n - 1)) qCS trivial ?_
    have w1:IntKind.i64.wrap ((i:Int)+1)=((i+1:Nat):Int):=by rw [w64 (by omega)];simp
    rw [drop_getD hlt' 0] at he
    simp only [allIn,List.all_cons] at he
    simp only [Bzaf,Bzag,w1,go_sem,yz0,xx9,xx8,xx6,xx7,xx5,xx0,xx1,xx2,reduceIte,xx3,xx4,reduceCtorEq]
    refine ⟨fun hp=>?_,fun hp=>⟨i+1,by omega,⟨by omega,?_⟩,rfl⟩⟩
    · rw [Bool.not_eq_true'] at hp
      rw [hp] at he
      simp only [allIn,← he,Bool.false_and]
    · rw [Bool.not_eq_false'] at hp
      rw [hp] at he
      simpa [allIn] using he
  · have:i=xs.length:=by omega
    subst this
    rw [List.drop_length] at he
    simp only [Bz14,Bz50,Bz51,Bzai,decide_eq_false hlt,go_sem,yz0,xx9,xx8,xx6,xx7,xx5,xx0,xx1,xx2,reduceIte,xx3,xx4,reduceCtorEq]
    intro _ _
    rw [← he]
    simp [allIn]
    rfl
theorem k_l01Ok (n:Int) (next:List (List Int)):Fun Try.prog nz1y [autP n next] (bv (autB n next)):=by
  refine fun_of mixed czfc rfl ⟨rfl,trivial⟩ ?_
  simp only [Az8c,Bz8b,go_sem,yz0,xx9,xx8,xx6,xx7,xx5,xx0,xx1,xx2,reduceIte,xx3,xx4,reduceCtorEq]
  intro vs
  refine yz6 (k_l00In n 1 10) qCS trivial ?_
  by_cases hn:1≤n∧n≤10
  · have h1:(decide (1≤n) && decide (n≤10))=true:=by simp [hn]
    simp only [h1,go_sem,yz0,xx9,xx8,xx6,xx7,xx5,xx0,xx1,xx2,reduceIte,xx3,xx4,reduceCtorEq]
    intro hM
    refine yz6 (k_l00In next.length 1 3) qCS trivial ?_
    by_cases hl:1≤(next.length:Int)∧(next.length:Int)≤3
    · have h2:(decide (1≤(next.length:Int)) && decide ((next.length:Int)≤3))=true:=by simp only [decide_eq_true hl.1,decide_eq_true hl.2,Bool.and_self]
      simp only [h2,Bzt,Bz8a,Bz88,go_sem,yz0,xx9,xx8,xx6,xx7,xx5,xx0,xx1,xx2,reduceIte,xx3,xx4,reduceCtorEq]
      have hB:autB n next=next.all fun row=>decide ((row.length:Int)=n) && allIn row 0 (n - 1):=by simp only [autB,h1,h2,Bool.true_and]
      refine wpD_lo (fun i=>next.length - i) (fun i=>i≤next.length∧((next.drop i).all fun row=>decide ((row.length:Int)=n) && allIn row 0 (n - 1))=autB n next)
        (fun i:Nat=>⟨L .any [(0,autP n next),(3,iv i)],L .gone []⟩) 0 (by simp [hB]) (by simp only [Bzu,go_sem,yz0,xx9,xx8,xx6,xx7,xx5,xx0,xx1,xx2,reduceIte,xx3,xx4,reduceCtorEq];try rfl) ?_
      rintro i ⟨hi,he⟩
      by_cases hlt:(i:Int)<next.length
      · have hlt':i<next.length:=by omega
        have w1:IntKind.i64.wrap ((i:Int)+1)=((i+1:Nat):Int):=by rw [w64 (by omega)];simp
        simp only [Bzu,Bz4g,Bz4h,rwn_getD hlt',decide_eq_true hlt,go_sem,yz0,xx9,xx8,xx6,xx7,xx5,xx0,xx1,xx2,reduceIte,xx3,xx4,reduceCtorEq]
        intro _ vs2
        refine ⟨⟨by omega,hlt'⟩,hlt',?_⟩
        refine yz6 (k_l01Map (next.getD i []) n (by omega)) qCS trivial ?_
        rw [drop_getD hlt' []] at he
        simp only [List.all_cons] at he
        simp only [Bz86,Bz87,w1,go_sem,yz0,xx9,xx8,xx6,xx7,xx5,xx0,xx1,xx2,reduceIte,xx3,xx4,reduceCtorEq]
        refine ⟨fun hp=>?_,fun hp=>⟨i+1,by omega,⟨by omega,?_⟩,rfl⟩⟩
        · rw [Bool.not_eq_true',Bool.and_comm] at hp
          rw [hp] at he
          rw [← he];rfl
        · rw [Bool.not_eq_false',Bool.and_comm] at hp
          rw [hp] at he
          simpa using he
      · have:i=next.length:=by omega
        subst this
        rw [List.drop_length] at he
        simp only [Bzu,Bz4g,Bz4h,Bz89,decide_eq_false hlt,go_sem,yz0,xx9,xx8,xx6,xx7,xx5,xx0,xx1,xx2,reduceIte,xx3,xx4,reduceCtorEq]
        intro _
        rw [← he];rfl
    · have h2:(decide (1≤(next.length:Int)) && decide ((next.length:Int)≤3))=false:=by
        rw [Bool.and_eq_false_iff]
        by_cases h3:1≤(next.length:Int)
        · right;simp;omega
        · left;simp;omega
      simp only [h2,Bzt,go_sem,yz0,xx9,xx8,xx6,xx7,xx5,xx0,xx1,xx2,reduceIte,xx3,xx4,reduceCtorEq]
      simp only [autB,h1,h2,Bool.true_and,Bool.false_and]
  · have h1:(decide (1≤n) && decide (n≤10))=false:=by
      rw [Bool.and_eq_false_iff]
      by_cases h3:1≤n
      · right;simp;omega
      · left;simp;omega
    simp only [h1,Bzt,go_sem,yz0,xx9,xx8,xx6,xx7,xx5,xx0,xx1,xx2,reduceIte,xx3,xx4,reduceCtorEq]
    simp only [autB,h1,Bool.false_and]
def allS (n:Int):List Int:=(List.range n.toNat).map fun (s:Nat)=>(s:Int)
theorem k_Clone (xs:List Int) (h:xs.length * 8≤140737488355328):RowI Try.prog nzk [.ro (argN xs) 1 (ints xs)] (fun ys=>ys=xs):=by
  refine rowI_of mixed czga rfl ?_
  simp only [Bzdz,Bze0,Bze1,Aze2,go_sem,yz0,xx9,xx8,xx6,xx7,xx5,xx0,xx1,xx2,reduceIte,xx3,xx4,reduceCtorEq]
  intro vs
  exact ⟨h,_,_,xs,by omega,rfl,by simp only [go_sem,yz0,xx9,xx8,xx6,xx7,xx5,xx0,xx1,xx2,reduceIte,xx3,xx4,reduceCtorEq],rfl⟩
end Go.Ab
namespace Go.Ab
open Go.Proofs
theorem nat1 (i:Nat) (m:Nat) (h:i<m) (hm:m≤maxLen):IntKind.i64.wrap ((i:Int)+1)=((i+1:Nat):Int):=by
  have:=maxLen_le
  rw [w64 (by omega)];simp
theorem take_eq_step {α:Type} [BEq α] {xs ys:List α} {i:Nat} (d:α) (h:i<xs.length) (h':i<ys.length) (he:xs.take i=ys.take i) (hx:xs.getD i d=ys.getD i d):xs.take (i+1)=ys.take (i+1):=by
  rw [List.getD_eq_getElem?_getD,List.getD_eq_getElem?_getD,List.getElem?_eq_getElem h,List.getElem?_eq_getElem h'] at hx
  simp only [Option.getD_some] at hx
  rw [List.take_add_one,List.take_add_one,he,List.getElem?_eq_getElem h,List.getElem?_eq_getElem h',hx]
theorem bne_false_eq {a b:Int} (h:(a != b)=false):a=b:=by simpa using h
end Go.Ab
