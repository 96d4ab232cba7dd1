/- Contracts and what they lean on, part 6. Conditions: none. -/
import Derived.Test.YtooaiipmcegplaaChecked
import Derived.Test.YtooaiipmcegplaaZ5
set_option maxRecDepth 100000
set_option maxHeartbeats 4000000
set_option linter.all false
open Nat renaming reduceLeDiff → xx0, reduceMul → xx1, reduceSub → xx2, reduceEqDiff → xx3, reduceAdd → xx4, reduceLT → xx5
open Int renaming reduceToNat → xx6, reduceNeg → xx7, reduceLE → xx8, reduceLT → xx9
namespace Go.Ab
open Go.Proofs
theorem mixed:Try.prog.follows .mixedOrders=true:=by kernel_rfl
abbrev n_main_main:FuncId:=0
abbrev n_gosem_cut:FuncId:=1
abbrev n_gosem_cut_init:FuncId:=2
abbrev nzg6:FuncId:=3
abbrev nz5t:FuncId:=4
abbrev nzg7:FuncId:=5
abbrev nz1p:FuncId:=6
abbrev nzg8:FuncId:=7
abbrev nz0:FuncId:=8
abbrev nzg9:FuncId:=9
abbrev nze:FuncId:=10
abbrev nz1q:FuncId:=11
abbrev nzga:FuncId:=12
abbrev nzgb:FuncId:=13
abbrev nzgc:FuncId:=14
abbrev nz1r:FuncId:=15
abbrev nz1:FuncId:=16
abbrev nz1s:FuncId:=17
abbrev nzgd:FuncId:=18
abbrev nzge:FuncId:=19
abbrev nz1t:FuncId:=20
abbrev nz1u:FuncId:=21
abbrev nz1v:FuncId:=22
abbrev nz1w:FuncId:=23
abbrev nz1x:FuncId:=24
abbrev nz1y:FuncId:=25
abbrev nz1z:FuncId:=26
abbrev nz20:FuncId:=27
abbrev nzgf:FuncId:=28
abbrev nz21:FuncId:=29
abbrev nz22:FuncId:=30
abbrev nz23:FuncId:=31
abbrev nzgg:FuncId:=32
abbrev nzgh:FuncId:=33
abbrev nzgi:FuncId:=34
abbrev nzgj:FuncId:=35
abbrev nzgk:FuncId:=36
abbrev nz24:FuncId:=37
abbrev nzgl:FuncId:=38
abbrev nzgm:FuncId:=39
abbrev nzgn:FuncId:=40
abbrev nz25:FuncId:=41
abbrev nz2:FuncId:=42
abbrev nz26:FuncId:=43
abbrev nz27:FuncId:=44
abbrev nz28:FuncId:=45
abbrev nz29:FuncId:=46
abbrev nz2a:FuncId:=47
abbrev nzf:FuncId:=48
abbrev nz2b:FuncId:=49
abbrev nz2c:FuncId:=50
abbrev nz2d:FuncId:=51
abbrev nz2e:FuncId:=52
abbrev nz2f:FuncId:=53
abbrev nzgo:FuncId:=54
abbrev nz2g:FuncId:=55
abbrev nz2h:FuncId:=56
abbrev nzgp:FuncId:=57
abbrev nzgq:FuncId:=58
abbrev nzgr:FuncId:=59
abbrev nzgs:FuncId:=60
abbrev nz2i:FuncId:=61
abbrev nz2j:FuncId:=62
abbrev nz2k:FuncId:=63
abbrev nz2l:FuncId:=64
abbrev nz3:FuncId:=65
abbrev nzg:FuncId:=66
abbrev nz2m:FuncId:=67
abbrev nz2n:FuncId:=68
abbrev nzh:FuncId:=69
abbrev nz2o:FuncId:=70
abbrev nzgt:FuncId:=71
abbrev nzgu:FuncId:=72
abbrev nz2p:FuncId:=73
abbrev nzi:FuncId:=74
abbrev nz2q:FuncId:=75
abbrev nz2r:FuncId:=76
abbrev nzgv:FuncId:=77
abbrev nz2s:FuncId:=78
abbrev nz2t:FuncId:=79
abbrev nzj:FuncId:=80
abbrev nz2u:FuncId:=81
abbrev nz2v:FuncId:=82
abbrev nz2w:FuncId:=83
abbrev nzgw:FuncId:=84
abbrev n_math_bits_Len:FuncId:=85
abbrev nzgx:FuncId:=86
abbrev nzgy:FuncId:=87
abbrev nzgz:FuncId:=88
abbrev nzh0:FuncId:=89
abbrev nzh1:FuncId:=90
abbrev nzh2:FuncId:=91
abbrev nzh3:FuncId:=92
abbrev nzh4:FuncId:=93
abbrev nzh5:FuncId:=94
abbrev n_math_bits_Len32:FuncId:=95
abbrev n_math_bits_Len64:FuncId:=96
abbrev nzh6:FuncId:=97
abbrev nzh7:FuncId:=98
abbrev nzh8:FuncId:=99
abbrev nzh9:FuncId:=100
abbrev nzha:FuncId:=101
abbrev nzhb:FuncId:=102
abbrev n_runtime_boundsError_Error:FuncId:=103
abbrev n_runtime_boundsError_RuntimeError:FuncId:=104
abbrev n_runtime_errorString_Error:FuncId:=105
abbrev n_runtime_errorString_RuntimeError:FuncId:=106
abbrev n_runtime_plainError_Error:FuncId:=107
abbrev n_runtime_plainError_RuntimeError:FuncId:=108
abbrev n_runtime_errorAddressString_Error:FuncId:=109
abbrev n_runtime_errorAddressString_RuntimeError:FuncId:=110
abbrev n_runtime_TypeAssertionError_Error:FuncId:=111
abbrev n_runtime_TypeAssertionError_RuntimeError:FuncId:=112
abbrev n_runtime_PanicNilError_Error:FuncId:=113
abbrev n_runtime_PanicNilError_RuntimeError:FuncId:=114
abbrev n_internal_abi_Type_Align:FuncId:=115
abbrev n_internal_runtime_maps_unhashableTypeError_Error:FuncId:=116
abbrev n_internal_runtime_maps_unhashableTypeError_RuntimeError:FuncId:=117
abbrev nzhc:FuncId:=118
abbrev n_internal_abi_Kind_String:FuncId:=119
def Bz2x:AC:=(.kp [1,2,14] [2,5000,5001] (.dn (.cond (.t 14) (.seq (.reg false [⟨(some 4),none,.i (.mov (.c (.bool true)))⟩]) (.dn .ret)) .skip)))
def Bz2y:AC:=(.kp [1,2,19] [2,5000,5001] (.dn (.cond (.t 19) (.seq (.reg false [⟨(some 4),none,.i (.mov (.c (.bool true)))⟩]) (.dn .ret)) .skip)))
def Bz5u:AC:=(.kp [1,2,8,9,45] [2,8,29,31,5000,5001] (.dn (.cond (.t 45) (.seq (.reg false [⟨(some 4),none,.i (.mov (.c (.bool false)))⟩]) (.dn .ret)) .skip)))
def Bz5v:AC:=(.kp [1,9,50] [31,5000,5001] (.dn (.cond (.t 50) (.seq (.reg false [⟨(some 4),none,.i (.mov (.c (.bool false)))⟩]) (.dn .ret)) .skip)))
def Bz5w:AC:=(.kp [55] [5000,5001] (.dn (.cond (.t 55) (.seq (.reg false [⟨(some 4),none,.i (.mov (.c (.bool false)))⟩]) (.dn .ret)) .skip)))
def Bz5x:AC:=(.kp [] [5000,5001] (.dn (.seq (.reg false [⟨(some 4),none,.i (.mov (.c (.bool true)))⟩]) (.dn .ret))))
def Bz5y:AC:=(.kp [1,9] [31,5000,5001] (.dn (.seq (.seq (.reg false [⟨(some 51),none,.i (.mov (.t 9))⟩,⟨(some 52),none,.i (.mov (.t 1))⟩,⟨(some 53),none,.call nz1 [(.t 52)]⟩,⟨(some 54),none,.call nze [(.t 51),(.t 53)]⟩,⟨(some 55),none,.i (.un .not (.t 54))⟩]) Bz5w) Bz5x)))
def Bz5z:AC:=(.kp [1,2,8,9] [2,8,29,31,5000,5001] (.dn (.seq (.seq (.reg true [⟨(some 46),none,.i (.lda 2 (.t 8))⟩,⟨(some 47),none,.i (.lda 2 (.t 2))⟩,⟨(some 48),none,.call nz0 [(.t 47)]⟩,⟨(some 49),none,.calh nz1q [(.t 46),(.t 48)]⟩,⟨(some 50),none,.i (.un .not (.t 49))⟩]) Bz5v) Bz5y)))
def Bz60:AC:=(.kp [1,2,6,7,8,9,10,11] [2,8,29,31,5000,5001] (.dn (.seq (.seq (.reg false [⟨(some 38),none,.i (.mov (.t 10))⟩,⟨(some 39),none,.i (.mov (.t 6))⟩,⟨(some 40),none,.i (.bin .neq (.t 38) (.t 39))⟩,⟨(some 41),none,.i (.mov (.t 40))⟩,⟨(some 42),(some (41,false)),.i (.mov (.t 11))⟩,⟨(some 43),(some (41,false)),.i (.mov (.t 7))⟩,⟨(some 44),(some (41,false)),.i (.bin .neq (.t 42) (.t 43))⟩,⟨(some 45),none,.i (.pick (.t 41) (.c (.bool true)) (.t 44))⟩]) Bz5u) Bz5z)))
def Bz61:AC:=(.kp [1,2,6,7,8,9] [2,8,29,31,5000,5001] (.dn (.seq (.reg false [⟨(some 33),none,.i (.lda 2 (.t 8))⟩,⟨(some 34),none,.i (.mov (.t 9))⟩,⟨(some 35),none,.call nz1s [(.t 33),(.t 34)]⟩,⟨(some 32),none,.i (.mov (.t 35))⟩,⟨(some 36),none,.i (.ext 0 (.t 32))⟩,⟨(some 37),none,.i (.ext 1 (.t 32))⟩,⟨(some 10),none,.i (.mov (.t 36))⟩,⟨(some 11),none,.i (.mov (.t 37))⟩]) Bz60)))
def Bz62:AC:=(.kp [1,2,6,7,8] [2,8,29,5000,5001] (.dn (.seq (.reg false [⟨(some 30),none,.i (.mov (.t 1))⟩,⟨(some 31),none,.call nz1 [(.t 30)]⟩,⟨(some 9),none,.i (.mov (.t 31))⟩]) Bz61)))
def Bz63:AC:=(.kp [1,2,6,7] [2,5000,5001] (.dn (.seq (.reg false [⟨(some 28),none,.i (.lda 2 (.t 2))⟩,⟨(some 29),none,.call nz0 [(.t 28)]⟩,⟨(some 8),none,.i (.new [.int .i64 0,.slice none 0 0])⟩,⟨none,none,.i (.sto 2 (.t 8) (.t 29))⟩]) Bz62)))
def Bz64:AC:=(.kp [1,2] [2,5000,5001] (.dn (.seq (.reg false [⟨(some 21),none,.i (.lda 2 (.t 2))⟩,⟨(some 22),none,.call nz0 [(.t 21)]⟩,⟨(some 23),none,.i (.mov (.t 1))⟩,⟨(some 24),none,.call nz1 [(.t 23)]⟩,⟨(some 25),none,.call nz1r [(.t 22),(.t 24)]⟩,⟨(some 20),none,.i (.mov (.t 25))⟩,⟨(some 26),none,.i (.ext 0 (.t 20))⟩,⟨(some 27),none,.i (.ext 1 (.t 20))⟩,⟨(some 6),none,.i (.mov (.t 26))⟩,⟨(some 7),none,.i (.mov (.t 27))⟩]) Bz63)))
def Bz2z:AC:=(.kp [1,2,5] [2,5000,5001] (.dn (.seq (.seq (.reg false [⟨(some 18),none,.i (.mov (.t 5))⟩,⟨(some 19),none,.i (.bin .lss (.t 18) (.c (.int .i64 0)))⟩]) Bz2y) Bz64)))
def Bz65:AC:=(.kp [1,2,5] [2,5000,5001] (.dn (.seq (.reg false [⟨(some 15),none,.i (.lda 2 (.t 2))⟩,⟨(some 16),none,.i (.mov (.t 5))⟩,⟨(some 17),none,.call nz1p [(.t 15),(.t 16)]⟩,⟨(some 5),none,.i (.mov (.t 17))⟩]) Bz2z)))
def Bz66:AC:=(.kp [1,2] [2,5000,5001] (.dn (.seq (.reg false [⟨(some 5),none,.i (.mov (.c (.int .i64 1048576)))⟩]) Bz65)))
def Bz67:AC:=(.kp [1,2] [2,5000,5001] (.dn (.seq (.seq (.reg false [⟨(some 12),none,.i (.mov (.t 1))⟩,⟨(some 13),none,.i (.len (.t 12))⟩,⟨(some 14),none,.i (.bin .gtr (.t 13) (.c (.int .i64 1048576)))⟩]) Bz2x) Bz66)))
def Az68:AFn:=⟨56,2,(.seq (.reg false [⟨(some 2),none,.i (.box (.t 0))⟩,⟨(some 4),none,.i (.mov (.c (.bool false)))⟩]) Bz67),[.tmp 4]⟩
theorem czem:cFn (drV none) Try.prog nz5t Az68:=⟨_,_,Try.func4,rfl,by kernel_rfl,by decide,rfl,by kernel_rfl,by kernel_rfl⟩
def Bz30:AC:=(.kp [1,10] [5000,5001] (.dn (.cond (.t 10) (.seq (.reg false [⟨(some 4),none,.i (.mov (.c (.int .i64 (-1))))⟩]) (.dn .ret)) .skip)))
def Bz69:AC:=(.kp [1] [5000,5001] (.dn (.seq (.reg false [⟨(some 11),none,.i (.mov (.t 1))⟩,⟨(some 4),none,.i (.mov (.t 11))⟩]) (.dn .ret))))
def Bz31:AC:=(.kp [1] [5000,5001] (.dn (.seq (.seq (.reg false [⟨(some 9),none,.i (.mov (.t 1))⟩,⟨(some 10),none,.i (.bin .lss (.t 9) (.c (.int .i64 0)))⟩]) Bz30) Bz69)))
def Bz6a:AC:=(.kp [1,2] [2,5000,5001] (.dn (.seq (.reg false [⟨(some 5),none,.i (.fad 1 (.t 2))⟩,⟨(some 6),none,.i (.ld (.t 5))⟩,⟨(some 7),none,.i (.mov (.t 1))⟩,⟨(some 8),none,.call nz1t [(.t 6),(.t 7)]⟩,⟨(some 1),none,.i (.mov (.t 8))⟩]) Bz31)))
def Az6b:AFn:=⟨12,2,(.seq (.reg false [⟨(some 2),none,.i (.box (.t 0))⟩,⟨(some 4),none,.i (.mov (.c (.int .i64 0)))⟩]) Bz6a),[.tmp 4]⟩
theorem czen:cFn (drV none) Try.prog nz1p Az6b:=⟨_,_,Try.func6,rfl,by kernel_rfl,by decide,rfl,by kernel_rfl,by kernel_rfl⟩
def Bz6c:AC:=(.kp [2,3] [1,2,3,9,5000] (.seq (.regi false [⟨(some 11),none,.i (.lda 2 (.t 3))⟩,⟨none,none,.i (.sto 2 (.t 2) (.t 11))⟩]) .ret))
def Bz6d:AC:=(.kp [1,2,3] [1,2,3,9,5000] (.seq (.regi false [⟨(some 7),none,.i (.fad 1 (.t 1))⟩,⟨(some 8),none,.i (.ld (.t 7))⟩,⟨(some 9),none,.call nz1x [(.t 8)]⟩,⟨(some 10),none,.i (.fad 1 (.t 3))⟩,⟨none,none,.i (.sto 1 (.t 10) (.t 9))⟩]) Bz6c))
def Bz6e:AC:=(.kp [1,2,3] [1,2,3,9,5000] (.seq (.regi false [⟨(some 4),none,.i (.fad 0 (.t 1))⟩,⟨(some 5),none,.i (.ld (.t 4))⟩,⟨(some 6),none,.i (.fad 0 (.t 3))⟩,⟨none,none,.i (.sto 1 (.t 6) (.t 5))⟩]) Bz6d))
def Bz6f:AC:=(.kp [1,2] [1,2,3,9,5000] (.seq (.regi false [⟨(some 3),none,.i (.new [.int .i64 0,.slice none 0 0])⟩]) Bz6e))
def Az6g:AFn:=⟨12,1,(.seq (.regi false [⟨(some 1),none,.i (.box (.t 0))⟩,⟨(some 2),none,.i (.new [.int .i64 0,.slice none 0 0])⟩]) Bz6f),[.cell (some 2) 2]⟩
theorem czeo:cFn (drV none) Try.prog nz0 Az6g:=⟨_,_,Try.func8,rfl,by kernel_rfl,by decide,rfl,by kernel_rfl,by kernel_rfl⟩
def Bz32:AC:=(.kp [0,1,10] [5000,5001] (.dn (.cond (.t 10) (.seq (.reg false [⟨(some 4),none,.i (.mov (.c (.bool false)))⟩]) (.dn .ret)) .skip)))
def Bz33:AC:=(.kp [0,1,5,14] [5000,5001] (.dn (.cond (.t 14) .skip (.exit 0))))
def Bz6h:AC:=(.kp [0,1,5,25] [5000,5001] (.dn (.cond (.t 25) (.seq (.reg false [⟨(some 4),none,.i (.mov (.c (.bool false)))⟩]) (.dn .ret)) .skip)))
def Bz6i:AC:=(.kp [0,1,5] [5000,5001] (.dn (.reg false [⟨(some 15),none,.i (.mov (.t 5))⟩,⟨(some 16),none,.i (.bin .add (.t 15) (.c (.int .i64 1)))⟩,⟨(some 5),none,.i (.mov (.t 16))⟩])))
def Bz34:AC:=(.kp [0,1,5] [5000,5001] (.dn (.seq (.block 1 (.seq (.reg true [⟨(some 17),none,.i (.mov (.t 0))⟩,⟨(some 18),none,.i (.mov (.t 5))⟩,⟨(some 19),none,.i (.iad 1 (.t 17) (.t 18))⟩,⟨(some 20),none,.i (.ld (.t 19))⟩,⟨(some 21),none,.i (.mov (.t 1))⟩,⟨(some 22),none,.i (.mov (.t 5))⟩,⟨(some 23),none,.i (.iad 1 (.t 21) (.t 22))⟩,⟨(some 24),none,.i (.ld (.t 23))⟩,⟨(some 25),none,.i (.bin .neq (.t 20) (.t 24))⟩]) Bz6h)) Bz6i)))
def Bzk:AC:=(.kp [0,1,5] [5000,5001] (.dn (.seq (.seq (.reg false [⟨(some 11),none,.i (.mov (.t 5))⟩,⟨(some 12),none,.i (.mov (.t 0))⟩,⟨(some 13),none,.i (.len (.t 12))⟩,⟨(some 14),none,.i (.bin .lss (.t 11) (.t 13))⟩]) Bz33) Bz34)))
def Bz6j:AC:=(.kp [0,1,5] [5000,5001] (.dn (.block 0 (.loop Bzk))))
def Bz6k:AC:=(.kp [] [5000,5001] (.dn (.seq (.reg false [⟨(some 4),none,.i (.mov (.c (.bool true)))⟩]) (.dn .ret))))
def Bz6l:AC:=(.kp [0,1] [5000,5001] (.dn (.seq (.seq (.reg false [⟨(some 5),none,.i (.mov (.c (.int .i64 0)))⟩]) Bz6j) Bz6k)))
def Bz6m:AC:=(.kp [0,1] [5000,5001] (.dn (.seq (.seq (.reg false [⟨(some 6),none,.i (.mov (.t 0))⟩,⟨(some 7),none,.i (.len (.t 6))⟩,⟨(some 8),none,.i (.mov (.t 1))⟩,⟨(some 9),none,.i (.len (.t 8))⟩,⟨(some 10),none,.i (.bin .neq (.t 7) (.t 9))⟩]) Bz32) Bz6l)))
def Az6n:AFn:=⟨26,2,(.seq (.reg false [⟨(some 4),none,.i (.mov (.c (.bool false)))⟩]) Bz6m),[.tmp 4]⟩
theorem czep:cFn (drV none) Try.prog nze Az6n:=⟨_,_,Try.func10,rfl,by kernel_rfl,by decide,rfl,by kernel_rfl,by kernel_rfl⟩
def Bz35:AC:=(.kp [2,3,9] [2,3,5000,5001] (.dn (.cond (.t 9) (.seq (.reg false [⟨(some 4),none,.i (.mov (.c (.bool false)))⟩]) (.dn .ret)) .skip)))
def Bz36:AC:=(.kp [15] [5000,5001] (.dn (.cond (.t 15) (.seq (.reg false [⟨(some 4),none,.i (.mov (.c (.bool false)))⟩]) (.dn .ret)) .skip)))
def Bz37:AC:=(.kp [] [5000,5001] (.dn (.seq (.reg false [⟨(some 4),none,.i (.mov (.c (.bool true)))⟩]) (.dn .ret))))
def Bz6o:AC:=(.kp [2,3] [2,3,5000,5001] (.dn (.seq (.seq (.reg false [⟨(some 10),none,.i (.fad 1 (.t 2))⟩,⟨(some 11),none,.i (.ld (.t 10))⟩,⟨(some 12),none,.i (.fad 1 (.t 3))⟩,⟨(some 13),none,.i (.ld (.t 12))⟩,⟨(some 14),none,.call nz20 [(.t 11),(.t 13)]⟩,⟨(some 15),none,.i (.un .not (.t 14))⟩]) Bz36) Bz37)))
def Bz6p:AC:=(.kp [2,3] [2,3,5000,5001] (.dn (.seq (.seq (.reg false [⟨(some 5),none,.i (.fad 0 (.t 2))⟩,⟨(some 6),none,.i (.ld (.t 5))⟩,⟨(some 7),none,.i (.fad 0 (.t 3))⟩,⟨(some 8),none,.i (.ld (.t 7))⟩,⟨(some 9),none,.i (.bin .neq (.t 6) (.t 8))⟩]) Bz35) Bz6o)))
def Az6q:AFn:=⟨16,2,(.seq (.reg false [⟨(some 2),none,.i (.box (.t 0))⟩,⟨(some 3),none,.i (.box (.t 1))⟩,⟨(some 4),none,.i (.mov (.c (.bool false)))⟩]) Bz6p),[.tmp 4]⟩
theorem czeq:cFn (drV none) Try.prog nz1q Az6q:=⟨_,_,Try.func11,rfl,by kernel_rfl,by decide,rfl,by kernel_rfl,by kernel_rfl⟩
def Bz38:AC:=(.kp [1,2,7] [2,5000,5001] (.dn (.cond (.t 7) (.seq (.reg false [⟨(some 4),none,.i (.mov (.c (.int .i64 0)))⟩,⟨(some 5),none,.i (.mov (.c (.int .i64 1)))⟩]) (.dn .ret)) .skip)))
def Bz39:AC:=(.kp [1,2,10] [2,5000,5001] (.dn (.cond (.t 10) (.seq (.reg false [⟨(some 4),none,.i (.mov (.c (.int .i64 0)))⟩,⟨(some 5),none,.i (.mov (.c (.int .i64 2)))⟩]) (.dn .ret)) .skip)))
def Bz3a:AC:=(.kp [1,2,12] [2,5000,5001] (.dn (.cond (.t 12) (.seq (.reg false [⟨(some 4),none,.i (.mov (.c (.int .i64 0)))⟩,⟨(some 5),none,.i (.mov (.c (.int .i64 4)))⟩]) (.dn .ret)) .skip)))
def Bz6r:AC:=(.kp [1,2] [2,5000,5001] (.dn (.seq (.reg false [⟨(some 13),none,.call nz1w [(.t 2)]⟩,⟨(some 14),none,.i (.mov (.t 1))⟩,⟨(some 15),none,.call nz22 [(.t 13),(.t 14)]⟩,⟨(some 4),none,.i (.mov (.t 15))⟩,⟨(some 5),none,.i (.mov (.c (.int .i64 0)))⟩]) (.dn .ret))))
def Bz6s:AC:=(.kp [1,2] [2,5000,5001] (.dn (.seq (.seq (.reg false [⟨(some 11),none,.call nz1v [(.t 2)]⟩,⟨(some 12),none,.i (.un .not (.t 11))⟩]) Bz3a) Bz6r)))
def Bz6t:AC:=(.kp [1,2] [2,5000,5001] (.dn (.seq (.seq (.reg false [⟨(some 8),none,.i (.mov (.t 1))⟩,⟨(some 9),none,.call nz21 [(.t 2),(.t 8)]⟩,⟨(some 10),none,.i (.un .not (.t 9))⟩]) Bz39) Bz6s)))
def Bz6u:AC:=(.kp [1,2] [2,5000,5001] (.dn (.seq (.seq (.reg false [⟨(some 6),none,.call nz1u [(.t 2)]⟩,⟨(some 7),none,.i (.un .not (.t 6))⟩]) Bz38) Bz6t)))
def Az6v:AFn:=⟨16,2,(.seq (.reg false [⟨(some 2),none,.i (.box (.t 0))⟩,⟨(some 4),none,.i (.mov (.c (.int .i64 0)))⟩,⟨(some 5),none,.i (.mov (.c (.int .i64 0)))⟩]) Bz6u),[.tmp 4,.tmp 5]⟩
theorem czer:cFn (drV none) Try.prog nz1r Az6v:=⟨_,_,Try.func15,rfl,by kernel_rfl,by decide,rfl,by kernel_rfl,by kernel_rfl⟩
def Bz3b:AC:=(.kp [0,3,4,11] [7,5000] (.dn (.cond (.t 11) .skip (.exit 0))))
def Bz6w:AC:=(.kp [0,3,4] [7,5000] (.dn (.reg false [⟨(some 12),none,.i (.mov (.t 4))⟩,⟨(some 13),none,.i (.bin .add (.t 12) (.c (.int .i64 1)))⟩,⟨(some 4),none,.i (.mov (.t 13))⟩])))
def Bz3c:AC:=(.kp [0,3,4] [7,5000] (.dn (.seq (.block 1 (.reg false [⟨(some 14),none,.i (.mov (.t 3))⟩,⟨(some 15),none,.i (.mov (.t 4))⟩,⟨(some 16),none,.i (.mov (.t 0))⟩,⟨(some 17),none,.i (.mov (.t 4))⟩,⟨(some 18),none,.i (.iad 1 (.t 16) (.t 17))⟩,⟨(some 19),none,.i (.ld (.t 18))⟩,⟨(some 20),none,.i (.iad 1 (.t 14) (.t 15))⟩,⟨none,none,.i (.sto 1 (.t 20) (.t 19))⟩])) Bz6w)))
def Bzl:AC:=(.kp [0,3,4] [7,5000] (.dn (.seq (.seq (.reg false [⟨(some 8),none,.i (.mov (.t 4))⟩,⟨(some 9),none,.i (.mov (.t 0))⟩,⟨(some 10),none,.i (.len (.t 9))⟩,⟨(some 11),none,.i (.bin .lss (.t 8) (.t 10))⟩]) Bz3b) Bz3c)))
def Bz6x:AC:=(.kp [0,3,4] [7,5000] (.dn (.block 0 (.loop Bzl))))
def Bz6y:AC:=(.kp [3] [7,5000] (.dn (.seq (.reg false [⟨(some 21),none,.i (.mov (.t 3))⟩,⟨(some 2),none,.i (.mov (.t 21))⟩]) (.dn .ret))))
def Bz6z:AC:=(.kp [0,3] [7,5000] (.dn (.seq (.seq (.reg false [⟨(some 4),none,.i (.mov (.c (.int .i64 0)))⟩]) Bz6x) Bz6y)))
def Bz70:AC:=(.kp [0] [5000] (.dn (.seq (.reg false [⟨(some 5),none,.i (.mov (.t 0))⟩,⟨(some 6),none,.i (.len (.t 5))⟩,⟨(some 7),none,.i (.mks 1 8 [.int .i64 0] (.t 6) (.t 6))⟩,⟨(some 3),none,.i (.mov (.t 7))⟩]) Bz6z)))
def Az71:AFn:=⟨22,1,(.seq (.reg false [⟨(some 2),none,.i (.mov (.c (.slice none 0 0)))⟩]) Bz70),[.tmp 2]⟩
theorem czes:cFn (drV none) Try.prog nz1 Az71:=⟨_,_,Try.func16,rfl,by kernel_rfl,by decide,rfl,by kernel_rfl,by kernel_rfl⟩
def Bz3d:AC:=(.kp [1,2,6,11] [2,5000,5001] (.dn (.cond (.t 11) (.seq (.reg false [⟨(some 12),none,.i (.mov (.t 6))⟩,⟨(some 4),none,.i (.mov (.c (.int .i64 0)))⟩,⟨(some 5),none,.i (.mov (.t 12))⟩]) (.dn .ret)) .skip)))
def Bz3e:AC:=(.kp [1,2,6] [2,5000,5001] (.dn (.seq (.reg false [⟨(some 10),none,.i (.mov (.t 6))⟩,⟨(some 11),none,.i (.bin .neq (.t 10) (.c (.int .i64 0)))⟩]) Bz3d)))
def Bz72:AC:=(.kp [1,2] [2,5000,5001] (.dn (.seq (.reg false [⟨(some 13),none,.i (.lda 2 (.t 2))⟩,⟨(some 14),none,.call nz1z [(.t 13)]⟩,⟨(some 15),none,.i (.mov (.t 1))⟩,⟨(some 16),none,.call nz23 [(.t 14),(.t 15)]⟩,⟨(some 4),none,.i (.mov (.t 16))⟩,⟨(some 5),none,.i (.mov (.c (.int .i64 0)))⟩]) (.dn .ret))))
def Bz73:AC:=(.kp [1,2] [2,5000,5001] (.dn (.seq (.seq (.reg false [⟨(some 7),none,.i (.lda 2 (.t 2))⟩,⟨(some 8),none,.i (.mov (.t 1))⟩,⟨(some 9),none,.call nz1y [(.t 7),(.t 8)]⟩,⟨(some 6),none,.i (.mov (.t 9))⟩]) Bz3e) Bz72)))
def Az74:AFn:=⟨17,2,(.seq (.reg false [⟨(some 2),none,.i (.box (.t 0))⟩,⟨(some 4),none,.i (.mov (.c (.int .i64 0)))⟩,⟨(some 5),none,.i (.mov (.c (.int .i64 0)))⟩]) Bz73),[.tmp 4,.tmp 5]⟩
theorem czet:cFn (drV none) Try.prog nz1s Az74:=⟨_,_,Try.func17,rfl,by kernel_rfl,by decide,rfl,by kernel_rfl,by kernel_rfl⟩
def Bz3f:AC:=(.kp [0,1,11] [5000,5001] (.dn (.cond (.t 11) (.seq (.reg false [⟨(some 4),none,.i (.mov (.c (.int .i64 (-1))))⟩]) (.dn .ret)) .skip)))
def Bz3g:AC:=(.kp [0,1,5,15] [5000,5001] (.dn (.cond (.t 15) .skip (.exit 0))))
def Bz3h:AC:=(.kp [0,1,5,25] [5000,5001] (.dn (.cond (.t 25) (.seq (.reg false [⟨(some 4),none,.i (.mov (.c (.int .i64 (-1))))⟩]) (.dn .ret)) .skip)))
def Bz3i:AC:=(.kp [0,1,5] [5000,5001] (.dn (.seq (.reg false [⟨(some 24),none,.i (.mov (.t 1))⟩,⟨(some 25),none,.i (.bin .lss (.t 24) (.c (.int .i64 0)))⟩]) Bz3h)))
def Bz75:AC:=(.kp [0,1,5] [5000,5001] (.dn (.reg false [⟨(some 16),none,.i (.mov (.t 5))⟩,⟨(some 17),none,.i (.bin .add (.t 16) (.c (.int .i64 1)))⟩,⟨(some 5),none,.i (.mov (.t 17))⟩])))
def Bz3j:AC:=(.kp [0,1,5] [5000,5001] (.dn (.seq (.block 1 (.seq (.reg false [⟨(some 18),none,.i (.mov (.t 0))⟩,⟨(some 19),none,.i (.mov (.t 5))⟩,⟨(some 20),none,.i (.iad 1 (.t 18) (.t 19))⟩,⟨(some 21),none,.i (.ld (.t 20))⟩,⟨(some 22),none,.i (.mov (.t 1))⟩,⟨(some 23),none,.call nz25 [(.t 21),(.t 22)]⟩,⟨(some 1),none,.i (.mov (.t 23))⟩]) Bz3i)) Bz75)))
def Bzm:AC:=(.kp [0,1,5] [5000,5001] (.dn (.seq (.seq (.reg false [⟨(some 12),none,.i (.mov (.t 5))⟩,⟨(some 13),none,.i (.mov (.t 0))⟩,⟨(some 14),none,.i (.len (.t 13))⟩,⟨(some 15),none,.i (.bin .lss (.t 12) (.t 14))⟩]) Bz3g) Bz3j)))
def Bz76:AC:=(.kp [0,1,5] [5000,5001] (.dn (.block 0 (.loop Bzm))))
def Bz77:AC:=(.kp [1] [5000,5001] (.dn (.seq (.reg false [⟨(some 26),none,.i (.mov (.t 1))⟩,⟨(some 4),none,.i (.mov (.t 26))⟩]) (.dn .ret))))
def Bz78:AC:=(.kp [0,1] [5000,5001] (.dn (.seq (.seq (.reg false [⟨(some 5),none,.i (.mov (.c (.int .i64 0)))⟩]) Bz76) Bz77)))
def Bz3k:AC:=(.kp [0,1] [5000,5001] (.dn (.seq (.seq (.reg false [⟨(some 10),none,.i (.mov (.t 1))⟩,⟨(some 11),none,.i (.bin .lss (.t 10) (.c (.int .i64 0)))⟩]) Bz3f) Bz78)))
def Bz79:AC:=(.kp [0,1] [5000,5001] (.dn (.seq (.reg false [⟨(some 6),none,.i (.mov (.t 1))⟩,⟨(some 7),none,.i (.mov (.t 0))⟩,⟨(some 8),none,.i (.len (.t 7))⟩,⟨(some 9),none,.i (.bin .sub (.t 6) (.t 8))⟩,⟨(some 1),none,.i (.mov (.t 9))⟩]) Bz3k)))
def Az7a:AFn:=⟨27,2,(.seq (.reg false [⟨(some 4),none,.i (.mov (.c (.int .i64 0)))⟩]) Bz79),[.tmp 4]⟩
theorem czeu:cFn (drV none) Try.prog nz1t Az7a:=⟨_,_,Try.func20,rfl,by kernel_rfl,by decide,rfl,by kernel_rfl,by kernel_rfl⟩
def Bzn:AC:=(.kp [0,18] [5000] (.dn (.cond (.t 18) (.seq (.reg false [⟨(some 2),none,.i (.mov (.c (.bool false)))⟩]) (.dn .ret)) .skip)))
def Bz3l:AC:=(.kp [0,3,25] [5000] (.dn (.cond (.t 25) .skip (.exit 0))))
def Bz7b:AC:=(.kp [0,3,40] [5000] (.dn (.cond (.t 40) (.seq (.reg false [⟨(some 2),none,.i (.mov (.c (.bool false)))⟩]) (.dn .ret)) .skip)))
def Bz7c:AC:=(.kp [0,3] [5000] (.dn (.reg false [⟨(some 26),none,.i (.mov (.t 3))⟩,⟨(some 27),none,.i (.bin .add (.t 26) (.c (.int .i64 1)))⟩,⟨(some 3),none,.i (.mov (.t 27))⟩])))
def Bz3m:AC:=(.kp [0,3] [5000] (.dn (.seq (.block 1 (.seq (.reg true [⟨(some 28),none,.i (.mov (.t 0))⟩,⟨(some 29),none,.i (.nilck (.t 28))⟩,⟨(some 30),none,.i (.fad 1 (.t 29))⟩,⟨(some 31),none,.i (.ld (.t 30))⟩,⟨(some 32),none,.i (.mov (.t 3))⟩,⟨(some 33),none,.i (.iad 1 (.t 31) (.t 32))⟩,⟨(some 34),none,.i (.ld (.t 33))⟩,⟨(some 35),none,.i (.mov (.t 0))⟩,⟨(some 36),none,.i (.nilck (.t 35))⟩,⟨(some 37),none,.i (.fad 0 (.t 36))⟩,⟨(some 38),none,.i (.ld (.t 37))⟩,⟨(some 39),none,.calh nz26 [(.t 34),(.t 38)]⟩,⟨(some 40),none,.i (.un .not (.t 39))⟩]) Bz7b)) Bz7c)))
def Bzo:AC:=(.kp [0,3] [5000] (.dn (.seq (.seq (.reg false [⟨(some 19),none,.i (.mov (.t 3))⟩,⟨(some 20),none,.i (.mov (.t 0))⟩,⟨(some 21),none,.i (.nilck (.t 20))⟩,⟨(some 22),none,.i (.fad 1 (.t 21))⟩,⟨(some 23),none,.i (.ld (.t 22))⟩,⟨(some 24),none,.i (.len (.t 23))⟩,⟨(some 25),none,.i (.bin .lss (.t 19) (.t 24))⟩]) Bz3l) Bz3m)))
def Bz7d:AC:=(.kp [0,3] [5000] (.dn (.block 0 (.loop Bzo))))
def Bz7e:AC:=(.kp [] [5000] (.dn (.seq (.reg false [⟨(some 2),none,.i (.mov (.c (.bool true)))⟩]) (.dn .ret))))
def Bz7f:AC:=(.kp [0] [5000] (.dn (.seq (.seq (.reg false [⟨(some 3),none,.i (.mov (.c (.int .i64 0)))⟩]) Bz7d) Bz7e)))
def Bz7g:AC:=(.kp [0] [5000] (.dn (.seq (.seq (.reg false [⟨(some 4),none,.i (.mov (.t 0))⟩,⟨(some 5),none,.i (.nilck (.t 4))⟩,⟨(some 6),none,.i (.fad 0 (.t 5))⟩,⟨(some 7),none,.i (.ld (.t 6))⟩,⟨(some 8),none,.call nz2 [(.t 7),(.c (.int .i64 1)),(.c (.int .i64 10))]⟩,⟨(some 9),none,.i (.un .not (.t 8))⟩,⟨(some 10),none,.i (.mov (.t 9))⟩,⟨(some 11),(some (10,false)),.i (.mov (.t 0))⟩,⟨(some 12),(some (10,false)),.i (.nilck (.t 11))⟩,⟨(some 13),(some (10,false)),.i (.fad 1 (.t 12))⟩,⟨(some 14),(some (10,false)),.i (.ld (.t 13))⟩,⟨(some 15),(some (10,false)),.i (.len (.t 14))⟩,⟨(some 16),(some (10,false)),.call nz2 [(.t 15),(.c (.int .i64 1)),(.c (.int .i64 3))]⟩,⟨(some 17),(some (10,false)),.i (.un .not (.t 16))⟩,⟨(some 18),none,.i (.pick (.t 10) (.c (.bool true)) (.t 17))⟩]) Bzn) Bz7f)))
def Az7h:AFn:=⟨41,1,(.seq (.reg false [⟨(some 2),none,.i (.mov (.c (.bool false)))⟩]) Bz7g),[.tmp 2]⟩
theorem czev:cFn (drV none) Try.prog nz1u Az7h:=⟨_,_,Try.func21,rfl,by kernel_rfl,by decide,rfl,by kernel_rfl,by kernel_rfl⟩
def Bz3n:AC:=(.kp [0,3,9] [5000] (.dn (.cond (.t 9) .skip (.exit 0))))
def Bz3o:AC:=(.kp [0,3,20] [14,5000] (.dn (.cond (.t 20) (.seq (.reg false [⟨(some 2),none,.i (.mov (.c (.bool false)))⟩]) (.dn .ret)) .skip)))
def Bz7i:AC:=(.kp [0,3] [5000] (.dn (.reg false [⟨(some 10),none,.i (.mov (.t 3))⟩,⟨(some 11),none,.i (.bin .add (.t 10) (.c (.int .i64 1)))⟩,⟨(some 3),none,.i (.mov (.t 11))⟩])))
def Bz7j:AC:=(.kp [0,3] [5000] (.dn (.seq (.block 1 (.seq (.reg true [⟨(some 12),none,.i (.mov (.t 0))⟩,⟨(some 13),none,.i (.mov (.t 3))⟩,⟨(some 14),none,.call nz27 [(.t 12),(.t 13)]⟩,⟨(some 15),none,.i (.len (.t 14))⟩,⟨(some 16),none,.i (.mov (.t 0))⟩,⟨(some 17),none,.i (.nilck (.t 16))⟩,⟨(some 18),none,.i (.fad 0 (.t 17))⟩,⟨(some 19),none,.i (.ld (.t 18))⟩,⟨(some 20),none,.i (.bin .neq (.t 15) (.t 19))⟩]) Bz3o)) Bz7i)))
def Bzp:AC:=(.kp [0,3] [5000] (.dn (.seq (.seq (.reg false [⟨(some 4),none,.i (.mov (.t 3))⟩,⟨(some 5),none,.i (.mov (.t 0))⟩,⟨(some 6),none,.i (.nilck (.t 5))⟩,⟨(some 7),none,.i (.fad 0 (.t 6))⟩,⟨(some 8),none,.i (.ld (.t 7))⟩,⟨(some 9),none,.i (.bin .lss (.t 4) (.t 8))⟩]) Bz3n) Bz7j)))
def Bz7k:AC:=(.kp [0,3] [5000] (.dn (.block 0 (.loop Bzp))))
def Bz7l:AC:=(.kp [] [5000] (.dn (.seq (.reg false [⟨(some 2),none,.i (.mov (.c (.bool true)))⟩]) (.dn .ret))))
def Bz7m:AC:=(.kp [0] [5000] (.dn (.seq (.seq (.reg false [⟨(some 3),none,.i (.mov (.c (.int .i64 0)))⟩]) Bz7k) Bz7l)))
def Az7n:AFn:=⟨21,1,(.seq (.reg false [⟨(some 2),none,.i (.mov (.c (.bool false)))⟩]) Bz7m),[.tmp 2]⟩
theorem czew:cFn (drV none) Try.prog nz1v Az7n:=⟨_,_,Try.func22,rfl,by kernel_rfl,by decide,rfl,by kernel_rfl,by kernel_rfl⟩
def Bz3p:AC:=(.kp [0,3,4,5,13] [7,21,5000] (.dn (.cond (.t 13) .skip (.exit 0))))
def Bz7o:AC:=(.kp [0,3,4,5] [7,21,5000] (.dn (.reg false [⟨(some 22),none,.i (.mov (.t 4))⟩,⟨(some 23),none,.i (.mov (.t 3))⟩,⟨(some 24),none,.i (.mov (.t 5))⟩,⟨(some 25),none,.i (.iad 1 (.t 23) (.t 24))⟩,⟨(some 26),none,.i (.ld (.t 25))⟩,⟨(some 27),none,.call nz29 [(.t 22),(.t 26)]⟩,⟨(some 4),none,.i (.mov (.t 27))⟩])))
def Bz7p:AC:=(.kp [0,3,4,5] [7,21,5000] (.dn (.reg false [⟨(some 14),none,.i (.mov (.t 5))⟩,⟨(some 15),none,.i (.bin .add (.t 14) (.c (.int .i64 1)))⟩,⟨(some 5),none,.i (.mov (.t 15))⟩])))
def Bz7q:AC:=(.kp [0,3,4,5] [7,21,5000] (.dn (.seq (.block 1 (.seq (.reg false [⟨(some 16),none,.i (.mov (.t 3))⟩,⟨(some 17),none,.i (.mov (.t 0))⟩,⟨(some 18),none,.i (.mov (.t 5))⟩,⟨(some 19),none,.call nz28 [(.t 17),(.t 18)]⟩,⟨(some 20),none,.i (.bsl 1 false [(.t 19)])⟩,⟨(some 21),none,.i (.app 1 8 (.t 16) (.t 20))⟩,⟨(some 3),none,.i (.mov (.t 21))⟩]) Bz7o)) Bz7p)))
def Bzq:AC:=(.kp [0,3,4,5] [7,21,5000] (.dn (.seq (.seq (.reg false [⟨(some 8),none,.i (.mov (.t 5))⟩,⟨(some 9),none,.i (.mov (.t 0))⟩,⟨(some 10),none,.i (.nilck (.t 9))⟩,⟨(some 11),none,.i (.fad 0 (.t 10))⟩,⟨(some 12),none,.i (.ld (.t 11))⟩,⟨(some 13),none,.i (.bin .lss (.t 8) (.t 12))⟩]) Bz3p) Bz7q)))
def Bz7r:AC:=(.kp [0,3,4,5] [7,21,5000] (.dn (.block 0 (.loop Bzq))))
def Bz3q:AC:=(.kp [3,4,6,31] [7,21,5000] (.dn (.cond (.t 31) .skip (.exit 2))))
def Bz7s:AC:=(.kp [3,4,6] [7,21,5000] (.dn (.reg false [⟨(some 32),none,.i (.mov (.t 6))⟩,⟨(some 33),none,.i (.bin .add (.t 32) (.c (.int .i64 1)))⟩,⟨(some 6),none,.i (.mov (.t 33))⟩])))
def Bz7t:AC:=(.kp [3,4,6] [7,21,5000] (.dn (.seq (.block 3 (.reg false [⟨(some 34),none,.i (.mov (.t 3))⟩,⟨(some 35),none,.i (.mov (.t 6))⟩,⟨(some 36),none,.i (.mov (.t 3))⟩,⟨(some 37),none,.i (.mov (.t 6))⟩,⟨(some 38),none,.i (.iad 1 (.t 36) (.t 37))⟩,⟨(some 39),none,.i (.ld (.t 38))⟩,⟨(some 40),none,.i (.mov (.t 4))⟩,⟨(some 41),none,.i (.bin .quo (.t 39) (.t 40))⟩,⟨(some 42),none,.i (.iad 1 (.t 34) (.t 35))⟩,⟨none,none,.i (.sto 1 (.t 42) (.t 41))⟩])) Bz7s)))
def Bzr:AC:=(.kp [3,4,6] [7,21,5000] (.dn (.seq (.seq (.reg false [⟨(some 28),none,.i (.mov (.t 6))⟩,⟨(some 29),none,.i (.mov (.t 3))⟩,⟨(some 30),none,.i (.len (.t 29))⟩,⟨(some 31),none,.i (.bin .lss (.t 28) (.t 30))⟩]) Bz3q) Bz7t)))
def Bz7u:AC:=(.kp [3,4,6] [7,21,5000] (.dn (.block 2 (.loop Bzr))))
def Bz7v:AC:=(.kp [3] [7,21,5000] (.dn (.seq (.reg false [⟨(some 43),none,.i (.mov (.t 3))⟩,⟨(some 2),none,.i (.mov (.t 43))⟩]) (.dn .ret))))
def Bz7w:AC:=(.kp [3,4] [7,21,5000] (.dn (.seq (.seq (.reg false [⟨(some 6),none,.i (.mov (.c (.int .i64 0)))⟩]) Bz7u) Bz7v)))
def Bz7x:AC:=(.kp [0,3,4] [7,21,5000] (.dn (.seq (.seq (.reg false [⟨(some 5),none,.i (.mov (.c (.int .i64 0)))⟩]) Bz7r) Bz7w)))
def Bz7y:AC:=(.kp [0,3] [7,21,5000] (.dn (.seq (.reg false [⟨(some 4),none,.i (.mov (.c (.int .i64 0)))⟩]) Bz7x)))
def Bz7z:AC:=(.kp [0] [5000] (.dn (.seq (.reg false [⟨(some 7),none,.i (.bsl 1 false [])⟩,⟨(some 3),none,.i (.mov (.t 7))⟩]) Bz7y)))
def Az3r:AFn:=⟨44,1,(.seq (.reg false [⟨(some 2),none,.i (.mov (.c (.slice none 0 0)))⟩]) Bz7z),[.tmp 2]⟩
theorem czex:cFn (drV none) Try.prog nz1w Az3r:=⟨_,_,Try.func23,rfl,by kernel_rfl,by decide,rfl,by kernel_rfl,by kernel_rfl⟩
def Bz3s:AC:=(.kp [0,3,4,11] [7,20,5000] (.cond (.t 11) .skip (.exit 0)))
def Bz80:AC:=(.kp [0,3,4] [7,20,5000] (.regi false [⟨(some 12),none,.i (.mov (.t 4))⟩,⟨(some 13),none,.i (.bin .add (.t 12) (.c (.int .i64 1)))⟩,⟨(some 4),none,.i (.mov (.t 13))⟩]))
def Bz3t:AC:=(.kp [0,3,4] [7,20,5000] (.seq (.block 1 (.regi false [⟨(some 14),none,.i (.mov (.t 3))⟩,⟨(some 15),none,.i (.mov (.t 4))⟩,⟨(some 16),none,.i (.mov (.t 0))⟩,⟨(some 17),none,.i (.mov (.t 4))⟩,⟨(some 18),none,.i (.iad 1 (.t 16) (.t 17))⟩,⟨(some 19),none,.i (.ld (.t 18))⟩,⟨(some 20),none,.call nz1 [(.t 19)]⟩,⟨(some 21),none,.i (.iad 1 (.t 14) (.t 15))⟩,⟨none,none,.i (.sto 1 (.t 21) (.t 20))⟩])) Bz80))
def Bz81:AC:=(.kp [0,3,4] [7,20,5000] (.seq (.seq (.regi false [⟨(some 8),none,.i (.mov (.t 4))⟩,⟨(some 9),none,.i (.mov (.t 0))⟩,⟨(some 10),none,.i (.len (.t 9))⟩,⟨(some 11),none,.i (.bin .lss (.t 8) (.t 10))⟩]) Bz3s) Bz3t))
def Bz82:AC:=(.kp [0,3,4] [7,20,5000] (.block 0 (.loop Bz81)))
def Bz83:AC:=(.kp [3] [7,20,5000] (.seq (.regi false [⟨(some 22),none,.i (.mov (.t 3))⟩,⟨(some 2),none,.i (.mov (.t 22))⟩]) .ret))
def Bz84:AC:=(.kp [0,3] [7,20,5000] (.seq (.seq (.regi false [⟨(some 4),none,.i (.mov (.c (.int .i64 0)))⟩]) Bz82) Bz83))
def Bz85:AC:=(.kp [0] [5000] (.seq (.regi false [⟨(some 5),none,.i (.mov (.t 0))⟩,⟨(some 6),none,.i (.len (.t 5))⟩,⟨(some 7),none,.i (.mks 1 24 [.slice none 0 0] (.t 6) (.t 6))⟩,⟨(some 3),none,.i (.mov (.t 7))⟩]) Bz84))
def Az86:AFn:=⟨23,1,(.seq (.regi false [⟨(some 2),none,.i (.mov (.c (.slice none 0 0)))⟩]) Bz85),[.tmp 2]⟩
theorem czey:cFn (drV none) Try.prog nz1x Az86:=⟨_,_,Try.func24,rfl,by kernel_rfl,by decide,rfl,by kernel_rfl,by kernel_rfl⟩
def Bz5:AC:=(.kp [5,15] [5000,5001] (.dn (.cond (.t 15) (.reg false [⟨(some 5),none,.i (.mov (.c (.int .i64 4)))⟩]) .skip)))
def Bz6:AC:=(.kp [5] [5000,5001] (.dn (.seq (.reg false [⟨(some 16),none,.i (.mov (.t 5))⟩,⟨(some 4),none,.i (.mov (.t 16))⟩]) (.dn .ret))))
def Bzs:AC:=(.kp [2,5] [2,5000,5001] (.dn (.seq (.seq (.reg false [⟨(some 9),none,.i (.mov (.t 5))⟩,⟨(some 10),none,.i (.bin .eql (.t 9) (.c (.int .i64 0)))⟩,⟨(some 11),none,.i (.mov (.t 10))⟩,⟨(some 12),(some (11,true)),.i (.lda 2 (.t 2))⟩,⟨(some 13),(some (11,true)),.call nz2c [(.t 12)]⟩,⟨(some 14),(some (11,true)),.i (.un .not (.t 13))⟩,⟨(some 15),none,.i (.pick (.t 11) (.t 14) (.c (.bool false)))⟩]) Bz5) Bz6)))
def Bz87:AC:=(.kp [2,3] [2,3,5000,5001] (.dn (.seq (.reg false [⟨(some 6),none,.i (.lda 2 (.t 2))⟩,⟨(some 7),none,.i (.mkf nzf [(.t 3),(.t 2)])⟩,⟨(some 8),none,.call nz2a [(.t 6),(.t 7)]⟩,⟨(some 5),none,.i (.mov (.t 8))⟩]) Bzs)))
def Az88:AFn:=⟨17,2,(.seq (.reg false [⟨(some 2),none,.i (.box (.t 0))⟩,⟨(some 3),none,.i (.box (.t 1))⟩,⟨(some 4),none,.i (.mov (.c (.int .i64 0)))⟩]) Bz87),[.tmp 4]⟩
theorem czez:cFn (drV none) Try.prog nz1y Az88:=⟨_,_,Try.func25,rfl,by kernel_rfl,by decide,rfl,by kernel_rfl,by kernel_rfl⟩
def Bz89:AC:=(.kp [1,3,4,5,7,15,16,23,24,25] [1,13,21,48,5000] (.dn (.reg false [⟨(some 35),none,.i (.mov (.t 5))⟩,⟨(some 36),none,.i (.mov (.t 7))⟩,⟨(some 37),none,.i (.mov (.t 4))⟩,⟨(some 38),none,.i (.iad 1 (.t 36) (.t 37))⟩,⟨(some 39),none,.i (.ld (.t 38))⟩,⟨(some 40),none,.i (.iad 1 (.t 35) (.t 39))⟩,⟨(some 41),none,.i (.ld (.t 40))⟩,⟨(some 42),none,.i (.bin .sub (.t 41) (.c (.int .i64 1)))⟩,⟨(some 43),none,.i (.iad 1 (.t 35) (.t 39))⟩,⟨none,none,.i (.sto 1 (.t 43) (.t 42))⟩])))
def Bz8a:AC:=(.kp [1,3,4,5,7,15,16,23,24,25] [1,13,21,48,5000] (.dn (.seq (.reg false [⟨(some 29),none,.i (.mov (.t 5))⟩,⟨(some 30),none,.i (.mov (.t 4))⟩,⟨(some 31),none,.i (.iad 1 (.t 29) (.t 30))⟩,⟨(some 32),none,.i (.ld (.t 31))⟩,⟨(some 33),none,.i (.bin .add (.t 32) (.c (.int .i64 1)))⟩,⟨(some 34),none,.i (.iad 1 (.t 29) (.t 30))⟩,⟨none,none,.i (.sto 1 (.t 34) (.t 33))⟩]) Bz89)))
def Bz8b:AC:=(.kp [1,3,4,5,15,16,23,24,25] [1,13,21,48,5000] (.dn (.reg false [⟨(some 44),none,.i (.bin .add (.t 25) (.c (.int .i64 1)))⟩,⟨(some 25),none,.i (.mov (.t 44))⟩])))
def Bz8c:AC:=(.kp [1,3,4,5,15,16,23,24,25] [1,13,21,48,5000] (.dn (.seq (.block 3 (.seq (.reg false [⟨(some 27),none,.i (.iad 1 (.t 23) (.t 25))⟩,⟨(some 28),none,.i (.ld (.t 27))⟩,⟨(some 7),none,.i (.mov (.t 28))⟩]) Bz8a)) Bz8b)))
def Bz3u:AC:=(.kp [1,3,4,5,15,16,23,24,25,26] [1,13,21,48,5000] (.dn (.seq (.cond (.t 26) .skip (.exit 2)) Bz8c)))
def Bzt:AC:=(.kp [1,3,4,5,15,16,23,24,25] [1,13,21,48,5000] (.dn (.seq (.reg false [⟨(some 26),none,.i (.bin .lss (.t 25) (.t 24))⟩]) Bz3u)))
def Bz8d:AC:=(.kp [1,3,4,5,15,16,23,24,25] [1,13,21,48,5000] (.dn (.block 2 (.loop Bzt))))
def Bz8e:AC:=(.kp [1,3,5,15,16] [1,13,21,48,5000] (.dn (.reg false [⟨(some 45),none,.i (.mov (.t 3))⟩,⟨(some 46),none,.i (.mov (.t 5))⟩,⟨(some 47),none,.i (.bsl 1 true [(.t 46)])⟩,⟨(some 48),none,.i (.app 1 24 (.t 45) (.t 47))⟩,⟨(some 3),none,.i (.mov (.t 48))⟩])))
def Bz8f:AC:=(.kp [1,3,4,5,15,16] [1,13,21,48,5000] (.dn (.seq (.seq (.reg false [⟨(some 22),none,.i (.fad 1 (.t 1))⟩,⟨(some 23),none,.i (.ld (.t 22))⟩,⟨(some 24),none,.i (.len (.t 23))⟩,⟨(some 25),none,.i (.mov (.c (.int .i64 0)))⟩]) Bz8d) Bz8e)))
def Bz8g:AC:=(.kp [1,3,4,15,16] [1,13,21,48,5000] (.dn (.seq (.reg false [⟨(some 19),none,.i (.fad 0 (.t 1))⟩,⟨(some 20),none,.i (.ld (.t 19))⟩,⟨(some 21),none,.i (.mks 1 8 [.int .i64 0] (.t 20) (.t 20))⟩,⟨(some 5),none,.i (.mov (.t 21))⟩]) Bz8f)))
def Bz8h:AC:=(.kp [1,3,15,16] [1,13,21,48,5000] (.dn (.reg false [⟨(some 49),none,.i (.bin .add (.t 16) (.c (.int .i64 1)))⟩,⟨(some 16),none,.i (.mov (.t 49))⟩])))
def Bz8i:AC:=(.kp [1,3,15,16] [1,13,21,48,5000] (.dn (.seq (.block 1 (.seq (.reg false [⟨(some 18),none,.i (.mov (.t 16))⟩,⟨(some 4),none,.i (.mov (.t 18))⟩]) Bz8g)) Bz8h)))
def Bz3v:AC:=(.kp [1,3,15,16,17] [1,13,21,48,5000] (.dn (.seq (.cond (.t 17) .skip (.exit 0)) Bz8i)))
def Bzu:AC:=(.kp [1,3,15,16] [1,13,21,48,5000] (.dn (.seq (.reg false [⟨(some 17),none,.i (.bin .lss (.t 16) (.t 15))⟩]) Bz3v)))
def Bz8j:AC:=(.kp [1,3,15,16] [1,13,21,48,5000] (.dn (.block 0 (.loop Bzu))))
def Bz8k:AC:=(.kp [3,8,9,11,52,53] [13,48,50,62,5000] (.dn (.reg false [⟨(some 59),none,.i (.mov (.t 8))⟩,⟨(some 60),none,.i (.mov (.t 11))⟩,⟨(some 61),none,.i (.bsl 1 false [(.t 60)])⟩,⟨(some 62),none,.i (.app 1 8 (.t 59) (.t 61))⟩,⟨(some 63),none,.i (.mov (.t 9))⟩,⟨(some 64),none,.i (.mov (.t 11))⟩,⟨(some 65),none,.call nz2e [(.t 63),(.t 64)]⟩,⟨(some 8),none,.i (.mov (.t 62))⟩,⟨(some 9),none,.i (.mov (.t 65))⟩])))
def Bz8l:AC:=(.kp [3,8,9,10,52,53] [13,48,50,62,5000] (.dn (.seq (.reg false [⟨(some 56),none,.i (.mov (.t 3))⟩,⟨(some 57),none,.i (.mov (.t 10))⟩,⟨(some 58),none,.call nz2d [(.t 56),(.t 57)]⟩,⟨(some 11),none,.i (.mov (.t 58))⟩]) Bz8k)))
def Bz8m:AC:=(.kp [3,8,9,52,53] [13,48,50,62,5000] (.dn (.reg false [⟨(some 66),none,.i (.bin .add (.t 53) (.c (.int .i64 1)))⟩,⟨(some 53),none,.i (.mov (.t 66))⟩])))
def Bz8n:AC:=(.kp [3,8,9,52,53] [13,48,50,62,5000] (.dn (.seq (.block 5 (.seq (.reg false [⟨(some 55),none,.i (.mov (.t 53))⟩,⟨(some 10),none,.i (.mov (.t 55))⟩]) Bz8l)) Bz8m)))
def Bz3w:AC:=(.kp [3,8,9,52,53,54] [13,48,50,62,5000] (.dn (.seq (.cond (.t 54) .skip (.exit 4)) Bz8n)))
def Bzv:AC:=(.kp [3,8,9,52,53] [13,48,50,62,5000] (.dn (.seq (.reg false [⟨(some 54),none,.i (.bin .lss (.t 53) (.t 52))⟩]) Bz3w)))
def Bz8o:AC:=(.kp [3,8,9,52,53] [13,48,50,62,5000] (.dn (.block 4 (.loop Bzv))))
def Bz8p:AC:=(.kp [8,9,12,68,69] [50,62,5000] (.dn (.reg false [⟨(some 72),none,.i (.mov (.t 8))⟩,⟨(some 73),none,.i (.mov (.t 12))⟩,⟨(some 74),none,.i (.iad 1 (.t 72) (.t 73))⟩,⟨(some 75),none,.i (.ld (.t 74))⟩,⟨(some 76),none,.i (.mov (.t 9))⟩,⟨(some 77),none,.i (.bin .quo (.t 75) (.t 76))⟩,⟨(some 78),none,.i (.iad 1 (.t 72) (.t 73))⟩,⟨none,none,.i (.sto 1 (.t 78) (.t 77))⟩])))
def Bz8q:AC:=(.kp [8,9,68,69] [50,62,5000] (.dn (.reg false [⟨(some 79),none,.i (.bin .add (.t 69) (.c (.int .i64 1)))⟩,⟨(some 69),none,.i (.mov (.t 79))⟩])))
def Bz8r:AC:=(.kp [8,9,68,69] [50,62,5000] (.dn (.seq (.block 7 (.seq (.reg false [⟨(some 71),none,.i (.mov (.t 69))⟩,⟨(some 12),none,.i (.mov (.t 71))⟩]) Bz8p)) Bz8q)))
def Bz3x:AC:=(.kp [8,9,68,69,70] [50,62,5000] (.dn (.seq (.cond (.t 70) .skip (.exit 6)) Bz8r)))
def Bzw:AC:=(.kp [8,9,68,69] [50,62,5000] (.dn (.seq (.reg false [⟨(some 70),none,.i (.bin .lss (.t 69) (.t 68))⟩]) Bz3x)))
def Bz8s:AC:=(.kp [8,9,68,69] [50,62,5000] (.dn (.block 6 (.loop Bzw))))
def Bz8t:AC:=(.kp [8] [50,62,5000] (.dn (.seq (.reg false [⟨(some 80),none,.i (.mov (.t 8))⟩,⟨(some 2),none,.i (.mov (.t 80))⟩]) (.dn .ret))))
def Bz8u:AC:=(.kp [8,9] [50,62,5000] (.dn (.seq (.seq (.reg false [⟨(some 67),none,.i (.mov (.t 8))⟩,⟨(some 68),none,.i (.len (.t 67))⟩,⟨(some 69),none,.i (.mov (.c (.int .i64 0)))⟩]) Bz8s) Bz8t)))
def Bz8v:AC:=(.kp [3,8,9] [13,48,50,62,5000] (.dn (.seq (.seq (.reg false [⟨(some 51),none,.i (.mov (.t 3))⟩,⟨(some 52),none,.i (.len (.t 51))⟩,⟨(some 53),none,.i (.mov (.c (.int .i64 0)))⟩]) Bz8o) Bz8u)))
def Bz8w:AC:=(.kp [3] [13,48,5000] (.dn (.seq (.reg false [⟨(some 50),none,.i (.bsl 1 false [])⟩,⟨(some 8),none,.i (.mov (.t 50))⟩,⟨(some 9),none,.i (.mov (.c (.int .i64 0)))⟩]) Bz8v)))
def Bz8x:AC:=(.kp [1,3] [1,13,21,48,5000] (.dn (.seq (.seq (.reg false [⟨(some 14),none,.i (.fad 0 (.t 1))⟩,⟨(some 15),none,.i (.ld (.t 14))⟩,⟨(some 16),none,.i (.mov (.c (.int .i64 0)))⟩]) Bz8j) Bz8w)))
def Bz8y:AC:=(.kp [1] [1,21,5000] (.dn (.seq (.reg false [⟨(some 13),none,.i (.bsl 1 true [])⟩,⟨(some 3),none,.i (.mov (.t 13))⟩]) Bz8x)))
def Az3y:AFn:=⟨81,1,(.seq (.reg false [⟨(some 1),none,.i (.box (.t 0))⟩,⟨(some 2),none,.i (.mov (.c (.slice none 0 0)))⟩]) Bz8y),[.tmp 2]⟩
theorem czf0:cFn (drV none) Try.prog nz1z Az3y:=⟨_,_,Try.func26,rfl,by kernel_rfl,by decide,rfl,by kernel_rfl,by kernel_rfl⟩
def Bz3z:AC:=(.kp [0,1,10] [5000,5001] (.dn (.cond (.t 10) (.seq (.reg false [⟨(some 4),none,.i (.mov (.c (.bool false)))⟩]) (.dn .ret)) .skip)))
def Bz40:AC:=(.kp [0,1,5,14] [5000,5001] (.dn (.cond (.t 14) .skip (.exit 0))))
def Bz8z:AC:=(.kp [0,1,5,26] [5000,5001] (.dn (.cond (.t 26) (.seq (.reg false [⟨(some 4),none,.i (.mov (.c (.bool false)))⟩]) (.dn .ret)) .skip)))
def Bz90:AC:=(.kp [0,1,5] [5000,5001] (.dn (.reg false [⟨(some 15),none,.i (.mov (.t 5))⟩,⟨(some 16),none,.i (.bin .add (.t 15) (.c (.int .i64 1)))⟩,⟨(some 5),none,.i (.mov (.t 16))⟩])))
def Bz41:AC:=(.kp [0,1,5] [5000,5001] (.dn (.seq (.block 1 (.seq (.reg true [⟨(some 17),none,.i (.mov (.t 0))⟩,⟨(some 18),none,.i (.mov (.t 5))⟩,⟨(some 19),none,.i (.iad 1 (.t 17) (.t 18))⟩,⟨(some 20),none,.i (.ld (.t 19))⟩,⟨(some 21),none,.i (.mov (.t 1))⟩,⟨(some 22),none,.i (.mov (.t 5))⟩,⟨(some 23),none,.i (.iad 1 (.t 21) (.t 22))⟩,⟨(some 24),none,.i (.ld (.t 23))⟩,⟨(some 25),none,.calh nze [(.t 20),(.t 24)]⟩,⟨(some 26),none,.i (.un .not (.t 25))⟩]) Bz8z)) Bz90)))
def Bzx:AC:=(.kp [0,1,5] [5000,5001] (.dn (.seq (.seq (.reg false [⟨(some 11),none,.i (.mov (.t 5))⟩,⟨(some 12),none,.i (.mov (.t 0))⟩,⟨(some 13),none,.i (.len (.t 12))⟩,⟨(some 14),none,.i (.bin .lss (.t 11) (.t 13))⟩]) Bz40) Bz41)))
def Bz91:AC:=(.kp [0,1,5] [5000,5001] (.dn (.block 0 (.loop Bzx))))
def Bz92:AC:=(.kp [] [5000,5001] (.dn (.seq (.reg false [⟨(some 4),none,.i (.mov (.c (.bool true)))⟩]) (.dn .ret))))
def Bz93:AC:=(.kp [0,1] [5000,5001] (.dn (.seq (.seq (.reg false [⟨(some 5),none,.i (.mov (.c (.int .i64 0)))⟩]) Bz91) Bz92)))
def Bz94:AC:=(.kp [0,1] [5000,5001] (.dn (.seq (.seq (.reg false [⟨(some 6),none,.i (.mov (.t 0))⟩,⟨(some 7),none,.i (.len (.t 6))⟩,⟨(some 8),none,.i (.mov (.t 1))⟩,⟨(some 9),none,.i (.len (.t 8))⟩,⟨(some 10),none,.i (.bin .neq (.t 7) (.t 9))⟩]) Bz3z) Bz93)))
def Az95:AFn:=⟨27,2,(.seq (.reg false [⟨(some 4),none,.i (.mov (.c (.bool false)))⟩]) Bz94),[.tmp 4]⟩
theorem czf1:cFn (drV none) Try.prog nz20 Az95:=⟨_,_,Try.func27,rfl,by kernel_rfl,by decide,rfl,by kernel_rfl,by kernel_rfl⟩
def Bz96:AC:=(.kp [0,1] [5000,5001] (.dn (.seq (.reg false [⟨(some 5),none,.i (.mov (.t 1))⟩,⟨(some 6),none,.i (.mov (.t 0))⟩,⟨(some 7),none,.i (.nilck (.t 6))⟩,⟨(some 8),none,.i (.fad 0 (.t 7))⟩,⟨(some 9),none,.i (.ld (.t 8))⟩,⟨(some 10),none,.i (.bin .sub (.t 9) (.c (.int .i64 1)))⟩,⟨(some 11),none,.call nz2f [(.t 5),(.c (.int .i64 0)),(.t 10)]⟩,⟨(some 4),none,.i (.mov (.t 11))⟩]) (.dn .ret))))
def Az97:AFn:=⟨12,2,(.seq (.reg false [⟨(some 4),none,.i (.mov (.c (.bool false)))⟩]) Bz96),[.tmp 4]⟩
theorem czf2:cFn (drV none) Try.prog nz21 Az97:=⟨_,_,Try.func29,rfl,by kernel_rfl,by decide,rfl,by kernel_rfl,by kernel_rfl⟩
def Bz42:AC:=(.kp [0,1,5,6,10] [5000,5001] (.dn (.cond (.t 10) .skip (.exit 0))))
def Bz98:AC:=(.kp [0,1,5,6] [5000,5001] (.dn (.reg false [⟨(some 11),none,.i (.mov (.t 6))⟩,⟨(some 12),none,.i (.bin .add (.t 11) (.c (.int .i64 1)))⟩,⟨(some 6),none,.i (.mov (.t 12))⟩])))
def Bz99:AC:=(.kp [0,1,5,6] [5000,5001] (.dn (.seq (.block 1 (.reg false [⟨(some 13),none,.i (.mov (.t 5))⟩,⟨(some 14),none,.i (.mov (.t 0))⟩,⟨(some 15),none,.i (.mov (.t 1))⟩,⟨(some 16),none,.i (.mov (.t 6))⟩,⟨(some 17),none,.i (.iad 1 (.t 15) (.t 16))⟩,⟨(some 18),none,.i (.ld (.t 17))⟩,⟨(some 19),none,.i (.iad 1 (.t 14) (.t 18))⟩,⟨(some 20),none,.i (.ld (.t 19))⟩,⟨(some 21),none,.i (.bin .add (.t 13) (.t 20))⟩,⟨(some 5),none,.i (.mov (.t 21))⟩])) Bz98)))
def Bzy:AC:=(.kp [0,1,5,6] [5000,5001] (.dn (.seq (.seq (.reg false [⟨(some 7),none,.i (.mov (.t 6))⟩,⟨(some 8),none,.i (.mov (.t 1))⟩,⟨(some 9),none,.i (.len (.t 8))⟩,⟨(some 10),none,.i (.bin .lss (.t 7) (.t 9))⟩]) Bz42) Bz99)))
def Bz9a:AC:=(.kp [0,1,5,6] [5000,5001] (.dn (.block 0 (.loop Bzy))))
def Bz9b:AC:=(.kp [5] [5000,5001] (.dn (.seq (.reg false [⟨(some 22),none,.i (.mov (.t 5))⟩,⟨(some 4),none,.i (.mov (.t 22))⟩]) (.dn .ret))))
def Bz9c:AC:=(.kp [0,1,5] [5000,5001] (.dn (.seq (.seq (.reg false [⟨(some 6),none,.i (.mov (.c (.int .i64 0)))⟩]) Bz9a) Bz9b)))
def Bz9d:AC:=(.kp [0,1] [5000,5001] (.dn (.seq (.reg false [⟨(some 5),none,.i (.mov (.c (.int .i64 0)))⟩]) Bz9c)))
def Az9e:AFn:=⟨23,2,(.seq (.reg false [⟨(some 4),none,.i (.mov (.c (.int .i64 0)))⟩]) Bz9d),[.tmp 4]⟩
theorem czf3:cFn (drV none) Try.prog nz22 Az9e:=⟨_,_,Try.func30,rfl,by kernel_rfl,by decide,rfl,by kernel_rfl,by kernel_rfl⟩
def Bz9f:AC:=(.kp [0,5,7,8,9,10] [5000,5001] (.dn (.reg false [⟨(some 14),none,.i (.mov (.t 5))⟩,⟨(some 15),none,.i (.mov (.t 0))⟩,⟨(some 16),none,.i (.mov (.t 7))⟩,⟨(some 17),none,.i (.iad 1 (.t 15) (.t 16))⟩,⟨(some 18),none,.i (.ld (.t 17))⟩,⟨(some 19),none,.i (.bin .add (.t 14) (.t 18))⟩,⟨(some 5),none,.i (.mov (.t 19))⟩])))
def Bz9g:AC:=(.kp [0,5,8,9,10] [5000,5001] (.dn (.reg false [⟨(some 20),none,.i (.bin .add (.t 10) (.c (.int .i64 1)))⟩,⟨(some 10),none,.i (.mov (.t 20))⟩])))
def Bz9h:AC:=(.kp [0,5,8,9,10] [5000,5001] (.dn (.seq (.block 1 (.seq (.reg false [⟨(some 12),none,.i (.iad 1 (.t 8) (.t 10))⟩,⟨(some 13),none,.i (.ld (.t 12))⟩,⟨(some 7),none,.i (.mov (.t 13))⟩]) Bz9f)) Bz9g)))
def Bz43:AC:=(.kp [0,5,8,9,10,11] [5000,5001] (.dn (.seq (.cond (.t 11) .skip (.exit 0)) Bz9h)))
def Bzz:AC:=(.kp [0,5,8,9,10] [5000,5001] (.dn (.seq (.reg false [⟨(some 11),none,.i (.bin .lss (.t 10) (.t 9))⟩]) Bz43)))
def Bz9i:AC:=(.kp [0,5,8,9,10] [5000,5001] (.dn (.block 0 (.loop Bzz))))
def Bz9j:AC:=(.kp [5] [5000,5001] (.dn (.seq (.reg false [⟨(some 21),none,.i (.mov (.t 5))⟩,⟨(some 4),none,.i (.mov (.t 21))⟩]) (.dn .ret))))
def Bz9k:AC:=(.kp [0,1,5] [5000,5001] (.dn (.seq (.seq (.reg false [⟨(some 8),none,.i (.mov (.t 1))⟩,⟨(some 9),none,.i (.len (.t 8))⟩,⟨(some 10),none,.i (.mov (.c (.int .i64 0)))⟩]) Bz9i) Bz9j)))
def Bz9l:AC:=(.kp [0,1] [5000,5001] (.dn (.seq (.reg false [⟨(some 5),none,.i (.mov (.c (.int .i64 0)))⟩]) Bz9k)))
def Az9m:AFn:=⟨22,2,(.seq (.reg false [⟨(some 4),none,.i (.mov (.c (.int .i64 0)))⟩]) Bz9l),[.tmp 4]⟩
theorem czf4:cFn (drV none) Try.prog nz23 Az9m:=⟨_,_,Try.func31,rfl,by kernel_rfl,by decide,rfl,by kernel_rfl,by kernel_rfl⟩
def Bz9n:AC:=(.kp [1] [1,5000] (.dn (.seq (.reg false [⟨(some 3),none,.i (.fad 1 (.t 1))⟩,⟨(some 4),none,.i (.ld (.t 3))⟩,⟨(some 5),none,.call nz2g [(.t 4)]⟩,⟨(some 2),none,.i (.mov (.t 5))⟩]) (.dn .ret))))
def Az9o:AFn:=⟨6,1,(.seq (.reg false [⟨(some 1),none,.i (.box (.t 0))⟩,⟨(some 2),none,.i (.mov (.c (.int .i64 0)))⟩]) Bz9n),[.tmp 2]⟩
theorem czf5:cFn (drV none) Try.prog nz24 Az9o:=⟨_,_,Try.func37,rfl,by kernel_rfl,by decide,rfl,by kernel_rfl,by kernel_rfl⟩
def Bz9p:AC:=(.kp [1,10] [5000,5001] (.dn (.cond (.t 10) (.seq (.reg false [⟨(some 4),none,.i (.mov (.c (.int .i64 (-1))))⟩]) (.dn .ret)) .skip)))
def Bz9q:AC:=(.kp [1] [5000,5001] (.dn (.seq (.reg false [⟨(some 11),none,.i (.mov (.t 1))⟩,⟨(some 4),none,.i (.mov (.t 11))⟩]) (.dn .ret))))
def Bz9r:AC:=(.kp [1] [5000,5001] (.dn (.seq (.seq (.reg false [⟨(some 9),none,.i (.mov (.t 1))⟩,⟨(some 10),none,.i (.bin .lss (.t 9) (.c (.int .i64 0)))⟩]) Bz9p) Bz9q)))
def Bz9s:AC:=(.kp [0,1] [5000,5001] (.dn (.seq (.reg false [⟨(some 5),none,.i (.mov (.t 1))⟩,⟨(some 6),none,.i (.mov (.t 0))⟩,⟨(some 7),none,.i (.len (.t 6))⟩,⟨(some 8),none,.i (.bin .sub (.t 5) (.t 7))⟩,⟨(some 1),none,.i (.mov (.t 8))⟩]) Bz9r)))
def Az9t:AFn:=⟨12,2,(.seq (.reg false [⟨(some 4),none,.i (.mov (.c (.int .i64 0)))⟩]) Bz9s),[.tmp 4]⟩
theorem czf6:cFn (drV none) Try.prog nz25 Az9t:=⟨_,_,Try.func41,rfl,by kernel_rfl,by decide,rfl,by kernel_rfl,by kernel_rfl⟩
def Bz9u:AC:=(.kp [0,1,2] [5000,5001,5002] (.dn (.seq (.reg false [⟨(some 7),none,.i (.mov (.t 0))⟩,⟨(some 8),none,.i (.mov (.t 1))⟩,⟨(some 9),none,.i (.bin .geq (.t 7) (.t 8))⟩,⟨(some 10),none,.i (.mov (.t 9))⟩,⟨(some 11),(some (10,true)),.i (.mov (.t 0))⟩,⟨(some 12),(some (10,true)),.i (.mov (.t 2))⟩,⟨(some 13),(some (10,true)),.i (.bin .leq (.t 11) (.t 12))⟩,⟨(some 14),none,.i (.pick (.t 10) (.t 13) (.c (.bool false)))⟩,⟨(some 6),none,.i (.mov (.t 14))⟩]) (.dn .ret))))
def Az9v:AFn:=⟨15,3,(.seq (.reg false [⟨(some 6),none,.i (.mov (.c (.bool false)))⟩]) Bz9u),[.tmp 6]⟩
theorem czf7:cFn (drV none) Try.prog nz2 Az9v:=⟨_,_,Try.func42,rfl,by kernel_rfl,by decide,rfl,by kernel_rfl,by kernel_rfl⟩
def Bz44:AC:=(.kp [0,1,5,9] [5000,5001] (.dn (.cond (.t 9) .skip (.exit 0))))
def Bz9w:AC:=(.kp [0,1,5,19] [5000,5001] (.dn (.cond (.t 19) (.seq (.reg false [⟨(some 4),none,.i (.mov (.c (.bool false)))⟩]) (.dn .ret)) .skip)))
def Bz9x:AC:=(.kp [0,1,5] [5000,5001] (.dn (.reg false [⟨(some 10),none,.i (.mov (.t 5))⟩,⟨(some 11),none,.i (.bin .add (.t 10) (.c (.int .i64 1)))⟩,⟨(some 5),none,.i (.mov (.t 11))⟩])))
def Bz45:AC:=(.kp [0,1,5] [5000,5001] (.dn (.seq (.block 1 (.seq (.reg false [⟨(some 12),none,.i (.mov (.t 0))⟩,⟨(some 13),none,.i (.mov (.t 5))⟩,⟨(some 14),none,.i (.iad 1 (.t 12) (.t 13))⟩,⟨(some 15),none,.i (.ld (.t 14))⟩,⟨(some 16),none,.i (.mov (.t 1))⟩,⟨(some 17),none,.i (.bin .sub (.t 16) (.c (.int .i64 1)))⟩,⟨(some 18),none,.call nz2 [(.t 15),(.c (.int .i64 0)),(.t 17)]⟩,⟨(some 19),none,.i (.un .not (.t 18))⟩]) Bz9w)) Bz9x)))
def Bz10:AC:=(.kp [0,1,5] [5000,5001] (.dn (.seq (.seq (.reg false [⟨(some 6),none,.i (.mov (.t 5))⟩,⟨(some 7),none,.i (.mov (.t 0))⟩,⟨(some 8),none,.i (.len (.t 7))⟩,⟨(some 9),none,.i (.bin .lss (.t 6) (.t 8))⟩]) Bz44) Bz45)))
def Bz9y:AC:=(.kp [0,1,5] [5000,5001] (.dn (.block 0 (.loop Bz10))))
def Bz9z:AC:=(.kp [0,1] [5000,5001] (.dn (.seq (.reg false [⟨(some 20),none,.i (.mov (.t 0))⟩,⟨(some 21),none,.i (.len (.t 20))⟩,⟨(some 22),none,.i (.mov (.t 1))⟩,⟨(some 23),none,.i (.bin .eql (.t 21) (.t 22))⟩,⟨(some 4),none,.i (.mov (.t 23))⟩]) (.dn .ret))))
def Bza0:AC:=(.kp [0,1] [5000,5001] (.dn (.seq (.seq (.reg false [⟨(some 5),none,.i (.mov (.c (.int .i64 0)))⟩]) Bz9y) Bz9z)))
def Aza1:AFn:=⟨24,2,(.seq (.reg false [⟨(some 4),none,.i (.mov (.c (.bool false)))⟩]) Bza0),[.tmp 4]⟩
theorem czf8:cFn (drV none) Try.prog nz26 Aza1:=⟨_,_,Try.func43,rfl,by kernel_rfl,by decide,rfl,by kernel_rfl,by kernel_rfl⟩
def Bz46:AC:=(.kp [0,5,6,16] [11,13,47,51,5000,5001] (.dn (.cond (.t 16) .skip (.exit 0))))
def Bz47:AC:=(.kp [0,5,6,7,8,28] [11,13,47,51,5000,5001] (.dn (.cond (.t 28) .skip (.exit 2))))
def Bza2:AC:=(.kp [0,5,6,7,8,9] [11,13,47,51,5000,5001] (.dn (.reg false [⟨(some 48),none,.i (.mov (.t 6))⟩,⟨(some 49),none,.i (.mov (.t 9))⟩,⟨(some 50),none,.i (.bsl 1 false [(.t 49)])⟩,⟨(some 51),none,.i (.app 1 8 (.t 48) (.t 50))⟩,⟨(some 6),none,.i (.mov (.t 51))⟩])))
def Bz48:AC:=(.kp [0,5,6,7,8,9,44] [11,13,47,51,5000,5001] (.dn (.cond (.t 44) (.seq (.reg false [⟨(some 45),none,.i (.mov (.t 5))⟩,⟨(some 46),none,.i (.mov (.t 9))⟩,⟨(some 47),none,.call nz2j [(.t 45),(.t 46)]⟩,⟨(some 5),none,.i (.mov (.t 47))⟩]) Bza2) .skip)))
def Bza3:AC:=(.kp [0,5,6,7,8,9] [11,13,47,51,5000,5001] (.dn (.seq (.reg false [⟨(some 41),none,.i (.mov (.t 5))⟩,⟨(some 42),none,.i (.mov (.t 9))⟩,⟨(some 43),none,.call nz2i [(.t 41),(.t 42)]⟩,⟨(some 44),none,.i (.un .not (.t 43))⟩]) Bz48)))
def Bz49:AC:=(.kp [0,5,6,7,8] [11,13,47,51,5000,5001] (.dn (.reg false [⟨(some 29),none,.i (.mov (.t 8))⟩,⟨(some 30),none,.i (.bin .add (.t 29) (.c (.int .i64 1)))⟩,⟨(some 8),none,.i (.mov (.t 30))⟩])))
def Bz4a:AC:=(.kp [0,5,6,7,8] [11,13,47,51,5000,5001] (.dn (.seq (.block 3 (.seq (.reg false [⟨(some 31),none,.i (.mov (.t 0))⟩,⟨(some 32),none,.i (.nilck (.t 31))⟩,⟨(some 33),none,.i (.fad 1 (.t 32))⟩,⟨(some 34),none,.i (.ld (.t 33))⟩,⟨(some 35),none,.i (.mov (.t 8))⟩,⟨(some 36),none,.i (.iad 1 (.t 34) (.t 35))⟩,⟨(some 37),none,.i (.ld (.t 36))⟩,⟨(some 38),none,.i (.mov (.t 7))⟩,⟨(some 39),none,.i (.iad 1 (.t 37) (.t 38))⟩,⟨(some 40),none,.i (.ld (.t 39))⟩,⟨(some 9),none,.i (.mov (.t 40))⟩]) Bza3)) Bz49)))
def Bz11:AC:=(.mv 47 11 (.kp [0,5,6,7,8] [11,13,47,51,5000,5001] (.dn (.seq (.seq (.reg false [⟨(some 22),none,.i (.mov (.t 8))⟩,⟨(some 23),none,.i (.mov (.t 0))⟩,⟨(some 24),none,.i (.nilck (.t 23))⟩,⟨(some 25),none,.i (.fad 1 (.t 24))⟩,⟨(some 26),none,.i (.ld (.t 25))⟩,⟨(some 27),none,.i (.len (.t 26))⟩,⟨(some 28),none,.i (.bin .lss (.t 22) (.t 27))⟩]) Bz47) Bz4a))))
def Bza4:AC:=(.kp [0,5,6,7,8] [11,13,47,51,5000,5001] (.dn (.block 2 (.loop Bz11))))
def Bza5:AC:=(.kp [0,5,6,7] [11,13,47,51,5000,5001] (.dn (.seq (.reg false [⟨(some 8),none,.i (.mov (.c (.int .i64 0)))⟩]) Bza4)))
def Bza6:AC:=(.kp [0,5,6,7] [11,13,47,51,5000,5001] (.dn (.seq (.reg false [⟨(some 20),none,.i (.mov (.t 6))⟩,⟨(some 21),none,.i (.slc 1 (.t 20) (some (.c (.int .i64 1))) none)⟩,⟨(some 6),none,.i (.mov (.t 21))⟩]) Bza5)))
def Bz4b:AC:=(.kp [0,5,6] [11,13,47,51,5000,5001] (.dn (.block 1 (.seq (.reg false [⟨(some 17),none,.i (.mov (.t 6))⟩,⟨(some 18),none,.i (.iad 1 (.t 17) (.c (.int .i64 0)))⟩,⟨(some 19),none,.i (.ld (.t 18))⟩,⟨(some 7),none,.i (.mov (.t 19))⟩]) Bza6))))
def Bz12:AC:=(.kp [0,5,6] [11,13,47,51,5000,5001] (.dn (.seq (.seq (.reg false [⟨(some 14),none,.i (.mov (.t 6))⟩,⟨(some 15),none,.i (.len (.t 14))⟩,⟨(some 16),none,.i (.bin .gtr (.t 15) (.c (.int .i64 0)))⟩]) Bz46) Bz4b)))
def Bza7:AC:=(.kp [5] [11,13,47,51,5000,5001] (.dn (.seq (.reg false [⟨(some 52),none,.i (.mov (.t 5))⟩,⟨(some 4),none,.i (.mov (.t 52))⟩]) (.dn .ret))))
def Bza8:AC:=(.kp [0,5,6] [11,13,47,51,5000,5001] (.dn (.seq (.block 0 (.loop Bz12)) Bza7)))
def Bza9:AC:=(.kp [0,1,5] [11,13,47,51,5000,5001] (.dn (.seq (.reg false [⟨(some 12),none,.i (.mov (.t 1))⟩,⟨(some 13),none,.i (.bsl 1 false [(.t 12)])⟩,⟨(some 6),none,.i (.mov (.t 13))⟩]) Bza8)))
def Bzaa:AC:=(.kp [0,1] [5000,5001] (.dn (.seq (.reg false [⟨(some 10),none,.i (.mov (.t 1))⟩,⟨(some 11),none,.i (.bsl 1 false [(.t 10)])⟩,⟨(some 5),none,.i (.mov (.t 11))⟩]) Bza9)))
def Azab:AFn:=⟨53,2,(.seq (.reg false [⟨(some 4),none,.i (.mov (.c (.slice none 0 0)))⟩]) Bzaa),[.tmp 4]⟩
theorem czf9:cFn (drV none) Try.prog nz27 Azab:=⟨_,_,Try.func44,rfl,by kernel_rfl,by decide,rfl,by kernel_rfl,by kernel_rfl⟩
def Bz4c:AC:=(.kp [0,1,5,6,17] [11,73,5000,5001] (.cond (.t 17) .skip (.exit 0)))
def Bz4d:AC:=(.kp [0,1,5,6,7,8,26] [11,20,66,73,5000,5001] (.cond (.t 26) .skip (.exit 2)))
def Bz4e:AC:=(.kp [0,1,5,6,7,8,9,31] [11,20,66,73,5000,5001] (.cond (.t 31) (.regi false [⟨(some 32),none,.i (.mov (.t 0))⟩,⟨(some 33),none,.i (.nilck (.t 32))⟩,⟨(some 34),none,.i (.fad 1 (.t 33))⟩,⟨(some 35),none,.i (.ld (.t 34))⟩,⟨(some 36),none,.i (.len (.t 35))⟩,⟨(some 9),none,.i (.mov (.t 36))⟩]) .skip))
def Bz4f:AC:=(.kp [0,1,5,6,7,8,9,10,43] [11,20,66,73,5000,5001] (.cond (.t 43) .skip (.exit 4)))
def Bz4g:AC:=(.kp [0,1,5,6,7,8,9,10,57] [11,20,66,73,5000,5001] (.cond (.t 57) (.regi false [⟨(some 58),none,.i (.mov (.t 9))⟩,⟨(some 59),none,.i (.bin .sub (.t 58) (.c (.int .i64 1)))⟩,⟨(some 9),none,.i (.mov (.t 59))⟩]) .skip))
def Bz4h:AC:=(.kp [0,1,5,6,7,8,9,10] [11,20,66,73,5000,5001] (.regi false [⟨(some 44),none,.i (.mov (.t 10))⟩,⟨(some 45),none,.i (.bin .add (.t 44) (.c (.int .i64 1)))⟩,⟨(some 10),none,.i (.mov (.t 45))⟩]))
def Bzac:AC:=(.kp [0,1,5,6,7,8,9,10] [11,20,66,73,5000,5001] (.seq (.block 5 (.seq (.regi false [⟨(some 46),none,.i (.mov (.t 0))⟩,⟨(some 47),none,.i (.nilck (.t 46))⟩,⟨(some 48),none,.i (.fad 1 (.t 47))⟩,⟨(some 49),none,.i (.ld (.t 48))⟩,⟨(some 50),none,.i (.mov (.t 10))⟩,⟨(some 51),none,.i (.iad 1 (.t 49) (.t 50))⟩,⟨(some 52),none,.i (.ld (.t 51))⟩,⟨(some 53),none,.i (.mov (.t 6))⟩,⟨(some 54),none,.i (.iad 1 (.t 52) (.t 53))⟩,⟨(some 55),none,.i (.ld (.t 54))⟩,⟨(some 56),none,.i (.mov (.t 8))⟩,⟨(some 57),none,.i (.bin .eql (.t 55) (.t 56))⟩]) Bz4g)) Bz4h))
def Bz13:AC:=(.kp [0,1,5,6,7,8,9,10] [11,20,66,73,5000,5001] (.seq (.seq (.regi false [⟨(some 37),none,.i (.mov (.t 10))⟩,⟨(some 38),none,.i (.mov (.t 0))⟩,⟨(some 39),none,.i (.nilck (.t 38))⟩,⟨(some 40),none,.i (.fad 1 (.t 39))⟩,⟨(some 41),none,.i (.ld (.t 40))⟩,⟨(some 42),none,.i (.len (.t 41))⟩,⟨(some 43),none,.i (.bin .lss (.t 37) (.t 42))⟩]) Bz4f) Bzac))
def Bzad:AC:=(.kp [0,1,5,6,7,8,9,10] [11,20,66,73,5000,5001] (.block 4 (.loop Bz13)))
def Bz4i:AC:=(.kp [0,1,5,6,7,8,9,62] [11,20,66,73,5000,5001] (.cond (.t 62) (.regi false [⟨(some 63),none,.i (.mov (.t 7))⟩,⟨(some 64),none,.i (.mov (.t 9))⟩,⟨(some 65),none,.i (.bsl 1 false [(.t 64)])⟩,⟨(some 66),none,.i (.app 1 8 (.t 63) (.t 65))⟩,⟨(some 7),none,.i (.mov (.t 66))⟩]) .skip))
def Bzae:AC:=(.kp [0,1,5,6,7,8,9] [11,20,66,73,5000,5001] (.seq (.regi false [⟨(some 60),none,.i (.mov (.t 8))⟩,⟨(some 61),none,.i (.mov (.t 1))⟩,⟨(some 62),none,.i (.bin .neq (.t 60) (.t 61))⟩]) Bz4i))
def Bz7:AC:=(.kp [0,1,5,6,7,8,9] [11,20,66,73,5000,5001] (.seq (.seq (.regi false [⟨(some 10),none,.i (.mov (.c (.int .i64 0)))⟩]) Bzad) Bzae))
def Bzaf:AC:=(.kp [0,1,5,6,7,8,9] [11,20,66,73,5000,5001] (.seq (.seq (.regi false [⟨(some 29),none,.i (.mov (.t 6))⟩,⟨(some 30),none,.i (.mov (.t 8))⟩,⟨(some 31),none,.i (.bin .eql (.t 29) (.t 30))⟩]) Bz4e) Bz7))
def Bz4j:AC:=(.kp [0,1,5,6,7,8] [11,20,66,73,5000,5001] (.regi false [⟨(some 27),none,.i (.mov (.t 8))⟩,⟨(some 28),none,.i (.bin .add (.t 27) (.c (.int .i64 1)))⟩,⟨(some 8),none,.i (.mov (.t 28))⟩]))
def Bzag:AC:=(.kp [0,1,5,6,7,8] [11,20,66,73,5000,5001] (.seq (.block 3 (.seq (.regi false [⟨(some 9),none,.i (.mov (.c (.int .i64 0)))⟩]) Bzaf)) Bz4j))
def Bz14:AC:=(.kp [0,1,5,6,7,8] [11,20,66,73,5000,5001] (.seq (.seq (.regi false [⟨(some 21),none,.i (.mov (.t 8))⟩,⟨(some 22),none,.i (.mov (.t 0))⟩,⟨(some 23),none,.i (.nilck (.t 22))⟩,⟨(some 24),none,.i (.fad 0 (.t 23))⟩,⟨(some 25),none,.i (.ld (.t 24))⟩,⟨(some 26),none,.i (.bin .lss (.t 21) (.t 25))⟩]) Bz4d) Bzag))
def Bzah:AC:=(.kp [0,1,5,6,7,8] [11,20,66,73,5000,5001] (.block 2 (.loop Bz14)))
def Bz4k:AC:=(.kp [0,1,5,6,7,69] [11,20,66,73,5000,5001] (.gh (.cond (.t 69) (.regi false [⟨(some 70),none,.i (.mov (.t 5))⟩,⟨(some 71),none,.i (.mov (.t 7))⟩,⟨(some 72),none,.i (.bsl 1 true [(.t 71)])⟩,⟨(some 73),none,.i (.app 1 24 (.t 70) (.t 72))⟩,⟨(some 5),none,.i (.mov (.t 73))⟩]) .skip)))
def Bzai:AC:=(.kp [0,1,5,6,7] [11,20,66,73,5000,5001] (.seq (.regi false [⟨(some 67),none,.i (.mov (.t 6))⟩,⟨(some 68),none,.i (.mov (.t 1))⟩,⟨(some 69),none,.i (.bin .neq (.t 67) (.t 68))⟩]) Bz4k))
def Bzaj:AC:=(.kp [0,1,5,6,7] [11,20,66,73,5000,5001] (.seq (.seq (.regi false [⟨(some 8),none,.i (.mov (.c (.int .i64 0)))⟩]) Bzah) Bzai))
def Bz4l:AC:=(.kp [0,1,5,6] [11,73,5000,5001] (.regi false [⟨(some 18),none,.i (.mov (.t 6))⟩,⟨(some 19),none,.i (.bin .add (.t 18) (.c (.int .i64 1)))⟩,⟨(some 6),none,.i (.mov (.t 19))⟩]))
def Bzak:AC:=(.kp [0,1,5,6] [11,73,5000,5001] (.seq (.block 1 (.seq (.regi false [⟨(some 20),none,.i (.bsl 1 false [])⟩,⟨(some 7),none,.i (.mov (.t 20))⟩]) Bzaj)) Bz4l))
def Bz15:AC:=(.kp [0,1,5,6] [11,73,5000,5001] (.seq (.seq (.regi false [⟨(some 12),none,.i (.mov (.t 6))⟩,⟨(some 13),none,.i (.mov (.t 0))⟩,⟨(some 14),none,.i (.nilck (.t 13))⟩,⟨(some 15),none,.i (.fad 0 (.t 14))⟩,⟨(some 16),none,.i (.ld (.t 15))⟩,⟨(some 17),none,.i (.bin .lss (.t 12) (.t 16))⟩]) Bz4c) Bzak))
def Bzal:AC:=(.kp [0,1,5,6] [11,73,5000,5001] (.block 0 (.loop Bz15)))
def Bzam:AC:=(.kp [5] [11,73,5000,5001] (.seq (.regi false [⟨(some 74),none,.i (.mov (.t 5))⟩,⟨(some 75),none,.call nz2k [(.t 74)]⟩,⟨(some 4),none,.i (.mov (.t 75))⟩]) .ret))
def Bzan:AC:=(.kp [0,1,5] [11,73,5000,5001] (.seq (.seq (.regi false [⟨(some 6),none,.i (.mov (.c (.int .i64 0)))⟩]) Bzal) Bzam))
def Bzao:AC:=(.kp [0,1] [5000,5001] (.seq (.regi false [⟨(some 11),none,.i (.bsl 1 true [])⟩,⟨(some 5),none,.i (.mov (.t 11))⟩]) Bzan))
def Az4m:AFn:=⟨76,2,(.seq (.regi false [⟨(some 4),none,.i (.mov (.c (.int .i64 0)))⟩]) Bzao),[.tmp 4]⟩
theorem czfa:cFn (drV none) Try.prog nz28 Az4m:=⟨_,_,Try.func45,rfl,by kernel_rfl,by decide,rfl,by kernel_rfl,by kernel_rfl⟩
def Bz4n:AC:=(.kp [0,1,7] [5000,5001] (.dn (.cond (.t 7) .skip (.exit 0))))
def Bzap:AC:=(.kp [0,5] [5000,5001] (.dn (.reg false [⟨(some 12),none,.i (.mov (.t 5))⟩,⟨(some 1),none,.i (.mov (.t 12))⟩])))
def Bzaq:AC:=(.kp [1,5] [5000,5001] (.dn (.seq (.reg false [⟨(some 11),none,.i (.mov (.t 1))⟩,⟨(some 0),none,.i (.mov (.t 11))⟩]) Bzap)))
def Bzar:AC:=(.kp [0,1] [5000,5001] (.dn (.block 1 (.seq (.reg false [⟨(some 8),none,.i (.mov (.t 0))⟩,⟨(some 9),none,.i (.mov (.t 1))⟩,⟨(some 10),none,.i (.bin .rem (.t 8) (.t 9))⟩,⟨(some 5),none,.i (.mov (.t 10))⟩]) Bzaq))))
def Bz16:AC:=(.kp [0,1] [5000,5001] (.dn (.seq (.seq (.reg false [⟨(some 6),none,.i (.mov (.t 1))⟩,⟨(some 7),none,.i (.bin .neq (.t 6) (.c (.int .i64 0)))⟩]) Bz4n) Bzar)))
def Bzas:AC:=(.kp [0] [5000,5001] (.dn (.seq (.reg false [⟨(some 13),none,.i (.mov (.t 0))⟩,⟨(some 4),none,.i (.mov (.t 13))⟩]) (.dn .ret))))
def Bzat:AC:=(.kp [0,1] [5000,5001] (.dn (.seq (.block 0 (.loop Bz16)) Bzas)))
def Azau:AFn:=⟨14,2,(.seq (.reg false [⟨(some 4),none,.i (.mov (.c (.int .i64 0)))⟩]) Bzat),[.tmp 4]⟩
theorem czfb:cFn (drV none) Try.prog nz29 Azau:=⟨_,_,Try.func46,rfl,by kernel_rfl,by decide,rfl,by kernel_rfl,by kernel_rfl⟩
def Bzav:AC:=(.kp [9] [11,1011,5000,5001] (.dn (.cond (.t 9) (.seq (.reg false [⟨(some 4),none,.i (.mov (.c (.int .i64 2)))⟩]) (.dn .ret)) .skip)))
def Bzaw:AC:=(.kp [1,5] [5000,5001] (.dn (.cond (.t 5) (.seq (.reg false [⟨(some 4),none,.i (.mov (.c (.int .i64 1)))⟩]) (.dn .ret)) (.seq (.reg false [⟨(some 10),none,.i (.mov (.t 1))⟩,⟨(some 11),none,.calv (.t 10) []⟩,⟨(some 12),none,.i (.un .not (.t 11))⟩,⟨(some 9),none,.i (.mov (.t 12))⟩]) Bzav))))
def Bzax:AC:=(.kp [] [5000,5001] (.dn (.seq (.reg false [⟨(some 4),none,.i (.mov (.c (.int .i64 0)))⟩]) (.dn .ret))))
def Bzay:AC:=(.kp [1,2] [2,5000,5001] (.dn (.seq (.block 0 (.seq (.reg false [⟨(some 6),none,.i (.lda 2 (.t 2))⟩,⟨(some 7),none,.call nz2l [(.t 6)]⟩,⟨(some 8),none,.i (.un .not (.t 7))⟩,⟨(some 5),none,.i (.mov (.t 8))⟩]) Bzaw)) Bzax)))
def Azaz:AFn:=⟨13,2,(.seq (.reg false [⟨(some 2),none,.i (.box (.t 0))⟩,⟨(some 4),none,.i (.mov (.c (.int .i64 0)))⟩]) Bzay),[.tmp 4]⟩
theorem czfc:cFn (drV none) Try.prog nz2a Azaz:=⟨_,_,Try.func47,rfl,by kernel_rfl,by decide,rfl,by kernel_rfl,by kernel_rfl⟩
def Bzb0:AC:=(.kp [0,1] [5000,5001] (.dn (.seq (.reg false [⟨(some 3),none,.i (.ld (.t 0))⟩,⟨(some 4),none,.i (.fad 0 (.t 1))⟩,⟨(some 5),none,.i (.ld (.t 4))⟩,⟨(some 6),none,.call nz2b [(.t 3),(.t 5)]⟩,⟨(some 2),none,.i (.mov (.t 6))⟩]) (.dn .ret))))
def Azb1:AFn:=⟨7,2,(.seq (.reg false [⟨(some 2),none,.i (.mov (.c (.bool false)))⟩]) Bzb0),[.tmp 2]⟩
theorem czfd:cFn (drV none) Try.prog nzf Azb1:=⟨_,_,Try.func48,rfl,by kernel_rfl,by decide,rfl,by kernel_rfl,by kernel_rfl⟩
def Bz8:AC:=(.kp [0,1,7,8,9,31] [5000,5001] (.dn (.cond (.t 31) (.seq (.reg false [⟨(some 4),none,.i (.mov (.c (.bool false)))⟩]) (.dn .ret)) .skip)))
def Bzb2:AC:=(.kp [0,1,5,6,7,8,9] [5000,5001] (.dn (.seq (.reg false [⟨(some 14),none,.i (.mov (.t 6))⟩,⟨(some 15),none,.i (.mov (.t 1))⟩,⟨(some 16),none,.i (.bin .sub (.t 15) (.c (.int .i64 1)))⟩,⟨(some 17),none,.call nz3 [(.t 14),(.c (.int .i64 0)),(.t 16)]⟩,⟨(some 18),none,.i (.un .not (.t 17))⟩,⟨(some 19),none,.i (.mov (.t 18))⟩,⟨(some 20),(some (19,false)),.i (.mov (.t 5))⟩,⟨(some 21),(some (19,false)),.i (.bin .gtr (.t 20) (.c (.int .i64 0)))⟩,⟨(some 22),(some (19,false)),.i (.mov (.t 21))⟩,⟨(some 23),(some (22,true)),.i (.mov (.t 6))⟩,⟨(some 24),(some (22,true)),.i (.mov (.t 0))⟩,⟨(some 25),(some (22,true)),.i (.mov (.t 5))⟩,⟨(some 26),(some (22,true)),.i (.bin .sub (.t 25) (.c (.int .i64 1)))⟩,⟨(some 27),(some (22,true)),.i (.iad 1 (.t 24) (.t 26))⟩,⟨(some 28),(some (22,true)),.i (.ld (.t 27))⟩,⟨(some 29),(some (22,true)),.i (.bin .leq (.t 23) (.t 28))⟩,⟨(some 30),(some (19,false)),.i (.pick (.t 22) (.t 29) (.c (.bool false)))⟩,⟨(some 31),none,.i (.pick (.t 19) (.c (.bool true)) (.t 30))⟩]) Bz8)))
def Bz4o:AC:=(.kp [0,1,7,8,9] [5000,5001] (.dn (.reg false [⟨(some 32),none,.i (.bin .add (.t 9) (.c (.int .i64 1)))⟩,⟨(some 9),none,.i (.mov (.t 32))⟩])))
def Bz4p:AC:=(.kp [0,1,7,8,9] [5000,5001] (.dn (.seq (.block 1 (.seq (.reg false [⟨(some 11),none,.i (.mov (.t 9))⟩,⟨(some 12),none,.i (.iad 1 (.t 7) (.t 9))⟩,⟨(some 13),none,.i (.ld (.t 12))⟩,⟨(some 5),none,.i (.mov (.t 11))⟩,⟨(some 6),none,.i (.mov (.t 13))⟩]) Bzb2)) Bz4o)))
def Bz4q:AC:=(.kp [0,1,7,8,9,10] [5000,5001] (.dn (.seq (.cond (.t 10) .skip (.exit 0)) Bz4p)))
def Bz17:AC:=(.kp [0,1,7,8,9] [5000,5001] (.dn (.seq (.reg false [⟨(some 10),none,.i (.bin .lss (.t 9) (.t 8))⟩]) Bz4q)))
def Bzb3:AC:=(.kp [0,1,7,8,9] [5000,5001] (.dn (.block 0 (.loop Bz17))))
def Bzb4:AC:=(.kp [] [5000,5001] (.dn (.seq (.reg false [⟨(some 4),none,.i (.mov (.c (.bool true)))⟩]) (.dn .ret))))
def Bzb5:AC:=(.kp [0,1] [5000,5001] (.dn (.seq (.seq (.reg false [⟨(some 7),none,.i (.mov (.t 0))⟩,⟨(some 8),none,.i (.len (.t 7))⟩,⟨(some 9),none,.i (.mov (.c (.int .i64 0)))⟩]) Bzb3) Bzb4)))
def Azb6:AFn:=⟨33,2,(.seq (.reg false [⟨(some 4),none,.i (.mov (.c (.bool false)))⟩]) Bzb5),[.tmp 4]⟩
theorem czfe:cFn (drV none) Try.prog nz2b Azb6:=⟨_,_,Try.func49,rfl,by kernel_rfl,by decide,rfl,by kernel_rfl,by kernel_rfl⟩
def Bz4r:AC:=(.kp [1,5,6,15] [1,5000] (.dn (.cond (.t 15) (.seq (.reg false [⟨(some 2),none,.i (.mov (.c (.bool false)))⟩]) (.dn .ret)) .skip)))
def Bzb7:AC:=(.kp [1,3,5,6] [1,5000] (.dn (.seq (.reg true [⟨(some 9),none,.i (.lda 2 (.t 1))⟩,⟨(some 10),none,.i (.mov (.t 3))⟩,⟨(some 11),none,.call nz2m [(.t 9),(.t 10)]⟩,⟨(some 12),none,.call nzg [(.t 11)]⟩,⟨(some 13),none,.i (.fad 0 (.t 1))⟩,⟨(some 14),none,.i (.ld (.t 13))⟩,⟨(some 15),none,.i (.bin .lss (.t 12) (.t 14))⟩]) Bz4r)))
def Bzb8:AC:=(.kp [1,5,6] [1,5000] (.dn (.reg false [⟨(some 16),none,.i (.bin .add (.t 6) (.c (.int .i64 1)))⟩,⟨(some 6),none,.i (.mov (.t 16))⟩])))
def Bzb9:AC:=(.kp [1,5,6] [1,5000] (.dn (.seq (.block 1 (.seq (.reg false [⟨(some 8),none,.i (.mov (.t 6))⟩,⟨(some 3),none,.i (.mov (.t 8))⟩]) Bzb7)) Bzb8)))
def Bz4s:AC:=(.kp [1,5,6,7] [1,5000] (.dn (.seq (.cond (.t 7) .skip (.exit 0)) Bzb9)))
def Bz18:AC:=(.kp [1,5,6] [1,5000] (.dn (.seq (.reg false [⟨(some 7),none,.i (.bin .lss (.t 6) (.t 5))⟩]) Bz4s)))
def Bzba:AC:=(.kp [1,5,6] [1,5000] (.dn (.block 0 (.loop Bz18))))
def Bzbb:AC:=(.kp [] [5000] (.dn (.seq (.reg false [⟨(some 2),none,.i (.mov (.c (.bool true)))⟩]) (.dn .ret))))
def Bzbc:AC:=(.kp [1] [1,5000] (.dn (.seq (.seq (.reg false [⟨(some 4),none,.i (.fad 0 (.t 1))⟩,⟨(some 5),none,.i (.ld (.t 4))⟩,⟨(some 6),none,.i (.mov (.c (.int .i64 0)))⟩]) Bzba) Bzbb)))
def Azbd:AFn:=⟨17,1,(.seq (.reg false [⟨(some 1),none,.i (.box (.t 0))⟩,⟨(some 2),none,.i (.mov (.c (.bool false)))⟩]) Bzbc),[.tmp 2]⟩
theorem czff:cFn (drV none) Try.prog nz2c Azbd:=⟨_,_,Try.func50,rfl,by kernel_rfl,by decide,rfl,by kernel_rfl,by kernel_rfl⟩
def Bz4t:AC:=(.kp [1,5,7,13,14,15,22] [12,31,5000,5001,901] (.cond (.t 22) (.regi false [⟨(some 23),none,.i (.mov (.t 5))⟩,⟨(some 24),none,.i (.mov (.t 7))⟩,⟨(some 25),none,.call nzh [(.t 24)]⟩,⟨(some 26),none,.i (.mov (.t 1))⟩,⟨(some 27),none,.i (.mov (.t 1))⟩,⟨(some 28),none,.i (.bin .add (.t 27) (.c (.int .i64 1)))⟩,⟨(some 29),none,.call nz2n [(.t 25),(.t 26),(.t 28)]⟩,⟨(some 30),none,.i (.bsl 1 true [(.t 29)])⟩,⟨(some 31),none,.i (.app 1 24 (.t 23) (.t 30))⟩,⟨(some 5),none,.i (.mov (.t 31))⟩]) .skip))
def Bzbe:AC:=(.kp [1,5,6,7,13,14,15] [12,31,5000,5001,901] (.seq (.regi false [⟨(some 20),none,.i (.mov (.t 6))⟩,⟨(some 21),none,.i (.mov (.t 1))⟩,⟨(some 22),none,.i (.bin .neq (.t 20) (.t 21))⟩]) Bz4t))
def Bz4u:AC:=(.kp [1,5,13,14,15] [12,31,5000,5001,901] (.regi false [⟨(some 32),none,.i (.bin .add (.t 15) (.c (.int .i64 1)))⟩,⟨(some 15),none,.i (.mov (.t 32))⟩]))
def Bzbf:AC:=(.kp [1,5,13,14,15] [12,31,5000,5001,901] (.seq (.block 1 (.seq (.regi false [⟨(some 17),none,.i (.mov (.t 15))⟩,⟨(some 18),none,.i (.iad 1 (.t 13) (.t 15))⟩,⟨(some 19),none,.i (.ld (.t 18))⟩,⟨(some 6),none,.i (.mov (.t 17))⟩,⟨(some 7),none,.i (.mov (.t 19))⟩]) Bzbe)) Bz4u))
def Bz4v:AC:=(.kp [1,5,13,14,15,16] [12,31,5000,5001,901] (.seq (.cond (.t 16) .skip (.exit 0)) Bzbf))
def Bz19:AC:=(.kp [1,5,13,14,15] [12,31,5000,5001,901] (.seq (.regi false [⟨(some 16),none,.i (.bin .lss (.t 15) (.t 14))⟩]) Bz4v))
def Bzbg:AC:=(.kp [1,5,13,14,15] [12,31,5000,5001,901] (.block 0 (.loop Bz19)))
def Bz4w:AC:=(.kp [5,8,9,10,34,35,43] [12,31,5000,5001,901] (.cond (.t 43) .skip (.exit 4)))
def Bz4x:AC:=(.kp [5,8,9,10,11,34,35,51] [12,31,5000,5001,901] (.cond (.t 51) .skip (.exit 6)))
def Bzbh:AC:=(.kp [5,8,9,10,11,34,35] [12,31,5000,5001,901] (.regi false [⟨(some 52),none,.i (.mov (.t 11))⟩,⟨(some 53),none,.i (.bin .add (.t 52) (.c (.int .i64 1)))⟩,⟨(some 11),none,.i (.mov (.t 53))⟩]))
def Bzbi:AC:=(.kp [5,8,9,10,11,34,35] [12,31,5000,5001,901] (.seq (.block 7 (.regi true [⟨(some 54),none,.i (.mov (.t 5))⟩,⟨(some 55),none,.i (.mov (.t 10))⟩,⟨(some 56),none,.i (.iad 1 (.t 54) (.t 55))⟩,⟨(some 57),none,.i (.ld (.t 56))⟩,⟨(some 58),none,.i (.mov (.t 11))⟩,⟨(some 59),none,.i (.mov (.t 5))⟩,⟨(some 60),none,.i (.mov (.t 10))⟩,⟨(some 61),none,.i (.iad 1 (.t 59) (.t 60))⟩,⟨(some 62),none,.i (.ld (.t 61))⟩,⟨(some 63),none,.i (.mov (.t 11))⟩,⟨(some 64),none,.i (.iad 1 (.t 62) (.t 63))⟩,⟨(some 65),none,.i (.ld (.t 64))⟩,⟨(some 66),none,.i (.mov (.t 5))⟩,⟨(some 67),none,.i (.mov (.t 9))⟩,⟨(some 68),none,.i (.iad 1 (.t 66) (.t 67))⟩,⟨(some 69),none,.i (.ld (.t 68))⟩,⟨(some 70),none,.i (.mov (.t 9))⟩,⟨(some 71),none,.i (.iad 1 (.t 69) (.t 70))⟩,⟨(some 72),none,.i (.ld (.t 71))⟩,⟨(some 73),none,.i (.bin .mul (.t 65) (.t 72))⟩,⟨(some 74),none,.i (.mov (.t 5))⟩,⟨(some 75),none,.i (.mov (.t 10))⟩,⟨(some 76),none,.i (.iad 1 (.t 74) (.t 75))⟩,⟨(some 77),none,.i (.ld (.t 76))⟩,⟨(some 78),none,.i (.mov (.t 9))⟩,⟨(some 79),none,.i (.iad 1 (.t 77) (.t 78))⟩,⟨(some 80),none,.i (.ld (.t 79))⟩,⟨(some 81),none,.i (.mov (.t 5))⟩,⟨(some 82),none,.i (.mov (.t 9))⟩,⟨(some 83),none,.i (.iad 1 (.t 81) (.t 82))⟩,⟨(some 84),none,.i (.ld (.t 83))⟩,⟨(some 85),none,.i (.mov (.t 11))⟩,⟨(some 86),none,.i (.iad 1 (.t 84) (.t 85))⟩,⟨(some 87),none,.i (.ld (.t 86))⟩,⟨(some 88),none,.i (.bin .mul (.t 80) (.t 87))⟩,⟨(some 89),none,.i (.bin .sub (.t 73) (.t 88))⟩,⟨(some 90),none,.i (.mov (.t 8))⟩,⟨(some 91),none,.i (.bin .quo (.t 89) (.t 90))⟩,⟨(some 92),none,.i (.iad 1 (.t 57) (.t 58))⟩,⟨none,none,.i (.sto 1 (.t 92) (.t 91))⟩])) Bzbh))
def Bz1a:AC:=(.kp [5,8,9,10,11,34,35] [12,31,5000,5001,901] (.seq (.seq (.regi false [⟨(some 48),none,.i (.mov (.t 11))⟩,⟨(some 49),none,.i (.mov (.t 5))⟩,⟨(some 50),none,.i (.len (.t 49))⟩,⟨(some 51),none,.i (.bin .lss (.t 48) (.t 50))⟩]) Bz4x) Bzbi))
def Bzbj:AC:=(.kp [5,8,9,10,11,34,35] [12,31,5000,5001,901] (.block 6 (.loop Bz1a)))
def Bzbk:AC:=(.kp [5,8,9,10,34,35] [12,31,5000,5001,901] (.gh (.regi false [⟨(some 44),none,.i (.mov (.t 10))⟩,⟨(some 45),none,.i (.bin .add (.t 44) (.c (.int .i64 1)))⟩,⟨(some 10),none,.i (.mov (.t 45))⟩])))
def Bzbl:AC:=(.kp [5,8,9,10,34,35] [12,31,5000,5001,901] (.gh (.seq (.block 5 (.seq (.regi false [⟨(some 46),none,.i (.mov (.t 9))⟩,⟨(some 47),none,.i (.bin .add (.t 46) (.c (.int .i64 1)))⟩,⟨(some 11),none,.i (.mov (.t 47))⟩]) Bzbj)) Bzbk)))
def Bz1b:AC:=(.kp [5,8,9,10,34,35] [12,31,5000,5001,901] (.seq (.seq (.regi false [⟨(some 40),none,.i (.mov (.t 10))⟩,⟨(some 41),none,.i (.mov (.t 5))⟩,⟨(some 42),none,.i (.len (.t 41))⟩,⟨(some 43),none,.i (.bin .lss (.t 40) (.t 42))⟩]) Bz4w) Bzbl))
def Bzbm:AC:=(.kp [5,8,9,10,34,35] [12,31,5000,5001,901] (.block 4 (.loop Bz1b)))
def Bzbn:AC:=(.kp [5,9,34,35] [12,31,5000,5001,901] (.regi false [⟨(some 93),none,.i (.mov (.t 5))⟩,⟨(some 94),none,.i (.mov (.t 9))⟩,⟨(some 95),none,.i (.iad 1 (.t 93) (.t 94))⟩,⟨(some 96),none,.i (.ld (.t 95))⟩,⟨(some 97),none,.i (.mov (.t 9))⟩,⟨(some 98),none,.i (.iad 1 (.t 96) (.t 97))⟩,⟨(some 99),none,.i (.ld (.t 98))⟩,⟨(some 8),none,.i (.mov (.t 99))⟩]))
def Bzbo:AC:=(.kp [5,8,9,34,35] [12,31,5000,5001,901] (.seq (.seq (.regi false [⟨(some 38),none,.i (.mov (.t 9))⟩,⟨(some 39),none,.i (.bin .add (.t 38) (.c (.int .i64 1)))⟩,⟨(some 10),none,.i (.mov (.t 39))⟩]) Bzbm) Bzbn))
def Bzbp:AC:=(.kp [5,8,34,35] [12,31,5000,5001,901] (.regi false [⟨(some 100),none,.i (.bin .add (.t 35) (.c (.int .i64 1)))⟩,⟨(some 35),none,.i (.mov (.t 100))⟩]))
def Bzbq:AC:=(.kp [5,8,34,35] [12,31,5000,5001,901] (.seq (.block 3 (.seq (.regi false [⟨(some 37),none,.i (.mov (.t 35))⟩,⟨(some 9),none,.i (.mov (.t 37))⟩]) Bzbo)) Bzbp))
def Bz4y:AC:=(.kp [5,8,34,35,36] [12,31,5000,5001,901] (.seq (.cond (.t 36) .skip (.exit 2)) Bzbq))
def Bz1c:AC:=(.kp [5,8,34,35] [12,31,5000,5001,901] (.seq (.regi false [⟨(some 36),none,.i (.bin .lss (.t 35) (.t 34))⟩]) Bz4y))
def Bzbr:AC:=(.kp [5,8,34,35] [12,31,5000,5001,901] (.block 2 (.loop Bz1c)))
def Bzbs:AC:=(.kp [8] [12,31,5000,5001,901] (.seq (.regi false [⟨(some 101),none,.i (.mov (.t 8))⟩,⟨(some 4),none,.i (.mov (.t 101))⟩]) .ret))
def Bzbt:AC:=(.kp [5,8] [12,31,5000,5001,901] (.seq (.seq (.regi false [⟨(some 33),none,.i (.mov (.t 5))⟩,⟨(some 34),none,.i (.len (.t 33))⟩,⟨(some 35),none,.i (.mov (.c (.int .i64 0)))⟩]) Bzbr) Bzbs))
def Bzbu:AC:=(.kp [5] [12,31,5000,5001,901] (.seq (.regi false [⟨(some 8),none,.i (.mov (.c (.int .i64 1)))⟩]) Bzbt))
def Bzbv:AC:=(.kp [0,1,5] [12,31,5000,5001,901] (.seq (.seq (.regi false [⟨(some 13),none,.i (.mov (.t 0))⟩,⟨(some 14),none,.i (.len (.t 13))⟩,⟨(some 15),none,.i (.mov (.c (.int .i64 0)))⟩]) Bzbg) Bzbu))
def Bzbw:AC:=(.kp [0,1] [5000,5001,901] (.seq (.regi false [⟨(some 12),none,.i (.bsl 1 true [])⟩,⟨(some 5),none,.i (.mov (.t 12))⟩]) Bzbv))
def Az4z:AFn:=⟨102,2,(.seq (.regi false [⟨(some 4),none,.i (.mov (.c (.int .i64 0)))⟩]) Bzbw),[.tmp 4]⟩
theorem czfg:cFn (drV none) Try.prog nz2d Az4z:=⟨_,_,Try.func51,rfl,by kernel_rfl,by decide,rfl,by kernel_rfl,by kernel_rfl⟩
def Bz50:AC:=(.kp [0,1,6] [5000,5001] (.dn (.cond (.t 6) .skip (.exit 0))))
def Bzbx:AC:=(.kp [0,1] [5000,5001] (.dn (.block 1 (.reg true [⟨(some 7),none,.i (.mov (.t 1))⟩,⟨(some 8),none,.i (.mov (.t 0))⟩,⟨(some 9),none,.i (.mov (.t 1))⟩,⟨(some 10),none,.i (.bin .rem (.t 8) (.t 9))⟩,⟨(some 0),none,.i (.mov (.t 7))⟩,⟨(some 1),none,.i (.mov (.t 10))⟩]))))
def Bz1d:AC:=(.kp [0,1] [5000,5001] (.dn (.seq (.seq (.reg false [⟨(some 5),none,.i (.mov (.t 1))⟩,⟨(some 6),none,.i (.bin .neq (.t 5) (.c (.int .i64 0)))⟩]) Bz50) Bzbx)))
def Bzby:AC:=(.kp [0] [5000,5001] (.dn (.seq (.reg false [⟨(some 11),none,.i (.mov (.t 0))⟩,⟨(some 12),none,.i (.mov (.t 0))⟩,⟨(some 13),none,.i (.un .neg (.t 12))⟩,⟨(some 14),none,.i (.mx true (.t 11) (.t 13))⟩,⟨(some 4),none,.i (.mov (.t 14))⟩]) (.dn .ret))))
def Bzbz:AC:=(.kp [0,1] [5000,5001] (.dn (.seq (.block 0 (.loop Bz1d)) Bzby)))
def Azc0:AFn:=⟨15,2,(.seq (.reg false [⟨(some 4),none,.i (.mov (.c (.int .i64 0)))⟩]) Bzbz),[.tmp 4]⟩
theorem czfh:cFn (drV none) Try.prog nz2e Azc0:=⟨_,_,Try.func52,rfl,by kernel_rfl,by decide,rfl,by kernel_rfl,by kernel_rfl⟩
def Bz51:AC:=(.kp [0,1,2,7,11] [5000,5001,5002] (.dn (.cond (.t 11) .skip (.exit 0))))
def Bz9:AC:=(.kp [0,1,2,7,37] [5000,5001,5002] (.dn (.cond (.t 37) (.seq (.reg false [⟨(some 6),none,.i (.mov (.c (.bool false)))⟩]) (.dn .ret)) .skip)))
def Bz52:AC:=(.kp [0,1,2,7] [5000,5001,5002] (.dn (.reg false [⟨(some 12),none,.i (.mov (.t 7))⟩,⟨(some 13),none,.i (.bin .add (.t 12) (.c (.int .i64 1)))⟩,⟨(some 7),none,.i (.mov (.t 13))⟩])))
def Bz53:AC:=(.kp [0,1,2,7] [5000,5001,5002] (.dn (.seq (.block 1 (.seq (.reg true [⟨(some 14),none,.i (.mov (.t 0))⟩,⟨(some 15),none,.i (.mov (.t 7))⟩,⟨(some 16),none,.i (.iad 1 (.t 14) (.t 15))⟩,⟨(some 17),none,.i (.ld (.t 16))⟩,⟨(some 18),none,.i (.mov (.t 1))⟩,⟨(some 19),none,.i (.mov (.t 2))⟩,⟨(some 20),none,.calh nz2 [(.t 17),(.t 18),(.t 19)]⟩,⟨(some 21),none,.i (.un .not (.t 20))⟩,⟨(some 22),none,.i (.mov (.t 21))⟩,⟨(some 23),(some (22,false)),.i (.mov (.t 7))⟩,⟨(some 24),(some (22,false)),.i (.bin .gtr (.t 23) (.c (.int .i64 0)))⟩,⟨(some 25),(some (22,false)),.i (.mov (.t 24))⟩,⟨(some 26),(some (25,true)),.i (.mov (.t 0))⟩,⟨(some 27),(some (25,true)),.i (.mov (.t 7))⟩,⟨(some 28),(some (25,true)),.i (.bin .sub (.t 27) (.c (.int .i64 1)))⟩,⟨(some 29),(some (25,true)),.i (.iad 1 (.t 26) (.t 28))⟩,⟨(some 30),(some (25,true)),.i (.ld (.t 29))⟩,⟨(some 31),(some (25,true)),.i (.mov (.t 0))⟩,⟨(some 32),(some (25,true)),.i (.mov (.t 7))⟩,⟨(some 33),(some (25,true)),.i (.iad 1 (.t 31) (.t 32))⟩,⟨(some 34),(some (25,true)),.i (.ld (.t 33))⟩,⟨(some 35),(some (25,true)),.i (.bin .geq (.t 30) (.t 34))⟩,⟨(some 36),(some (22,false)),.i (.pick (.t 25) (.t 35) (.c (.bool false)))⟩,⟨(some 37),none,.i (.pick (.t 22) (.c (.bool true)) (.t 36))⟩]) Bz9)) Bz52)))
def Bz1e:AC:=(.kp [0,1,2,7] [5000,5001,5002] (.dn (.seq (.seq (.reg false [⟨(some 8),none,.i (.mov (.t 7))⟩,⟨(some 9),none,.i (.mov (.t 0))⟩,⟨(some 10),none,.i (.len (.t 9))⟩,⟨(some 11),none,.i (.bin .lss (.t 8) (.t 10))⟩]) Bz51) Bz53)))
def Bzc1:AC:=(.kp [0,1,2,7] [5000,5001,5002] (.dn (.block 0 (.loop Bz1e))))
def Bzc2:AC:=(.kp [] [5000,5001,5002] (.dn (.seq (.reg false [⟨(some 6),none,.i (.mov (.c (.bool true)))⟩]) (.dn .ret))))
def Bzc3:AC:=(.kp [0,1,2] [5000,5001,5002] (.dn (.seq (.seq (.reg false [⟨(some 7),none,.i (.mov (.c (.int .i64 0)))⟩]) Bzc1) Bzc2)))
def Azc4:AFn:=⟨38,3,(.seq (.reg false [⟨(some 6),none,.i (.mov (.c (.bool false)))⟩]) Bzc3),[.tmp 6]⟩
theorem czfi:cFn (drV none) Try.prog nz2f Azc4:=⟨_,_,Try.func53,rfl,by kernel_rfl,by decide,rfl,by kernel_rfl,by kernel_rfl⟩
def Bzc5:AC:=(.kp [0] [5000] (.dn (.seq (.reg false [⟨(some 3),none,.i (.mov (.t 0))⟩,⟨(some 4),none,.i (.len (.t 3))⟩,⟨(some 2),none,.i (.mov (.t 4))⟩]) (.dn .ret))))
def Azc6:AFn:=⟨5,1,(.seq (.reg false [⟨(some 2),none,.i (.mov (.c (.int .i64 0)))⟩]) Bzc5),[.tmp 2]⟩
theorem czfj:cFn (drV none) Try.prog nz2g Azc6:=⟨_,_,Try.func55,rfl,by kernel_rfl,by decide,rfl,by kernel_rfl,by kernel_rfl⟩
def Bzc7:AC:=(.kp [0,1] [5000,5001] (.dn (.seq (.reg false [⟨(some 5),none,.i (.mov (.t 0))⟩,⟨(some 6),none,.i (.mov (.t 1))⟩,⟨(some 7),none,.call nz2o [(.t 5),(.t 6)]⟩,⟨(some 8),none,.i (.bin .geq (.t 7) (.c (.int .i64 0)))⟩,⟨(some 4),none,.i (.mov (.t 8))⟩]) (.dn .ret))))
def Azc8:AFn:=⟨9,2,(.seq (.reg false [⟨(some 4),none,.i (.mov (.c (.bool false)))⟩]) Bzc7),[.tmp 4]⟩
theorem czfk:cFn (drV none) Try.prog nz2h Azc8:=⟨_,_,Try.func56,rfl,by kernel_rfl,by decide,rfl,by kernel_rfl,by kernel_rfl⟩
def Bz54:AC:=(.kp [0,1,5,9] [5000,5001] (.dn (.cond (.t 9) .skip (.exit 0))))
def Bz55:AC:=(.kp [0,1,5,17] [5000,5001] (.dn (.cond (.t 17) (.seq (.reg false [⟨(some 4),none,.i (.mov (.c (.bool true)))⟩]) (.dn .ret)) .skip)))
def Bzc9:AC:=(.kp [0,1,5] [5000,5001] (.dn (.reg false [⟨(some 10),none,.i (.mov (.t 5))⟩,⟨(some 11),none,.i (.bin .add (.t 10) (.c (.int .i64 1)))⟩,⟨(some 5),none,.i (.mov (.t 11))⟩])))
def Bz56:AC:=(.kp [0,1,5] [5000,5001] (.dn (.seq (.block 1 (.seq (.reg false [⟨(some 12),none,.i (.mov (.t 0))⟩,⟨(some 13),none,.i (.mov (.t 5))⟩,⟨(some 14),none,.i (.iad 1 (.t 12) (.t 13))⟩,⟨(some 15),none,.i (.ld (.t 14))⟩,⟨(some 16),none,.i (.mov (.t 1))⟩,⟨(some 17),none,.i (.bin .eql (.t 15) (.t 16))⟩]) Bz55)) Bzc9)))
def Bz1f:AC:=(.kp [0,1,5] [5000,5001] (.dn (.seq (.seq (.reg false [⟨(some 6),none,.i (.mov (.t 5))⟩,⟨(some 7),none,.i (.mov (.t 0))⟩,⟨(some 8),none,.i (.len (.t 7))⟩,⟨(some 9),none,.i (.bin .lss (.t 6) (.t 8))⟩]) Bz54) Bz56)))
def Bzca:AC:=(.kp [0,1,5] [5000,5001] (.dn (.block 0 (.loop Bz1f))))
def Bzcb:AC:=(.kp [] [5000,5001] (.dn (.seq (.reg false [⟨(some 4),none,.i (.mov (.c (.bool false)))⟩]) (.dn .ret))))
def Bzcc:AC:=(.kp [0,1] [5000,5001] (.dn (.seq (.seq (.reg false [⟨(some 5),none,.i (.mov (.c (.int .i64 0)))⟩]) Bzca) Bzcb)))
def Azcd:AFn:=⟨18,2,(.seq (.reg false [⟨(some 4),none,.i (.mov (.c (.bool false)))⟩]) Bzcc),[.tmp 4]⟩
theorem czfl:cFn (drV none) Try.prog nz2i Azcd:=⟨_,_,Try.func61,rfl,by kernel_rfl,by decide,rfl,by kernel_rfl,by kernel_rfl⟩
def Bza:AC:=(.kp [0,1,5,6,7,12] [8,34,41,47,5000,5001] (.dn (.cond (.t 12) .skip (.exit 0))))
def Bz57:AC:=(.kp [0,1,5,6,7,30] [8,34,41,47,5000,5001] (.dn (.cond (.t 30) (.reg false [⟨(some 31),none,.i (.mov (.t 5))⟩,⟨(some 32),none,.i (.mov (.t 1))⟩,⟨(some 33),none,.i (.bsl 1 false [(.t 32)])⟩,⟨(some 34),none,.i (.app 1 8 (.t 31) (.t 33))⟩,⟨(some 5),none,.i (.mov (.t 34))⟩]) .skip)))
def Bzce:AC:=(.kp [0,1,5,6,7] [8,34,41,47,5000,5001] (.dn (.seq (.reg false [⟨(some 25),none,.i (.mov (.t 0))⟩,⟨(some 26),none,.i (.mov (.t 7))⟩,⟨(some 27),none,.i (.iad 1 (.t 25) (.t 26))⟩,⟨(some 28),none,.i (.ld (.t 27))⟩,⟨(some 29),none,.i (.mov (.t 1))⟩,⟨(some 30),none,.i (.bin .gtr (.t 28) (.t 29))⟩]) Bz57)))
def Bz1g:AC:=(.kp [0,1,5,6,7,24] [8,34,41,47,5000,5001] (.dn (.cond (.t 24) (.seq (.reg false [⟨(some 6),none,.i (.mov (.c (.bool true)))⟩]) Bzce) .skip)))
def Bzb:AC:=(.kp [0,1,5,6,7] [8,34,41,47,5000,5001] (.dn (.reg false [⟨(some 35),none,.i (.mov (.t 5))⟩,⟨(some 36),none,.i (.mov (.t 0))⟩,⟨(some 37),none,.i (.mov (.t 7))⟩,⟨(some 38),none,.i (.iad 1 (.t 36) (.t 37))⟩,⟨(some 39),none,.i (.ld (.t 38))⟩,⟨(some 40),none,.i (.bsl 1 false [(.t 39)])⟩,⟨(some 41),none,.i (.app 1 8 (.t 35) (.t 40))⟩,⟨(some 5),none,.i (.mov (.t 41))⟩])))
def Bzc:AC:=(.kp [0,1,5,6,7] [8,34,41,47,5000,5001] (.dn (.reg false [⟨(some 13),none,.i (.mov (.t 7))⟩,⟨(some 14),none,.i (.bin .add (.t 13) (.c (.int .i64 1)))⟩,⟨(some 7),none,.i (.mov (.t 14))⟩])))
def Bzd:AC:=(.kp [0,1,5,6,7] [8,34,41,47,5000,5001] (.dn (.seq (.block 1 (.seq (.seq (.reg false [⟨(some 15),none,.i (.mov (.t 6))⟩,⟨(some 16),none,.i (.un .not (.t 15))⟩,⟨(some 17),none,.i (.mov (.t 16))⟩,⟨(some 18),(some (17,true)),.i (.mov (.t 0))⟩,⟨(some 19),(some (17,true)),.i (.mov (.t 7))⟩,⟨(some 20),(some (17,true)),.i (.iad 1 (.t 18) (.t 19))⟩,⟨(some 21),(some (17,true)),.i (.ld (.t 20))⟩,⟨(some 22),(some (17,true)),.i (.mov (.t 1))⟩,⟨(some 23),(some (17,true)),.i (.bin .geq (.t 21) (.t 22))⟩,⟨(some 24),none,.i (.pick (.t 17) (.t 23) (.c (.bool false)))⟩]) Bz1g) Bzb)) Bzc)))
def Bz4:AC:=(.kp [0,1,5,6,7] [8,34,41,47,5000,5001] (.dn (.seq (.seq (.reg false [⟨(some 9),none,.i (.mov (.t 7))⟩,⟨(some 10),none,.i (.mov (.t 0))⟩,⟨(some 11),none,.i (.len (.t 10))⟩,⟨(some 12),none,.i (.bin .lss (.t 9) (.t 11))⟩]) Bza) Bzd)))
def Bzcf:AC:=(.kp [0,1,5,6,7] [8,34,41,47,5000,5001] (.dn (.block 0 (.loop Bz4))))
def Bz58:AC:=(.kp [1,5,43] [8,34,41,47,5000,5001] (.dn (.cond (.t 43) (.reg false [⟨(some 44),none,.i (.mov (.t 5))⟩,⟨(some 45),none,.i (.mov (.t 1))⟩,⟨(some 46),none,.i (.bsl 1 false [(.t 45)])⟩,⟨(some 47),none,.i (.app 1 8 (.t 44) (.t 46))⟩,⟨(some 5),none,.i (.mov (.t 47))⟩]) .skip)))
def Bz59:AC:=(.kp [5] [8,34,41,47,5000,5001] (.dn (.seq (.reg false [⟨(some 48),none,.i (.mov (.t 5))⟩,⟨(some 4),none,.i (.mov (.t 48))⟩]) (.dn .ret))))
def Bz5a:AC:=(.kp [1,5,6] [8,34,41,47,5000,5001] (.dn (.seq (.seq (.reg false [⟨(some 42),none,.i (.mov (.t 6))⟩,⟨(some 43),none,.i (.un .not (.t 42))⟩]) Bz58) Bz59)))
def Bzcg:AC:=(.kp [0,1,5,6] [8,34,41,47,5000,5001] (.dn (.seq (.seq (.reg false [⟨(some 7),none,.i (.mov (.c (.int .i64 0)))⟩]) Bzcf) Bz5a)))
def Bzch:AC:=(.kp [0,1,5] [8,34,41,47,5000,5001] (.dn (.seq (.reg false [⟨(some 6),none,.i (.mov (.c (.bool false)))⟩]) Bzcg)))
def Bzci:AC:=(.kp [0,1] [5000,5001] (.dn (.seq (.reg false [⟨(some 8),none,.i (.bsl 1 false [])⟩,⟨(some 5),none,.i (.mov (.t 8))⟩]) Bzch)))
def Azcj:AFn:=⟨49,2,(.seq (.reg false [⟨(some 4),none,.i (.mov (.c (.slice none 0 0)))⟩]) Bzci),[.tmp 4]⟩
theorem czfm:cFn (drV none) Try.prog nz2j Azcj:=⟨_,_,Try.func62,rfl,by kernel_rfl,by decide,rfl,by kernel_rfl,by kernel_rfl⟩
def Bz5b:AC:=(.kp [0,3,4,5,13] [5000,901] (.cond (.t 13) .skip (.exit 0)))
def Bzck:AC:=(.kp [0,3,4,5,6,30] [5000,901] (.cond (.t 30) .skip (.exit 2)))
def Bzfn:AC:=(.kp [0,3,4,5,6] [5000,901] (.block 3 (.regi false [⟨(some 31),none,.i (.mov (.t 6))⟩,⟨(some 32),none,.i (.bin .add (.t 31) (.c (.int .i64 1)))⟩,⟨(some 6),none,.i (.mov (.t 32))⟩])))
def Bz5c:AC:=(.kp [0,3,4,5,6] [5000,901] (.seq (.seq (.regi false [⟨(some 17),none,.i (.mov (.t 6))⟩,⟨(some 18),none,.i (.mov (.t 0))⟩,⟨(some 19),none,.i (.len (.t 18))⟩,⟨(some 20),none,.i (.bin .lss (.t 17) (.t 19))⟩,⟨(some 21),none,.i (.mov (.t 20))⟩,⟨(some 22),(some (21,true)),.i (.mov (.t 0))⟩,⟨(some 23),(some (21,true)),.i (.mov (.t 6))⟩,⟨(some 24),(some (21,true)),.i (.iad 1 (.t 22) (.t 23))⟩,⟨(some 25),(some (21,true)),.i (.ld (.t 24))⟩,⟨(some 26),(some (21,true)),.i (.mov (.t 5))⟩,⟨(some 27),(some (21,true)),.i (.iad 1 (.t 25) (.t 26))⟩,⟨(some 28),(some (21,true)),.i (.ld (.t 27))⟩,⟨(some 29),(some (21,true)),.i (.bin .eql (.t 28) (.c (.int .i64 0)))⟩,⟨(some 30),none,.i (.pick (.t 21) (.t 29) (.c (.bool false)))⟩]) Bzck) Bzfn))
def Bzcl:AC:=(.kp [0,3,4,5,6,36] [5000,901] (.cond (.t 36) (.seq (.regi false [⟨(some 2),none,.i (.mov (.c (.int .i64 0)))⟩]) .ret) .skip))
def Bzfo:AC:=(.kp [0,3,4,5] [5000,901] (.regi false [⟨(some 55),none,.i (.mov (.t 4))⟩,⟨(some 56),none,.i (.un .neg (.t 55))⟩,⟨(some 4),none,.i (.mov (.t 56))⟩]))
def Bzfp:AC:=(.kp [0,3,4,5,7] [5000,901] (.seq (.regi false [⟨(some 51),none,.i (.mov (.t 0))⟩,⟨(some 52),none,.i (.mov (.t 5))⟩,⟨(some 53),none,.i (.mov (.t 7))⟩,⟨(some 54),none,.i (.iad 1 (.t 51) (.t 52))⟩,⟨none,none,.i (.sto 1 (.t 54) (.t 53))⟩]) Bzfo))
def Bzfq:AC:=(.kp [0,3,4,5,6,7] [5000,901] (.seq (.regi false [⟨(some 44),none,.i (.mov (.t 0))⟩,⟨(some 45),none,.i (.mov (.t 6))⟩,⟨(some 46),none,.i (.mov (.t 0))⟩,⟨(some 47),none,.i (.mov (.t 5))⟩,⟨(some 48),none,.i (.iad 1 (.t 46) (.t 47))⟩,⟨(some 49),none,.i (.ld (.t 48))⟩,⟨(some 50),none,.i (.iad 1 (.t 44) (.t 45))⟩,⟨none,none,.i (.sto 1 (.t 50) (.t 49))⟩]) Bzfp))
def Bzcm:AC:=(.kp [0,3,4,5,6,39] [5000,901] (.cond (.t 39) (.seq (.regi false [⟨(some 40),none,.i (.mov (.t 0))⟩,⟨(some 41),none,.i (.mov (.t 6))⟩,⟨(some 42),none,.i (.iad 1 (.t 40) (.t 41))⟩,⟨(some 43),none,.i (.ld (.t 42))⟩,⟨(some 7),none,.i (.mov (.t 43))⟩]) Bzfq) .skip))
def Bz5d:AC:=(.kp [0,3,4,5,8,62] [5000,901] (.cond (.t 62) .skip (.exit 4)))
def Bz5e:AC:=(.kp [0,3,4,5,8,9,70] [5000,901] (.cond (.t 70) .skip (.exit 6)))
def Bzcn:AC:=(.kp [0,3,4,5,8,9] [5000,901] (.regi false [⟨(some 71),none,.i (.mov (.t 9))⟩,⟨(some 72),none,.i (.bin .add (.t 71) (.c (.int .i64 1)))⟩,⟨(some 9),none,.i (.mov (.t 72))⟩]))
def Bzco:AC:=(.kp [0,3,4,5,8,9] [5000,901] (.seq (.block 7 (.regi true [⟨(some 73),none,.i (.mov (.t 0))⟩,⟨(some 74),none,.i (.mov (.t 8))⟩,⟨(some 75),none,.i (.iad 1 (.t 73) (.t 74))⟩,⟨(some 76),none,.i (.ld (.t 75))⟩,⟨(some 77),none,.i (.mov (.t 9))⟩,⟨(some 78),none,.i (.mov (.t 0))⟩,⟨(some 79),none,.i (.mov (.t 5))⟩,⟨(some 80),none,.i (.iad 1 (.t 78) (.t 79))⟩,⟨(some 81),none,.i (.ld (.t 80))⟩,⟨(some 82),none,.i (.mov (.t 5))⟩,⟨(some 83),none,.i (.iad 1 (.t 81) (.t 82))⟩,⟨(some 84),none,.i (.ld (.t 83))⟩,⟨(some 85),none,.i (.mov (.t 0))⟩,⟨(some 86),none,.i (.mov (.t 8))⟩,⟨(some 87),none,.i (.iad 1 (.t 85) (.t 86))⟩,⟨(some 88),none,.i (.ld (.t 87))⟩,⟨(some 89),none,.i (.mov (.t 9))⟩,⟨(some 90),none,.i (.iad 1 (.t 88) (.t 89))⟩,⟨(some 91),none,.i (.ld (.t 90))⟩,⟨(some 92),none,.i (.bin .mul (.t 84) (.t 91))⟩,⟨(some 93),none,.i (.mov (.t 0))⟩,⟨(some 94),none,.i (.mov (.t 8))⟩,⟨(some 95),none,.i (.iad 1 (.t 93) (.t 94))⟩,⟨(some 96),none,.i (.ld (.t 95))⟩,⟨(some 97),none,.i (.mov (.t 5))⟩,⟨(some 98),none,.i (.iad 1 (.t 96) (.t 97))⟩,⟨(some 99),none,.i (.ld (.t 98))⟩,⟨(some 100),none,.i (.mov (.t 0))⟩,⟨(some 101),none,.i (.mov (.t 5))⟩,⟨(some 102),none,.i (.iad 1 (.t 100) (.t 101))⟩,⟨(some 103),none,.i (.ld (.t 102))⟩,⟨(some 104),none,.i (.mov (.t 9))⟩,⟨(some 105),none,.i (.iad 1 (.t 103) (.t 104))⟩,⟨(some 106),none,.i (.ld (.t 105))⟩,⟨(some 107),none,.i (.bin .mul (.t 99) (.t 106))⟩,⟨(some 108),none,.i (.bin .sub (.t 92) (.t 107))⟩,⟨(some 109),none,.i (.mov (.t 3))⟩,⟨(some 110),none,.i (.bin .quo (.t 108) (.t 109))⟩,⟨(some 111),none,.i (.iad 1 (.t 76) (.t 77))⟩,⟨none,none,.i (.sto 1 (.t 111) (.t 110))⟩])) Bzcn))
def Bz1h:AC:=(.kp [0,3,4,5,8,9] [5000,901] (.seq (.seq (.regi false [⟨(some 67),none,.i (.mov (.t 9))⟩,⟨(some 68),none,.i (.mov (.t 0))⟩,⟨(some 69),none,.i (.len (.t 68))⟩,⟨(some 70),none,.i (.bin .lss (.t 67) (.t 69))⟩]) Bz5e) Bzco))
def Bzcp:AC:=(.kp [0,3,4,5,8,9] [5000,901] (.block 6 (.loop Bz1h)))
def Bzcq:AC:=(.kp [0,3,4,5,8] [5000,901] (.gh (.regi false [⟨(some 63),none,.i (.mov (.t 8))⟩,⟨(some 64),none,.i (.bin .add (.t 63) (.c (.int .i64 1)))⟩,⟨(some 8),none,.i (.mov (.t 64))⟩])))
def Bzcr:AC:=(.kp [0,3,4,5,8] [5000,901] (.gh (.seq (.block 5 (.seq (.regi false [⟨(some 65),none,.i (.mov (.t 5))⟩,⟨(some 66),none,.i (.bin .add (.t 65) (.c (.int .i64 1)))⟩,⟨(some 9),none,.i (.mov (.t 66))⟩]) Bzcp)) Bzcq)))
def Bz1i:AC:=(.kp [0,3,4,5,8] [5000,901] (.seq (.seq (.regi false [⟨(some 59),none,.i (.mov (.t 8))⟩,⟨(some 60),none,.i (.mov (.t 0))⟩,⟨(some 61),none,.i (.len (.t 60))⟩,⟨(some 62),none,.i (.bin .lss (.t 59) (.t 61))⟩]) Bz5d) Bzcr))
def Bzcs:AC:=(.kp [0,3,4,5,8] [5000,901] (.block 4 (.loop Bz1i)))
def Bzct:AC:=(.kp [0,4,5] [5000,901] (.regi false [⟨(some 112),none,.i (.mov (.t 0))⟩,⟨(some 113),none,.i (.mov (.t 5))⟩,⟨(some 114),none,.i (.iad 1 (.t 112) (.t 113))⟩,⟨(some 115),none,.i (.ld (.t 114))⟩,⟨(some 116),none,.i (.mov (.t 5))⟩,⟨(some 117),none,.i (.iad 1 (.t 115) (.t 116))⟩,⟨(some 118),none,.i (.ld (.t 117))⟩,⟨(some 3),none,.i (.mov (.t 118))⟩]))
def Bzcu:AC:=(.kp [0,3,4,5] [5000,901] (.seq (.seq (.regi false [⟨(some 57),none,.i (.mov (.t 5))⟩,⟨(some 58),none,.i (.bin .add (.t 57) (.c (.int .i64 1)))⟩,⟨(some 8),none,.i (.mov (.t 58))⟩]) Bzcs) Bzct))
def Bzcv:AC:=(.kp [0,3,4,5,6] [5000,901] (.seq (.seq (.regi false [⟨(some 37),none,.i (.mov (.t 6))⟩,⟨(some 38),none,.i (.mov (.t 5))⟩,⟨(some 39),none,.i (.bin .gtr (.t 37) (.t 38))⟩]) Bzcm) Bzcu))
def Bzcw:AC:=(.kp [0,3,4,5,6] [5000,901] (.seq (.seq (.regi false [⟨(some 33),none,.i (.mov (.t 6))⟩,⟨(some 34),none,.i (.mov (.t 0))⟩,⟨(some 35),none,.i (.len (.t 34))⟩,⟨(some 36),none,.i (.bin .eql (.t 33) (.t 35))⟩]) Bzcl) Bzcv))
def Bzcx:AC:=(.kp [0,3,4,5,6] [5000,901] (.seq (.block 2 (.loop Bz5c)) Bzcw))
def Bzcy:AC:=(.kp [0,3,4,5] [5000,901] (.regi false [⟨(some 14),none,.i (.mov (.t 5))⟩,⟨(some 15),none,.i (.bin .add (.t 14) (.c (.int .i64 1)))⟩,⟨(some 5),none,.i (.mov (.t 15))⟩]))
def Bzcz:AC:=(.kp [0,3,4,5] [5000,901] (.seq (.block 1 (.seq (.regi false [⟨(some 16),none,.i (.mov (.t 5))⟩,⟨(some 6),none,.i (.mov (.t 16))⟩]) Bzcx)) Bzcy))
def Bz1j:AC:=(.kp [0,3,4,5] [5000,901] (.seq (.seq (.regi false [⟨(some 10),none,.i (.mov (.t 5))⟩,⟨(some 11),none,.i (.mov (.t 0))⟩,⟨(some 12),none,.i (.len (.t 11))⟩,⟨(some 13),none,.i (.bin .lss (.t 10) (.t 12))⟩]) Bz5b) Bzcz))
def Bzd0:AC:=(.kp [0,3,4,5] [5000,901] (.block 0 (.loop Bz1j)))
def Bzd1:AC:=(.kp [3,4] [5000,901] (.seq (.regi false [⟨(some 119),none,.i (.mov (.t 4))⟩,⟨(some 120),none,.i (.mov (.t 3))⟩,⟨(some 121),none,.i (.bin .mul (.t 119) (.t 120))⟩,⟨(some 2),none,.i (.mov (.t 121))⟩]) .ret))
def Bzd2:AC:=(.kp [0,3,4] [5000,901] (.seq (.seq (.regi false [⟨(some 5),none,.i (.mov (.c (.int .i64 0)))⟩]) Bzd0) Bzd1))
def Bzd3:AC:=(.kp [0,3] [5000,901] (.seq (.regi false [⟨(some 4),none,.i (.mov (.c (.int .i64 1)))⟩]) Bzd2))
def Bzd4:AC:=(.kp [0] [5000,901] (.seq (.regi false [⟨(some 3),none,.i (.mov (.c (.int .i64 1)))⟩]) Bzd3))
def Az5f:AFn:=⟨122,1,(.seq (.regi false [⟨(some 2),none,.i (.mov (.c (.int .i64 0)))⟩]) Bzd4),[.tmp 2]⟩
theorem czfr:cFn (drV none) Try.prog nz2k Az5f:=⟨_,_,Try.func63,rfl,by kernel_rfl,by decide,rfl,by kernel_rfl,by kernel_rfl⟩
def Bzd5:AC:=(.kp [1] [1,5000] (.dn (.seq (.reg false [⟨(some 3),none,.i (.fad 0 (.t 1))⟩,⟨(some 4),none,.i (.ld (.t 3))⟩,⟨(some 5),none,.call nz3 [(.t 4),(.c (.int .i64 1)),(.c (.int .i64 10))]⟩,⟨(some 6),none,.i (.mov (.t 5))⟩,⟨(some 7),(some (6,true)),.i (.lda 2 (.t 1))⟩,⟨(some 8),(some (6,true)),.call nz24 [(.t 7)]⟩,⟨(some 9),(some (6,true)),.call nz3 [(.t 8),(.c (.int .i64 1)),(.c (.int .i64 3))]⟩,⟨(some 10),none,.i (.pick (.t 6) (.t 9) (.c (.bool false)))⟩,⟨(some 11),none,.i (.mov (.t 10))⟩,⟨(some 12),(some (11,true)),.i (.fad 1 (.t 1))⟩,⟨(some 13),(some (11,true)),.i (.ld (.t 12))⟩,⟨(some 14),(some (11,true)),.i (.mkf nzi [(.t 1)])⟩,⟨(some 15),(some (11,true)),.call nz2p [(.t 13),(.t 14)]⟩,⟨(some 16),(some (11,true)),.i (.un .not (.t 15))⟩,⟨(some 17),none,.i (.pick (.t 11) (.t 16) (.c (.bool false)))⟩,⟨(some 2),none,.i (.mov (.t 17))⟩]) (.dn .ret))))
def Azd6:AFn:=⟨18,1,(.seq (.reg false [⟨(some 1),none,.i (.box (.t 0))⟩,⟨(some 2),none,.i (.mov (.c (.bool false)))⟩]) Bzd5),[.tmp 2]⟩
theorem czfs:cFn (drV none) Try.prog nz2l Azd6:=⟨_,_,Try.func64,rfl,by kernel_rfl,by decide,rfl,by kernel_rfl,by kernel_rfl⟩
def Bzd7:AC:=(.kp [0,1,2] [5000,5001,5002] (.dn (.seq (.reg false [⟨(some 7),none,.i (.mov (.t 0))⟩,⟨(some 8),none,.i (.mov (.t 1))⟩,⟨(some 9),none,.i (.bin .geq (.t 7) (.t 8))⟩,⟨(some 10),none,.i (.mov (.t 9))⟩,⟨(some 11),(some (10,true)),.i (.mov (.t 0))⟩,⟨(some 12),(some (10,true)),.i (.mov (.t 2))⟩,⟨(some 13),(some (10,true)),.i (.bin .leq (.t 11) (.t 12))⟩,⟨(some 14),none,.i (.pick (.t 10) (.t 13) (.c (.bool false)))⟩,⟨(some 6),none,.i (.mov (.t 14))⟩]) (.dn .ret))))
def Azd8:AFn:=⟨15,3,(.seq (.reg false [⟨(some 6),none,.i (.mov (.c (.bool false)))⟩]) Bzd7),[.tmp 6]⟩
theorem czft:cFn (drV none) Try.prog nz3 Azd8:=⟨_,_,Try.func65,rfl,by kernel_rfl,by decide,rfl,by kernel_rfl,by kernel_rfl⟩
def Bzd9:AC:=(.kp [0] [5000] (.dn (.seq (.reg false [⟨(some 3),none,.i (.mov (.t 0))⟩,⟨(some 4),none,.i (.len (.t 3))⟩,⟨(some 2),none,.i (.mov (.t 4))⟩]) (.dn .ret))))
def Azda:AFn:=⟨5,1,(.seq (.reg false [⟨(some 2),none,.i (.mov (.c (.int .i64 0)))⟩]) Bzd9),[.tmp 2]⟩
theorem czfu:cFn (drV none) Try.prog nzg Azda:=⟨_,_,Try.func66,rfl,by kernel_rfl,by decide,rfl,by kernel_rfl,by kernel_rfl⟩
def Bz5g:AC:=(.kp [2,5,6,15] [2,11,39,5000,5001] (.dn (.cond (.t 15) .skip (.exit 0))))
def Bz5h:AC:=(.kp [2,5,6,9,19,20,21,35] [2,11,39,5000,5001] (.dn (.cond (.t 35) (.reg false [⟨(some 36),none,.i (.mov (.t 5))⟩,⟨(some 37),none,.i (.mov (.t 9))⟩,⟨(some 38),none,.i (.bsl 1 false [(.t 37)])⟩,⟨(some 39),none,.i (.app 1 8 (.t 36) (.t 38))⟩,⟨(some 5),none,.i (.mov (.t 39))⟩]) .skip)))
def Bzdb:AC:=(.kp [2,5,6,9,19,20,21] [2,11,39,5000,5001] (.dn (.seq (.reg false [⟨(some 32),none,.i (.mov (.t 5))⟩,⟨(some 33),none,.i (.mov (.t 9))⟩,⟨(some 34),none,.call nz2h [(.t 32),(.t 33)]⟩,⟨(some 35),none,.i (.un .not (.t 34))⟩]) Bz5h)))
def Bzdc:AC:=(.kp [2,5,6,8,19,20,21] [2,11,39,5000,5001] (.dn (.seq (.reg false [⟨(some 25),none,.i (.mov (.t 8))⟩,⟨(some 26),none,.i (.mov (.t 5))⟩,⟨(some 27),none,.i (.mov (.t 6))⟩,⟨(some 28),none,.i (.iad 1 (.t 26) (.t 27))⟩,⟨(some 29),none,.i (.ld (.t 28))⟩,⟨(some 30),none,.i (.iad 1 (.t 25) (.t 29))⟩,⟨(some 31),none,.i (.ld (.t 30))⟩,⟨(some 9),none,.i (.mov (.t 31))⟩]) Bzdb)))
def Bz5i:AC:=(.kp [2,5,6,19,20,21] [2,11,39,5000,5001] (.dn (.reg false [⟨(some 40),none,.i (.bin .add (.t 21) (.c (.int .i64 1)))⟩,⟨(some 21),none,.i (.mov (.t 40))⟩])))
def Bz5j:AC:=(.kp [2,5,6,19,20,21] [2,11,39,5000,5001] (.dn (.seq (.block 3 (.seq (.reg false [⟨(some 23),none,.i (.iad 1 (.t 19) (.t 21))⟩,⟨(some 24),none,.i (.ld (.t 23))⟩,⟨(some 8),none,.i (.mov (.t 24))⟩]) Bzdc)) Bz5i)))
def Bz5k:AC:=(.kp [2,5,6,19,20,21,22] [2,11,39,5000,5001] (.dn (.seq (.cond (.t 22) .skip (.exit 2)) Bz5j)))
def Bz1k:AC:=(.kp [2,5,6,19,20,21] [2,11,39,5000,5001] (.dn (.seq (.reg false [⟨(some 22),none,.i (.bin .lss (.t 21) (.t 20))⟩]) Bz5k)))
def Bzdd:AC:=(.kp [2,5,6,19,20,21] [2,11,39,5000,5001] (.dn (.block 2 (.loop Bz1k))))
def Bzde:AC:=(.kp [2,5,6] [2,11,39,5000,5001] (.dn (.reg false [⟨(some 16),none,.i (.mov (.t 6))⟩,⟨(some 17),none,.i (.bin .add (.t 16) (.c (.int .i64 1)))⟩,⟨(some 6),none,.i (.mov (.t 17))⟩])))
def Bz5l:AC:=(.kp [2,5,6] [2,11,39,5000,5001] (.dn (.seq (.block 1 (.seq (.reg false [⟨(some 18),none,.i (.fad 1 (.t 2))⟩,⟨(some 19),none,.i (.ld (.t 18))⟩,⟨(some 20),none,.i (.len (.t 19))⟩,⟨(some 21),none,.i (.mov (.c (.int .i64 0)))⟩]) Bzdd)) Bzde)))
def Bz1l:AC:=(.kp [2,5,6] [2,11,39,5000,5001] (.dn (.seq (.seq (.reg false [⟨(some 12),none,.i (.mov (.t 6))⟩,⟨(some 13),none,.i (.mov (.t 5))⟩,⟨(some 14),none,.i (.len (.t 13))⟩,⟨(some 15),none,.i (.bin .lss (.t 12) (.t 14))⟩]) Bz5g) Bz5l)))
def Bzdf:AC:=(.kp [2,5,6] [2,11,39,5000,5001] (.dn (.block 0 (.loop Bz1l))))
def Bzdg:AC:=(.kp [5] [11,39,5000,5001] (.dn (.seq (.reg false [⟨(some 41),none,.i (.mov (.t 5))⟩,⟨(some 42),none,.call nz2r [(.t 41)]⟩,⟨(some 4),none,.i (.mov (.t 42))⟩]) (.dn .ret))))
def Bzdh:AC:=(.kp [2,5] [2,11,39,5000,5001] (.dn (.seq (.seq (.reg false [⟨(some 6),none,.i (.mov (.c (.int .i64 0)))⟩]) Bzdf) Bzdg)))
def Bzdi:AC:=(.kp [1,2] [2,5000,5001] (.dn (.seq (.reg false [⟨(some 10),none,.i (.mov (.t 1))⟩,⟨(some 11),none,.i (.bsl 1 false [(.t 10)])⟩,⟨(some 5),none,.i (.mov (.t 11))⟩]) Bzdh)))
def Azdj:AFn:=⟨43,2,(.seq (.reg false [⟨(some 2),none,.i (.box (.t 0))⟩,⟨(some 4),none,.i (.mov (.c (.slice none 0 0)))⟩]) Bzdi),[.tmp 4]⟩
theorem czfv:cFn (drV none) Try.prog nz2m Azdj:=⟨_,_,Try.func67,rfl,by kernel_rfl,by decide,rfl,by kernel_rfl,by kernel_rfl⟩
theorem x_slices_Delete_LI:∃ fn,Try.prog.funcs[nz2n]?=some fn∧fn.body.isSome=true∧isNumG fn=false:=⟨_,Try.func68,by kernel_rfl,by decide⟩
def Bzdk:AC:=(.kp [0,4] [5000] (.dn (.cond (.t 4) (.seq (.reg false [⟨(some 2),none,.i (.mov (.c (.slice none 0 0)))⟩]) (.dn .ret)) .skip)))
def Bzdl:AC:=(.kp [0] [5000] (.dn (.seq (.reg false [⟨(some 5),none,.i (.bsl 1 false [])⟩,⟨(some 6),none,.i (.mov (.t 0))⟩,⟨(some 7),none,.i (.app 1 8 (.t 5) (.t 6))⟩,⟨(some 2),none,.i (.mov (.t 7))⟩]) (.dn .ret))))
def Bzdm:AC:=(.kp [0] [5000] (.dn (.seq (.seq (.reg false [⟨(some 3),none,.i (.mov (.t 0))⟩,⟨(some 4),none,.i (.isnil false (.t 3))⟩]) Bzdk) Bzdl)))
def Azdn:AFn:=⟨8,1,(.seq (.reg false [⟨(some 2),none,.i (.mov (.c (.slice none 0 0)))⟩]) Bzdm),[.tmp 2]⟩
theorem czfw:cFn (drV none) Try.prog nzh Azdn:=⟨_,_,Try.func69,rfl,by kernel_rfl,by decide,rfl,by kernel_rfl,by kernel_rfl⟩
def Bz5m:AC:=(.kp [0,1,5,7,8,16] [5000,5001] (.dn (.cond (.t 16) (.seq (.reg false [⟨(some 17),none,.i (.mov (.t 5))⟩,⟨(some 4),none,.i (.mov (.t 17))⟩]) (.dn .ret)) .skip)))
def Bzdo:AC:=(.kp [0,1,5,7,8] [5000,5001] (.dn (.seq (.reg false [⟨(some 11),none,.i (.mov (.t 1))⟩,⟨(some 12),none,.i (.mov (.t 0))⟩,⟨(some 13),none,.i (.mov (.t 5))⟩,⟨(some 14),none,.i (.iad 1 (.t 12) (.t 13))⟩,⟨(some 15),none,.i (.ld (.t 14))⟩,⟨(some 16),none,.i (.bin .eql (.t 11) (.t 15))⟩]) Bz5m)))
def Bzdp:AC:=(.kp [0,1,7,8] [5000,5001] (.dn (.reg false [⟨(some 18),none,.i (.bin .add (.t 8) (.c (.int .i64 1)))⟩,⟨(some 8),none,.i (.mov (.t 18))⟩])))
def Bz5n:AC:=(.kp [0,1,7,8] [5000,5001] (.dn (.seq (.block 1 (.seq (.reg false [⟨(some 10),none,.i (.mov (.t 8))⟩,⟨(some 5),none,.i (.mov (.t 10))⟩]) Bzdo)) Bzdp)))
def Bz5o:AC:=(.kp [0,1,7,8,9] [5000,5001] (.dn (.seq (.cond (.t 9) .skip (.exit 0)) Bz5n)))
def Bz1m:AC:=(.kp [0,1,7,8] [5000,5001] (.dn (.seq (.reg false [⟨(some 9),none,.i (.bin .lss (.t 8) (.t 7))⟩]) Bz5o)))
def Bzdq:AC:=(.kp [0,1,7,8] [5000,5001] (.dn (.block 0 (.loop Bz1m))))
def Bzdr:AC:=(.kp [] [5000,5001] (.dn (.seq (.reg false [⟨(some 4),none,.i (.mov (.c (.int .i64 (-1))))⟩]) (.dn .ret))))
def Bzds:AC:=(.kp [0,1] [5000,5001] (.dn (.seq (.seq (.reg false [⟨(some 6),none,.i (.mov (.t 0))⟩,⟨(some 7),none,.i (.len (.t 6))⟩,⟨(some 8),none,.i (.mov (.c (.int .i64 0)))⟩]) Bzdq) Bzdr)))
def Azdt:AFn:=⟨19,2,(.seq (.reg false [⟨(some 4),none,.i (.mov (.c (.int .i64 0)))⟩]) Bzds),[.tmp 4]⟩
theorem czfx:cFn (drV none) Try.prog nz2o Azdt:=⟨_,_,Try.func70,rfl,by kernel_rfl,by decide,rfl,by kernel_rfl,by kernel_rfl⟩
def Bzdu:AC:=(.kp [0,1] [5000,5001] (.dn (.seq (.reg false [⟨(some 5),none,.i (.mov (.t 0))⟩,⟨(some 6),none,.i (.mov (.t 1))⟩,⟨(some 7),none,.call nz2s [(.t 5),(.t 6)]⟩,⟨(some 8),none,.i (.bin .geq (.t 7) (.c (.int .i64 0)))⟩,⟨(some 4),none,.i (.mov (.t 8))⟩]) (.dn .ret))))
def Azdv:AFn:=⟨9,2,(.seq (.reg false [⟨(some 4),none,.i (.mov (.c (.bool false)))⟩]) Bzdu),[.tmp 4]⟩
theorem czfy:cFn (drV none) Try.prog nz2p Azdv:=⟨_,_,Try.func73,rfl,by kernel_rfl,by decide,rfl,by kernel_rfl,by kernel_rfl⟩
def Bzdw:AC:=(.kp [0,1] [5000,5001] (.dn (.seq (.reg true [⟨(some 4),none,.i (.mov (.t 0))⟩,⟨(some 5),none,.call nzg [(.t 4)]⟩,⟨(some 6),none,.i (.fad 0 (.t 1))⟩,⟨(some 7),none,.i (.ld (.t 6))⟩,⟨(some 8),none,.i (.bin .neq (.t 5) (.t 7))⟩,⟨(some 9),none,.i (.mov (.t 8))⟩,⟨(some 10),(some (9,false)),.i (.mov (.t 0))⟩,⟨(some 11),(some (9,false)),.i (.fad 0 (.t 1))⟩,⟨(some 12),(some (9,false)),.i (.ld (.t 11))⟩,⟨(some 13),(some (9,false)),.i (.bin .sub (.t 12) (.c (.int .i64 1)))⟩,⟨(some 14),(some (9,false)),.calh nz2q [(.t 10),(.c (.int .i64 0)),(.t 13)]⟩,⟨(some 15),(some (9,false)),.i (.un .not (.t 14))⟩,⟨(some 16),none,.i (.pick (.t 9) (.c (.bool true)) (.t 15))⟩,⟨(some 3),none,.i (.mov (.t 16))⟩]) (.dn .ret))))
def Azdx:AFn:=⟨17,2,(.seq (.reg false [⟨(some 3),none,.i (.mov (.c (.bool false)))⟩]) Bzdw),[.tmp 3]⟩
theorem czfz:cFn (drV none) Try.prog nzi Azdx:=⟨_,_,Try.func74,rfl,by kernel_rfl,by decide,rfl,by kernel_rfl,by kernel_rfl⟩
def Bzdy:AC:=(.kp [0,4,5] [4,5,5000,5001,5002] (.dn (.seq (.reg false [⟨(some 7),none,.i (.mov (.t 0))⟩,⟨(some 8),none,.i (.mkf nzj [(.t 4),(.t 5)])⟩,⟨(some 9),none,.call nz2t [(.t 7),(.t 8)]⟩,⟨(some 10),none,.i (.un .not (.t 9))⟩,⟨(some 6),none,.i (.mov (.t 10))⟩]) (.dn .ret))))
def Azdz:AFn:=⟨11,3,(.seq (.reg false [⟨(some 4),none,.i (.box (.t 1))⟩,⟨(some 5),none,.i (.box (.t 2))⟩,⟨(some 6),none,.i (.mov (.c (.bool false)))⟩]) Bzdy),[.tmp 6]⟩
theorem czg0:cFn (drV none) Try.prog nz2q Azdz:=⟨_,_,Try.func75,rfl,by kernel_rfl,by decide,rfl,by kernel_rfl,by kernel_rfl⟩
def Bze0:AC:=(.kp [3] [5,5000] (.dn (.seq (.reg false [⟨(some 8),none,.i (.mov (.t 3))⟩,⟨(some 9),none,.call nz2v [(.t 8)]⟩,⟨(some 2),none,.i (.mov (.t 9))⟩]) (.dn .ret))))
def Bze1:AC:=(.kp [3] [5,5000] (.dn (.seq (.reg false [⟨(some 6),none,.i (.mov (.t 3))⟩,⟨(some 7),none,.call nz2u [(.t 6)]⟩]) Bze0)))
def Bze2:AC:=(.kp [0] [5000] (.dn (.seq (.reg false [⟨(some 4),none,.i (.mov (.t 0))⟩,⟨(some 5),none,.call nzh [(.t 4)]⟩,⟨(some 3),none,.i (.mov (.t 5))⟩]) Bze1)))
def Aze3:AFn:=⟨10,1,(.seq (.reg false [⟨(some 2),none,.i (.mov (.c (.slice none 0 0)))⟩]) Bze2),[.tmp 2]⟩
theorem czg1:cFn (drV none) Try.prog nz2r Aze3:=⟨_,_,Try.func76,rfl,by kernel_rfl,by decide,rfl,by kernel_rfl,by kernel_rfl⟩
def Bze4:AC:=(.kp [0,1,5,7,8,16] [16,1016,5000,5001] (.dn (.cond (.t 16) (.seq (.reg false [⟨(some 17),none,.i (.mov (.t 5))⟩,⟨(some 4),none,.i (.mov (.t 17))⟩]) (.dn .ret)) .skip)))
def Bze5:AC:=(.kp [0,1,5,7,8] [5000,5001] (.dn (.seq (.reg false [⟨(some 11),none,.i (.mov (.t 1))⟩,⟨(some 12),none,.i (.mov (.t 0))⟩,⟨(some 13),none,.i (.mov (.t 5))⟩,⟨(some 14),none,.i (.iad 1 (.t 12) (.t 13))⟩,⟨(some 15),none,.i (.ld (.t 14))⟩,⟨(some 16),none,.calv (.t 11) [(.t 15)]⟩]) Bze4)))
def Bze6:AC:=(.kp [0,1,7,8] [5000,5001] (.dn (.reg false [⟨(some 18),none,.i (.bin .add (.t 8) (.c (.int .i64 1)))⟩,⟨(some 8),none,.i (.mov (.t 18))⟩])))
def Bz5p:AC:=(.kp [0,1,7,8] [5000,5001] (.dn (.seq (.block 1 (.seq (.reg false [⟨(some 10),none,.i (.mov (.t 8))⟩,⟨(some 5),none,.i (.mov (.t 10))⟩]) Bze5)) Bze6)))
def Bz5q:AC:=(.kp [0,1,7,8,9] [5000,5001] (.dn (.seq (.cond (.t 9) .skip (.exit 0)) Bz5p)))
def Bz1n:AC:=(.kp [0,1,7,8] [5000,5001] (.dn (.seq (.reg false [⟨(some 9),none,.i (.bin .lss (.t 8) (.t 7))⟩]) Bz5q)))
def Bze7:AC:=(.kp [0,1,7,8] [5000,5001] (.dn (.block 0 (.loop Bz1n))))
def Bze8:AC:=(.kp [] [5000,5001] (.dn (.seq (.reg false [⟨(some 4),none,.i (.mov (.c (.int .i64 (-1))))⟩]) (.dn .ret))))
def Bze9:AC:=(.kp [0,1] [5000,5001] (.dn (.seq (.seq (.reg false [⟨(some 6),none,.i (.mov (.t 0))⟩,⟨(some 7),none,.i (.len (.t 6))⟩,⟨(some 8),none,.i (.mov (.c (.int .i64 0)))⟩]) Bze7) Bze8)))
def Azea:AFn:=⟨19,2,(.seq (.reg false [⟨(some 4),none,.i (.mov (.c (.int .i64 0)))⟩]) Bze9),[.tmp 4]⟩
theorem czg2:cFn (drV none) Try.prog nz2s Azea:=⟨_,_,Try.func78,rfl,by kernel_rfl,by decide,rfl,by kernel_rfl,by kernel_rfl⟩
def Bzeb:AC:=(.kp [0,1] [5000,5001] (.dn (.seq (.reg false [⟨(some 5),none,.i (.mov (.t 0))⟩,⟨(some 6),none,.i (.mov (.t 1))⟩,⟨(some 7),none,.call nz2w [(.t 5),(.t 6)]⟩,⟨(some 8),none,.i (.bin .geq (.t 7) (.c (.int .i64 0)))⟩,⟨(some 4),none,.i (.mov (.t 8))⟩]) (.dn .ret))))
def Azec:AFn:=⟨9,2,(.seq (.reg false [⟨(some 4),none,.i (.mov (.c (.bool false)))⟩]) Bzeb),[.tmp 4]⟩
theorem czg3:cFn (drV none) Try.prog nz2t Azec:=⟨_,_,Try.func79,rfl,by kernel_rfl,by decide,rfl,by kernel_rfl,by kernel_rfl⟩
def Bzed:AC:=(.kp [0,1,2] [5000,5001,5002] (.dn (.seq (.reg false [⟨(some 5),none,.i (.mov (.t 0))⟩,⟨(some 6),none,.i (.ld (.t 1))⟩,⟨(some 7),none,.i (.ld (.t 2))⟩,⟨(some 8),none,.call nz3 [(.t 5),(.t 6),(.t 7)]⟩,⟨(some 9),none,.i (.un .not (.t 8))⟩,⟨(some 4),none,.i (.mov (.t 9))⟩]) (.dn .ret))))
def Azee:AFn:=⟨10,3,(.seq (.reg false [⟨(some 4),none,.i (.mov (.c (.bool false)))⟩]) Bzed),[.tmp 4]⟩
theorem czg4:cFn (drV none) Try.prog nzj Azee:=⟨_,_,Try.func80,rfl,by kernel_rfl,by decide,rfl,by kernel_rfl,by kernel_rfl⟩
theorem x_slices_Sort_LI:∃ fn,Try.prog.funcs[nz2u]?=some fn∧fn.body.isSome=true∧isNumG fn=false:=⟨_,Try.func81,by kernel_rfl,by decide⟩
theorem x_slices_Compact_LI:∃ fn,Try.prog.funcs[nz2v]?=some fn∧fn.body.isSome=true∧isNumG fn=false:=⟨_,Try.func82,by kernel_rfl,by decide⟩
def Bzef:AC:=(.kp [0,1,5,7,8,16] [16,1016,5000,5001] (.dn (.cond (.t 16) (.seq (.reg false [⟨(some 17),none,.i (.mov (.t 5))⟩,⟨(some 4),none,.i (.mov (.t 17))⟩]) (.dn .ret)) .skip)))
def Bzeg:AC:=(.kp [0,1,5,7,8] [5000,5001] (.dn (.seq (.reg false [⟨(some 11),none,.i (.mov (.t 1))⟩,⟨(some 12),none,.i (.mov (.t 0))⟩,⟨(some 13),none,.i (.mov (.t 5))⟩,⟨(some 14),none,.i (.iad 1 (.t 12) (.t 13))⟩,⟨(some 15),none,.i (.ld (.t 14))⟩,⟨(some 16),none,.calv (.t 11) [(.t 15)]⟩]) Bzef)))
def Bzeh:AC:=(.kp [0,1,7,8] [5000,5001] (.dn (.reg false [⟨(some 18),none,.i (.bin .add (.t 8) (.c (.int .i64 1)))⟩,⟨(some 8),none,.i (.mov (.t 18))⟩])))
def Bz5r:AC:=(.kp [0,1,7,8] [5000,5001] (.dn (.seq (.block 1 (.seq (.reg false [⟨(some 10),none,.i (.mov (.t 8))⟩,⟨(some 5),none,.i (.mov (.t 10))⟩]) Bzeg)) Bzeh)))
def Bz5s:AC:=(.kp [0,1,7,8,9] [5000,5001] (.dn (.seq (.cond (.t 9) .skip (.exit 0)) Bz5r)))
def Bz1o:AC:=(.kp [0,1,7,8] [5000,5001] (.dn (.seq (.reg false [⟨(some 9),none,.i (.bin .lss (.t 8) (.t 7))⟩]) Bz5s)))
def Bzei:AC:=(.kp [0,1,7,8] [5000,5001] (.dn (.block 0 (.loop Bz1o))))
def Bzej:AC:=(.kp [] [5000,5001] (.dn (.seq (.reg false [⟨(some 4),none,.i (.mov (.c (.int .i64 (-1))))⟩]) (.dn .ret))))
def Bzek:AC:=(.kp [0,1] [5000,5001] (.dn (.seq (.seq (.reg false [⟨(some 6),none,.i (.mov (.t 0))⟩,⟨(some 7),none,.i (.len (.t 6))⟩,⟨(some 8),none,.i (.mov (.c (.int .i64 0)))⟩]) Bzei) Bzej)))
def Azel:AFn:=⟨19,2,(.seq (.reg false [⟨(some 4),none,.i (.mov (.c (.int .i64 0)))⟩]) Bzek),[.tmp 4]⟩
theorem czg5:cFn (drV none) Try.prog nz2w Azel:=⟨_,_,Try.func83,rfl,by kernel_rfl,by decide,rfl,by kernel_rfl,by kernel_rfl⟩
end Go.Ab
namespace Go.Ab
open Go.Proofs
theorem k_l00In (n lo hi:Int):Fun Try.prog nz2 [iv n,iv lo,iv hi] (bv (decide (lo≤n) && decide (n≤hi))):=by
  refine fun_of mixed czf7 rfl ⟨rfl,trivial⟩ ?_
  simp only [Bz9u,Az9v,go_sem,yz0,xx9,xx8,xx6,xx7,xx5,xx0,xx1,xx2,reduceIte,xx3,xx4,reduceCtorEq]
  by_cases h:lo≤n <;> simp [h,dn_val]
theorem k_within (n lo hi:Int):Fun Try.prog nz3 [iv n,iv lo,iv hi] (bv (decide (lo≤n) && decide (n≤hi))):=by
  refine fun_of mixed czft rfl ⟨rfl,trivial⟩ ?_
  simp only [Bzd7,Azd8,go_sem,yz0,xx9,xx8,xx6,xx7,xx5,xx0,xx1,xx2,reduceIte,xx3,xx4,reduceCtorEq]
  by_cases h:lo≤n <;> simp [h,dn_val]
theorem k_size (xs:List Int):Fun Try.prog nzg [.ro none 1 (ints xs)] (iv xs.length):=by
  refine fun_of mixed czfu rfl ⟨rfl,trivial⟩ ?_
  simp only [Bzd9,Azda,go_sem,yz0,xx9,xx8,xx6,xx7,xx5,xx0,xx1,xx2,reduceIte,xx3,xx4,reduceCtorEq]
theorem k_size1 (xss:List (List Int)):Fun Try.prog nz2g [.ro none 1 (rwn xss)] (iv xss.length):=by
  refine fun_of mixed czfj rfl ⟨rfl,trivial⟩ ?_
  simp only [Bzc5,Azc6,go_sem,yz0,xx9,xx8,xx6,xx7,xx5,xx0,xx1,xx2,reduceIte,xx3,xx4,reduceCtorEq]
end Go.Ab
namespace Go.Ab
open Go.Proofs
section
variable {P:Program} {a b:AC} {Q:AEx→St→Prop} {σ:St}
end
end Go.Ab
namespace Go.Ab
open Go.Proofs
end Go.Ab
namespace Go.Ab
open Go.Proofs
theorem drop_getD {α:Type} {xs:List α} {i:Nat} (h:i<xs.length) (d:α):xs.drop i=xs.getD i d :: xs.drop (i+1):=by
  rw [List.drop_eq_getElem_cons h,List.getD_eq_getElem?_getD,List.getElem?_eq_getElem h];rfl
theorem yz3 {α:Type} {xs:List α} {i:Nat} (h:i<xs.length) (d:α):xs.getD i d∈xs:=by
  rw [List.getD_eq_getElem?_getD,List.getElem?_eq_getElem h];exact List.getElem_mem h
def fidx {α:Type} (p:α→Bool):List α→Nat→Int
  | [],_=>-1
  | x :: xs,i=>if p x then i else fidx p xs (i+1)
theorem fidx_ge {α:Type} (p:α→Bool):∀ (xs:List α) (i:Nat),decide (0≤fidx p xs i)=xs.any p
  | [],i=>by simp [fidx]
  | x :: xs,i=>by
    have h:=fidx_ge p xs (i+1)
    simp only [fidx,List.any_cons]
    by_cases hp:p x=true
    · simp [hp]
    · have h2:p x=false:=by simpa using hp
      simp only [h2,Bool.false_or,← h]
      simp
structure Caps (caps:List AVal):Prop where
  dn:dnL caps=caps
  coe:∀ hp m len,CoeL hp m len caps caps
theorem k_IndexFunc (xs:List (List Int)) (g:FuncId) (caps:List AVal) (p:List Int→Bool) (hc:Caps caps) (h:∀ x∈xs,Fun Try.prog g (.ro none 1 (ints x) :: caps) (bv (p x))) :
    Fun Try.prog nz2s [.ro none 1 (rwn xs),.clo g caps] (iv (fidx p xs 0)):=by
  refine fun_of mixed czg2 rfl ⟨rfl,trivial⟩ ?_
  simp only [Azea,Bze9,hc.dn,go_sem,yz0,xx9,xx8,xx6,xx7,xx5,xx0,xx1,xx2,reduceIte,xx3,xx4,reduceCtorEq]
  intro hM
  have hM2:=maxLen_le
  simp only [Bze7,hc.dn,go_sem,yz0,xx9,xx8,xx6,xx7,xx5,xx0,xx1,xx2,reduceIte,xx3,xx4,reduceCtorEq]
  refine wpD_lo (fun i=>xs.length - i) (fun i=>i≤xs.length∧fidx p (xs.drop i) i=fidx p xs 0)
    (fun i:Nat=>⟨L .any [(0,.ro none 1 (rwn xs)),(1,.clo g caps),(7,iv xs.length),(8,iv i)],L .gone []⟩) 0 (by simp) (by simp only [Bz1n,hc.dn,go_sem,yz0,xx9,xx8,xx6,xx7,xx5,xx0,xx1,xx2,reduceIte,xx3,xx4,reduceCtorEq];try rfl) ?_
  rintro i ⟨hi,he⟩
  by_cases hlt:(i:Int)<xs.length
  · have hlt':i<xs.length:=by omega
    have w1:IntKind.i64.wrap ((i:Int)+1)=((i+1:Nat):Int):=by rw [w64 (by omega)];simp
    have w2:IntKind.i64.wrap (i:Int)=i:=w64 (by omega)
    rw [drop_getD hlt' []] at he
    simp only [fidx] at he
    simp only [Bz1n,Bz5q,Bz5p,Bze5,rwn_getD hlt',decide_eq_true hlt,hc.dn,go_sem,yz0,xx9,xx8,xx6,xx7,xx5,xx0,xx1,xx2,reduceIte,xx3,xx4,reduceCtorEq]
    intro vs
    refine ⟨⟨by omega,hlt'⟩,hlt',?_⟩
    refine yz5 (h _ (yz3 hlt' [])) (by simp only [rowIs,boxIs,coe_argN,coe_argNs,coe_ro_o,coeL_nil,coeL_cons,coe_any,coe_val,coe_ro,coe_ro_nil,coe_ro_own,coe_st,coe_st_agg,coe_rp,coe_rp_ptr,coe_clo,coe_own0,coe_ptr0,coeL_intsK,coeL_rws,coeL_rwn,L_hit,L_miss,L_nil,xx3,ne_eq,reduceCtorEq,not_false_eq_true,true_and,and_true,and_self,exists_eq_left,exists_eq_right,List.mem_cons,List.not_mem_nil,or_false,AObj.row.injEq,AObj.box.injEq,exists_eq_left',exists_and_left,exists_eq,Nat.zero_lt_one,Nat.lt_add_one,List.map_cons,List.map_nil,AObj.ver,xx5,not_true_eq_false];exact hc.coe _ _ _) trivial ?_
    simp only [Bze4,Bze6,w1,hc.dn,go_sem,yz0,xx9,xx8,xx6,xx7,xx5,xx0,xx1,xx2,reduceIte,xx3,xx4,reduceCtorEq]
    refine ⟨fun hp=>?_,fun hp=>⟨i+1,by omega,⟨by omega,?_⟩,rfl⟩⟩
    · rw [hp] at he;simp at he;rw [← he]
    · rw [hp] at he;simpa using he
  · have:i=xs.length:=by omega
    subst this
    rw [List.drop_length] at he
    simp only [fidx] at he
    simp only [Bz1n,Bz5q,Bz5p,Bze8,decide_eq_false hlt,hc.dn,go_sem,yz0,xx9,xx8,xx6,xx7,xx5,xx0,xx1,xx2,reduceIte,xx3,xx4,reduceCtorEq]
    rw [← he]
theorem k_ContainsFunc (xs:List (List Int)) (g:FuncId) (caps:List AVal) (p:List Int→Bool) (hc:Caps caps) (h:∀ x∈xs,Fun Try.prog g (.ro none 1 (ints x) :: caps) (bv (p x))) :
    Fun Try.prog nz2p [.ro none 1 (rwn xs),.clo g caps] (bv (xs.any p)):=by
  refine fun_of mixed czfy rfl ⟨rfl,trivial⟩ ?_
  simp only [Bzdu,Azdv,hc.dn,go_sem,yz0,xx9,xx8,xx6,xx7,xx5,xx0,xx1,xx2,reduceIte,xx3,xx4,reduceCtorEq]
  intro vs
  refine yz5 (k_IndexFunc xs g caps p hc h) (by simp only [rowIs,boxIs,coe_argN,coe_argNs,coe_ro_o,coeL_nil,coeL_cons,coe_any,coe_val,coe_ro,coe_ro_nil,coe_ro_own,coe_st,coe_st_agg,coe_rp,coe_rp_ptr,coe_clo,coe_own0,coe_ptr0,coeL_intsK,coeL_rws,coeL_rwn,L_hit,L_miss,L_nil,xx3,ne_eq,reduceCtorEq,not_false_eq_true,true_and,and_true,and_self,exists_eq_left,exists_eq_right,List.mem_cons,List.not_mem_nil,or_false,AObj.row.injEq,AObj.box.injEq,exists_eq_left',exists_and_left,exists_eq,Nat.zero_lt_one,Nat.lt_add_one,List.map_cons,List.map_nil,AObj.ver,xx5,not_true_eq_false];exact hc.coe _ _ _) trivial ?_
  simp only [fidx_ge,go_sem,yz0,xx9,xx8,xx6,xx7,xx5,xx0,xx1,xx2,reduceIte,xx3,xx4,reduceCtorEq]
theorem k_IndexFunc2 (xs:List Int) (g:FuncId) (caps:List AVal) (p:Int→Bool) (hc:Caps caps) (h:∀ x∈xs,Fun Try.prog g (iv x :: caps) (bv (p x))) :
    Fun Try.prog nz2w [.ro none 1 (ints xs),.clo g caps] (iv (fidx p xs 0)):=by
  refine fun_of mixed czg5 rfl ⟨rfl,trivial⟩ ?_
  simp only [Azel,Bzek,hc.dn,go_sem,yz0,xx9,xx8,xx6,xx7,xx5,xx0,xx1,xx2,reduceIte,xx3,xx4,reduceCtorEq]
  intro hM
  have hM2:=maxLen_le
  simp only [Bzei,hc.dn,go_sem,yz0,xx9,xx8,xx6,xx7,xx5,xx0,xx1,xx2,reduceIte,xx3,xx4,reduceCtorEq]
  refine wpD_lo (fun i=>xs.length - i) (fun i=>i≤xs.length∧fidx p (xs.drop i) i=fidx p xs 0)
    (fun i:Nat=>⟨L .any [(0,.ro none 1 (ints xs)),(1,.clo g caps),(7,iv xs.length),(8,iv i)],L .gone []⟩) 0 (by simp) (by simp only [Bz1o,hc.dn,go_sem,yz0,xx9,xx8,xx6,xx7,xx5,xx0,xx1,xx2,reduceIte,xx3,xx4,reduceCtorEq];try rfl) ?_
  rintro i ⟨hi,he⟩
  by_cases hlt:(i:Int)<xs.length
  · have hlt':i<xs.length:=by omega
    have w1:IntKind.i64.wrap ((i:Int)+1)=((i+1:Nat):Int):=by rw [w64 (by omega)];simp
    rw [drop_getD hlt' 0] at he
    simp only [fidx] at he
    simp only [Bz1o,Bz5s,Bz5r,Bzeg,yz2 hlt',decide_eq_true hlt,hc.dn,go_sem,yz0,xx9,xx8,xx6,xx7,xx5,xx0,xx1,xx2,reduceIte,xx3,xx4,reduceCtorEq]
    intro vs
    refine ⟨⟨by omega,hlt'⟩,hlt',?_⟩
    refine yz5 (h _ (yz3 hlt' 0)) (by simp only [rowIs,boxIs,coe_argN,coe_argNs,coe_ro_o,coeL_nil,coeL_cons,coe_any,coe_val,coe_ro,coe_ro_nil,coe_ro_own,coe_st,coe_st_agg,coe_rp,coe_rp_ptr,coe_clo,coe_own0,coe_ptr0,coeL_intsK,coeL_rws,coeL_rwn,L_hit,L_miss,L_nil,xx3,ne_eq,reduceCtorEq,not_false_eq_true,true_and,and_true,and_self,exists_eq_left,exists_eq_right,List.mem_cons,List.not_mem_nil,or_false,AObj.row.injEq,AObj.box.injEq,exists_eq_left',exists_and_left,exists_eq,Nat.zero_lt_one,Nat.lt_add_one,List.map_cons,List.map_nil,AObj.ver,xx5,not_true_eq_false];exact hc.coe _ _ _) trivial ?_
    simp only [Bzef,Bzeh,w1,hc.dn,go_sem,yz0,xx9,xx8,xx6,xx7,xx5,xx0,xx1,xx2,reduceIte,xx3,xx4,reduceCtorEq]
    refine ⟨fun hp=>?_,fun hp=>⟨i+1,by omega,⟨by omega,?_⟩,rfl⟩⟩
    · rw [hp] at he;simp at he;rw [← he]
    · rw [hp] at he;simpa using he
  · have:i=xs.length:=by omega
    subst this
    rw [List.drop_length] at he
    simp only [fidx] at he
    simp only [Bz1o,Bz5s,Bz5r,Bzej,decide_eq_false hlt,hc.dn,go_sem,yz0,xx9,xx8,xx6,xx7,xx5,xx0,xx1,xx2,reduceIte,xx3,xx4,reduceCtorEq]
    rw [← he]
theorem k_ContainsFunc1 (xs:List Int) (g:FuncId) (caps:List AVal) (p:Int→Bool) (hc:Caps caps) (h:∀ x∈xs,Fun Try.prog g (iv x :: caps) (bv (p x))) :
    Fun Try.prog nz2t [.ro none 1 (ints xs),.clo g caps] (bv (xs.any p)):=by
  refine fun_of mixed czg3 rfl ⟨rfl,trivial⟩ ?_
  simp only [Bzeb,Azec,hc.dn,go_sem,yz0,xx9,xx8,xx6,xx7,xx5,xx0,xx1,xx2,reduceIte,xx3,xx4,reduceCtorEq]
  intro vs
  refine yz5 (k_IndexFunc2 xs g caps p hc h) (by simp only [rowIs,boxIs,coe_argN,coe_argNs,coe_ro_o,coeL_nil,coeL_cons,coe_any,coe_val,coe_ro,coe_ro_nil,coe_ro_own,coe_st,coe_st_agg,coe_rp,coe_rp_ptr,coe_clo,coe_own0,coe_ptr0,coeL_intsK,coeL_rws,coeL_rwn,L_hit,L_miss,L_nil,xx3,ne_eq,reduceCtorEq,not_false_eq_true,true_and,and_true,and_self,exists_eq_left,exists_eq_right,List.mem_cons,List.not_mem_nil,or_false,AObj.row.injEq,AObj.box.injEq,exists_eq_left',exists_and_left,exists_eq,Nat.zero_lt_one,Nat.lt_add_one,List.map_cons,List.map_nil,AObj.ver,xx5,not_true_eq_false];exact hc.coe _ _ _) trivial ?_
  simp only [fidx_ge,go_sem,yz0,xx9,xx8,xx6,xx7,xx5,xx0,xx1,xx2,reduceIte,xx3,xx4,reduceCtorEq]
def allIn (xs:List Int) (lo hi:Int):Bool:=xs.all fun x=>decide (lo≤x) && decide (x≤hi)
theorem allIn_iff {xs:List Int} {lo hi:Int}:allIn xs lo hi=true↔∀ x∈xs,lo≤x∧x≤hi:=by simp [allIn]
theorem k_areWithin_1 (n lo hi:Int):Fun Try.prog nzj [iv n,.rp [iv lo] 0,.rp [iv hi] 0] (bv !(decide (lo≤n) && decide (n≤hi))):=by
  refine fun_of mixed czg4 rfl ⟨rfl,trivial⟩ ?_
  simp only [Bzed,Azee,go_sem,yz0,xx9,xx8,xx6,xx7,xx5,xx0,xx1,xx2,reduceIte,xx3,xx4,reduceCtorEq]
  intro vs
  refine yz5 (k_within n lo hi) qCS trivial ?_
  simp only [go_sem,yz0,xx9,xx8,xx6,xx7,xx5,xx0,xx1,xx2,reduceIte,xx3,xx4,reduceCtorEq]
theorem k_areWithin (xs:List Int) (lo hi:Int):Fun Try.prog nz2q [.ro none 1 (ints xs),iv lo,iv hi] (bv (allIn xs lo hi)):=by
  refine fun_of mixed czg0 rfl ⟨rfl,trivial⟩ ?_
  simp only [Bzdy,Azdz,go_sem,yz0,xx9,xx8,xx6,xx7,xx5,xx0,xx1,xx2,reduceIte,xx3,xx4,reduceCtorEq]
  intro vs vs2
  refine yz5 (k_ContainsFunc1 xs nzj [.rp [iv lo] 0,.rp [iv hi] 0] _ ⟨by simp only [go_sem,yz0,xx9,xx8,xx6,xx7,xx5,xx0,xx1,xx2,reduceIte,xx3,xx4,reduceCtorEq],by intros;simp only [rowIs,boxIs,coe_argN,coe_argNs,coe_ro_o,coeL_nil,coeL_cons,coe_any,coe_val,coe_ro,coe_ro_nil,coe_ro_own,coe_st,coe_st_agg,coe_rp,coe_rp_ptr,coe_clo,coe_own0,coe_ptr0,coeL_intsK,coeL_rws,coeL_rwn,L_hit,L_miss,L_nil,xx3,ne_eq,reduceCtorEq,not_false_eq_true,true_and,and_true,and_self,exists_eq_left,exists_eq_right,List.mem_cons,List.not_mem_nil,or_false,AObj.row.injEq,AObj.box.injEq,exists_eq_left',exists_and_left,exists_eq,Nat.zero_lt_one,Nat.lt_add_one,List.map_cons,List.map_nil,AObj.ver,xx5,not_true_eq_false]⟩ (fun x _=>k_areWithin_1 x lo hi)) qCS trivial ?_
  simp only [go_sem,yz0,xx9,xx8,xx6,xx7,xx5,xx0,xx1,xx2,reduceIte,xx3,xx4,reduceCtorEq]
  congr 2
  simp only [allIn,List.all_eq_not_any_not]
abbrev autA (n:Int) (next:List (List Int)):AVal:=.st [iv n,.ro none 1 (rwn next)]
abbrev autP (n:Int) (next:List (List Int)):AVal:=.rp [iv n,.ro none 1 (rwn next)] 0
def autB (n:Int) (next:List (List Int)):Bool:=(decide (1≤n) && decide (n≤10)) && ((decide (1≤(next.length:Int)) && decide ((next.length:Int)≤3)) && next.all fun row=>decide ((row.length:Int)=n) && allIn row 0 (n - 1))
theorem autB_iff {n:Int} {next:List (List Int)}:autB n next=true↔Aut n next:=by
  simp only [autB,Bool.and_eq_true,decide_eq_true_eq,List.all_eq_true,allIn_iff]
  constructor
  · rintro ⟨⟨h1,h2⟩,⟨h3,h4⟩,h5⟩
    exact ⟨h1,h2,by omega,by omega,fun row hr=>⟨(h5 row hr).1,fun x hx=>by have:=(h5 row hr).2 x hx;omega⟩⟩
  · rintro ⟨h1,h2,h3,h4,h5⟩
    exact ⟨⟨h1,h2⟩,⟨by omega,by omega⟩,fun row hr=>⟨(h5 row hr).1,fun x hx=>by have:=(h5 row hr).2 x hx;omega⟩⟩
theorem k_letters (n:Int) (next:List (List Int)):Fun Try.prog nz24 [autA n next] (iv next.length):=by
  refine fun_of mixed czf5 rfl ⟨rfl,trivial⟩ ?_
  simp only [Bz9n,Az9o,go_sem,yz0,xx9,xx8,xx6,xx7,xx5,xx0,xx1,xx2,reduceIte,xx3,xx4,reduceCtorEq]
  intro vs vs2
  refine yz5 (k_size1 next) qCS trivial ?_
  simp only [go_sem,yz0,xx9,xx8,xx6,xx7,xx5,xx0,xx1,xx2,reduceIte,xx3,xx4,reduceCtorEq]
theorem k_Valid_1 (row:List Int) (n:Int) (next:List (List Int)) (hn:1≤n∧n≤10):Fun Try.prog nzi [.ro none 1 (ints row),autP n next] (bv !(decide ((row.length:Int)=n) && allIn row 0 (n - 1))):=by
  refine fun_of mixed czfz rfl ⟨rfl,trivial⟩ ?_
  have w:IntKind.i64.wrap (n - 1)=n - 1:=w64 (by omega)
  simp only [Bzdw,Azdx,w,go_sem,yz0,xx9,xx8,xx6,xx7,xx5,xx0,xx1,xx2,reduceIte,xx3,xx4,reduceCtorEq]
  intro vs
  refine yz5 (k_size row) qCS trivial ?_
  by_cases h:(row.length:Int)=n
  · have h2:((row.length:Int) != n)=false:=by simp [h]
    simp only [h2,w,go_sem,yz0,xx9,xx8,xx6,xx7,xx5,xx0,xx1,xx2,reduceIte,xx3,xx4,reduceCtorEq]
    refine yz5 (k_areWithin row 0 (n - 1)) qCS trivial ?_
    simp only [go_sem,yz0,xx9,xx8,xx6,xx7,xx5,xx0,xx1,xx2,reduceIte,xx3,xx4,reduceCtorEq]
    simp [h]
  · have h2:((row.length:Int) != n)=true:=by simp [h]
    simp only [h2,go_sem,yz0,xx9,xx8,xx6,xx7,xx5,xx0,xx1,xx2,reduceIte,xx3,xx4,reduceCtorEq]
    simp [h]
theorem k_Valid (n:Int) (next:List (List Int)):Fun Try.prog nz2l [autA n next] (bv (autB n next)):=by
  refine fun_of mixed czfs rfl ⟨rfl,trivial⟩ ?_
  simp only [Bzd5,Azd6,go_sem,yz0,xx9,xx8,xx6,xx7,xx5,xx0,xx1,xx2,reduceIte,xx3,xx4,reduceCtorEq]
  intro vs vs2
  refine yz5 (k_within n 1 10) qCS trivial ?_
  by_cases hn:1≤n∧n≤10
  · have h1:(decide (1≤n) && decide (n≤10))=true:=by simp [hn]
    simp only [h1,go_sem,yz0,xx9,xx8,xx6,xx7,xx5,xx0,xx1,xx2,reduceIte,xx3,xx4,reduceCtorEq]
    refine yz5 (k_letters n next) qCS trivial ?_
    simp only [go_sem,yz0,xx9,xx8,xx6,xx7,xx5,xx0,xx1,xx2,reduceIte,xx3,xx4,reduceCtorEq]
    refine yz5 (k_within next.length 1 3) qCS trivial ?_
    by_cases hl:1≤(next.length:Int)∧(next.length:Int)≤3
    · have h2:(decide (1≤(next.length:Int)) && decide ((next.length:Int)≤3))=true:=by simp only [decide_eq_true hl.1,decide_eq_true hl.2,Bool.and_self]
      simp only [h2,go_sem,yz0,xx9,xx8,xx6,xx7,xx5,xx0,xx1,xx2,reduceIte,xx3,xx4,reduceCtorEq]
      refine yz5 (k_ContainsFunc next nzi [autP n next] _ ⟨by simp only [go_sem,yz0,xx9,xx8,xx6,xx7,xx5,xx0,xx1,xx2,reduceIte,xx3,xx4,reduceCtorEq],by intros;simp only [rowIs,boxIs,coe_argN,coe_argNs,coe_ro_o,coeL_nil,coeL_cons,coe_any,coe_val,coe_ro,coe_ro_nil,coe_ro_own,coe_st,coe_st_agg,coe_rp,coe_rp_ptr,coe_clo,coe_own0,coe_ptr0,coeL_intsK,coeL_rws,coeL_rwn,L_hit,L_miss,L_nil,xx3,ne_eq,reduceCtorEq,not_false_eq_true,true_and,and_true,and_self,exists_eq_left,exists_eq_right,List.mem_cons,List.not_mem_nil,or_false,AObj.row.injEq,AObj.box.injEq,exists_eq_left',exists_and_left,exists_eq,Nat.zero_lt_one,Nat.lt_add_one,List.map_cons,List.map_nil,AObj.ver,xx5,not_true_eq_false]⟩ (fun x _=>k_Valid_1 x n next hn)) qCS trivial ?_
      simp only [go_sem,yz0,xx9,xx8,xx6,xx7,xx5,xx0,xx1,xx2,reduceIte,xx3,xx4,reduceCtorEq]
      simp only [autB,h1,h2,Bool.true_and]
      congr 2
      simp only [List.all_eq_not_any_not]
    · have h2:(decide (1≤(next.length:Int)) && decide ((next.length:Int)≤3))=false:=by
        rw [Bool.and_eq_false_iff]
        by_cases h3:1≤(next.length:Int)
        · right;simp;omega
        · left;simp;omega
      simp only [h2,go_sem,yz0,xx9,xx8,xx6,xx7,xx5,xx0,xx1,xx2,reduceIte,xx3,xx4,reduceCtorEq]
      simp only [autB,h1,h2,Bool.true_and,Bool.false_and]
  · have h1:(decide (1≤n) && decide (n≤10))=false:=by
      rw [Bool.and_eq_false_iff]
      by_cases h3:1≤n
      · right;simp;omega
      · left;simp;omega
    simp only [h1,go_sem,yz0,xx9,xx8,xx6,xx7,xx5,xx0,xx1,xx2,reduceIte,xx3,xx4,reduceCtorEq]
    simp only [autB,h1,Bool.false_and]
def codeI (valid right:Bool):Int:=if valid then (if right then 0 else 2) else 1
theorem k_code (n:Int) (next:List (List Int)) (g:FuncId) (caps:List AVal) (r:Bool) (hc:Caps caps) (h:autB n next=true→Fun Try.prog g caps (bv r)) :
    Fun Try.prog nz2a [autA n next,.clo g caps] (iv (codeI (autB n next) r)):=by
  refine fun_of mixed czfc rfl ⟨rfl,trivial⟩ ?_
  simp only [Azaz,Bzay,hc.dn,go_sem,yz0,xx9,xx8,xx6,xx7,xx5,xx0,xx1,xx2,reduceIte,xx3,xx4,reduceCtorEq]
  intro vs vs2
  refine yz5 (k_Valid n next) qCS trivial ?_
  simp only [Bzaw,hc.dn,go_sem,yz0,xx9,xx8,xx6,xx7,xx5,xx0,xx1,xx2,reduceIte,xx3,xx4,reduceCtorEq]
  cases hv:autB n next with
  | false =>
    simp only [codeI,go_sem,yz0,xx9,xx8,xx6,xx7,xx5,xx0,xx1,xx2,reduceIte,xx3,xx4,reduceCtorEq]
  | true =>
    simp only [go_sem,yz0,xx9,xx8,xx6,xx7,xx5,xx0,xx1,xx2,reduceIte,xx3,xx4,reduceCtorEq]
    intro vs3
    refine yz5 (h hv) (hc.coe _ _ _) trivial ?_
    simp only [Bzav,Bzax,go_sem,yz0,xx9,xx8,xx6,xx7,xx5,xx0,xx1,xx2,reduceIte,xx3,xx4,reduceCtorEq]
    cases r <;> simp [codeI]
def stepA (next:List (List Int)) (s l:Int):Int:=(next.getD l.toNat []).getD s.toNat 0
def atA (next:List (List Int)) (s:Int) (w:List Int):Int:=w.foldl (stepA next) s
def IsW (l:Nat) (w:List Int):Prop:=∀ x∈w,0≤x∧x<l
theorem Aut.step {n:Int} {next:List (List Int)} (A:Aut n next) {s l:Int} (hs:0≤s∧s<n) (hl:0≤l∧l<next.length) :
    l.toNat<next.length∧s.toNat<(next.getD l.toNat []).length∧0≤stepA next s l∧stepA next s l<n:=by
  have h1:l.toNat<next.length:=by omega
  have h2:=A.row _ (yz3 h1 [])
  have h3:s.toNat<(next.getD l.toNat []).length:=by omega
  exact ⟨h1,h3,h2.2 _ (yz3 h3 0)⟩
theorem Aut.at {n:Int} {next:List (List Int)} (A:Aut n next):∀ {w:List Int} {s:Int},0≤s∧s<n→IsW next.length w→0≤atA next s w∧atA next s w<n
  | [],s,hs,_=>hs
  | l :: w,s,hs,hw=>A.at (w:=w) (A.step hs (hw l (by simp))).2.2 fun x hx=>hw x (by simp [hx])
end Go.Ab
namespace Go.Ab
open Go.Proofs
theorem k_l01Map (xs:List Int) (n:Int) (hn:0≤n∧n≤1000000):Fun Try.prog nz26 [.ro none 1 (ints xs),iv n] (bv (allIn xs 0 (n - 1) && decide ((xs.length:Int)=n))):=by
  refine fun_of mixed czf8 rfl ⟨rfl,trivial⟩ ?_
  have w0:IntKind.i64.wrap (n - 1)=n - 1:=w64 (by omega)
  simp only [Aza1,Bza0,Bz9y,go_sem,yz0,xx9,xx8,xx6,xx7,xx5,xx0,xx1,xx2,reduceIte,xx3,xx4,reduceCtorEq]
  refine wpD_lo (fun i=>xs.length - i) (fun i=>i≤xs.length∧allIn (xs.drop i) 0 (n - 1)=allIn xs 0 (n - 1))
    (fun i:Nat=>⟨L .any [(0,.ro none 1 (ints xs)),(1,iv n),(5,iv i)],L .gone []⟩) 0 (by simp) (by simp only [Bz10,go_sem,yz0,xx9,xx8,xx6,xx7,xx5,xx0,xx1,xx2,reduceIte,xx3,xx4,reduceCtorEq];try rfl) ?_
  rintro i ⟨hi,he⟩
  have hM2:=maxLen_le
  by_cases hlt:(i:Int)<xs.length
  · have hlt':i<xs.length:=by omega
    simp only [Bz10,Bz44,Bz45,yz2 hlt',w0,decide_eq_true hlt,go_sem,yz0,xx9,xx8,xx6,xx7,xx5,xx0,xx1,xx2,reduceIte,xx3,xx4,reduceCtorEq]
    intro hM vs
    refine ⟨⟨by omega,hlt'⟩,hlt',?_⟩
    refine yz5 (k_l00In (xs.getD i 0) 0 (n - 1)) qCS trivial ?_
    have w1:IntKind.i64.wrap ((i:Int)+1)=((i+1:Nat):Int):=by rw [w64 (by omega)];simp
    rw [drop_getD hlt' 0] at he
    simp only [allIn,List.all_cons] at he
    simp only [Bz9w,Bz9x,w1,go_sem,yz0,xx9,xx8,xx6,xx7,xx5,xx0,xx1,xx2,reduceIte,xx3,xx4,reduceCtorEq]
    refine ⟨fun hp=>?_,fun hp=>⟨i+1,by omega,⟨by omega,?_⟩,rfl⟩⟩
    · rw [Bool.not_eq_true'] at hp
      rw [hp] at he
      simp only [allIn,← he,Bool.false_and]
    · rw [Bool.not_eq_false'] at hp
      rw [hp] at he
      simpa [allIn] using he
  · have:i=xs.length:=by omega
    subst this
    rw [List.drop_length] at he
    simp only [Bz10,Bz44,Bz45,Bz9z,decide_eq_false hlt,go_sem,yz0,xx9,xx8,xx6,xx7,xx5,xx0,xx1,xx2,reduceIte,xx3,xx4,reduceCtorEq]
    intro _ _
    rw [← he]
    simp [allIn]
    rfl
theorem k_l01Ok (n:Int) (next:List (List Int)):Fun Try.prog nz1u [autP n next] (bv (autB n next)):=by
  refine fun_of mixed czev rfl ⟨rfl,trivial⟩ ?_
  simp only [Az7h,Bz7g,go_sem,yz0,xx9,xx8,xx6,xx7,xx5,xx0,xx1,xx2,reduceIte,xx3,xx4,reduceCtorEq]
  intro vs
  refine yz5 (k_l00In n 1 10) qCS trivial ?_
  by_cases hn:1≤n∧n≤10
  · have h1:(decide (1≤n) && decide (n≤10))=true:=by simp [hn]
    simp only [h1,go_sem,yz0,xx9,xx8,xx6,xx7,xx5,xx0,xx1,xx2,reduceIte,xx3,xx4,reduceCtorEq]
    intro hM
    refine yz5 (k_l00In next.length 1 3) qCS trivial ?_
    by_cases hl:1≤(next.length:Int)∧(next.length:Int)≤3
    · have h2:(decide (1≤(next.length:Int)) && decide ((next.length:Int)≤3))=true:=by simp only [decide_eq_true hl.1,decide_eq_true hl.2,Bool.and_self]
      simp only [h2,Bzn,Bz7f,Bz7d,go_sem,yz0,xx9,xx8,xx6,xx7,xx5,xx0,xx1,xx2,reduceIte,xx3,xx4,reduceCtorEq]
      have hB:autB n next=next.all fun row=>decide ((row.length:Int)=n) && allIn row 0 (n - 1):=by simp only [autB,h1,h2,Bool.true_and]
      refine wpD_lo (fun i=>next.length - i) (fun i=>i≤next.length∧((next.drop i).all fun row=>decide ((row.length:Int)=n) && allIn row 0 (n - 1))=autB n next)
        (fun i:Nat=>⟨L .any [(0,autP n next),(3,iv i)],L .gone []⟩) 0 (by simp [hB]) (by simp only [Bzo,go_sem,yz0,xx9,xx8,xx6,xx7,xx5,xx0,xx1,xx2,reduceIte,xx3,xx4,reduceCtorEq];try rfl) ?_
      rintro i ⟨hi,he⟩
      by_cases hlt:(i:Int)<next.length
      · have hlt':i<next.length:=by omega
        have w1:IntKind.i64.wrap ((i:Int)+1)=((i+1:Nat):Int):=by rw [w64 (by omega)];simp
        simp only [Bzo,Bz3l,Bz3m,rwn_getD hlt',decide_eq_true hlt,go_sem,yz0,xx9,xx8,xx6,xx7,xx5,xx0,xx1,xx2,reduceIte,xx3,xx4,reduceCtorEq]
        intro _ vs2
        refine ⟨⟨by omega,hlt'⟩,hlt',?_⟩
        refine yz5 (k_l01Map (next.getD i []) n (by omega)) qCS trivial ?_
        rw [drop_getD hlt' []] at he
        simp only [List.all_cons] at he
        simp only [Bz7b,Bz7c,w1,go_sem,yz0,xx9,xx8,xx6,xx7,xx5,xx0,xx1,xx2,reduceIte,xx3,xx4,reduceCtorEq]
        refine ⟨fun hp=>?_,fun hp=>⟨i+1,by omega,⟨by omega,?_⟩,rfl⟩⟩
        · rw [Bool.not_eq_true',Bool.and_comm] at hp
          rw [hp] at he
          rw [← he];rfl
        · rw [Bool.not_eq_false',Bool.and_comm] at hp
          rw [hp] at he
          simpa using he
      · have:i=next.length:=by omega
        subst this
        rw [List.drop_length] at he
        simp only [Bzo,Bz3l,Bz3m,Bz7e,decide_eq_false hlt,go_sem,yz0,xx9,xx8,xx6,xx7,xx5,xx0,xx1,xx2,reduceIte,xx3,xx4,reduceCtorEq]
        intro _
        rw [← he];rfl
    · have h2:(decide (1≤(next.length:Int)) && decide ((next.length:Int)≤3))=false:=by
        rw [Bool.and_eq_false_iff]
        by_cases h3:1≤(next.length:Int)
        · right;simp;omega
        · left;simp;omega
      simp only [h2,Bzn,go_sem,yz0,xx9,xx8,xx6,xx7,xx5,xx0,xx1,xx2,reduceIte,xx3,xx4,reduceCtorEq]
      simp only [autB,h1,h2,Bool.true_and,Bool.false_and]
  · have h1:(decide (1≤n) && decide (n≤10))=false:=by
      rw [Bool.and_eq_false_iff]
      by_cases h3:1≤n
      · right;simp;omega
      · left;simp;omega
    simp only [h1,Bzn,go_sem,yz0,xx9,xx8,xx6,xx7,xx5,xx0,xx1,xx2,reduceIte,xx3,xx4,reduceCtorEq]
    simp only [autB,h1,Bool.false_and]
def allS (n:Int):List Int:=(List.range n.toNat).map fun (s:Nat)=>(s:Int)
theorem k_Clone (xs:List Int) (h:xs.length * 8≤140737488355328):RowI Try.prog nzh [.ro (argN xs) 1 (ints xs)] (fun ys=>ys=xs):=by
  refine rowI_of mixed czfw rfl ?_
  simp only [Bzdk,Bzdl,Bzdm,Azdn,go_sem,yz0,xx9,xx8,xx6,xx7,xx5,xx0,xx1,xx2,reduceIte,xx3,xx4,reduceCtorEq]
  intro vs
  exact ⟨h,_,_,xs,by omega,rfl,by simp only [go_sem,yz0,xx9,xx8,xx6,xx7,xx5,xx0,xx1,xx2,reduceIte,xx3,xx4,reduceCtorEq],rfl⟩
end Go.Ab
namespace Go.Ab
open Go.Proofs
theorem nat1 (i:Nat) (m:Nat) (h:i<m) (hm:m≤maxLen):IntKind.i64.wrap ((i:Int)+1)=((i+1:Nat):Int):=by
  have:=maxLen_le
  rw [w64 (by omega)];simp
theorem take_eq_step {α:Type} [BEq α] {xs ys:List α} {i:Nat} (d:α) (h:i<xs.length) (h':i<ys.length) (he:xs.take i=ys.take i) (hx:xs.getD i d=ys.getD i d):xs.take (i+1)=ys.take (i+1):=by
  rw [List.getD_eq_getElem?_getD,List.getD_eq_getElem?_getD,List.getElem?_eq_getElem h,List.getElem?_eq_getElem h'] at hx
  simp only [Option.getD_some] at hx
  rw [List.take_add_one,List.take_add_one,he,List.getElem?_eq_getElem h,List.getElem?_eq_getElem h',hx]
theorem bne_false_eq {a b:Int} (h:(a != b)=false):a=b:=by simpa using h
end Go.Ab
