/- Contracts and what they lean on, part 6. Conditions: none. -/
import Derived.Test.YtiaoooekoffloaaChecked
import Derived.ChangeArms
import Derived.ChangeSlices
import Derived.Below
import Derived.Carry
import Derived.ChangeOld
import Derived.OpenShut
import Derived.ChangeCalls
import Derived.RowKit
import Derived.Test.YtiaoooekoffloaaZ5
set_option maxRecDepth 100000
set_option maxHeartbeats 4000000
set_option linter.all false
open Nat (reduceLeDiff reduceMul reduceSub reduceEqDiff reduceAdd)
open Int (reduceToNat reduceNeg reduceLE)
namespace Go.Ab
open Go.Proofs
theorem mixed : Try.prog.follows .mixedOrders = true := by kernel_rfl
abbrev n_main_main : FuncId := 0
abbrev n_gosem_cut : FuncId := 1
abbrev n_gosem_cut_init : FuncId := 2
abbrev nze8 : FuncId := 3
abbrev nz5b : FuncId := 4
abbrev nze9 : FuncId := 5
abbrev nzea : FuncId := 6
abbrev nz2a : FuncId := 7
abbrev nz2b : FuncId := 8
abbrev nzeb : FuncId := 9
abbrev nzec : FuncId := 10
abbrev nzed : FuncId := 11
abbrev nzee : FuncId := 12
abbrev nzef : FuncId := 13
abbrev nzeg : FuncId := 14
abbrev nzd : FuncId := 15
abbrev nze : FuncId := 16
abbrev nzv : FuncId := 17
abbrev nzw : FuncId := 18
abbrev nz2c : FuncId := 19
abbrev nz2d : FuncId := 20
abbrev nz2e : FuncId := 21
abbrev nz6 : FuncId := 22
abbrev nzx : FuncId := 23
abbrev nzeh : FuncId := 24
abbrev nzei : FuncId := 25
abbrev nzej : FuncId := 26
abbrev nzek : FuncId := 27
abbrev nzel : FuncId := 28
abbrev nzem : FuncId := 29
abbrev nzen : FuncId := 30
abbrev nzeo : FuncId := 31
abbrev nzep : FuncId := 32
abbrev nzeq : FuncId := 33
abbrev nzf : FuncId := 34
abbrev nzy : FuncId := 35
abbrev nzz : FuncId := 36
abbrev nzg : FuncId := 37
abbrev nz2f : FuncId := 38
abbrev nzer : FuncId := 39
abbrev nz2g : FuncId := 40
abbrev nzes : FuncId := 41
abbrev nzet : FuncId := 42
abbrev nzeu : FuncId := 43
abbrev nzh : FuncId := 44
abbrev nzev : FuncId := 45
abbrev nzew : FuncId := 46
abbrev nzex : FuncId := 47
abbrev nz10 : FuncId := 48
abbrev nzi : FuncId := 49
abbrev nz2h : FuncId := 50
abbrev nz0 : FuncId := 51
abbrev nz4 : FuncId := 52
abbrev nz11 : FuncId := 53
abbrev nz12 : FuncId := 54
abbrev nz2i : FuncId := 55
abbrev nz13 : FuncId := 56
abbrev nz2j : FuncId := 57
abbrev nzey : FuncId := 58
abbrev nzez : FuncId := 59
abbrev nzf0 : FuncId := 60
abbrev nzf1 : FuncId := 61
abbrev nzf2 : FuncId := 62
abbrev nzf3 : FuncId := 63
abbrev nzf4 : FuncId := 64
abbrev nzf5 : FuncId := 65
abbrev nzf6 : FuncId := 66
abbrev nzf7 : FuncId := 67
abbrev nzf8 : FuncId := 68
abbrev nzf9 : FuncId := 69
abbrev nzfa : FuncId := 70
abbrev nzfb : FuncId := 71
abbrev nz2k : FuncId := 72
abbrev nzj : FuncId := 73
abbrev nz2l : FuncId := 74
abbrev nza : FuncId := 75
abbrev nz14 : FuncId := 76
abbrev nz2m : FuncId := 77
abbrev nz15 : FuncId := 78
abbrev nz16 : FuncId := 79
abbrev nzfc : FuncId := 80
abbrev nzfd : FuncId := 81
abbrev nzfe : FuncId := 82
abbrev nzff : FuncId := 83
abbrev nzfg : FuncId := 84
abbrev nzk : FuncId := 85
abbrev nz17 : FuncId := 86
abbrev nz2n : FuncId := 87
abbrev nz2o : FuncId := 88
abbrev nzfh : FuncId := 89
abbrev nz2p : FuncId := 90
abbrev nzfi : FuncId := 91
abbrev nzfj : FuncId := 92
abbrev nzfk : FuncId := 93
abbrev nzfl : FuncId := 94
abbrev nzfm : FuncId := 95
abbrev nzfn : FuncId := 96
abbrev nzfo : FuncId := 97
abbrev nzfp : FuncId := 98
abbrev nzfq : FuncId := 99
abbrev nzfr : FuncId := 100
abbrev nz2q : FuncId := 101
abbrev nz2r : FuncId := 102
abbrev nzb : FuncId := 103
abbrev nz2s : FuncId := 104
abbrev nz2t : FuncId := 105
abbrev nz2u : FuncId := 106
abbrev nz18 : FuncId := 107
abbrev nz2v : FuncId := 108
abbrev nz2w : FuncId := 109
abbrev nz2x : FuncId := 110
abbrev nzfs : FuncId := 111
abbrev nz2y : FuncId := 112
abbrev nzft : FuncId := 113
abbrev nz2z : FuncId := 114
abbrev nzl : FuncId := 115
abbrev nz30 : FuncId := 116
abbrev nzfu : FuncId := 117
abbrev n_math_bits_Len : FuncId := 118
abbrev nzfv : FuncId := 119
abbrev nzfw : FuncId := 120
abbrev nzfx : FuncId := 121
abbrev nzfy : FuncId := 122
abbrev nzfz : FuncId := 123
abbrev nzg0 : FuncId := 124
abbrev nzg1 : FuncId := 125
abbrev nzg2 : FuncId := 126
abbrev nzg3 : FuncId := 127
abbrev n_math_bits_Len32 : FuncId := 128
abbrev n_math_bits_Len64 : FuncId := 129
abbrev nzg4 : FuncId := 130
abbrev nzg5 : FuncId := 131
abbrev nzg6 : FuncId := 132
abbrev nzg7 : FuncId := 133
abbrev nzg8 : FuncId := 134
abbrev nzg9 : FuncId := 135
abbrev nzga : FuncId := 136
abbrev n_runtime_boundsError_Error : FuncId := 137
abbrev n_runtime_boundsError_RuntimeError : FuncId := 138
abbrev n_runtime_errorString_Error : FuncId := 139
abbrev n_runtime_errorString_RuntimeError : FuncId := 140
abbrev n_runtime_plainError_Error : FuncId := 141
abbrev n_runtime_plainError_RuntimeError : FuncId := 142
abbrev n_runtime_errorAddressString_Error : FuncId := 143
abbrev n_runtime_errorAddressString_RuntimeError : FuncId := 144
abbrev n_runtime_TypeAssertionError_Error : FuncId := 145
abbrev n_runtime_TypeAssertionError_RuntimeError : FuncId := 146
abbrev n_runtime_PanicNilError_Error : FuncId := 147
abbrev n_runtime_PanicNilError_RuntimeError : FuncId := 148
abbrev n_internal_abi_Type_Align : FuncId := 149
abbrev n_internal_runtime_maps_unhashableTypeError_Error : FuncId := 150
abbrev n_internal_runtime_maps_unhashableTypeError_RuntimeError : FuncId := 151
abbrev nzgb : FuncId := 152
abbrev n_internal_abi_Kind_String : FuncId := 153
def Bz5c : AC := (.kp [0, 1, 23] [5000, 5001] (.dn (.cond (.t 23) (.seq (.reg false [⟨(some 4), none, .i (.mov (.c (.bool true)))⟩]) (.dn .ret)) .skip)))
def Bz5d : AC := (.kp [5, 8, 9, 10, 12, 14, 16, 18, 110] [5, 25, 28, 31, 34, 37, 41, 47, 54, 55, 62, 69, 5000, 5001] (.dn (.cond (.t 110) (.seq (.reg false [⟨(some 4), none, .i (.mov (.c (.bool false)))⟩]) (.dn .ret)) .skip)))
def Bz31 : AC := (.kp [5, 8, 9, 10, 12, 14, 16, 18, 20, 114] [5, 25, 28, 31, 34, 37, 41, 47, 54, 55, 62, 69, 5000, 5001] (.dn (.cond (.t 114) .skip (.exit 0))))
def Bz32 : AC := (.kp [5, 8, 9, 10, 12, 14, 16, 18, 20, 154] [5, 25, 28, 31, 34, 37, 41, 47, 54, 55, 62, 69, 5000, 5001] (.dn (.cond (.t 154) (.seq (.reg false [⟨(some 4), none, .i (.mov (.c (.bool false)))⟩]) (.dn .ret)) .skip)))
def Bz33 : AC := (.kp [5, 8, 9, 10, 12, 14, 16, 18, 20] [5, 25, 28, 31, 34, 37, 41, 47, 54, 55, 62, 69, 5000, 5001] (.dn (.reg false [⟨(some 115), none, .i (.mov (.t 20))⟩, ⟨(some 116), none, .i (.bin .add (.t 115) (.c (.int .i64 1)))⟩, ⟨(some 20), none, .i (.mov (.t 116))⟩])))
def Bz5e : AC := (.kp [5, 8, 9, 10, 12, 14, 16, 18, 20] [5, 25, 28, 31, 34, 37, 41, 47, 54, 55, 62, 69, 5000, 5001] (.dn (.seq (.block 1 (.seq (.reg true [⟨(some 117), none, .i (.mov (.t 14))⟩, ⟨(some 118), none, .i (.mov (.t 20))⟩, ⟨(some 119), none, .i (.iad 1 (.t 117) (.t 118))⟩, ⟨(some 120), none, .i (.ld (.t 119))⟩, ⟨(some 121), none, .i (.mov (.t 12))⟩, ⟨(some 122), none, .i (.mov (.t 10))⟩, ⟨(some 123), none, .i (.mov (.t 20))⟩, ⟨(some 124), none, .i (.iad 1 (.t 122) (.t 123))⟩, ⟨(some 125), none, .i (.ld (.t 124))⟩, ⟨(some 126), none, .i (.iad 1 (.t 121) (.t 125))⟩, ⟨(some 127), none, .i (.ld (.t 126))⟩, ⟨(some 128), none, .i (.bin .neq (.t 120) (.t 127))⟩, ⟨(some 129), none, .i (.mov (.t 128))⟩, ⟨(some 130), (some (129, false)), .i (.mov (.t 18))⟩, ⟨(some 131), (some (129, false)), .i (.mov (.t 20))⟩, ⟨(some 132), (some (129, false)), .call nz6 [(.t 130), (.t 131)]⟩, ⟨(some 133), (some (129, false)), .i (.mov (.t 9))⟩, ⟨(some 134), (some (129, false)), .i (.mov (.t 10))⟩, ⟨(some 135), (some (129, false)), .i (.mov (.t 20))⟩, ⟨(some 136), (some (129, false)), .i (.iad 1 (.t 134) (.t 135))⟩, ⟨(some 137), (some (129, false)), .i (.ld (.t 136))⟩, ⟨(some 138), (some (129, false)), .calh nz6 [(.t 133), (.t 137)]⟩, ⟨(some 139), (some (129, false)), .i (.beq true (.t 132) (.t 138))⟩, ⟨(some 140), none, .i (.pick (.t 129) (.c (.bool true)) (.t 139))⟩, ⟨(some 141), none, .i (.mov (.t 140))⟩, ⟨(some 142), (some (141, false)), .i (.mov (.t 8))⟩, ⟨(some 143), (some (141, false)), .i (.mov (.t 20))⟩, ⟨(some 144), (some (141, false)), .calh nz6 [(.t 142), (.t 143)]⟩, ⟨(some 145), (some (141, false)), .i (.mov (.t 144))⟩, ⟨(some 146), (some (145, true)), .i (.mov (.t 16))⟩, ⟨(some 147), (some (145, true)), .i (.mov (.t 10))⟩, ⟨(some 148), (some (145, true)), .i (.mov (.t 20))⟩, ⟨(some 149), (some (145, true)), .i (.iad 1 (.t 147) (.t 148))⟩, ⟨(some 150), (some (145, true)), .i (.ld (.t 149))⟩, ⟨(some 151), (some (145, true)), .calh nz6 [(.t 146), (.t 150)]⟩, ⟨(some 152), (some (145, true)), .i (.un .not (.t 151))⟩, ⟨(some 153), (some (141, false)), .i (.pick (.t 145) (.t 152) (.c (.bool false)))⟩, ⟨(some 154), none, .i (.pick (.t 141) (.c (.bool true)) (.t 153))⟩]) Bz32)) Bz33)))
def Bz19 : AC := (.kp [5, 8, 9, 10, 12, 14, 16, 18, 20] [5, 25, 28, 31, 34, 37, 41, 47, 54, 55, 62, 69, 5000, 5001] (.dn (.seq (.seq (.reg false [⟨(some 111), none, .i (.mov (.t 20))⟩, ⟨(some 112), none, .i (.fad 0 (.t 5))⟩, ⟨(some 113), none, .i (.ld (.t 112))⟩, ⟨(some 114), none, .i (.bin .lss (.t 111) (.t 113))⟩]) Bz31) Bz5e)))
def Bz5f : AC := (.kp [5, 8, 9, 10, 12, 14, 16, 18, 20] [5, 25, 28, 31, 34, 37, 41, 47, 54, 55, 62, 69, 5000, 5001] (.dn (.block 0 (.loop Bz19))))
def Bz5g : AC := (.kp [8, 9, 16, 18] [5, 25, 28, 34, 37, 62, 69, 5000, 5001] (.dn (.seq (.reg false [⟨(some 155), none, .i (.mov (.t 16))⟩, ⟨(some 156), none, .i (.mov (.t 9))⟩, ⟨(some 157), none, .call nzx [(.t 155), (.t 156)]⟩, ⟨(some 158), none, .i (.mov (.t 8))⟩, ⟨(some 159), none, .i (.mov (.t 18))⟩, ⟨(some 160), none, .call nzx [(.t 158), (.t 159)]⟩, ⟨(some 161), none, .i (.beq false (.t 157) (.t 160))⟩, ⟨(some 162), none, .i (.mov (.t 161))⟩, ⟨(some 163), (some (162, true)), .i (.mov (.t 16))⟩, ⟨(some 164), (some (162, true)), .i (.len (.t 163))⟩, ⟨(some 165), (some (162, true)), .i (.mov (.t 8))⟩, ⟨(some 166), (some (162, true)), .i (.len (.t 165))⟩, ⟨(some 167), (some (162, true)), .i (.bin .leq (.t 164) (.t 166))⟩, ⟨(some 168), none, .i (.pick (.t 162) (.t 167) (.c (.bool false)))⟩, ⟨(some 4), none, .i (.mov (.t 168))⟩]) (.dn .ret))))
def Bz5h : AC := (.kp [5, 8, 9, 10, 12, 14, 16, 18] [5, 25, 28, 31, 34, 37, 41, 47, 54, 55, 62, 69, 5000, 5001] (.dn (.seq (.seq (.reg false [⟨(some 20), none, .i (.mov (.c (.int .i64 0)))⟩]) Bz5f) Bz5g)))
def Bz5i : AC := (.kp [5, 8, 9, 10, 11, 12, 13, 14, 15, 16, 17, 18, 19] [5, 25, 28, 31, 34, 37, 41, 47, 54, 55, 62, 69, 5000, 5001] (.dn (.seq (.seq (.reg false [⟨(some 72), none, .i (.mov (.t 11))⟩, ⟨(some 73), none, .i (.bin .neq (.t 72) (.c (.int .i64 0)))⟩, ⟨(some 74), none, .i (.mov (.t 73))⟩, ⟨(some 75), (some (74, false)), .i (.mov (.t 13))⟩, ⟨(some 76), (some (74, false)), .i (.bin .neq (.t 75) (.c (.int .i64 0)))⟩, ⟨(some 77), none, .i (.pick (.t 74) (.c (.bool true)) (.t 76))⟩, ⟨(some 78), none, .i (.mov (.t 77))⟩, ⟨(some 79), (some (78, false)), .i (.mov (.t 15))⟩, ⟨(some 80), (some (78, false)), .i (.bin .neq (.t 79) (.c (.int .i64 0)))⟩, ⟨(some 81), none, .i (.pick (.t 78) (.c (.bool true)) (.t 80))⟩, ⟨(some 82), none, .i (.mov (.t 81))⟩, ⟨(some 83), (some (82, false)), .i (.mov (.t 17))⟩, ⟨(some 84), (some (82, false)), .i (.bin .neq (.t 83) (.c (.int .i64 0)))⟩, ⟨(some 85), none, .i (.pick (.t 82) (.c (.bool true)) (.t 84))⟩, ⟨(some 86), none, .i (.mov (.t 85))⟩, ⟨(some 87), (some (86, false)), .i (.mov (.t 19))⟩, ⟨(some 88), (some (86, false)), .i (.bin .neq (.t 87) (.c (.int .i64 0)))⟩, ⟨(some 89), none, .i (.pick (.t 86) (.c (.bool true)) (.t 88))⟩, ⟨(some 90), none, .i (.mov (.t 89))⟩, ⟨(some 91), (some (90, false)), .i (.mov (.t 10))⟩, ⟨(some 92), (some (90, false)), .i (.fad 0 (.t 5))⟩, ⟨(some 93), (some (90, false)), .i (.ld (.t 92))⟩, ⟨(some 94), (some (90, false)), .call nze [(.t 91), (.t 93)]⟩, ⟨(some 95), (some (90, false)), .i (.un .not (.t 94))⟩, ⟨(some 96), none, .i (.pick (.t 90) (.c (.bool true)) (.t 95))⟩, ⟨(some 97), none, .i (.mov (.t 96))⟩, ⟨(some 98), (some (97, false)), .i (.mov (.t 12))⟩, ⟨(some 99), (some (97, false)), .i (.fad 0 (.t 5))⟩, ⟨(some 100), (some (97, false)), .i (.ld (.t 99))⟩, ⟨(some 101), (some (97, false)), .call nze [(.t 98), (.t 100)]⟩, ⟨(some 102), (some (97, false)), .i (.un .not (.t 101))⟩, ⟨(some 103), none, .i (.pick (.t 97) (.c (.bool true)) (.t 102))⟩, ⟨(some 104), none, .i (.mov (.t 103))⟩, ⟨(some 105), (some (104, false)), .i (.mov (.t 14))⟩, ⟨(some 106), (some (104, false)), .i (.fad 0 (.t 5))⟩, ⟨(some 107), (some (104, false)), .i (.ld (.t 106))⟩, ⟨(some 108), (some (104, false)), .call nze [(.t 105), (.t 107)]⟩, ⟨(some 109), (some (104, false)), .i (.un .not (.t 108))⟩, ⟨(some 110), none, .i (.pick (.t 104) (.c (.bool true)) (.t 109))⟩]) Bz5d) Bz5h)))
def Bz5j : AC := (.kp [5, 6, 8, 9, 10, 11, 12, 13, 14, 15, 16, 17] [5, 25, 28, 31, 34, 37, 41, 47, 54, 55, 62, 5000, 5001] (.dn (.seq (.reg false [⟨(some 66), none, .i (.lda 2 (.t 5))⟩, ⟨(some 67), none, .i (.mov (.t 9))⟩, ⟨(some 68), none, .i (.mov (.t 6))⟩, ⟨(some 69), none, .call nz2e [(.t 66), (.t 67), (.t 68)]⟩, ⟨(some 65), none, .i (.mov (.t 69))⟩, ⟨(some 70), none, .i (.ext 0 (.t 65))⟩, ⟨(some 71), none, .i (.ext 1 (.t 65))⟩, ⟨(some 18), none, .i (.mov (.t 70))⟩, ⟨(some 19), none, .i (.mov (.t 71))⟩]) Bz5i)))
def Bz5k : AC := (.kp [5, 6, 8, 9, 10, 11, 12, 13, 14, 15] [5, 25, 28, 31, 34, 37, 41, 47, 54, 55, 5000, 5001] (.dn (.seq (.reg false [⟨(some 59), none, .i (.lda 2 (.t 5))⟩, ⟨(some 60), none, .i (.mov (.t 8))⟩, ⟨(some 61), none, .i (.mov (.t 6))⟩, ⟨(some 62), none, .call nz2d [(.t 59), (.t 60), (.t 61)]⟩, ⟨(some 58), none, .i (.mov (.t 62))⟩, ⟨(some 63), none, .i (.ext 0 (.t 58))⟩, ⟨(some 64), none, .i (.ext 1 (.t 58))⟩, ⟨(some 16), none, .i (.mov (.t 63))⟩, ⟨(some 17), none, .i (.mov (.t 64))⟩]) Bz5j)))
def Bz5l : AC := (.kp [5, 6, 7, 8, 9, 10, 11, 12, 13] [5, 25, 28, 31, 34, 37, 41, 47, 5000, 5001] (.dn (.seq (.reg true [⟨(some 51), none, .i (.lda 2 (.t 5))⟩, ⟨(some 52), none, .i (.mov (.t 6))⟩, ⟨(some 53), none, .i (.mov (.t 7))⟩, ⟨(some 54), none, .call nz2c [(.t 52), (.t 53)]⟩, ⟨(some 55), none, .calh nzd [(.t 51), (.t 54)]⟩, ⟨(some 50), none, .i (.mov (.t 55))⟩, ⟨(some 56), none, .i (.ext 0 (.t 50))⟩, ⟨(some 57), none, .i (.ext 1 (.t 50))⟩, ⟨(some 14), none, .i (.mov (.t 56))⟩, ⟨(some 15), none, .i (.mov (.t 57))⟩]) Bz5k)))
def Bz5m : AC := (.kp [5, 6, 7, 8, 9, 10, 11] [5, 25, 28, 31, 34, 37, 41, 5000, 5001] (.dn (.seq (.reg false [⟨(some 45), none, .i (.lda 2 (.t 5))⟩, ⟨(some 46), none, .i (.mov (.t 7))⟩, ⟨(some 47), none, .call nzd [(.t 45), (.t 46)]⟩, ⟨(some 44), none, .i (.mov (.t 47))⟩, ⟨(some 48), none, .i (.ext 0 (.t 44))⟩, ⟨(some 49), none, .i (.ext 1 (.t 44))⟩, ⟨(some 12), none, .i (.mov (.t 48))⟩, ⟨(some 13), none, .i (.mov (.t 49))⟩]) Bz5l)))
def Bz5n : AC := (.kp [5, 6, 7, 8, 9] [5, 25, 28, 31, 34, 37, 5000, 5001] (.dn (.seq (.reg false [⟨(some 39), none, .i (.lda 2 (.t 5))⟩, ⟨(some 40), none, .i (.mov (.t 6))⟩, ⟨(some 41), none, .call nzd [(.t 39), (.t 40)]⟩, ⟨(some 38), none, .i (.mov (.t 41))⟩, ⟨(some 42), none, .i (.ext 0 (.t 38))⟩, ⟨(some 43), none, .i (.ext 1 (.t 38))⟩, ⟨(some 10), none, .i (.mov (.t 42))⟩, ⟨(some 11), none, .i (.mov (.t 43))⟩]) Bz5m)))
def Bz5o : AC := (.kp [0, 5, 6, 7, 8] [5, 25, 28, 31, 34, 5000, 5001] (.dn (.seq (.reg false [⟨(some 35), none, .i (.mov (.t 0))⟩, ⟨(some 36), none, .i (.lda 2 (.t 5))⟩, ⟨(some 37), none, .call nzw [(.t 35), (.t 36)]⟩, ⟨(some 9), none, .i (.mov (.t 37))⟩]) Bz5n)))
def Bz5p : AC := (.kp [0, 1, 5, 6, 7] [5, 25, 28, 31, 5000, 5001] (.dn (.seq (.reg false [⟨(some 32), none, .i (.mov (.t 1))⟩, ⟨(some 33), none, .i (.lda 2 (.t 5))⟩, ⟨(some 34), none, .call nzw [(.t 32), (.t 33)]⟩, ⟨(some 8), none, .i (.mov (.t 34))⟩]) Bz5o)))
def Bz5q : AC := (.kp [0, 1, 5, 6] [5, 25, 28, 5000, 5001] (.dn (.seq (.reg false [⟨(some 29), none, .i (.mov (.t 0))⟩, ⟨(some 30), none, .i (.lda 2 (.t 5))⟩, ⟨(some 31), none, .call nzv [(.t 29), (.t 30)]⟩, ⟨(some 7), none, .i (.mov (.t 31))⟩]) Bz5p)))
def Bz5r : AC := (.kp [0, 1, 5] [5, 25, 5000, 5001] (.dn (.seq (.reg false [⟨(some 26), none, .i (.mov (.t 1))⟩, ⟨(some 27), none, .i (.lda 2 (.t 5))⟩, ⟨(some 28), none, .call nzv [(.t 26), (.t 27)]⟩, ⟨(some 6), none, .i (.mov (.t 28))⟩]) Bz5q)))
def Bz5s : AC := (.kp [0, 1] [5000, 5001] (.dn (.seq (.reg false [⟨(some 24), none, .i (.mov (.t 0))⟩, ⟨(some 25), none, .call nz2b [(.t 24)]⟩, ⟨(some 5), none, .i (.new [.int .i64 0, .slice none 0 0])⟩, ⟨none, none, .i (.sto 2 (.t 5) (.t 25))⟩]) Bz5r)))
def Bz5t : AC := (.kp [0, 1] [5000, 5001] (.dn (.seq (.seq (.reg false [⟨(some 21), none, .i (.mov (.t 0))⟩, ⟨(some 22), none, .i (.mov (.t 1))⟩, ⟨(some 23), none, .call nz2a [(.t 21), (.t 22)]⟩]) Bz5c) Bz5s)))
def Az5u : AFn := ⟨169, 2, (.seq (.reg false [⟨(some 4), none, .i (.mov (.c (.bool false)))⟩]) Bz5t), [.tmp 4]⟩
theorem czcq : cFn (drV none) Try.prog nz5b Az5u := ⟨_, _, Try.func4, rfl, by kernel_rfl, by decide, rfl, by kernel_rfl, by kernel_rfl⟩
def Bz5v : AC := (.kp [0, 1] [5000, 5001] (.dn (.seq (.reg false [⟨(some 5), none, .i (.mov (.t 0))⟩, ⟨(some 6), none, .i (.len (.t 5))⟩, ⟨(some 7), none, .i (.bin .gtr (.t 6) (.c (.int .i64 3000)))⟩, ⟨(some 8), none, .i (.mov (.t 7))⟩, ⟨(some 9), (some (8, false)), .i (.mov (.t 1))⟩, ⟨(some 10), (some (8, false)), .i (.len (.t 9))⟩, ⟨(some 11), (some (8, false)), .i (.bin .gtr (.t 10) (.c (.int .i64 3000)))⟩, ⟨(some 12), none, .i (.pick (.t 8) (.c (.bool true)) (.t 11))⟩, ⟨(some 4), none, .i (.mov (.t 12))⟩]) (.dn .ret))))
def Az5w : AFn := ⟨13, 2, (.seq (.reg false [⟨(some 4), none, .i (.mov (.c (.bool false)))⟩]) Bz5v), [.tmp 4]⟩
theorem czcr : cFn (drV none) Try.prog nz2a Az5w := ⟨_, _, Try.func7, rfl, by kernel_rfl, by decide, rfl, by kernel_rfl, by kernel_rfl⟩
def Bz1a : AC := (.kp [2, 4, 14] [2, 4, 6, 8, 16, 5000] (.dn (.cond (.t 14) (.seq (.reg false [⟨(some 15), none, .i (.lda 2 (.t 4))⟩, ⟨none, none, .i (.sto 2 (.t 2) (.t 15))⟩]) (.dn .ret)) .skip)))
def Bz34 : AC := (.kp [2] [2, 4, 6, 8, 16, 5000] (.dn (.seq (.reg false [⟨(some 16), none, .call nzg [(.c (.int .i64 4))]⟩, ⟨none, none, .i (.sto 2 (.t 2) (.t 16))⟩]) (.dn .ret))))
def Bz5x : AC := (.kp [2, 4] [2, 4, 6, 8, 16, 5000] (.dn (.seq (.seq (.reg false [⟨(some 9), none, .call nzz [(.t 4)]⟩, ⟨(some 10), none, .i (.mov (.t 9))⟩, ⟨(some 11), (some (10, true)), .i (.fad 0 (.t 4))⟩, ⟨(some 12), (some (10, true)), .i (.ld (.t 11))⟩, ⟨(some 13), (some (10, true)), .i (.bin .leq (.t 12) (.c (.int .i64 7)))⟩, ⟨(some 14), none, .i (.pick (.t 10) (.t 13) (.c (.bool false)))⟩]) Bz1a) Bz34)))
def Bz5y : AC := (.kp [2, 3] [2, 4, 6, 8, 16, 5000] (.dn (.seq (.reg false [⟨(some 7), none, .i (.mov (.t 3))⟩, ⟨(some 8), none, .call nzy [(.t 7)]⟩, ⟨(some 4), none, .i (.new [.int .i64 0, .slice none 0 0])⟩, ⟨none, none, .i (.sto 2 (.t 4) (.t 8))⟩]) Bz5x)))
def Bz5z : AC := (.kp [0, 2] [2, 4, 6, 8, 16, 5000] (.dn (.seq (.reg false [⟨(some 5), none, .i (.mov (.t 0))⟩, ⟨(some 6), none, .call nzf [(.t 5)]⟩, ⟨(some 3), none, .i (.mov (.t 6))⟩]) Bz5y)))
def Azm : AFn := ⟨17, 1, (.seq (.reg false [⟨(some 2), none, .i (.new [.int .i64 0, .slice none 0 0])⟩]) Bz5z), [.cell (some 2) 2]⟩
theorem czcs : cFn (drV none) Try.prog nz2b Azm := ⟨_, _, Try.func8, rfl, by kernel_rfl, by decide, rfl, by kernel_rfl, by kernel_rfl⟩
def Bz60 : AC := (.kp [2, 3, 6, 11] [2, 3, 5000, 5001] (.dn (.cond (.t 11) (.seq (.reg false [⟨(some 12), none, .i (.mov (.t 6))⟩, ⟨(some 4), none, .i (.mov (.c (.slice none 0 0)))⟩, ⟨(some 5), none, .i (.mov (.t 12))⟩]) (.dn .ret)) .skip)))
def Bz61 : AC := (.kp [2, 3, 6] [2, 3, 5000, 5001] (.dn (.seq (.reg false [⟨(some 10), none, .i (.mov (.t 6))⟩, ⟨(some 11), none, .i (.bin .neq (.t 10) (.c (.int .i64 0)))⟩]) Bz60)))
def Bz62 : AC := (.kp [2, 3] [2, 3, 5000, 5001] (.dn (.seq (.reg false [⟨(some 13), none, .i (.lda 2 (.t 2))⟩, ⟨(some 14), none, .i (.ld (.t 3))⟩, ⟨(some 15), none, .call nz2h [(.t 13), (.t 14)]⟩, ⟨(some 4), none, .i (.mov (.t 15))⟩, ⟨(some 5), none, .i (.mov (.c (.int .i64 0)))⟩]) (.dn .ret))))
def Bz63 : AC := (.kp [2, 3] [2, 3, 5000, 5001] (.dn (.seq (.seq (.reg false [⟨(some 7), none, .i (.lda 2 (.t 2))⟩, ⟨(some 8), none, .i (.mkf nz10 [(.t 2), (.t 3)])⟩, ⟨(some 9), none, .call nzh [(.t 7), (.t 8)]⟩, ⟨(some 6), none, .i (.mov (.t 9))⟩]) Bz61) Bz62)))
def Az64 : AFn := ⟨16, 2, (.seq (.reg false [⟨(some 2), none, .i (.box (.t 0))⟩, ⟨(some 3), none, .i (.box (.t 1))⟩, ⟨(some 4), none, .i (.mov (.c (.slice none 0 0)))⟩, ⟨(some 5), none, .i (.mov (.c (.int .i64 0)))⟩]) Bz63), [.tmp 4, .tmp 5]⟩
theorem czct : cFn (drV none) Try.prog nzd Az64 := ⟨_, _, Try.func15, rfl, by kernel_rfl, by decide, rfl, by kernel_rfl, by kernel_rfl⟩
def Bz35 : AC := (.kp [0, 1, 5, 9] [5000, 5001] (.dn (.cond (.t 9) .skip (.exit 0))))
def Bz65 : AC := (.kp [0, 1, 5, 24] [5000, 5001] (.dn (.cond (.t 24) (.seq (.reg false [⟨(some 4), none, .i (.mov (.c (.bool false)))⟩]) (.dn .ret)) .skip)))
def Bz66 : AC := (.kp [0, 1, 5] [5000, 5001] (.dn (.reg false [⟨(some 10), none, .i (.mov (.t 5))⟩, ⟨(some 11), none, .i (.bin .add (.t 10) (.c (.int .i64 1)))⟩, ⟨(some 5), none, .i (.mov (.t 11))⟩])))
def Bz67 : AC := (.kp [0, 1, 5] [5000, 5001] (.dn (.seq (.block 1 (.seq (.reg false [⟨(some 12), none, .i (.mov (.t 0))⟩, ⟨(some 13), none, .i (.mov (.t 5))⟩, ⟨(some 14), none, .i (.iad 1 (.t 12) (.t 13))⟩, ⟨(some 15), none, .i (.ld (.t 14))⟩, ⟨(some 16), none, .i (.bin .lss (.t 15) (.c (.int .i64 0)))⟩, ⟨(some 17), none, .i (.mov (.t 16))⟩, ⟨(some 18), (some (17, false)), .i (.mov (.t 0))⟩, ⟨(some 19), (some (17, false)), .i (.mov (.t 5))⟩, ⟨(some 20), (some (17, false)), .i (.iad 1 (.t 18) (.t 19))⟩, ⟨(some 21), (some (17, false)), .i (.ld (.t 20))⟩, ⟨(some 22), (some (17, false)), .i (.mov (.t 1))⟩, ⟨(some 23), (some (17, false)), .i (.bin .geq (.t 21) (.t 22))⟩, ⟨(some 24), none, .i (.pick (.t 17) (.c (.bool true)) (.t 23))⟩]) Bz65)) Bz66)))
def Bz1b : AC := (.kp [0, 1, 5] [5000, 5001] (.dn (.seq (.seq (.reg false [⟨(some 6), none, .i (.mov (.t 5))⟩, ⟨(some 7), none, .i (.mov (.t 0))⟩, ⟨(some 8), none, .i (.len (.t 7))⟩, ⟨(some 9), none, .i (.bin .lss (.t 6) (.t 8))⟩]) Bz35) Bz67)))
def Bz68 : AC := (.kp [0, 1, 5] [5000, 5001] (.dn (.block 0 (.loop Bz1b))))
def Bz69 : AC := (.kp [0, 1] [5000, 5001] (.dn (.seq (.reg false [⟨(some 25), none, .i (.mov (.t 0))⟩, ⟨(some 26), none, .i (.len (.t 25))⟩, ⟨(some 27), none, .i (.mov (.t 1))⟩, ⟨(some 28), none, .i (.bin .eql (.t 26) (.t 27))⟩, ⟨(some 4), none, .i (.mov (.t 28))⟩]) (.dn .ret))))
def Bz6a : AC := (.kp [0, 1] [5000, 5001] (.dn (.seq (.seq (.reg false [⟨(some 5), none, .i (.mov (.c (.int .i64 0)))⟩]) Bz68) Bz69)))
def Az6b : AFn := ⟨29, 2, (.seq (.reg false [⟨(some 4), none, .i (.mov (.c (.bool false)))⟩]) Bz6a), [.tmp 4]⟩
theorem czcu : cFn (drV none) Try.prog nze Az6b := ⟨_, _, Try.func16, rfl, by kernel_rfl, by decide, rfl, by kernel_rfl, by kernel_rfl⟩
def Bz6c : AC := (.kp [3, 5, 6, 7, 14] [3, 9, 10, 24, 5000, 5001] (.dn (.cond (.t 14) .skip (.exit 0))))
def Bz6d : AC := (.kp [3, 5, 6, 7] [3, 9, 10, 24, 5000, 5001] (.dn (.reg false [⟨(some 15), none, .i (.mov (.t 7))⟩, ⟨(some 16), none, .i (.bin .sub (.t 15) (.c (.int .i64 1)))⟩, ⟨(some 7), none, .i (.mov (.t 16))⟩])))
def Bz6e : AC := (.kp [3, 5, 6, 7] [3, 9, 10, 24, 5000, 5001] (.dn (.seq (.block 1 (.reg false [⟨(some 17), none, .i (.mov (.t 6))⟩, ⟨(some 18), none, .i (.mov (.t 5))⟩, ⟨(some 19), none, .i (.fad 1 (.t 3))⟩, ⟨(some 20), none, .i (.ld (.t 19))⟩, ⟨(some 21), none, .i (.len (.t 20))⟩, ⟨(some 22), none, .call nz0 [(.t 18), (.t 21)]⟩, ⟨(some 23), none, .i (.bsl 1 false [(.t 22)])⟩, ⟨(some 24), none, .i (.app 1 8 (.t 17) (.t 23))⟩, ⟨(some 6), none, .i (.mov (.t 24))⟩])) Bz6d)))
def Bz6f : AC := (.kp [3, 5, 6, 7] [3, 9, 10, 24, 5000, 5001] (.dn (.seq (.seq (.reg false [⟨(some 13), none, .i (.mov (.t 7))⟩, ⟨(some 14), none, .i (.bin .gtr (.t 13) (.c (.int .i64 0)))⟩]) Bz6c) Bz6e)))
def Bz6g : AC := (.kp [3, 5, 6, 7] [3, 9, 10, 24, 5000, 5001] (.dn (.block 0 (.loop Bz6f))))
def Bz6h : AC := (.kp [6] [10, 24, 5000, 5001] (.dn (.seq (.reg false [⟨(some 25), none, .i (.mov (.t 6))⟩, ⟨(some 4), none, .i (.mov (.t 25))⟩]) (.dn .ret))))
def Bz6i : AC := (.kp [3, 5, 6] [3, 9, 10, 24, 5000, 5001] (.dn (.seq (.seq (.reg false [⟨(some 11), none, .i (.mov (.t 5))⟩, ⟨(some 12), none, .call nz0 [(.t 11), (.c (.int .i64 9))]⟩, ⟨(some 7), none, .i (.mov (.t 12))⟩]) Bz6g) Bz6h)))
def Bz6j : AC := (.kp [3, 5] [3, 9, 5000, 5001] (.dn (.seq (.reg false [⟨(some 10), none, .i (.bsl 1 false [])⟩, ⟨(some 6), none, .i (.mov (.t 10))⟩]) Bz6i)))
def Bz6k : AC := (.kp [0, 3] [3, 5000, 5001] (.dn (.seq (.reg false [⟨(some 8), none, .i (.mov (.t 0))⟩, ⟨(some 9), none, .call nzf [(.t 8)]⟩, ⟨(some 5), none, .i (.mov (.t 9))⟩]) Bz6j)))
def Az6l : AFn := ⟨26, 2, (.seq (.reg false [⟨(some 3), none, .i (.box (.t 1))⟩, ⟨(some 4), none, .i (.mov (.c (.slice none 0 0)))⟩]) Bz6k), [.tmp 4]⟩
theorem czcv : cFn (drV none) Try.prog nzv Az6l := ⟨_, _, Try.func17, rfl, by kernel_rfl, by decide, rfl, by kernel_rfl, by kernel_rfl⟩
def Bz36 : AC := (.kp [3, 5, 6, 7, 14] [3, 9, 10, 22, 5000, 5001] (.dn (.cond (.t 14) .skip (.exit 0))))
def Bz37 : AC := (.kp [3, 5, 6, 7, 18] [3, 9, 10, 22, 5000, 5001] (.dn (.cond (.t 18) (.reg false [⟨(some 19), none, .i (.mov (.t 6))⟩, ⟨(some 20), none, .i (.mov (.t 7))⟩, ⟨(some 21), none, .i (.bsl 1 false [(.t 20)])⟩, ⟨(some 22), none, .i (.app 1 8 (.t 19) (.t 21))⟩, ⟨(some 6), none, .i (.mov (.t 22))⟩]) .skip)))
def Bz38 : AC := (.kp [3, 5, 6, 7] [3, 9, 10, 22, 5000, 5001] (.dn (.reg false [⟨(some 15), none, .i (.mov (.t 7))⟩, ⟨(some 16), none, .i (.bin .add (.t 15) (.c (.int .i64 1)))⟩, ⟨(some 7), none, .i (.mov (.t 16))⟩])))
def Bz6m : AC := (.kp [3, 5, 6, 7] [3, 9, 10, 22, 5000, 5001] (.dn (.seq (.block 1 (.seq (.reg false [⟨(some 17), none, .i (.mov (.t 5))⟩, ⟨(some 18), none, .call nz4 [(.t 17), (.c (.int .i64 2))]⟩]) Bz37)) Bz38)))
def Bz1c : AC := (.kp [3, 5, 6, 7] [3, 9, 10, 22, 5000, 5001] (.dn (.seq (.seq (.reg false [⟨(some 11), none, .i (.mov (.t 7))⟩, ⟨(some 12), none, .i (.fad 0 (.t 3))⟩, ⟨(some 13), none, .i (.ld (.t 12))⟩, ⟨(some 14), none, .i (.bin .lss (.t 11) (.t 13))⟩]) Bz36) Bz6m)))
def Bz6n : AC := (.kp [3, 5, 6, 7] [3, 9, 10, 22, 5000, 5001] (.dn (.block 0 (.loop Bz1c))))
def Bz6o : AC := (.kp [6] [10, 22, 5000, 5001] (.dn (.seq (.reg false [⟨(some 23), none, .i (.mov (.t 6))⟩, ⟨(some 4), none, .i (.mov (.t 23))⟩]) (.dn .ret))))
def Bz6p : AC := (.kp [3, 5, 6] [3, 9, 10, 22, 5000, 5001] (.dn (.seq (.seq (.reg false [⟨(some 7), none, .i (.mov (.c (.int .i64 0)))⟩]) Bz6n) Bz6o)))
def Bz6q : AC := (.kp [3, 5] [3, 9, 5000, 5001] (.dn (.seq (.reg false [⟨(some 10), none, .i (.bsl 1 false [])⟩, ⟨(some 6), none, .i (.mov (.t 10))⟩]) Bz6p)))
def Bz6r : AC := (.kp [0, 3] [3, 5000, 5001] (.dn (.seq (.reg false [⟨(some 8), none, .i (.mov (.t 0))⟩, ⟨(some 9), none, .call nzf [(.t 8)]⟩, ⟨(some 5), none, .i (.mov (.t 9))⟩]) Bz6q)))
def Az6s : AFn := ⟨24, 2, (.seq (.reg false [⟨(some 3), none, .i (.box (.t 1))⟩, ⟨(some 4), none, .i (.mov (.c (.slice none 0 0)))⟩]) Bz6r), [.tmp 4]⟩
theorem czcw : cFn (drV none) Try.prog nzw Az6s := ⟨_, _, Try.func18, rfl, by kernel_rfl, by decide, rfl, by kernel_rfl, by kernel_rfl⟩
def Bz6t : AC := (.kp [1, 5] [6, 8, 5000, 5001] (.dn (.seq (.reg false [⟨(some 9), none, .i (.mov (.t 5))⟩, ⟨(some 10), none, .i (.mov (.t 1))⟩, ⟨(some 11), none, .i (.app 1 8 (.t 9) (.t 10))⟩, ⟨(some 4), none, .i (.mov (.t 11))⟩]) (.dn .ret))))
def Bz6u : AC := (.kp [0, 1] [5000, 5001] (.dn (.seq (.reg false [⟨(some 6), none, .i (.bsl 1 false [])⟩, ⟨(some 7), none, .i (.mov (.t 0))⟩, ⟨(some 8), none, .i (.app 1 8 (.t 6) (.t 7))⟩, ⟨(some 5), none, .i (.mov (.t 8))⟩]) Bz6t)))
def Az6v : AFn := ⟨12, 2, (.seq (.reg false [⟨(some 4), none, .i (.mov (.c (.slice none 0 0)))⟩]) Bz6u), [.tmp 4]⟩
theorem czcx : cFn (drV none) Try.prog nz2c Az6v := ⟨_, _, Try.func19, rfl, by kernel_rfl, by decide, rfl, by kernel_rfl, by kernel_rfl⟩
def Bz1d : AC := (.kp [3, 4, 5, 8, 13] [3, 4, 5, 5000, 5001, 5002] (.dn (.cond (.t 13) (.seq (.reg false [⟨(some 14), none, .i (.mov (.t 8))⟩, ⟨(some 6), none, .i (.mov (.c (.slice none 0 0)))⟩, ⟨(some 7), none, .i (.mov (.t 14))⟩]) (.dn .ret)) .skip)))
def Bz1e : AC := (.kp [3, 4, 5, 8] [3, 4, 5, 5000, 5001, 5002] (.dn (.seq (.reg false [⟨(some 12), none, .i (.mov (.t 8))⟩, ⟨(some 13), none, .i (.bin .neq (.t 12) (.c (.int .i64 0)))⟩]) Bz1d)))
def Bz6w : AC := (.kp [3, 4, 5] [3, 4, 5, 5000, 5001, 5002] (.dn (.seq (.reg false [⟨(some 15), none, .i (.lda 2 (.t 3))⟩, ⟨(some 16), none, .i (.ld (.t 4))⟩, ⟨(some 17), none, .i (.ld (.t 5))⟩, ⟨(some 18), none, .call nz2i [(.t 15), (.t 16), (.t 17)]⟩, ⟨(some 6), none, .i (.mov (.t 18))⟩, ⟨(some 7), none, .i (.mov (.c (.int .i64 0)))⟩]) (.dn .ret))))
def Bz6x : AC := (.kp [3, 4, 5] [3, 4, 5, 5000, 5001, 5002] (.dn (.seq (.seq (.reg false [⟨(some 9), none, .i (.lda 2 (.t 3))⟩, ⟨(some 10), none, .i (.mkf nz11 [(.t 4), (.t 3), (.t 5)])⟩, ⟨(some 11), none, .call nzh [(.t 9), (.t 10)]⟩, ⟨(some 8), none, .i (.mov (.t 11))⟩]) Bz1e) Bz6w)))
def Az6y : AFn := ⟨19, 3, (.seq (.reg false [⟨(some 3), none, .i (.box (.t 0))⟩, ⟨(some 4), none, .i (.box (.t 1))⟩, ⟨(some 5), none, .i (.box (.t 2))⟩, ⟨(some 6), none, .i (.mov (.c (.slice none 0 0)))⟩, ⟨(some 7), none, .i (.mov (.c (.int .i64 0)))⟩]) Bz6x), [.tmp 6, .tmp 7]⟩
theorem czcy : cFn (drV none) Try.prog nz2d Az6y := ⟨_, _, Try.func20, rfl, by kernel_rfl, by decide, rfl, by kernel_rfl, by kernel_rfl⟩
def Bz1f : AC := (.kp [3, 4, 5, 8, 13] [3, 4, 5, 5000, 5001, 5002] (.dn (.cond (.t 13) (.seq (.reg false [⟨(some 14), none, .i (.mov (.t 8))⟩, ⟨(some 6), none, .i (.mov (.c (.slice none 0 0)))⟩, ⟨(some 7), none, .i (.mov (.t 14))⟩]) (.dn .ret)) .skip)))
def Bz1g : AC := (.kp [3, 4, 5, 8] [3, 4, 5, 5000, 5001, 5002] (.dn (.seq (.reg false [⟨(some 12), none, .i (.mov (.t 8))⟩, ⟨(some 13), none, .i (.bin .neq (.t 12) (.c (.int .i64 0)))⟩]) Bz1f)))
def Bz6z : AC := (.kp [3, 4, 5] [3, 4, 5, 5000, 5001, 5002] (.dn (.seq (.reg false [⟨(some 15), none, .i (.lda 2 (.t 3))⟩, ⟨(some 16), none, .i (.ld (.t 4))⟩, ⟨(some 17), none, .i (.ld (.t 5))⟩, ⟨(some 18), none, .call nz2j [(.t 15), (.t 16), (.t 17)]⟩, ⟨(some 6), none, .i (.mov (.t 18))⟩, ⟨(some 7), none, .i (.mov (.c (.int .i64 0)))⟩]) (.dn .ret))))
def Bz70 : AC := (.kp [3, 4, 5] [3, 4, 5, 5000, 5001, 5002] (.dn (.seq (.seq (.reg false [⟨(some 9), none, .i (.lda 2 (.t 3))⟩, ⟨(some 10), none, .i (.mkf nz13 [(.t 4), (.t 3), (.t 5)])⟩, ⟨(some 11), none, .call nzh [(.t 9), (.t 10)]⟩, ⟨(some 8), none, .i (.mov (.t 11))⟩]) Bz1g) Bz6z)))
def Az71 : AFn := ⟨19, 3, (.seq (.reg false [⟨(some 3), none, .i (.box (.t 0))⟩, ⟨(some 4), none, .i (.box (.t 1))⟩, ⟨(some 5), none, .i (.box (.t 2))⟩, ⟨(some 6), none, .i (.mov (.c (.slice none 0 0)))⟩, ⟨(some 7), none, .i (.mov (.c (.int .i64 0)))⟩]) Bz70), [.tmp 6, .tmp 7]⟩
theorem czcz : cFn (drV none) Try.prog nz2e Az71 := ⟨_, _, Try.func21, rfl, by kernel_rfl, by decide, rfl, by kernel_rfl, by kernel_rfl⟩
def Bz39 : AC := (.kp [0, 1, 5, 9] [5000, 5001] (.dn (.cond (.t 9) .skip (.exit 0))))
def Bz3a : AC := (.kp [0, 1, 5, 17] [5000, 5001] (.dn (.cond (.t 17) (.seq (.reg false [⟨(some 4), none, .i (.mov (.c (.bool true)))⟩]) (.dn .ret)) .skip)))
def Bz72 : AC := (.kp [0, 1, 5] [5000, 5001] (.dn (.reg false [⟨(some 10), none, .i (.mov (.t 5))⟩, ⟨(some 11), none, .i (.bin .add (.t 10) (.c (.int .i64 1)))⟩, ⟨(some 5), none, .i (.mov (.t 11))⟩])))
def Bz3b : AC := (.kp [0, 1, 5] [5000, 5001] (.dn (.seq (.block 1 (.seq (.reg false [⟨(some 12), none, .i (.mov (.t 0))⟩, ⟨(some 13), none, .i (.mov (.t 5))⟩, ⟨(some 14), none, .i (.iad 1 (.t 12) (.t 13))⟩, ⟨(some 15), none, .i (.ld (.t 14))⟩, ⟨(some 16), none, .i (.mov (.t 1))⟩, ⟨(some 17), none, .i (.bin .eql (.t 15) (.t 16))⟩]) Bz3a)) Bz72)))
def Bz1h : AC := (.kp [0, 1, 5] [5000, 5001] (.dn (.seq (.seq (.reg false [⟨(some 6), none, .i (.mov (.t 5))⟩, ⟨(some 7), none, .i (.mov (.t 0))⟩, ⟨(some 8), none, .i (.len (.t 7))⟩, ⟨(some 9), none, .i (.bin .lss (.t 6) (.t 8))⟩]) Bz39) Bz3b)))
def Bz73 : AC := (.kp [0, 1, 5] [5000, 5001] (.dn (.block 0 (.loop Bz1h))))
def Bz74 : AC := (.kp [] [5000, 5001] (.dn (.seq (.reg false [⟨(some 4), none, .i (.mov (.c (.bool false)))⟩]) (.dn .ret))))
def Bz75 : AC := (.kp [0, 1] [5000, 5001] (.dn (.seq (.seq (.reg false [⟨(some 5), none, .i (.mov (.c (.int .i64 0)))⟩]) Bz73) Bz74)))
def Az76 : AFn := ⟨18, 2, (.seq (.reg false [⟨(some 4), none, .i (.mov (.c (.bool false)))⟩]) Bz75), [.tmp 4]⟩
theorem czd0 : cFn (drV none) Try.prog nz6 Az76 := ⟨_, _, Try.func22, rfl, by kernel_rfl, by decide, rfl, by kernel_rfl, by kernel_rfl⟩
def Bz3c : AC := (.kp [0, 1, 5, 9] [5000, 5001] (.dn (.cond (.t 9) .skip (.exit 0))))
def Bz3d : AC := (.kp [0, 1, 5, 18] [5000, 5001] (.dn (.cond (.t 18) (.seq (.reg false [⟨(some 4), none, .i (.mov (.c (.bool false)))⟩]) (.dn .ret)) .skip)))
def Bz77 : AC := (.kp [0, 1, 5] [5000, 5001] (.dn (.reg false [⟨(some 10), none, .i (.mov (.t 5))⟩, ⟨(some 11), none, .i (.bin .add (.t 10) (.c (.int .i64 1)))⟩, ⟨(some 5), none, .i (.mov (.t 11))⟩])))
def Bz3e : AC := (.kp [0, 1, 5] [5000, 5001] (.dn (.seq (.block 1 (.seq (.reg false [⟨(some 12), none, .i (.mov (.t 1))⟩, ⟨(some 13), none, .i (.mov (.t 0))⟩, ⟨(some 14), none, .i (.mov (.t 5))⟩, ⟨(some 15), none, .i (.iad 1 (.t 13) (.t 14))⟩, ⟨(some 16), none, .i (.ld (.t 15))⟩, ⟨(some 17), none, .call nz6 [(.t 12), (.t 16)]⟩, ⟨(some 18), none, .i (.un .not (.t 17))⟩]) Bz3d)) Bz77)))
def Bz1i : AC := (.kp [0, 1, 5] [5000, 5001] (.dn (.seq (.seq (.reg false [⟨(some 6), none, .i (.mov (.t 5))⟩, ⟨(some 7), none, .i (.mov (.t 0))⟩, ⟨(some 8), none, .i (.len (.t 7))⟩, ⟨(some 9), none, .i (.bin .lss (.t 6) (.t 8))⟩]) Bz3c) Bz3e)))
def Bz78 : AC := (.kp [0, 1, 5] [5000, 5001] (.dn (.block 0 (.loop Bz1i))))
def Bz79 : AC := (.kp [] [5000, 5001] (.dn (.seq (.reg false [⟨(some 4), none, .i (.mov (.c (.bool true)))⟩]) (.dn .ret))))
def Bz7a : AC := (.kp [0, 1] [5000, 5001] (.dn (.seq (.seq (.reg false [⟨(some 5), none, .i (.mov (.c (.int .i64 0)))⟩]) Bz78) Bz79)))
def Az7b : AFn := ⟨19, 2, (.seq (.reg false [⟨(some 4), none, .i (.mov (.c (.bool false)))⟩]) Bz7a), [.tmp 4]⟩
theorem czd1 : cFn (drV none) Try.prog nzx Az7b := ⟨_, _, Try.func23, rfl, by kernel_rfl, by decide, rfl, by kernel_rfl, by kernel_rfl⟩
def Bz7c : AC := (.kp [0] [5000] (.dn (.seq (.reg false [⟨(some 3), none, .i (.mov (.t 0))⟩, ⟨(some 4), none, .i (.bst [.slice none 0 0, .int .i64 0, .int .u64 0] [(0, 1, (.t 3))])⟩, ⟨(some 5), none, .i (.box (.t 4))⟩, ⟨(some 2), none, .i (.mov (.t 5))⟩]) (.dn .ret))))
def Az7d : AFn := ⟨6, 1, (.seq (.reg false [⟨(some 2), none, .i (.mov (.c (.pointer none)))⟩]) Bz7c), [.tmp 2]⟩
theorem czd2 : cFn (drV none) Try.prog nzf Az7d := ⟨_, _, Try.func34, rfl, by kernel_rfl, by decide, rfl, by kernel_rfl, by kernel_rfl⟩
def Bz3f : AC := (.kp [2, 3, 4, 16] [2, 3, 6, 5000, 901] (.cond (.t 16) .skip (.exit 0)))
def Bz7e : AC := (.kp [2, 3, 4] [2, 3, 6, 5000, 901] (.regi false [⟨(some 17), none, .i (.mov (.t 4))⟩, ⟨(some 18), none, .i (.bin .add (.t 17) (.c (.int .i64 1)))⟩, ⟨(some 4), none, .i (.mov (.t 18))⟩]))
def Bz7f : AC := (.kp [2, 3, 4] [2, 3, 6, 5000, 901] (.seq (.block 1 (.regi true [⟨(some 19), none, .i (.fad 1 (.t 3))⟩, ⟨(some 20), none, .i (.ld (.t 19))⟩, ⟨(some 21), none, .i (.iad 1 (.t 20) (.c (.int .i64 0)))⟩, ⟨(some 22), none, .i (.ld (.t 21))⟩, ⟨(some 23), none, .i (.mov (.t 4))⟩, ⟨(some 24), none, .i (.mov (.t 4))⟩, ⟨(some 25), none, .i (.bin .add (.t 24) (.c (.int .i64 1)))⟩, ⟨(some 26), none, .i (.fad 0 (.t 3))⟩, ⟨(some 27), none, .i (.ld (.t 26))⟩, ⟨(some 28), none, .i (.bin .rem (.t 25) (.t 27))⟩, ⟨(some 29), none, .i (.iad 1 (.t 22) (.t 23))⟩, ⟨none, none, .i (.sto 1 (.t 29) (.t 28))⟩])) Bz7e))
def Bz1j : AC := (.kp [2, 3, 4] [2, 3, 6, 5000, 901] (.seq (.seq (.regi false [⟨(some 13), none, .i (.mov (.t 4))⟩, ⟨(some 14), none, .i (.fad 0 (.t 3))⟩, ⟨(some 15), none, .i (.ld (.t 14))⟩, ⟨(some 16), none, .i (.bin .lss (.t 13) (.t 15))⟩]) Bz3f) Bz7f))
def Bz7g : AC := (.kp [2, 3, 4] [2, 3, 6, 5000, 901] (.gh (.block 0 (.loop Bz1j))))
def Bz1k : AC := (.kp [2, 3, 12] [2, 3, 6, 5000, 901] (.cond (.t 12) (.seq (.regi false [⟨(some 4), none, .i (.mov (.c (.int .i64 0)))⟩]) Bz7g) .skip))
def Bz1l : AC := (.kp [2, 3] [2, 3, 6, 5000, 901] (.gh (.seq (.regi false [⟨(some 30), none, .i (.lda 2 (.t 3))⟩, ⟨none, none, .i (.sto 2 (.t 2) (.t 30))⟩]) .ret)))
def Bz7h : AC := (.kp [0, 2, 3] [2, 3, 6, 5000, 901] (.seq (.seq (.regi false [⟨(some 7), none, .call nzz [(.t 3)]⟩, ⟨(some 8), none, .i (.mov (.t 7))⟩, ⟨(some 9), (some (8, true)), .i (.mov (.t 0))⟩, ⟨(some 10), (some (8, true)), .call nz4 [(.t 9), (.c (.int .i64 4))]⟩, ⟨(some 11), (some (8, true)), .i (.un .not (.t 10))⟩, ⟨(some 12), none, .i (.pick (.t 8) (.t 11) (.c (.bool false)))⟩]) Bz1k) Bz1l))
def Bz7i : AC := (.kp [0, 2] [2, 3, 6, 5000, 901] (.seq (.regi false [⟨(some 5), none, .i (.mov (.t 0))⟩, ⟨(some 6), none, .call nz2k [(.t 5)]⟩, ⟨(some 3), none, .i (.new [.int .i64 0, .slice none 0 0])⟩, ⟨none, none, .i (.sto 2 (.t 3) (.t 6))⟩]) Bz7h))
def Az1m : AFn := ⟨31, 1, (.seq (.regi false [⟨(some 2), none, .i (.new [.int .i64 0, .slice none 0 0])⟩]) Bz7i), [.cell (some 2) 2]⟩
theorem czd3 : cFn (drV none) Try.prog nzy Az1m := ⟨_, _, Try.func35, rfl, by kernel_rfl, by decide, rfl, by kernel_rfl, by kernel_rfl⟩
def Bz1n : AC := (.kp [0, 18] [5000] (.dn (.cond (.t 18) (.seq (.reg false [⟨(some 2), none, .i (.mov (.c (.bool false)))⟩]) (.dn .ret)) .skip)))
def Bz3g : AC := (.kp [0, 3, 25] [5000] (.dn (.cond (.t 25) .skip (.exit 0))))
def Bz7j : AC := (.kp [0, 3, 40] [5000] (.dn (.cond (.t 40) (.seq (.reg false [⟨(some 2), none, .i (.mov (.c (.bool false)))⟩]) (.dn .ret)) .skip)))
def Bz7k : AC := (.kp [0, 3] [5000] (.dn (.reg false [⟨(some 26), none, .i (.mov (.t 3))⟩, ⟨(some 27), none, .i (.bin .add (.t 26) (.c (.int .i64 1)))⟩, ⟨(some 3), none, .i (.mov (.t 27))⟩])))
def Bz3h : AC := (.kp [0, 3] [5000] (.dn (.seq (.block 1 (.seq (.reg true [⟨(some 28), none, .i (.mov (.t 0))⟩, ⟨(some 29), none, .i (.nilck (.t 28))⟩, ⟨(some 30), none, .i (.fad 1 (.t 29))⟩, ⟨(some 31), none, .i (.ld (.t 30))⟩, ⟨(some 32), none, .i (.mov (.t 3))⟩, ⟨(some 33), none, .i (.iad 1 (.t 31) (.t 32))⟩, ⟨(some 34), none, .i (.ld (.t 33))⟩, ⟨(some 35), none, .i (.mov (.t 0))⟩, ⟨(some 36), none, .i (.nilck (.t 35))⟩, ⟨(some 37), none, .i (.fad 0 (.t 36))⟩, ⟨(some 38), none, .i (.ld (.t 37))⟩, ⟨(some 39), none, .calh nz2l [(.t 34), (.t 38)]⟩, ⟨(some 40), none, .i (.un .not (.t 39))⟩]) Bz7j)) Bz7k)))
def Bz1o : AC := (.kp [0, 3] [5000] (.dn (.seq (.seq (.reg false [⟨(some 19), none, .i (.mov (.t 3))⟩, ⟨(some 20), none, .i (.mov (.t 0))⟩, ⟨(some 21), none, .i (.nilck (.t 20))⟩, ⟨(some 22), none, .i (.fad 1 (.t 21))⟩, ⟨(some 23), none, .i (.ld (.t 22))⟩, ⟨(some 24), none, .i (.len (.t 23))⟩, ⟨(some 25), none, .i (.bin .lss (.t 19) (.t 24))⟩]) Bz3g) Bz3h)))
def Bz7l : AC := (.kp [0, 3] [5000] (.dn (.block 0 (.loop Bz1o))))
def Bz7m : AC := (.kp [] [5000] (.dn (.seq (.reg false [⟨(some 2), none, .i (.mov (.c (.bool true)))⟩]) (.dn .ret))))
def Bz7n : AC := (.kp [0] [5000] (.dn (.seq (.seq (.reg false [⟨(some 3), none, .i (.mov (.c (.int .i64 0)))⟩]) Bz7l) Bz7m)))
def Bz7o : AC := (.kp [0] [5000] (.dn (.seq (.seq (.reg false [⟨(some 4), none, .i (.mov (.t 0))⟩, ⟨(some 5), none, .i (.nilck (.t 4))⟩, ⟨(some 6), none, .i (.fad 0 (.t 5))⟩, ⟨(some 7), none, .i (.ld (.t 6))⟩, ⟨(some 8), none, .call nzj [(.t 7), (.c (.int .i64 1)), (.c (.int .i64 10))]⟩, ⟨(some 9), none, .i (.un .not (.t 8))⟩, ⟨(some 10), none, .i (.mov (.t 9))⟩, ⟨(some 11), (some (10, false)), .i (.mov (.t 0))⟩, ⟨(some 12), (some (10, false)), .i (.nilck (.t 11))⟩, ⟨(some 13), (some (10, false)), .i (.fad 1 (.t 12))⟩, ⟨(some 14), (some (10, false)), .i (.ld (.t 13))⟩, ⟨(some 15), (some (10, false)), .i (.len (.t 14))⟩, ⟨(some 16), (some (10, false)), .call nzj [(.t 15), (.c (.int .i64 1)), (.c (.int .i64 3))]⟩, ⟨(some 17), (some (10, false)), .i (.un .not (.t 16))⟩, ⟨(some 18), none, .i (.pick (.t 10) (.c (.bool true)) (.t 17))⟩]) Bz1n) Bz7n)))
def Az7p : AFn := ⟨41, 1, (.seq (.reg false [⟨(some 2), none, .i (.mov (.c (.bool false)))⟩]) Bz7o), [.tmp 2]⟩
theorem czd4 : cFn (drV none) Try.prog nzz Az7p := ⟨_, _, Try.func36, rfl, by kernel_rfl, by decide, rfl, by kernel_rfl, by kernel_rfl⟩
def Bz3i : AC := (.kp [0, 2, 3, 4, 5, 10] [2, 6, 7, 19, 26, 30, 5000] (.cond (.t 10) .skip (.exit 0)))
def Bz7q : AC := (.kp [0, 2, 3, 4, 5] [2, 6, 7, 19, 26, 30, 5000] (.regi false [⟨(some 20), none, .i (.mov (.t 4))⟩, ⟨(some 21), none, .i (.mov (.t 5))⟩, ⟨(some 22), none, .i (.mov (.t 0))⟩, ⟨(some 23), none, .i (.bin .sub (.t 22) (.c (.int .i64 1)))⟩, ⟨(some 24), none, .i (.bin .rem (.t 21) (.t 23))⟩, ⟨(some 25), none, .i (.bsl 1 false [(.t 24)])⟩, ⟨(some 26), none, .i (.app 1 8 (.t 20) (.t 25))⟩, ⟨(some 4), none, .i (.mov (.t 26))⟩]))
def Bz7r : AC := (.kp [0, 2, 3, 4, 5] [2, 6, 7, 19, 26, 30, 5000] (.regi false [⟨(some 11), none, .i (.mov (.t 5))⟩, ⟨(some 12), none, .i (.bin .add (.t 11) (.c (.int .i64 1)))⟩, ⟨(some 5), none, .i (.mov (.t 12))⟩]))
def Bz7s : AC := (.kp [0, 2, 3, 4, 5] [2, 6, 7, 19, 26, 30, 5000] (.seq (.block 1 (.seq (.regi false [⟨(some 13), none, .i (.mov (.t 3))⟩, ⟨(some 14), none, .i (.mov (.t 5))⟩, ⟨(some 15), none, .i (.bin .add (.t 14) (.c (.int .i64 1)))⟩, ⟨(some 16), none, .i (.mov (.t 0))⟩, ⟨(some 17), none, .i (.bin .rem (.t 15) (.t 16))⟩, ⟨(some 18), none, .i (.bsl 1 false [(.t 17)])⟩, ⟨(some 19), none, .i (.app 1 8 (.t 13) (.t 18))⟩, ⟨(some 3), none, .i (.mov (.t 19))⟩]) Bz7q)) Bz7r))
def Bz1p : AC := (.kp [0, 2, 3, 4, 5] [2, 6, 7, 19, 26, 30, 5000] (.seq (.seq (.regi false [⟨(some 8), none, .i (.mov (.t 5))⟩, ⟨(some 9), none, .i (.mov (.t 0))⟩, ⟨(some 10), none, .i (.bin .lss (.t 8) (.t 9))⟩]) Bz3i) Bz7s))
def Bz7t : AC := (.kp [0, 2, 3, 4, 5] [2, 6, 7, 19, 26, 30, 5000] (.block 0 (.loop Bz1p)))
def Bz7u : AC := (.kp [0, 2, 3, 4] [2, 6, 7, 19, 26, 30, 5000] (.seq (.regi false [⟨(some 27), none, .i (.mov (.t 0))⟩, ⟨(some 28), none, .i (.mov (.t 3))⟩, ⟨(some 29), none, .i (.mov (.t 4))⟩, ⟨(some 30), none, .i (.bsl 1 true [(.t 28), (.t 29)])⟩, ⟨(some 31), none, .i (.bst [.int .i64 0, .slice none 0 0] [(0, 1, (.t 27)), (1, 1, (.t 30))])⟩, ⟨none, none, .i (.sto 2 (.t 2) (.t 31))⟩]) .ret))
def Bz7v : AC := (.kp [0, 2, 3, 4] [2, 6, 7, 19, 26, 30, 5000] (.seq (.seq (.regi false [⟨(some 5), none, .i (.mov (.c (.int .i64 0)))⟩]) Bz7t) Bz7u))
def Bz7w : AC := (.kp [0, 2, 3] [2, 6, 19, 30, 5000] (.seq (.regi false [⟨(some 7), none, .i (.bsl 1 false [])⟩, ⟨(some 4), none, .i (.mov (.t 7))⟩]) Bz7v))
def Bz7x : AC := (.kp [0, 2] [2, 30, 5000] (.seq (.regi false [⟨(some 6), none, .i (.bsl 1 false [])⟩, ⟨(some 3), none, .i (.mov (.t 6))⟩]) Bz7w))
def Az3j : AFn := ⟨32, 1, (.seq (.regi false [⟨(some 2), none, .i (.new [.int .i64 0, .slice none 0 0])⟩]) Bz7x), [.cell (some 2) 2]⟩
theorem czd5 : cFn (drV none) Try.prog nzg Az3j := ⟨_, _, Try.func37, rfl, by kernel_rfl, by decide, rfl, by kernel_rfl, by kernel_rfl⟩
def Bz7y : AC := (.kp [1] [1, 5000] (.dn (.seq (.reg false [⟨(some 3), none, .i (.fad 0 (.t 1))⟩, ⟨(some 4), none, .i (.ld (.t 3))⟩, ⟨(some 5), none, .call nza [(.t 4), (.c (.int .i64 1)), (.c (.int .i64 10))]⟩, ⟨(some 6), none, .i (.mov (.t 5))⟩, ⟨(some 7), (some (6, true)), .i (.lda 2 (.t 1))⟩, ⟨(some 8), (some (6, true)), .call nz14 [(.t 7)]⟩, ⟨(some 9), (some (6, true)), .call nza [(.t 8), (.c (.int .i64 1)), (.c (.int .i64 3))]⟩, ⟨(some 10), none, .i (.pick (.t 6) (.t 9) (.c (.bool false)))⟩, ⟨(some 11), none, .i (.mov (.t 10))⟩, ⟨(some 12), (some (11, true)), .i (.fad 1 (.t 1))⟩, ⟨(some 13), (some (11, true)), .i (.ld (.t 12))⟩, ⟨(some 14), (some (11, true)), .i (.mkf nz15 [(.t 1)])⟩, ⟨(some 15), (some (11, true)), .call nz2m [(.t 13), (.t 14)]⟩, ⟨(some 16), (some (11, true)), .i (.un .not (.t 15))⟩, ⟨(some 17), none, .i (.pick (.t 11) (.t 16) (.c (.bool false)))⟩, ⟨(some 2), none, .i (.mov (.t 17))⟩]) (.dn .ret))))
def Az7z : AFn := ⟨18, 1, (.seq (.reg false [⟨(some 1), none, .i (.box (.t 0))⟩, ⟨(some 2), none, .i (.mov (.c (.bool false)))⟩]) Bz7y), [.tmp 2]⟩
theorem czd6 : cFn (drV none) Try.prog nz2f Az7z := ⟨_, _, Try.func38, rfl, by kernel_rfl, by decide, rfl, by kernel_rfl, by kernel_rfl⟩
def Bz80 : AC := (.kp [0] [5000] (.dn (.seq (.reg false [⟨(some 3), none, .i (.mov (.t 0))⟩, ⟨(some 4), none, .i (.len (.t 3))⟩, ⟨(some 2), none, .i (.mov (.t 4))⟩]) (.dn .ret))))
def Az81 : AFn := ⟨5, 1, (.seq (.reg false [⟨(some 2), none, .i (.mov (.c (.int .i64 0)))⟩]) Bz80), [.tmp 2]⟩
theorem czd7 : cFn (drV none) Try.prog nz2g Az81 := ⟨_, _, Try.func40, rfl, by kernel_rfl, by decide, rfl, by kernel_rfl, by kernel_rfl⟩
def Bz82 : AC := (.kp [9] [11, 1011, 5000, 5001] (.dn (.cond (.t 9) (.seq (.reg false [⟨(some 4), none, .i (.mov (.c (.int .i64 2)))⟩]) (.dn .ret)) .skip)))
def Bz83 : AC := (.kp [1, 5] [5000, 5001] (.dn (.cond (.t 5) (.seq (.reg false [⟨(some 4), none, .i (.mov (.c (.int .i64 1)))⟩]) (.dn .ret)) (.seq (.reg false [⟨(some 10), none, .i (.mov (.t 1))⟩, ⟨(some 11), none, .calv (.t 10) []⟩, ⟨(some 12), none, .i (.un .not (.t 11))⟩, ⟨(some 9), none, .i (.mov (.t 12))⟩]) Bz82))))
def Bz84 : AC := (.kp [] [5000, 5001] (.dn (.seq (.reg false [⟨(some 4), none, .i (.mov (.c (.int .i64 0)))⟩]) (.dn .ret))))
def Bz85 : AC := (.kp [1, 2] [2, 5000, 5001] (.dn (.seq (.block 0 (.seq (.reg false [⟨(some 6), none, .i (.lda 2 (.t 2))⟩, ⟨(some 7), none, .call nz2f [(.t 6)]⟩, ⟨(some 8), none, .i (.un .not (.t 7))⟩, ⟨(some 5), none, .i (.mov (.t 8))⟩]) Bz83)) Bz84)))
def Az86 : AFn := ⟨13, 2, (.seq (.reg false [⟨(some 2), none, .i (.box (.t 0))⟩, ⟨(some 4), none, .i (.mov (.c (.int .i64 0)))⟩]) Bz85), [.tmp 4]⟩
theorem czd8 : cFn (drV none) Try.prog nzh Az86 := ⟨_, _, Try.func44, rfl, by kernel_rfl, by decide, rfl, by kernel_rfl, by kernel_rfl⟩
def Bz87 : AC := (.kp [0, 1] [5000, 5001] (.dn (.seq (.reg false [⟨(some 3), none, .i (.lda 2 (.t 0))⟩, ⟨(some 4), none, .i (.ld (.t 1))⟩, ⟨(some 5), none, .call nzi [(.t 3), (.t 4)]⟩, ⟨(some 2), none, .i (.mov (.t 5))⟩]) (.dn .ret))))
def Az88 : AFn := ⟨6, 2, (.seq (.reg false [⟨(some 2), none, .i (.mov (.c (.bool false)))⟩]) Bz87), [.tmp 2]⟩
theorem czd9 : cFn (drV none) Try.prog nz10 Az88 := ⟨_, _, Try.func48, rfl, by kernel_rfl, by decide, rfl, by kernel_rfl, by kernel_rfl⟩
def Bz89 : AC := (.kp [1, 2] [2, 5000, 5001] (.dn (.seq (.reg false [⟨(some 5), none, .i (.mov (.t 1))⟩, ⟨(some 6), none, .i (.len (.t 5))⟩, ⟨(some 7), none, .i (.bin .leq (.t 6) (.c (.int .i64 400)))⟩, ⟨(some 8), none, .i (.mov (.t 7))⟩, ⟨(some 9), (some (8, true)), .i (.mov (.t 1))⟩, ⟨(some 10), (some (8, true)), .i (.lda 2 (.t 2))⟩, ⟨(some 11), (some (8, true)), .call nz14 [(.t 10)]⟩, ⟨(some 12), (some (8, true)), .i (.bin .sub (.t 11) (.c (.int .i64 1)))⟩, ⟨(some 13), (some (8, true)), .call nz16 [(.t 9), (.c (.int .i64 0)), (.t 12)]⟩, ⟨(some 14), none, .i (.pick (.t 8) (.t 13) (.c (.bool false)))⟩, ⟨(some 4), none, .i (.mov (.t 14))⟩]) (.dn .ret))))
def Az8a : AFn := ⟨15, 2, (.seq (.reg false [⟨(some 2), none, .i (.box (.t 0))⟩, ⟨(some 4), none, .i (.mov (.c (.bool false)))⟩]) Bz89), [.tmp 4]⟩
theorem czda : cFn (drV none) Try.prog nzi Az8a := ⟨_, _, Try.func49, rfl, by kernel_rfl, by decide, rfl, by kernel_rfl, by kernel_rfl⟩
def Bz8b : AC := (.kp [1, 2, 5, 6, 9, 10] [2, 7, 19, 5000, 5001] (.dn (.reg false [⟨(some 13), none, .i (.mov (.t 5))⟩, ⟨(some 14), none, .i (.lda 2 (.t 2))⟩, ⟨(some 15), none, .i (.mov (.t 6))⟩, ⟨(some 16), none, .i (.mov (.t 1))⟩, ⟨(some 17), none, .call nzk [(.t 14), (.t 15), (.t 16)]⟩, ⟨(some 18), none, .i (.bsl 1 false [(.t 17)])⟩, ⟨(some 19), none, .i (.app 1 8 (.t 13) (.t 18))⟩, ⟨(some 5), none, .i (.mov (.t 19))⟩])))
def Bz8c : AC := (.kp [1, 2, 5, 9, 10] [2, 7, 19, 5000, 5001] (.dn (.reg false [⟨(some 20), none, .i (.bin .add (.t 10) (.c (.int .i64 1)))⟩, ⟨(some 10), none, .i (.mov (.t 20))⟩])))
def Bz3k : AC := (.kp [1, 2, 5, 9, 10] [2, 7, 19, 5000, 5001] (.dn (.seq (.block 1 (.seq (.reg false [⟨(some 12), none, .i (.mov (.t 10))⟩, ⟨(some 6), none, .i (.mov (.t 12))⟩]) Bz8b)) Bz8c)))
def Bz3l : AC := (.kp [1, 2, 5, 9, 10, 11] [2, 7, 19, 5000, 5001] (.dn (.seq (.cond (.t 11) .skip (.exit 0)) Bz3k)))
def Bz1q : AC := (.kp [1, 2, 5, 9, 10] [2, 7, 19, 5000, 5001] (.dn (.seq (.reg false [⟨(some 11), none, .i (.bin .lss (.t 10) (.t 9))⟩]) Bz3l)))
def Bz8d : AC := (.kp [1, 2, 5, 9, 10] [2, 7, 19, 5000, 5001] (.dn (.block 0 (.loop Bz1q))))
def Bz8e : AC := (.kp [5] [7, 19, 5000, 5001] (.dn (.seq (.reg false [⟨(some 21), none, .i (.mov (.t 5))⟩, ⟨(some 4), none, .i (.mov (.t 21))⟩]) (.dn .ret))))
def Bz8f : AC := (.kp [1, 2, 5] [2, 7, 19, 5000, 5001] (.dn (.seq (.seq (.reg false [⟨(some 8), none, .i (.fad 0 (.t 2))⟩, ⟨(some 9), none, .i (.ld (.t 8))⟩, ⟨(some 10), none, .i (.mov (.c (.int .i64 0)))⟩]) Bz8d) Bz8e)))
def Bz8g : AC := (.kp [1, 2] [2, 5000, 5001] (.dn (.seq (.reg false [⟨(some 7), none, .i (.bsl 1 false [])⟩, ⟨(some 5), none, .i (.mov (.t 7))⟩]) Bz8f)))
def Az8h : AFn := ⟨22, 2, (.seq (.reg false [⟨(some 2), none, .i (.box (.t 0))⟩, ⟨(some 4), none, .i (.mov (.c (.slice none 0 0)))⟩]) Bz8g), [.tmp 4]⟩
theorem czdb : cFn (drV none) Try.prog nz2h Az8h := ⟨_, _, Try.func50, rfl, by kernel_rfl, by decide, rfl, by kernel_rfl, by kernel_rfl⟩
def Bz3m : AC := (.kp [0, 1, 7] [5000, 5001] (.dn (.cond (.t 7) (.seq (.reg false [⟨(some 4), none, .i (.mov (.c (.int .i64 0)))⟩]) (.dn .ret)) .skip)))
def Bz3n : AC := (.kp [0, 1, 5, 11] [5000, 5001] (.dn (.cond (.t 11) (.reg false [⟨(some 12), none, .i (.mov (.t 5))⟩, ⟨(some 13), none, .i (.bin .mul (.t 12) (.c (.int .i64 256)))⟩, ⟨(some 14), none, .i (.mov (.t 0))⟩, ⟨(some 15), none, .call nz17 [(.t 14)]⟩, ⟨(some 16), none, .i (.bin .add (.t 13) (.t 15))⟩, ⟨(some 5), none, .i (.mov (.t 16))⟩]) .skip)))
def Bz3o : AC := (.kp [1, 5] [5000, 5001] (.dn (.seq (.reg false [⟨(some 17), none, .i (.mov (.t 5))⟩, ⟨(some 18), none, .i (.mov (.t 1))⟩, ⟨(some 19), none, .i (.bin .rem (.t 17) (.t 18))⟩, ⟨(some 4), none, .i (.mov (.t 19))⟩]) (.dn .ret))))
def Bz3p : AC := (.kp [0, 1, 5] [5000, 5001] (.dn (.seq (.seq (.reg false [⟨(some 10), none, .i (.mov (.t 1))⟩, ⟨(some 11), none, .i (.bin .gtr (.t 10) (.c (.int .i64 200)))⟩]) Bz3n) Bz3o)))
def Bz3q : AC := (.kp [0, 1] [5000, 5001] (.dn (.seq (.reg false [⟨(some 8), none, .i (.mov (.t 0))⟩, ⟨(some 9), none, .call nz17 [(.t 8)]⟩, ⟨(some 5), none, .i (.mov (.t 9))⟩]) Bz3p)))
def Bz3r : AC := (.kp [0, 1] [5000, 5001] (.dn (.seq (.seq (.reg false [⟨(some 6), none, .i (.mov (.t 1))⟩, ⟨(some 7), none, .i (.bin .leq (.t 6) (.c (.int .i64 1)))⟩]) Bz3m) Bz3q)))
def Az3s : AFn := ⟨20, 2, (.seq (.reg false [⟨(some 4), none, .i (.mov (.c (.int .i64 0)))⟩]) Bz3r), [.tmp 4]⟩
theorem czdc : cFn (drV none) Try.prog nz0 Az3s := ⟨_, _, Try.func51, rfl, by kernel_rfl, by decide, rfl, by kernel_rfl, by kernel_rfl⟩
def Bz8i : AC := (.kp [0, 1] [5000, 5001] (.dn (.seq (.reg false [⟨(some 5), none, .i (.mov (.t 0))⟩, ⟨(some 6), none, .i (.mov (.t 1))⟩, ⟨(some 7), none, .call nz0 [(.t 5), (.t 6)]⟩, ⟨(some 8), none, .i (.bin .eql (.t 7) (.c (.int .i64 0)))⟩, ⟨(some 4), none, .i (.mov (.t 8))⟩]) (.dn .ret))))
def Az8j : AFn := ⟨9, 2, (.seq (.reg false [⟨(some 4), none, .i (.mov (.c (.bool false)))⟩]) Bz8i), [.tmp 4]⟩
theorem czdd : cFn (drV none) Try.prog nz4 Az8j := ⟨_, _, Try.func52, rfl, by kernel_rfl, by decide, rfl, by kernel_rfl, by kernel_rfl⟩
def Bz8k : AC := (.kp [0, 1, 2] [5000, 5001, 5002] (.dn (.seq (.reg false [⟨(some 4), none, .i (.ld (.t 0))⟩, ⟨(some 5), none, .i (.fad 0 (.t 1))⟩, ⟨(some 6), none, .i (.ld (.t 5))⟩, ⟨(some 7), none, .call nz12 [(.t 4), (.t 6)]⟩, ⟨(some 8), none, .i (.mov (.t 7))⟩, ⟨(some 9), (some (8, true)), .i (.lda 2 (.t 1))⟩, ⟨(some 10), (some (8, true)), .i (.ld (.t 2))⟩, ⟨(some 11), (some (8, true)), .call nzi [(.t 9), (.t 10)]⟩, ⟨(some 12), none, .i (.pick (.t 8) (.t 11) (.c (.bool false)))⟩, ⟨(some 3), none, .i (.mov (.t 12))⟩]) (.dn .ret))))
def Az8l : AFn := ⟨13, 3, (.seq (.reg false [⟨(some 3), none, .i (.mov (.c (.bool false)))⟩]) Bz8k), [.tmp 3]⟩
theorem czde : cFn (drV none) Try.prog nz11 Az8l := ⟨_, _, Try.func53, rfl, by kernel_rfl, by decide, rfl, by kernel_rfl, by kernel_rfl⟩
def Bzn : AC := (.kp [0, 1, 7, 8, 9, 31] [5000, 5001] (.dn (.cond (.t 31) (.seq (.reg false [⟨(some 4), none, .i (.mov (.c (.bool false)))⟩]) (.dn .ret)) .skip)))
def Bz8m : AC := (.kp [0, 1, 5, 6, 7, 8, 9] [5000, 5001] (.dn (.seq (.reg false [⟨(some 14), none, .i (.mov (.t 6))⟩, ⟨(some 15), none, .i (.mov (.t 1))⟩, ⟨(some 16), none, .i (.bin .sub (.t 15) (.c (.int .i64 1)))⟩, ⟨(some 17), none, .call nza [(.t 14), (.c (.int .i64 0)), (.t 16)]⟩, ⟨(some 18), none, .i (.un .not (.t 17))⟩, ⟨(some 19), none, .i (.mov (.t 18))⟩, ⟨(some 20), (some (19, false)), .i (.mov (.t 5))⟩, ⟨(some 21), (some (19, false)), .i (.bin .gtr (.t 20) (.c (.int .i64 0)))⟩, ⟨(some 22), (some (19, false)), .i (.mov (.t 21))⟩, ⟨(some 23), (some (22, true)), .i (.mov (.t 6))⟩, ⟨(some 24), (some (22, true)), .i (.mov (.t 0))⟩, ⟨(some 25), (some (22, true)), .i (.mov (.t 5))⟩, ⟨(some 26), (some (22, true)), .i (.bin .sub (.t 25) (.c (.int .i64 1)))⟩, ⟨(some 27), (some (22, true)), .i (.iad 1 (.t 24) (.t 26))⟩, ⟨(some 28), (some (22, true)), .i (.ld (.t 27))⟩, ⟨(some 29), (some (22, true)), .i (.bin .leq (.t 23) (.t 28))⟩, ⟨(some 30), (some (19, false)), .i (.pick (.t 22) (.t 29) (.c (.bool false)))⟩, ⟨(some 31), none, .i (.pick (.t 19) (.c (.bool true)) (.t 30))⟩]) Bzn)))
def Bz3t : AC := (.kp [0, 1, 7, 8, 9] [5000, 5001] (.dn (.reg false [⟨(some 32), none, .i (.bin .add (.t 9) (.c (.int .i64 1)))⟩, ⟨(some 9), none, .i (.mov (.t 32))⟩])))
def Bz3u : AC := (.kp [0, 1, 7, 8, 9] [5000, 5001] (.dn (.seq (.block 1 (.seq (.reg false [⟨(some 11), none, .i (.mov (.t 9))⟩, ⟨(some 12), none, .i (.iad 1 (.t 7) (.t 9))⟩, ⟨(some 13), none, .i (.ld (.t 12))⟩, ⟨(some 5), none, .i (.mov (.t 11))⟩, ⟨(some 6), none, .i (.mov (.t 13))⟩]) Bz8m)) Bz3t)))
def Bz3v : AC := (.kp [0, 1, 7, 8, 9, 10] [5000, 5001] (.dn (.seq (.cond (.t 10) .skip (.exit 0)) Bz3u)))
def Bz1r : AC := (.kp [0, 1, 7, 8, 9] [5000, 5001] (.dn (.seq (.reg false [⟨(some 10), none, .i (.bin .lss (.t 9) (.t 8))⟩]) Bz3v)))
def Bz8n : AC := (.kp [0, 1, 7, 8, 9] [5000, 5001] (.dn (.block 0 (.loop Bz1r))))
def Bz8o : AC := (.kp [] [5000, 5001] (.dn (.seq (.reg false [⟨(some 4), none, .i (.mov (.c (.bool true)))⟩]) (.dn .ret))))
def Bz8p : AC := (.kp [0, 1] [5000, 5001] (.dn (.seq (.seq (.reg false [⟨(some 7), none, .i (.mov (.t 0))⟩, ⟨(some 8), none, .i (.len (.t 7))⟩, ⟨(some 9), none, .i (.mov (.c (.int .i64 0)))⟩]) Bz8n) Bz8o)))
def Az8q : AFn := ⟨33, 2, (.seq (.reg false [⟨(some 4), none, .i (.mov (.c (.bool false)))⟩]) Bz8p), [.tmp 4]⟩
theorem czdf : cFn (drV none) Try.prog nz12 Az8q := ⟨_, _, Try.func54, rfl, by kernel_rfl, by decide, rfl, by kernel_rfl, by kernel_rfl⟩
def Bz8r : AC := (.kp [2, 3, 7, 9, 11, 12, 13] [3, 10, 23, 5000, 5001, 5002] (.dn (.reg false [⟨(some 17), none, .i (.mov (.t 7))⟩, ⟨(some 18), none, .i (.lda 2 (.t 3))⟩, ⟨(some 19), none, .i (.mov (.t 9))⟩, ⟨(some 20), none, .i (.mov (.t 2))⟩, ⟨(some 21), none, .call nzk [(.t 18), (.t 19), (.t 20)]⟩, ⟨(some 22), none, .i (.bsl 1 false [(.t 21)])⟩, ⟨(some 23), none, .i (.app 1 8 (.t 17) (.t 22))⟩, ⟨(some 7), none, .i (.mov (.t 23))⟩])))
def Bz8s : AC := (.kp [2, 3, 7, 11, 12, 13] [3, 10, 23, 5000, 5001, 5002] (.dn (.reg false [⟨(some 24), none, .i (.bin .add (.t 13) (.c (.int .i64 1)))⟩, ⟨(some 13), none, .i (.mov (.t 24))⟩])))
def Bz3w : AC := (.kp [2, 3, 7, 11, 12, 13] [3, 10, 23, 5000, 5001, 5002] (.dn (.seq (.block 1 (.seq (.reg false [⟨(some 15), none, .i (.iad 1 (.t 11) (.t 13))⟩, ⟨(some 16), none, .i (.ld (.t 15))⟩, ⟨(some 9), none, .i (.mov (.t 16))⟩]) Bz8r)) Bz8s)))
def Bz3x : AC := (.kp [2, 3, 7, 11, 12, 13, 14] [3, 10, 23, 5000, 5001, 5002] (.dn (.seq (.cond (.t 14) .skip (.exit 0)) Bz3w)))
def Bz1s : AC := (.kp [2, 3, 7, 11, 12, 13] [3, 10, 23, 5000, 5001, 5002] (.dn (.seq (.reg false [⟨(some 14), none, .i (.bin .lss (.t 13) (.t 12))⟩]) Bz3x)))
def Bz8t : AC := (.kp [2, 3, 7, 11, 12, 13] [3, 10, 23, 5000, 5001, 5002] (.dn (.block 0 (.loop Bz1s))))
def Bz8u : AC := (.kp [7] [10, 23, 5000, 5001, 5002] (.dn (.seq (.reg false [⟨(some 25), none, .i (.mov (.t 7))⟩, ⟨(some 26), none, .call nz2n [(.t 25)]⟩, ⟨(some 6), none, .i (.mov (.t 26))⟩]) (.dn .ret))))
def Bz8v : AC := (.kp [1, 2, 3, 7] [3, 10, 23, 5000, 5001, 5002] (.dn (.seq (.seq (.reg false [⟨(some 11), none, .i (.mov (.t 1))⟩, ⟨(some 12), none, .i (.len (.t 11))⟩, ⟨(some 13), none, .i (.mov (.c (.int .i64 0)))⟩]) Bz8t) Bz8u)))
def Bz8w : AC := (.kp [1, 2, 3] [3, 5000, 5001, 5002] (.dn (.seq (.reg false [⟨(some 10), none, .i (.bsl 1 false [])⟩, ⟨(some 7), none, .i (.mov (.t 10))⟩]) Bz8v)))
def Az8x : AFn := ⟨27, 3, (.seq (.reg false [⟨(some 3), none, .i (.box (.t 0))⟩, ⟨(some 6), none, .i (.mov (.c (.slice none 0 0)))⟩]) Bz8w), [.tmp 6]⟩
theorem czdg : cFn (drV none) Try.prog nz2i Az8x := ⟨_, _, Try.func55, rfl, by kernel_rfl, by decide, rfl, by kernel_rfl, by kernel_rfl⟩
def Bz8y : AC := (.kp [0, 1, 2] [5000, 5001, 5002] (.dn (.seq (.reg false [⟨(some 4), none, .i (.ld (.t 0))⟩, ⟨(some 5), none, .i (.fad 0 (.t 1))⟩, ⟨(some 6), none, .i (.ld (.t 5))⟩, ⟨(some 7), none, .call nz12 [(.t 4), (.t 6)]⟩, ⟨(some 8), none, .i (.mov (.t 7))⟩, ⟨(some 9), (some (8, true)), .i (.lda 2 (.t 1))⟩, ⟨(some 10), (some (8, true)), .i (.ld (.t 2))⟩, ⟨(some 11), (some (8, true)), .call nzi [(.t 9), (.t 10)]⟩, ⟨(some 12), none, .i (.pick (.t 8) (.t 11) (.c (.bool false)))⟩, ⟨(some 3), none, .i (.mov (.t 12))⟩]) (.dn .ret))))
def Az8z : AFn := ⟨13, 3, (.seq (.reg false [⟨(some 3), none, .i (.mov (.c (.bool false)))⟩]) Bz8y), [.tmp 3]⟩
theorem czdh : cFn (drV none) Try.prog nz13 Az8z := ⟨_, _, Try.func56, rfl, by kernel_rfl, by decide, rfl, by kernel_rfl, by kernel_rfl⟩
def Bz3y : AC := (.kp [1, 2, 3, 7, 8, 11, 12, 20] [3, 9, 24, 5000, 5001, 5002] (.dn (.cond (.t 20) (.reg false [⟨(some 21), none, .i (.mov (.t 7))⟩, ⟨(some 22), none, .i (.mov (.t 8))⟩, ⟨(some 23), none, .i (.bsl 1 false [(.t 22)])⟩, ⟨(some 24), none, .i (.app 1 8 (.t 21) (.t 23))⟩, ⟨(some 7), none, .i (.mov (.t 24))⟩]) .skip)))
def Bz90 : AC := (.kp [1, 2, 3, 7, 8, 11, 12] [3, 9, 24, 5000, 5001, 5002] (.dn (.seq (.reg false [⟨(some 15), none, .i (.mov (.t 1))⟩, ⟨(some 16), none, .i (.lda 2 (.t 3))⟩, ⟨(some 17), none, .i (.mov (.t 8))⟩, ⟨(some 18), none, .i (.mov (.t 2))⟩, ⟨(some 19), none, .call nzk [(.t 16), (.t 17), (.t 18)]⟩, ⟨(some 20), none, .call nz2o [(.t 15), (.t 19)]⟩]) Bz3y)))
def Bz3z : AC := (.kp [1, 2, 3, 7, 11, 12] [3, 9, 24, 5000, 5001, 5002] (.dn (.reg false [⟨(some 25), none, .i (.bin .add (.t 12) (.c (.int .i64 1)))⟩, ⟨(some 12), none, .i (.mov (.t 25))⟩])))
def Bz91 : AC := (.kp [1, 2, 3, 7, 11, 12] [3, 9, 24, 5000, 5001, 5002] (.dn (.seq (.block 1 (.seq (.reg false [⟨(some 14), none, .i (.mov (.t 12))⟩, ⟨(some 8), none, .i (.mov (.t 14))⟩]) Bz90)) Bz3z)))
def Bz40 : AC := (.kp [1, 2, 3, 7, 11, 12, 13] [3, 9, 24, 5000, 5001, 5002] (.dn (.seq (.cond (.t 13) .skip (.exit 0)) Bz91)))
def Bz1t : AC := (.kp [1, 2, 3, 7, 11, 12] [3, 9, 24, 5000, 5001, 5002] (.dn (.seq (.reg false [⟨(some 13), none, .i (.bin .lss (.t 12) (.t 11))⟩]) Bz40)))
def Bz92 : AC := (.kp [1, 2, 3, 7, 11, 12] [3, 9, 24, 5000, 5001, 5002] (.dn (.block 0 (.loop Bz1t))))
def Bz93 : AC := (.kp [7] [9, 24, 5000, 5001, 5002] (.dn (.seq (.reg false [⟨(some 26), none, .i (.mov (.t 7))⟩, ⟨(some 6), none, .i (.mov (.t 26))⟩]) (.dn .ret))))
def Bz94 : AC := (.kp [1, 2, 3, 7] [3, 9, 24, 5000, 5001, 5002] (.dn (.seq (.seq (.reg false [⟨(some 10), none, .i (.fad 0 (.t 3))⟩, ⟨(some 11), none, .i (.ld (.t 10))⟩, ⟨(some 12), none, .i (.mov (.c (.int .i64 0)))⟩]) Bz92) Bz93)))
def Bz95 : AC := (.kp [1, 2, 3] [3, 5000, 5001, 5002] (.dn (.seq (.reg false [⟨(some 9), none, .i (.bsl 1 false [])⟩, ⟨(some 7), none, .i (.mov (.t 9))⟩]) Bz94)))
def Az96 : AFn := ⟨27, 3, (.seq (.reg false [⟨(some 3), none, .i (.box (.t 0))⟩, ⟨(some 6), none, .i (.mov (.c (.slice none 0 0)))⟩]) Bz95), [.tmp 6]⟩
theorem czdi : cFn (drV none) Try.prog nz2j Az96 := ⟨_, _, Try.func57, rfl, by kernel_rfl, by decide, rfl, by kernel_rfl, by kernel_rfl⟩
def Bz97 : AC := (.kp [2, 3] [2, 3, 5, 14, 19, 26, 28, 1019, 5000, 901] (.seq (.regi false [⟨(some 22), none, .i (.lda 2 (.t 3))⟩, ⟨none, none, .i (.sto 2 (.t 2) (.t 22))⟩]) .ret))
def Bz41 : AC := (.kp [0, 2, 23] [2, 3, 5, 14, 19, 26, 28, 1019, 5000, 901] (.cond (.t 23) (.seq (.regi false [⟨(some 25), none, .i (.mov (.t 0))⟩, ⟨(some 26), none, .call nz2r [(.t 25)]⟩, ⟨none, none, .i (.sto 2 (.t 2) (.t 26))⟩]) .ret) .skip))
def Bz1u : AC := (.kp [0, 2, 8, 15] [2, 3, 5, 14, 19, 26, 28, 1019, 5000, 901] (.cond (.t 15) (.seq (.regi false [⟨(some 18), none, .i (.mov (.t 0))⟩, ⟨(some 19), none, .call nz2q [(.t 18)]⟩, ⟨(some 17), none, .i (.mov (.t 19))⟩, ⟨(some 20), none, .i (.ext 0 (.t 17))⟩, ⟨(some 21), none, .i (.ext 1 (.t 17))⟩, ⟨(some 3), none, .i (.new [.int .i64 0, .slice none 0 0])⟩, ⟨none, none, .i (.sto 2 (.t 3) (.t 20))⟩, ⟨(some 4), none, .i (.mov (.t 21))⟩]) Bz97) (.seq (.regi false [⟨(some 24), none, .i (.bin .eql (.t 8) (.c (.int .i64 2)))⟩, ⟨(some 23), none, .i (.mov (.t 24))⟩]) Bz41)))
def Bzo : AC := (.kp [0, 2, 8, 9] [2, 3, 5, 14, 19, 26, 28, 1019, 5000, 901] (.cond (.t 9) (.seq (.regi false [⟨(some 11), none, .i (.mov (.t 0))⟩, ⟨(some 12), none, .call nz0 [(.t 11), (.c (.int .i64 6))]⟩, ⟨(some 13), none, .i (.bin .add (.c (.int .i64 2)) (.t 12))⟩, ⟨(some 14), none, .call nzg [(.t 13)]⟩, ⟨none, none, .i (.sto 2 (.t 2) (.t 14))⟩]) .ret) (.seq (.regi false [⟨(some 16), none, .i (.bin .eql (.t 8) (.c (.int .i64 1)))⟩, ⟨(some 15), none, .i (.mov (.t 16))⟩]) Bz1u)))
def Bzp : AC := (.kp [0, 2, 8] [2, 3, 5, 14, 19, 26, 28, 1019, 5000, 901] (.block 0 (.seq (.regi false [⟨(some 10), none, .i (.bin .eql (.t 8) (.c (.int .i64 0)))⟩, ⟨(some 9), none, .i (.mov (.t 10))⟩]) Bzo)))
def Bz98 : AC := (.kp [0, 2, 5, 6] [2, 3, 5, 14, 19, 26, 28, 1019, 5000, 901] (.gh (.regi true [⟨(some 36), none, .r [5000] (.fad 1 (.t 5))⟩, ⟨(some 37), none, .r [5000] (.ld (.t 36))⟩, ⟨(some 38), none, .i (.mov (.t 6))⟩, ⟨(some 39), none, .r [5000] (.iad 1 (.t 37) (.t 38))⟩, ⟨(some 40), none, .r [5000] (.ld (.t 39))⟩, ⟨(some 41), none, .i (.mov (.t 0))⟩, ⟨(some 42), none, .r [5000] (.fad 0 (.t 5))⟩, ⟨(some 43), none, .r [5000] (.ld (.t 42))⟩, ⟨(some 44), none, .calm [5000] nz0 [(.t 41), (.t 43)]⟩, ⟨(some 45), none, .r [5000] (.fad 1 (.t 5))⟩, ⟨(some 46), none, .r [5000] (.ld (.t 45))⟩, ⟨(some 47), none, .i (.mov (.t 6))⟩, ⟨(some 48), none, .r [5000] (.iad 1 (.t 46) (.t 47))⟩, ⟨(some 49), none, .r [5000] (.ld (.t 48))⟩, ⟨(some 50), none, .i (.mov (.t 0))⟩, ⟨(some 51), none, .r [5000] (.fad 0 (.t 5))⟩, ⟨(some 52), none, .r [5000] (.ld (.t 51))⟩, ⟨(some 53), none, .calm [5000] nz0 [(.t 50), (.t 52)]⟩, ⟨(some 54), none, .r [5000] (.iad 1 (.t 49) (.t 53))⟩, ⟨(some 55), none, .r [5000] (.ld (.t 54))⟩, ⟨(some 56), none, .r [5000] (.iad 1 (.t 40) (.t 44))⟩, ⟨none, none, .i (.sto 1 (.t 56) (.t 55))⟩])))
def Bz42 : AC := (.kp [0, 2, 5, 30] [2, 3, 5, 14, 19, 26, 28, 1019, 5000, 901] (.cond (.t 30) (.seq (.regi false [⟨(some 31), none, .i (.mov (.t 0))⟩, ⟨(some 32), none, .i (.fad 1 (.t 5))⟩, ⟨(some 33), none, .i (.ld (.t 32))⟩, ⟨(some 34), none, .i (.len (.t 33))⟩, ⟨(some 35), none, .call nz0 [(.t 31), (.t 34)]⟩, ⟨(some 6), none, .i (.mov (.t 35))⟩]) Bz98) .skip))
def Bz1v : AC := (.kp [2, 5] [2, 3, 5, 14, 19, 26, 28, 1019, 5000, 901] (.gh (.seq (.regi false [⟨(some 57), none, .i (.lda 2 (.t 5))⟩, ⟨none, none, .i (.sto 2 (.t 2) (.t 57))⟩]) .ret)))
def Bz99 : AC := (.kp [0, 2, 5] [2, 3, 5, 14, 19, 26, 28, 1019, 5000, 901] (.seq (.seq (.regi false [⟨(some 29), none, .i (.mov (.t 0))⟩, ⟨(some 30), none, .call nz4 [(.t 29), (.c (.int .i64 2))]⟩]) Bz42) Bz1v))
def Bz9a : AC := (.kp [0, 2] [2, 3, 5, 14, 19, 26, 28, 1019, 5000, 901] (.seq (.regi false [⟨(some 27), none, .i (.mov (.t 0))⟩, ⟨(some 28), none, .call nzb [(.t 27), (.c (.int .i64 6))]⟩, ⟨(some 5), none, .i (.new [.int .i64 0, .slice none 0 0])⟩, ⟨none, none, .i (.sto 2 (.t 5) (.t 28))⟩]) Bz99))
def Bz9b : AC := (.kp [0, 2] [2, 3, 5, 14, 19, 26, 28, 1019, 5000, 901] (.seq (.seq (.regi false [⟨(some 7), none, .i (.mov (.t 0))⟩, ⟨(some 8), none, .call nz0 [(.t 7), (.c (.int .i64 6))]⟩]) Bzp) Bz9a))
def Az7 : AFn := ⟨58, 1, (.seq (.regi false [⟨(some 2), none, .i (.new [.int .i64 0, .slice none 0 0])⟩]) Bz9b), [.cell (some 2) 2]⟩
theorem czdj : cFn (drV (some ([5000], [nz0]))) Try.prog nz2k Az7 := ⟨_, _, Try.func72, rfl, by kernel_rfl, by decide, rfl, by kernel_rfl, by kernel_rfl⟩
def Bz9c : AC := (.kp [0, 1, 2] [5000, 5001, 5002] (.dn (.seq (.reg false [⟨(some 7), none, .i (.mov (.t 0))⟩, ⟨(some 8), none, .i (.mov (.t 1))⟩, ⟨(some 9), none, .i (.bin .geq (.t 7) (.t 8))⟩, ⟨(some 10), none, .i (.mov (.t 9))⟩, ⟨(some 11), (some (10, true)), .i (.mov (.t 0))⟩, ⟨(some 12), (some (10, true)), .i (.mov (.t 2))⟩, ⟨(some 13), (some (10, true)), .i (.bin .leq (.t 11) (.t 12))⟩, ⟨(some 14), none, .i (.pick (.t 10) (.t 13) (.c (.bool false)))⟩, ⟨(some 6), none, .i (.mov (.t 14))⟩]) (.dn .ret))))
def Az9d : AFn := ⟨15, 3, (.seq (.reg false [⟨(some 6), none, .i (.mov (.c (.bool false)))⟩]) Bz9c), [.tmp 6]⟩
theorem czdk : cFn (drV none) Try.prog nzj Az9d := ⟨_, _, Try.func73, rfl, by kernel_rfl, by decide, rfl, by kernel_rfl, by kernel_rfl⟩
def Bz43 : AC := (.kp [0, 1, 5, 9] [5000, 5001] (.dn (.cond (.t 9) .skip (.exit 0))))
def Bz9e : AC := (.kp [0, 1, 5, 19] [5000, 5001] (.dn (.cond (.t 19) (.seq (.reg false [⟨(some 4), none, .i (.mov (.c (.bool false)))⟩]) (.dn .ret)) .skip)))
def Bz9f : AC := (.kp [0, 1, 5] [5000, 5001] (.dn (.reg false [⟨(some 10), none, .i (.mov (.t 5))⟩, ⟨(some 11), none, .i (.bin .add (.t 10) (.c (.int .i64 1)))⟩, ⟨(some 5), none, .i (.mov (.t 11))⟩])))
def Bz44 : AC := (.kp [0, 1, 5] [5000, 5001] (.dn (.seq (.block 1 (.seq (.reg false [⟨(some 12), none, .i (.mov (.t 0))⟩, ⟨(some 13), none, .i (.mov (.t 5))⟩, ⟨(some 14), none, .i (.iad 1 (.t 12) (.t 13))⟩, ⟨(some 15), none, .i (.ld (.t 14))⟩, ⟨(some 16), none, .i (.mov (.t 1))⟩, ⟨(some 17), none, .i (.bin .sub (.t 16) (.c (.int .i64 1)))⟩, ⟨(some 18), none, .call nzj [(.t 15), (.c (.int .i64 0)), (.t 17)]⟩, ⟨(some 19), none, .i (.un .not (.t 18))⟩]) Bz9e)) Bz9f)))
def Bz1w : AC := (.kp [0, 1, 5] [5000, 5001] (.dn (.seq (.seq (.reg false [⟨(some 6), none, .i (.mov (.t 5))⟩, ⟨(some 7), none, .i (.mov (.t 0))⟩, ⟨(some 8), none, .i (.len (.t 7))⟩, ⟨(some 9), none, .i (.bin .lss (.t 6) (.t 8))⟩]) Bz43) Bz44)))
def Bz9g : AC := (.kp [0, 1, 5] [5000, 5001] (.dn (.block 0 (.loop Bz1w))))
def Bz9h : AC := (.kp [0, 1] [5000, 5001] (.dn (.seq (.reg false [⟨(some 20), none, .i (.mov (.t 0))⟩, ⟨(some 21), none, .i (.len (.t 20))⟩, ⟨(some 22), none, .i (.mov (.t 1))⟩, ⟨(some 23), none, .i (.bin .eql (.t 21) (.t 22))⟩, ⟨(some 4), none, .i (.mov (.t 23))⟩]) (.dn .ret))))
def Bz9i : AC := (.kp [0, 1] [5000, 5001] (.dn (.seq (.seq (.reg false [⟨(some 5), none, .i (.mov (.c (.int .i64 0)))⟩]) Bz9g) Bz9h)))
def Az9j : AFn := ⟨24, 2, (.seq (.reg false [⟨(some 4), none, .i (.mov (.c (.bool false)))⟩]) Bz9i), [.tmp 4]⟩
theorem czdl : cFn (drV none) Try.prog nz2l Az9j := ⟨_, _, Try.func74, rfl, by kernel_rfl, by decide, rfl, by kernel_rfl, by kernel_rfl⟩
def Bz9k : AC := (.kp [0, 1, 2] [5000, 5001, 5002] (.dn (.seq (.reg false [⟨(some 7), none, .i (.mov (.t 0))⟩, ⟨(some 8), none, .i (.mov (.t 1))⟩, ⟨(some 9), none, .i (.bin .geq (.t 7) (.t 8))⟩, ⟨(some 10), none, .i (.mov (.t 9))⟩, ⟨(some 11), (some (10, true)), .i (.mov (.t 0))⟩, ⟨(some 12), (some (10, true)), .i (.mov (.t 2))⟩, ⟨(some 13), (some (10, true)), .i (.bin .leq (.t 11) (.t 12))⟩, ⟨(some 14), none, .i (.pick (.t 10) (.t 13) (.c (.bool false)))⟩, ⟨(some 6), none, .i (.mov (.t 14))⟩]) (.dn .ret))))
def Az9l : AFn := ⟨15, 3, (.seq (.reg false [⟨(some 6), none, .i (.mov (.c (.bool false)))⟩]) Bz9k), [.tmp 6]⟩
theorem czdm : cFn (drV none) Try.prog nza Az9l := ⟨_, _, Try.func75, rfl, by kernel_rfl, by decide, rfl, by kernel_rfl, by kernel_rfl⟩
def Bz9m : AC := (.kp [1] [1, 5000] (.dn (.seq (.reg false [⟨(some 3), none, .i (.fad 1 (.t 1))⟩, ⟨(some 4), none, .i (.ld (.t 3))⟩, ⟨(some 5), none, .call nz2s [(.t 4)]⟩, ⟨(some 2), none, .i (.mov (.t 5))⟩]) (.dn .ret))))
def Az9n : AFn := ⟨6, 1, (.seq (.reg false [⟨(some 1), none, .i (.box (.t 0))⟩, ⟨(some 2), none, .i (.mov (.c (.int .i64 0)))⟩]) Bz9m), [.tmp 2]⟩
theorem czdn : cFn (drV none) Try.prog nz14 Az9n := ⟨_, _, Try.func76, rfl, by kernel_rfl, by decide, rfl, by kernel_rfl, by kernel_rfl⟩
def Bz9o : AC := (.kp [0, 1] [5000, 5001] (.dn (.seq (.reg false [⟨(some 5), none, .i (.mov (.t 0))⟩, ⟨(some 6), none, .i (.mov (.t 1))⟩, ⟨(some 7), none, .call nz2t [(.t 5), (.t 6)]⟩, ⟨(some 8), none, .i (.bin .geq (.t 7) (.c (.int .i64 0)))⟩, ⟨(some 4), none, .i (.mov (.t 8))⟩]) (.dn .ret))))
def Az9p : AFn := ⟨9, 2, (.seq (.reg false [⟨(some 4), none, .i (.mov (.c (.bool false)))⟩]) Bz9o), [.tmp 4]⟩
theorem czdo : cFn (drV none) Try.prog nz2m Az9p := ⟨_, _, Try.func77, rfl, by kernel_rfl, by decide, rfl, by kernel_rfl, by kernel_rfl⟩
def Bz9q : AC := (.kp [0, 1] [5000, 5001] (.dn (.seq (.reg true [⟨(some 4), none, .i (.mov (.t 0))⟩, ⟨(some 5), none, .call nz2g [(.t 4)]⟩, ⟨(some 6), none, .i (.fad 0 (.t 1))⟩, ⟨(some 7), none, .i (.ld (.t 6))⟩, ⟨(some 8), none, .i (.bin .neq (.t 5) (.t 7))⟩, ⟨(some 9), none, .i (.mov (.t 8))⟩, ⟨(some 10), (some (9, false)), .i (.mov (.t 0))⟩, ⟨(some 11), (some (9, false)), .i (.fad 0 (.t 1))⟩, ⟨(some 12), (some (9, false)), .i (.ld (.t 11))⟩, ⟨(some 13), (some (9, false)), .i (.bin .sub (.t 12) (.c (.int .i64 1)))⟩, ⟨(some 14), (some (9, false)), .calh nz16 [(.t 10), (.c (.int .i64 0)), (.t 13)]⟩, ⟨(some 15), (some (9, false)), .i (.un .not (.t 14))⟩, ⟨(some 16), none, .i (.pick (.t 9) (.c (.bool true)) (.t 15))⟩, ⟨(some 3), none, .i (.mov (.t 16))⟩]) (.dn .ret))))
def Az9r : AFn := ⟨17, 2, (.seq (.reg false [⟨(some 3), none, .i (.mov (.c (.bool false)))⟩]) Bz9q), [.tmp 3]⟩
theorem czdp : cFn (drV none) Try.prog nz15 Az9r := ⟨_, _, Try.func78, rfl, by kernel_rfl, by decide, rfl, by kernel_rfl, by kernel_rfl⟩
def Bz9s : AC := (.kp [0, 4, 5] [4, 5, 5000, 5001, 5002] (.dn (.seq (.reg false [⟨(some 7), none, .i (.mov (.t 0))⟩, ⟨(some 8), none, .i (.mkf nz18 [(.t 4), (.t 5)])⟩, ⟨(some 9), none, .call nz2u [(.t 7), (.t 8)]⟩, ⟨(some 10), none, .i (.un .not (.t 9))⟩, ⟨(some 6), none, .i (.mov (.t 10))⟩]) (.dn .ret))))
def Az9t : AFn := ⟨11, 3, (.seq (.reg false [⟨(some 4), none, .i (.box (.t 1))⟩, ⟨(some 5), none, .i (.box (.t 2))⟩, ⟨(some 6), none, .i (.mov (.c (.bool false)))⟩]) Bz9s), [.tmp 6]⟩
theorem czdq : cFn (drV none) Try.prog nz16 Az9t := ⟨_, _, Try.func79, rfl, by kernel_rfl, by decide, rfl, by kernel_rfl, by kernel_rfl⟩
def Bz9u : AC := (.kp [1, 3, 8, 9, 10, 11] [3, 5000, 5001, 5002] (.dn (.reg false [⟨(some 15), none, .i (.fad 1 (.t 3))⟩, ⟨(some 16), none, .i (.ld (.t 15))⟩, ⟨(some 17), none, .i (.mov (.t 8))⟩, ⟨(some 18), none, .i (.iad 1 (.t 16) (.t 17))⟩, ⟨(some 19), none, .i (.ld (.t 18))⟩, ⟨(some 20), none, .i (.mov (.t 1))⟩, ⟨(some 21), none, .i (.iad 1 (.t 19) (.t 20))⟩, ⟨(some 22), none, .i (.ld (.t 21))⟩, ⟨(some 1), none, .i (.mov (.t 22))⟩])))
def Bz9v : AC := (.kp [1, 3, 9, 10, 11] [3, 5000, 5001, 5002] (.dn (.reg false [⟨(some 23), none, .i (.bin .add (.t 11) (.c (.int .i64 1)))⟩, ⟨(some 11), none, .i (.mov (.t 23))⟩])))
def Bz45 : AC := (.kp [1, 3, 9, 10, 11] [3, 5000, 5001, 5002] (.dn (.seq (.block 1 (.seq (.reg false [⟨(some 13), none, .i (.iad 1 (.t 9) (.t 11))⟩, ⟨(some 14), none, .i (.ld (.t 13))⟩, ⟨(some 8), none, .i (.mov (.t 14))⟩]) Bz9u)) Bz9v)))
def Bz46 : AC := (.kp [1, 3, 9, 10, 11, 12] [3, 5000, 5001, 5002] (.dn (.seq (.cond (.t 12) .skip (.exit 0)) Bz45)))
def Bz1x : AC := (.kp [1, 3, 9, 10, 11] [3, 5000, 5001, 5002] (.dn (.seq (.reg false [⟨(some 12), none, .i (.bin .lss (.t 11) (.t 10))⟩]) Bz46)))
def Bz9w : AC := (.kp [1, 3, 9, 10, 11] [3, 5000, 5001, 5002] (.dn (.block 0 (.loop Bz1x))))
def Bz9x : AC := (.kp [1] [3, 5000, 5001, 5002] (.dn (.seq (.reg false [⟨(some 24), none, .i (.mov (.t 1))⟩, ⟨(some 6), none, .i (.mov (.t 24))⟩]) (.dn .ret))))
def Bz9y : AC := (.kp [1, 2, 3] [3, 5000, 5001, 5002] (.dn (.seq (.seq (.reg false [⟨(some 9), none, .i (.mov (.t 2))⟩, ⟨(some 10), none, .i (.len (.t 9))⟩, ⟨(some 11), none, .i (.mov (.c (.int .i64 0)))⟩]) Bz9w) Bz9x)))
def Az9z : AFn := ⟨25, 3, (.seq (.reg false [⟨(some 3), none, .i (.box (.t 0))⟩, ⟨(some 6), none, .i (.mov (.c (.int .i64 0)))⟩]) Bz9y), [.tmp 6]⟩
theorem czdr : cFn (drV none) Try.prog nzk Az9z := ⟨_, _, Try.func85, rfl, by kernel_rfl, by decide, rfl, by kernel_rfl, by kernel_rfl⟩
def Bz47 : AC := (.kp [0, 3, 13] [5000] (.dn (.cond (.t 13) (.reg true [⟨(some 14), none, .i (.mov (.t 0))⟩, ⟨(some 15), none, .i (.nilck (.t 14))⟩, ⟨(some 16), none, .i (.fad 0 (.t 15))⟩, ⟨(some 17), none, .i (.ld (.t 16))⟩, ⟨(some 18), none, .i (.mov (.t 0))⟩, ⟨(some 19), none, .i (.nilck (.t 18))⟩, ⟨(some 20), none, .i (.fad 1 (.t 19))⟩, ⟨(some 21), none, .i (.ld (.t 20))⟩, ⟨(some 22), none, .i (.iad 1 (.t 17) (.t 21))⟩, ⟨(some 23), none, .i (.ld (.t 22))⟩, ⟨(some 24), none, .i (.cvi .i64 (.t 23))⟩, ⟨(some 3), none, .i (.mov (.t 24))⟩]) .skip)))
def Bz48 : AC := (.kp [0, 3, 53] [5000] (.dn (.cond (.t 53) (.seq (.reg false [⟨(some 54), none, .i (.mov (.t 3))⟩, ⟨(some 2), none, .i (.mov (.t 54))⟩]) (.dn .ret)) .skip)))
def Bz49 : AC := (.kp [0] [5000] (.dn (.seq (.reg false [⟨(some 55), none, .i (.mov (.t 0))⟩, ⟨(some 56), none, .i (.nilck (.t 55))⟩, ⟨(some 57), none, .i (.fad 2 (.t 56))⟩, ⟨(some 58), none, .i (.ld (.t 57))⟩, ⟨(some 59), none, .i (.bin .shr (.t 58) (.c (.int .u64 40)))⟩, ⟨(some 60), none, .i (.bin .and (.t 59) (.c (.int .u64 255)))⟩, ⟨(some 61), none, .i (.cvi .i64 (.t 60))⟩, ⟨(some 2), none, .i (.mov (.t 61))⟩]) (.dn .ret))))
def Bz4a : AC := (.kp [0, 3] [5000] (.dn (.seq (.seq (.reg true [⟨(some 44), none, .i (.mov (.t 0))⟩, ⟨(some 45), none, .i (.nilck (.t 44))⟩, ⟨(some 46), none, .i (.fad 1 (.t 45))⟩, ⟨(some 47), none, .i (.ld (.t 46))⟩, ⟨(some 48), none, .i (.mov (.t 0))⟩, ⟨(some 49), none, .i (.nilck (.t 48))⟩, ⟨(some 50), none, .i (.fad 0 (.t 49))⟩, ⟨(some 51), none, .i (.ld (.t 50))⟩, ⟨(some 52), none, .i (.len (.t 51))⟩, ⟨(some 53), none, .i (.bin .leq (.t 47) (.t 52))⟩]) Bz48) Bz49)))
def Bz4b : AC := (.kp [0, 3] [5000] (.dn (.seq (.reg false [⟨(some 32), none, .i (.mov (.t 0))⟩, ⟨(some 33), none, .i (.mov (.t 0))⟩, ⟨(some 34), none, .i (.nilck (.t 33))⟩, ⟨(some 35), none, .i (.fad 2 (.t 34))⟩, ⟨(some 36), none, .i (.ld (.t 35))⟩, ⟨(some 37), none, .i (.bin .mul (.t 36) (.c (.int .u64 6364136223846793005)))⟩, ⟨(some 38), none, .i (.mov (.t 3))⟩, ⟨(some 39), none, .i (.cvi .u64 (.t 38))⟩, ⟨(some 40), none, .i (.bin .add (.t 37) (.t 39))⟩, ⟨(some 41), none, .i (.bin .add (.t 40) (.c (.int .u64 1442695040888963407)))⟩, ⟨(some 42), none, .i (.nilck (.t 32))⟩, ⟨(some 43), none, .i (.fad 2 (.t 42))⟩, ⟨none, none, .i (.sto 1 (.t 43) (.t 41))⟩]) Bz4a)))
def Bz4c : AC := (.kp [0, 3] [5000] (.dn (.seq (.reg false [⟨(some 25), none, .i (.mov (.t 0))⟩, ⟨(some 26), none, .i (.nilck (.t 25))⟩, ⟨(some 27), none, .i (.fad 1 (.t 26))⟩, ⟨(some 28), none, .i (.ld (.t 27))⟩, ⟨(some 29), none, .i (.bin .add (.t 28) (.c (.int .i64 1)))⟩, ⟨(some 30), none, .i (.nilck (.t 25))⟩, ⟨(some 31), none, .i (.fad 1 (.t 30))⟩, ⟨none, none, .i (.sto 1 (.t 31) (.t 29))⟩]) Bz4b)))
def Bz4d : AC := (.kp [0, 3] [5000] (.dn (.seq (.seq (.reg true [⟨(some 4), none, .i (.mov (.t 0))⟩, ⟨(some 5), none, .i (.nilck (.t 4))⟩, ⟨(some 6), none, .i (.fad 1 (.t 5))⟩, ⟨(some 7), none, .i (.ld (.t 6))⟩, ⟨(some 8), none, .i (.mov (.t 0))⟩, ⟨(some 9), none, .i (.nilck (.t 8))⟩, ⟨(some 10), none, .i (.fad 0 (.t 9))⟩, ⟨(some 11), none, .i (.ld (.t 10))⟩, ⟨(some 12), none, .i (.len (.t 11))⟩, ⟨(some 13), none, .i (.bin .lss (.t 7) (.t 12))⟩]) Bz47) Bz4c)))
def Bz4e : AC := (.kp [0] [5000] (.dn (.seq (.reg false [⟨(some 3), none, .i (.mov (.c (.int .i64 0)))⟩]) Bz4d)))
def Az4f : AFn := ⟨62, 1, (.seq (.reg false [⟨(some 2), none, .i (.mov (.c (.int .i64 0)))⟩]) Bz4e), [.tmp 2]⟩
theorem czds : cFn (drV none) Try.prog nz17 Az4f := ⟨_, _, Try.func86, rfl, by kernel_rfl, by decide, rfl, by kernel_rfl, by kernel_rfl⟩
def Bza0 : AC := (.kp [3] [5, 5000] (.dn (.seq (.reg false [⟨(some 8), none, .i (.mov (.t 3))⟩, ⟨(some 9), none, .call nz2w [(.t 8)]⟩, ⟨(some 2), none, .i (.mov (.t 9))⟩]) (.dn .ret))))
def Bza1 : AC := (.kp [3] [5, 5000] (.dn (.seq (.reg false [⟨(some 6), none, .i (.mov (.t 3))⟩, ⟨(some 7), none, .call nz2v [(.t 6)]⟩]) Bza0)))
def Bza2 : AC := (.kp [0] [5000] (.dn (.seq (.reg false [⟨(some 4), none, .i (.mov (.t 0))⟩, ⟨(some 5), none, .call nz2p [(.t 4)]⟩, ⟨(some 3), none, .i (.mov (.t 5))⟩]) Bza1)))
def Aza3 : AFn := ⟨10, 1, (.seq (.reg false [⟨(some 2), none, .i (.mov (.c (.slice none 0 0)))⟩]) Bza2), [.tmp 2]⟩
theorem czdt : cFn (drV none) Try.prog nz2n Aza3 := ⟨_, _, Try.func87, rfl, by kernel_rfl, by decide, rfl, by kernel_rfl, by kernel_rfl⟩
def Bza4 : AC := (.kp [0, 1] [5000, 5001] (.dn (.seq (.reg false [⟨(some 5), none, .i (.mov (.t 0))⟩, ⟨(some 6), none, .i (.mov (.t 1))⟩, ⟨(some 7), none, .call nz2x [(.t 5), (.t 6)]⟩, ⟨(some 8), none, .i (.bin .geq (.t 7) (.c (.int .i64 0)))⟩, ⟨(some 4), none, .i (.mov (.t 8))⟩]) (.dn .ret))))
def Aza5 : AFn := ⟨9, 2, (.seq (.reg false [⟨(some 4), none, .i (.mov (.c (.bool false)))⟩]) Bza4), [.tmp 4]⟩
theorem czdu : cFn (drV none) Try.prog nz2o Aza5 := ⟨_, _, Try.func88, rfl, by kernel_rfl, by decide, rfl, by kernel_rfl, by kernel_rfl⟩
def Bza6 : AC := (.kp [0, 4] [5000] (.dn (.cond (.t 4) (.seq (.reg false [⟨(some 2), none, .i (.mov (.c (.slice none 0 0)))⟩]) (.dn .ret)) .skip)))
def Bza7 : AC := (.kp [0] [5000] (.dn (.seq (.reg false [⟨(some 5), none, .i (.bsl 1 false [])⟩, ⟨(some 6), none, .i (.mov (.t 0))⟩, ⟨(some 7), none, .i (.app 1 8 (.t 5) (.t 6))⟩, ⟨(some 2), none, .i (.mov (.t 7))⟩]) (.dn .ret))))
def Bza8 : AC := (.kp [0] [5000] (.dn (.seq (.seq (.reg false [⟨(some 3), none, .i (.mov (.t 0))⟩, ⟨(some 4), none, .i (.isnil false (.t 3))⟩]) Bza6) Bza7)))
def Aza9 : AFn := ⟨8, 1, (.seq (.reg false [⟨(some 2), none, .i (.mov (.c (.slice none 0 0)))⟩]) Bza8), [.tmp 2]⟩
theorem czdv : cFn (drV none) Try.prog nz2p Aza9 := ⟨_, _, Try.func90, rfl, by kernel_rfl, by decide, rfl, by kernel_rfl, by kernel_rfl⟩
def Bz4g : AC := (.kp [0, 2, 4, 5, 6, 7, 26] [2, 4, 8, 17, 23, 36, 43, 93, 5000] (.cond (.t 26) .skip (.exit 0)))
def Bz4h : AC := (.kp [0, 2, 4, 5, 6, 7, 32] [2, 4, 8, 17, 23, 36, 43, 93, 5000] (.cond (.t 32) (.regi false [⟨(some 33), none, .i (.mov (.t 6))⟩, ⟨(some 34), none, .i (.mov (.t 7))⟩, ⟨(some 35), none, .i (.bsl 1 false [(.t 34)])⟩, ⟨(some 36), none, .i (.app 1 8 (.t 33) (.t 35))⟩, ⟨(some 6), none, .i (.mov (.t 36))⟩]) (.regi false [⟨(some 37), none, .i (.mov (.t 6))⟩, ⟨(some 38), none, .i (.mov (.t 0))⟩, ⟨(some 39), none, .i (.fad 0 (.t 4))⟩, ⟨(some 40), none, .i (.ld (.t 39))⟩, ⟨(some 41), none, .call nz0 [(.t 38), (.t 40)]⟩, ⟨(some 42), none, .i (.bsl 1 false [(.t 41)])⟩, ⟨(some 43), none, .i (.app 1 8 (.t 37) (.t 42))⟩, ⟨(some 6), none, .i (.mov (.t 43))⟩])))
def Bz4i : AC := (.kp [0, 2, 4, 5, 6, 7] [2, 4, 8, 17, 23, 36, 43, 93, 5000] (.regi false [⟨(some 27), none, .i (.mov (.t 7))⟩, ⟨(some 28), none, .i (.bin .add (.t 27) (.c (.int .i64 1)))⟩, ⟨(some 7), none, .i (.mov (.t 28))⟩]))
def Bzaa : AC := (.kp [0, 2, 4, 5, 6, 7] [2, 4, 8, 17, 23, 36, 43, 93, 5000] (.seq (.block 1 (.seq (.regi false [⟨(some 29), none, .i (.mov (.t 7))⟩, ⟨(some 30), none, .i (.fad 0 (.t 4))⟩, ⟨(some 31), none, .i (.ld (.t 30))⟩, ⟨(some 32), none, .i (.bin .lss (.t 29) (.t 31))⟩]) Bz4h)) Bz4i))
def Bz1y : AC := (.kp [0, 2, 4, 5, 6, 7] [2, 4, 8, 17, 23, 36, 43, 93, 5000] (.seq (.seq (.regi false [⟨(some 24), none, .i (.mov (.t 7))⟩, ⟨(some 25), none, .i (.mov (.t 5))⟩, ⟨(some 26), none, .i (.bin .lss (.t 24) (.t 25))⟩]) Bz4g) Bzaa))
def Bzab : AC := (.kp [0, 2, 4, 5, 6, 7] [2, 4, 8, 17, 23, 36, 43, 93, 5000] (.block 0 (.loop Bz1y)))
def Bz4j : AC := (.kp [0, 2, 4, 5, 6, 8, 9, 50] [2, 4, 8, 17, 23, 36, 43, 93, 5000] (.cond (.t 50) .skip (.exit 2)))
def Bz4k : AC := (.kp [0, 2, 4, 5, 6, 8, 9, 10, 11, 56] [2, 4, 8, 17, 23, 36, 43, 53, 88, 93, 5000] (.cond (.t 56) .skip (.exit 4)))
def Bz4l : AC := (.kp [0, 2, 4, 5, 6, 8, 9, 10, 11, 12, 13, 14, 72] [2, 4, 8, 17, 23, 36, 43, 53, 88, 93, 5000] (.cond (.t 72) .skip (.exit 6)))
def Bzac : AC := (.kp [0, 2, 4, 5, 6, 8, 9, 10, 11, 12, 13, 14, 15, 83] [2, 4, 8, 17, 23, 36, 43, 53, 88, 93, 5000] (.cond (.t 83) (.regi false [⟨(some 84), none, .i (.mov (.t 15))⟩, ⟨(some 13), none, .i (.mov (.t 84))⟩]) .skip))
def Bzad : AC := (.kp [0, 2, 4, 5, 6, 8, 9, 10, 11, 12, 13, 14, 15] [2, 4, 8, 17, 23, 36, 43, 53, 88, 93, 5000] (.seq (.regi false [⟨(some 78), none, .i (.mov (.t 6))⟩, ⟨(some 79), none, .i (.mov (.t 15))⟩, ⟨(some 80), none, .i (.iad 1 (.t 78) (.t 79))⟩, ⟨(some 81), none, .i (.ld (.t 80))⟩, ⟨(some 82), none, .i (.mov (.t 12))⟩, ⟨(some 83), none, .i (.bin .eql (.t 81) (.t 82))⟩]) Bzac))
def Bzae : AC := (.kp [0, 2, 4, 5, 6, 8, 9, 10, 11, 12, 13, 14] [2, 4, 8, 17, 23, 36, 43, 53, 88, 93, 5000] (.regi false [⟨(some 73), none, .i (.mov (.t 14))⟩, ⟨(some 74), none, .i (.bin .add (.t 73) (.c (.int .i64 1)))⟩, ⟨(some 14), none, .i (.mov (.t 74))⟩]))
def Bzaf : AC := (.kp [0, 2, 4, 5, 6, 8, 9, 10, 11, 12, 13, 14] [2, 4, 8, 17, 23, 36, 43, 53, 88, 93, 5000] (.seq (.block 7 (.seq (.regi false [⟨(some 75), none, .i (.mov (.t 0))⟩, ⟨(some 76), none, .i (.mov (.t 5))⟩, ⟨(some 77), none, .call nz0 [(.t 75), (.t 76)]⟩, ⟨(some 15), none, .i (.mov (.t 77))⟩]) Bzad)) Bzae))
def Bz1z : AC := (.kp [0, 2, 4, 5, 6, 8, 9, 10, 11, 12, 13, 14] [2, 4, 8, 17, 23, 36, 43, 53, 88, 93, 5000] (.seq (.seq (.regi false [⟨(some 71), none, .i (.mov (.t 14))⟩, ⟨(some 72), none, .i (.bin .lss (.t 71) (.c (.int .i64 4)))⟩]) Bz4l) Bzaf))
def Bzag : AC := (.kp [0, 2, 4, 5, 6, 8, 9, 10, 11, 12, 13, 14] [2, 4, 8, 17, 23, 36, 43, 53, 88, 93, 5000] (.block 6 (.loop Bz1z)))
def Bzah : AC := (.kp [0, 2, 4, 5, 6, 8, 9, 10, 11, 13] [2, 4, 8, 17, 23, 36, 43, 53, 88, 93, 5000] (.regi false [⟨(some 85), none, .i (.mov (.t 10))⟩, ⟨(some 86), none, .i (.mov (.t 13))⟩, ⟨(some 87), none, .i (.bsl 1 false [(.t 86)])⟩, ⟨(some 88), none, .i (.app 1 8 (.t 85) (.t 87))⟩, ⟨(some 10), none, .i (.mov (.t 88))⟩]))
def Bzai : AC := (.kp [0, 2, 4, 5, 6, 8, 9, 10, 11, 12, 13] [2, 4, 8, 17, 23, 36, 43, 53, 88, 93, 5000] (.seq (.seq (.regi false [⟨(some 14), none, .i (.mov (.c (.int .i64 0)))⟩]) Bzag) Bzah))
def Bzaj : AC := (.kp [0, 2, 4, 5, 6, 8, 9, 10, 11, 12] [2, 4, 8, 17, 23, 36, 43, 53, 88, 93, 5000] (.seq (.regi false [⟨(some 70), none, .i (.mov (.t 12))⟩, ⟨(some 13), none, .i (.mov (.t 70))⟩]) Bzai))
def Bzak : AC := (.kp [0, 2, 4, 5, 6, 8, 9, 10, 11] [2, 4, 8, 17, 23, 36, 43, 53, 88, 93, 5000] (.regi false [⟨(some 57), none, .i (.mov (.t 11))⟩, ⟨(some 58), none, .i (.bin .add (.t 57) (.c (.int .i64 1)))⟩, ⟨(some 11), none, .i (.mov (.t 58))⟩]))
def Bzal : AC := (.kp [0, 2, 4, 5, 6, 8, 9, 10, 11] [2, 4, 8, 17, 23, 36, 43, 53, 88, 93, 5000] (.seq (.block 5 (.seq (.regi true [⟨(some 59), none, .r [5000] (.fad 1 (.t 4))⟩, ⟨(some 60), none, .r [5000] (.ld (.t 59))⟩, ⟨(some 61), none, .i (.mov (.t 9))⟩, ⟨(some 62), none, .r [5000] (.iad 1 (.t 60) (.t 61))⟩, ⟨(some 63), none, .r [5000] (.ld (.t 62))⟩, ⟨(some 64), none, .i (.mov (.t 6))⟩, ⟨(some 65), none, .i (.mov (.t 11))⟩, ⟨(some 66), none, .r [5000] (.iad 1 (.t 64) (.t 65))⟩, ⟨(some 67), none, .r [5000] (.ld (.t 66))⟩, ⟨(some 68), none, .r [5000] (.iad 1 (.t 63) (.t 67))⟩, ⟨(some 69), none, .r [5000] (.ld (.t 68))⟩, ⟨(some 12), none, .i (.mov (.t 69))⟩]) Bzaj)) Bzak))
def Bz20 : AC := (.kp [0, 2, 4, 5, 6, 8, 9, 10, 11] [2, 4, 8, 17, 23, 36, 43, 53, 88, 93, 5000] (.seq (.seq (.regi false [⟨(some 54), none, .i (.mov (.t 11))⟩, ⟨(some 55), none, .i (.mov (.t 5))⟩, ⟨(some 56), none, .i (.bin .lss (.t 54) (.t 55))⟩]) Bz4k) Bzal))
def Bzam : AC := (.kp [0, 2, 4, 5, 6, 8, 9, 10, 11] [2, 4, 8, 17, 23, 36, 43, 53, 88, 93, 5000] (.block 4 (.loop Bz20)))
def Bzan : AC := (.kp [0, 2, 4, 5, 6, 8, 9, 10] [2, 4, 8, 17, 23, 36, 43, 53, 88, 93, 5000] (.gh (.regi false [⟨(some 89), none, .i (.fad 1 (.t 8))⟩, ⟨(some 90), none, .i (.ld (.t 89))⟩, ⟨(some 91), none, .i (.mov (.t 10))⟩, ⟨(some 92), none, .i (.bsl 1 true [(.t 91)])⟩, ⟨(some 93), none, .i (.app 1 24 (.t 90) (.t 92))⟩, ⟨(some 94), none, .i (.fad 1 (.t 8))⟩, ⟨none, none, .i (.sto 1 (.t 94) (.t 93))⟩])))
def Bzao : AC := (.kp [0, 2, 4, 5, 6, 8, 9, 10] [2, 4, 8, 17, 23, 36, 43, 53, 88, 93, 5000] (.seq (.seq (.regi false [⟨(some 11), none, .i (.mov (.c (.int .i64 0)))⟩]) Bzam) Bzan))
def Bzap : AC := (.kp [0, 2, 4, 5, 6, 8, 9] [2, 4, 8, 17, 23, 36, 43, 93, 5000] (.regi false [⟨(some 51), none, .i (.mov (.t 9))⟩, ⟨(some 52), none, .i (.bin .add (.t 51) (.c (.int .i64 1)))⟩, ⟨(some 9), none, .i (.mov (.t 52))⟩]))
def Bzaq : AC := (.kp [0, 2, 4, 5, 6, 8, 9] [2, 4, 8, 17, 23, 36, 43, 93, 5000] (.seq (.block 3 (.seq (.regi false [⟨(some 53), none, .i (.bsl 1 false [])⟩, ⟨(some 10), none, .i (.mov (.t 53))⟩]) Bzao)) Bzap))
def Bz21 : AC := (.kp [0, 2, 4, 5, 6, 8, 9] [2, 4, 8, 17, 23, 36, 43, 93, 5000] (.seq (.seq (.regi false [⟨(some 46), none, .i (.mov (.t 9))⟩, ⟨(some 47), none, .i (.fad 1 (.t 4))⟩, ⟨(some 48), none, .i (.ld (.t 47))⟩, ⟨(some 49), none, .i (.len (.t 48))⟩, ⟨(some 50), none, .i (.bin .lss (.t 46) (.t 49))⟩]) Bz4j) Bzaq))
def Bzar : AC := (.kp [0, 2, 4, 5, 6, 8, 9] [2, 4, 8, 17, 23, 36, 43, 93, 5000] (.ad 8 1 93 1 (.block 2 (.loop Bz21))))
def Bzas : AC := (.kp [2, 6, 8] [2, 4, 8, 17, 23, 36, 43, 93, 5000] (.seq (.regi true [⟨(some 95), none, .r [5000] (.lda 2 (.t 8))⟩, ⟨(some 96), none, .i (.mov (.t 6))⟩, ⟨(some 97), none, .call nz2z [(.t 96)]⟩, ⟨none, none, .i (.sto 2 (.t 2) (.t 95))⟩, ⟨(some 3), none, .i (.mov (.t 97))⟩]) .ret))
def Bzat : AC := (.kp [0, 2, 4, 5, 6, 8] [2, 4, 8, 17, 23, 36, 43, 93, 5000] (.seq (.seq (.regi false [⟨(some 9), none, .i (.mov (.c (.int .i64 0)))⟩]) Bzar) Bzas))
def Bzau : AC := (.kp [0, 2, 4, 5, 6] [2, 4, 8, 17, 23, 36, 43, 93, 5000] (.seq (.regi false [⟨(some 44), none, .i (.mov (.t 5))⟩, ⟨(some 45), none, .i (.bst [.int .i64 0, .slice none 0 0] [(0, 1, (.t 44))])⟩, ⟨(some 8), none, .i (.new [.int .i64 0, .slice none 0 0])⟩, ⟨none, none, .i (.sto 2 (.t 8) (.t 45))⟩]) Bzat))
def Bzav : AC := (.kp [0, 2, 4, 5, 6] [2, 4, 8, 17, 23, 36, 43, 93, 5000] (.seq (.seq (.regi false [⟨(some 7), none, .i (.mov (.c (.int .i64 0)))⟩]) Bzab) Bzau))
def Bzaw : AC := (.kp [0, 2, 4, 5] [2, 4, 8, 17, 93, 5000] (.seq (.regi false [⟨(some 23), none, .i (.bsl 1 false [])⟩, ⟨(some 6), none, .i (.mov (.t 23))⟩]) Bzav))
def Bzax : AC := (.kp [0, 2, 4] [2, 4, 8, 17, 93, 5000] (.seq (.regi true [⟨(some 18), none, .r [5000] (.fad 0 (.t 4))⟩, ⟨(some 19), none, .r [5000] (.ld (.t 18))⟩, ⟨(some 20), none, .i (.mov (.t 0))⟩, ⟨(some 21), none, .calm [5000] nz0 [(.t 20), (.c (.int .i64 4))]⟩, ⟨(some 22), none, .i (.bin .add (.t 19) (.t 21))⟩, ⟨(some 5), none, .i (.mov (.t 22))⟩]) Bzaw))
def Bzay : AC := (.kp [0, 2] [2, 4, 8, 17, 93, 5000] (.seq (.regi false [⟨(some 16), none, .i (.mov (.t 0))⟩, ⟨(some 17), none, .call nzb [(.t 16), (.c (.int .i64 3))]⟩, ⟨(some 4), none, .i (.new [.int .i64 0, .slice none 0 0])⟩, ⟨none, none, .i (.sto 2 (.t 4) (.t 17))⟩]) Bzax))
def Az4m : AFn := ⟨98, 1, (.seq (.regi false [⟨(some 2), none, .i (.new [.int .i64 0, .slice none 0 0])⟩, ⟨(some 3), none, .i (.mov (.c (.slice none 0 0)))⟩]) Bzay), [.cell (some 2) 2, .tmp 3]⟩
theorem czdw : cFn (drV (some ([5000], [nz0]))) Try.prog nz2q Az4m := ⟨_, _, Try.func101, rfl, by kernel_rfl, by decide, rfl, by kernel_rfl, by kernel_rfl⟩
def Bzaz : AC := (.kp [0, 2, 3, 8] [2, 3, 6, 10, 61, 73, 77, 5000, 901] (.cond (.t 8) (.regi false [⟨(some 9), none, .i (.mov (.t 0))⟩, ⟨(some 10), none, .call nzb [(.t 9), (.c (.int .i64 10))]⟩, ⟨none, none, .i (.sto 2 (.t 3) (.t 10))⟩]) .skip))
def Bzq : AC := (.kp [2, 3, 75] [2, 3, 6, 10, 61, 73, 77, 5000, 901] (.cond (.t 75) (.regi false [⟨(some 77), none, .i (.bsl 1 true [])⟩, ⟨(some 78), none, .i (.fad 1 (.t 3))⟩, ⟨none, none, .i (.sto 1 (.t 78) (.t 77))⟩]) .skip))
def Bz8 : AC := (.kp [2, 3, 17, 52] [2, 3, 6, 10, 61, 73, 77, 5000, 901] (.cond (.t 52) (.regi true [⟨(some 54), none, .i (.fad 1 (.t 3))⟩, ⟨(some 55), none, .i (.ld (.t 54))⟩, ⟨(some 56), none, .i (.fad 1 (.t 3))⟩, ⟨(some 57), none, .i (.ld (.t 56))⟩, ⟨(some 58), none, .i (.iad 1 (.t 57) (.c (.int .i64 0)))⟩, ⟨(some 59), none, .i (.ld (.t 58))⟩, ⟨(some 63), none, .i (.fad 1 (.t 3))⟩, ⟨(some 64), none, .i (.ld (.t 63))⟩, ⟨(some 65), none, .i (.iad 1 (.t 64) (.c (.int .i64 0)))⟩, ⟨(some 66), none, .i (.ld (.t 65))⟩, ⟨(some 67), none, .i (.fad 1 (.t 3))⟩, ⟨(some 68), none, .i (.ld (.t 67))⟩, ⟨(some 69), none, .i (.iad 1 (.t 68) (.c (.int .i64 0)))⟩, ⟨(some 70), none, .i (.ld (.t 69))⟩, ⟨(some 60), none, .i (.bslm [62, 71] 1 [(.t 59)])⟩, ⟨(some 61), none, .i (.appn [60] 1 24 (.t 55) (.t 60))⟩, ⟨(some 62), none, .i (.bslm [71, 60] 1 [])⟩, ⟨(some 71), none, .i (.bslm [60] 1 [(.t 66), (.t 70)])⟩, ⟨(some 72), none, .i (.app 1 24 (.t 62) (.t 71))⟩, ⟨(some 73), none, .i (.app 1 24 (.t 61) (.t 72))⟩, ⟨(some 74), none, .i (.fad 1 (.t 3))⟩, ⟨none, none, .i (.sto 1 (.t 74) (.t 73))⟩]) (.seq (.regi false [⟨(some 76), none, .i (.bin .eql (.t 17) (.c (.int .i64 4)))⟩, ⟨(some 75), none, .i (.mov (.t 76))⟩]) Bzq)))
def Bz5 : AC := (.kp [0, 2, 3, 4, 17, 39] [2, 3, 6, 10, 61, 73, 77, 5000, 901] (.gh (.cond (.t 39) (.regi true [⟨(some 41), none, .r [5000, 49] (.fad 1 (.t 3))⟩, ⟨(some 42), none, .r [5000, 49] (.ld (.t 41))⟩, ⟨(some 43), none, .i (.mov (.t 4))⟩, ⟨(some 44), none, .r [5000, 49] (.iad 1 (.t 42) (.t 43))⟩, ⟨(some 45), none, .r [5000, 49] (.ld (.t 44))⟩, ⟨(some 46), none, .i (.mov (.t 0))⟩, ⟨(some 47), none, .r [5000, 49] (.fad 0 (.t 3))⟩, ⟨(some 48), none, .r [5000, 49] (.ld (.t 47))⟩, ⟨(some 49), none, .i (.bsl 1 false [(.c (.int .i64 (-1))), (.t 48)])⟩, ⟨(some 50), none, .calm [5000, 49] nzl [(.t 46), (.t 49)]⟩, ⟨(some 51), none, .r [5000, 49] (.iad 1 (.t 45) (.c (.int .i64 0)))⟩, ⟨none, none, .i (.sto 1 (.t 51) (.t 50))⟩]) (.seq (.regi false [⟨(some 53), none, .i (.bin .eql (.t 17) (.c (.int .i64 3)))⟩, ⟨(some 52), none, .i (.mov (.t 53))⟩]) Bz8))))
def Bz3 : AC := (.kp [0, 2, 3, 4, 17, 27] [2, 3, 6, 10, 61, 73, 77, 5000, 901] (.cond (.t 27) (.regi true [⟨(some 29), none, .r [5000, 49] (.fad 1 (.t 3))⟩, ⟨(some 30), none, .r [5000, 49] (.ld (.t 29))⟩, ⟨(some 31), none, .i (.mov (.t 4))⟩, ⟨(some 32), none, .r [5000, 49] (.fad 1 (.t 3))⟩, ⟨(some 33), none, .r [5000, 49] (.ld (.t 32))⟩, ⟨(some 34), none, .i (.mov (.t 4))⟩, ⟨(some 35), none, .r [5000, 49] (.iad 1 (.t 33) (.t 34))⟩, ⟨(some 36), none, .r [5000, 49] (.ld (.t 35))⟩, ⟨(some 37), none, .i (.slcr 1 (.t 36) (some (.c (.int .i64 1))) none)⟩, ⟨(some 38), none, .r [5000, 49] (.iad 1 (.t 30) (.t 31))⟩, ⟨none, none, .i (.sto 1 (.t 38) (.t 37))⟩]) (.seq (.regi false [⟨(some 40), none, .i (.bin .eql (.t 17) (.c (.int .i64 2)))⟩, ⟨(some 39), none, .i (.mov (.t 40))⟩]) Bz5)))
def Bz1 : AC := (.kp [0, 2, 3, 4, 17, 18] [2, 3, 6, 10, 61, 73, 77, 5000, 901] (.cond (.t 18) (.regi false [⟨(some 20), none, .i (.mov (.t 0))⟩, ⟨(some 21), none, .i (.fad 0 (.t 3))⟩, ⟨(some 22), none, .i (.ld (.t 21))⟩, ⟨(some 23), none, .i (.bin .add (.t 22) (.c (.int .i64 1)))⟩, ⟨(some 24), none, .i (.bsl 1 false [(.c (.int .i64 0)), (.c (.int .i64 (-1))), (.t 23), (.c (.int .i64 11))])⟩, ⟨(some 25), none, .call nzl [(.t 20), (.t 24)]⟩, ⟨(some 26), none, .i (.fad 0 (.t 3))⟩, ⟨none, none, .i (.sto 1 (.t 26) (.t 25))⟩]) (.seq (.regi false [⟨(some 28), none, .i (.bin .eql (.t 17) (.c (.int .i64 1)))⟩, ⟨(some 27), none, .i (.mov (.t 28))⟩]) Bz3)))
def Bz2 : AC := (.kp [0, 2, 3, 4, 17] [2, 3, 6, 10, 61, 73, 77, 5000, 901] (.block 0 (.seq (.regi false [⟨(some 19), none, .i (.bin .eql (.t 17) (.c (.int .i64 0)))⟩, ⟨(some 18), none, .i (.mov (.t 19))⟩]) Bz1)))
def Bzr : AC := (.kp [2, 3] [2, 3, 6, 10, 61, 73, 77, 5000, 901] (.gh (.seq (.regi false [⟨(some 79), none, .i (.lda 2 (.t 3))⟩, ⟨none, none, .i (.sto 2 (.t 2) (.t 79))⟩]) .ret)))
def Bz4n : AC := (.kp [0, 2, 3, 4] [2, 3, 6, 10, 61, 73, 77, 5000, 901] (.seq (.seq (.regi false [⟨(some 16), none, .i (.mov (.t 0))⟩, ⟨(some 17), none, .call nz0 [(.t 16), (.c (.int .i64 24))]⟩]) Bz2) Bzr))
def Bz4o : AC := (.kp [0, 2, 3] [2, 3, 6, 10, 61, 73, 77, 5000, 901] (.seq (.regi false [⟨(some 11), none, .i (.mov (.t 0))⟩, ⟨(some 12), none, .i (.fad 1 (.t 3))⟩, ⟨(some 13), none, .i (.ld (.t 12))⟩, ⟨(some 14), none, .i (.len (.t 13))⟩, ⟨(some 15), none, .call nz0 [(.t 11), (.t 14)]⟩, ⟨(some 4), none, .i (.mov (.t 15))⟩]) Bz4n))
def Bzb0 : AC := (.kp [0, 2, 3] [2, 3, 6, 10, 61, 73, 77, 5000, 901] (.seq (.seq (.regi false [⟨(some 7), none, .i (.mov (.t 0))⟩, ⟨(some 8), none, .call nz4 [(.t 7), (.c (.int .i64 8))]⟩]) Bzaz) Bz4o))
def Bzb1 : AC := (.kp [0, 2] [2, 3, 6, 10, 61, 73, 77, 5000, 901] (.seq (.regi false [⟨(some 5), none, .i (.mov (.t 0))⟩, ⟨(some 6), none, .call nzb [(.t 5), (.c (.int .i64 6))]⟩, ⟨(some 3), none, .i (.new [.int .i64 0, .slice none 0 0])⟩, ⟨none, none, .i (.sto 2 (.t 3) (.t 6))⟩]) Bzb0))
def Az9 : AFn := ⟨80, 1, (.seq (.regi false [⟨(some 2), none, .i (.new [.int .i64 0, .slice none 0 0])⟩]) Bzb1), [.cell (some 2) 2]⟩
theorem czdx : cFn (drW (some ([5000, 49], [nzl]))) Try.prog nz2r Az9 := ⟨_, _, Try.func102, rfl, by kernel_rfl, by decide, rfl, by kernel_rfl, by kernel_rfl⟩
def Bz4p : AC := (.kp [0, 1, 4, 5, 23] [4, 7, 87, 5000, 5001] (.cond (.t 23) (.regi false [⟨(some 24), none, .i (.mov (.t 1))⟩, ⟨(some 25), none, .i (.mov (.t 0))⟩, ⟨(some 26), none, .call nz0 [(.t 25), (.c (.int .i64 3))]⟩, ⟨(some 27), none, .i (.bin .add (.c (.int .i64 3)) (.t 26))⟩, ⟨(some 28), none, .call nz30 [(.t 24), (.t 27)]⟩, ⟨(some 5), none, .i (.mov (.t 28))⟩]) .skip))
def Bz4q : AC := (.kp [0, 4, 5, 6, 38] [4, 7, 87, 5000, 5001] (.cond (.t 38) (.regi false [⟨(some 6), none, .i (.mov (.c (.int .i64 2)))⟩]) .skip))
def Bz4r : AC := (.kp [0, 4, 5, 6, 7, 8, 43] [4, 7, 87, 5000, 5001] (.cond (.t 43) .skip (.exit 0)))
def Bz4s : AC := (.kp [0, 4, 5, 6, 7, 8, 9, 10, 11, 51] [4, 7, 46, 82, 87, 5000, 5001] (.cond (.t 51) .skip (.exit 2)))
def Bzb2 : AC := (.kp [0, 4, 5, 6, 7, 8, 9, 10, 11, 12, 68] [4, 7, 46, 82, 87, 5000, 5001] (.cond (.t 68) (.regi false [⟨(some 69), none, .i (.mov (.t 11))⟩, ⟨(some 12), none, .i (.mov (.t 69))⟩]) .skip))
def Bzb3 : AC := (.kp [0, 4, 5, 6, 7, 8, 9, 10, 11, 12, 74] [4, 7, 46, 82, 87, 5000, 5001] (.cond (.t 74) (.regi false [⟨(some 75), none, .i (.mov (.t 5))⟩, ⟨(some 76), none, .i (.bin .sub (.t 75) (.c (.int .i64 1)))⟩, ⟨(some 77), none, .i (.mov (.t 11))⟩, ⟨(some 78), none, .i (.bin .sub (.t 76) (.t 77))⟩, ⟨(some 12), none, .i (.mov (.t 78))⟩]) .skip))
def Bz4t : AC := (.kp [0, 4, 5, 6, 7, 8, 9, 10, 11, 12, 70] [4, 7, 46, 82, 87, 5000, 5001] (.cond (.t 70) (.seq (.regi false [⟨(some 72), none, .i (.mov (.t 0))⟩, ⟨(some 73), none, .call nz4 [(.t 72), (.c (.int .i64 3))]⟩, ⟨(some 74), none, .i (.un .not (.t 73))⟩]) Bzb3) .skip))
def Bz22 : AC := (.kp [0, 4, 5, 6, 7, 8, 9, 10, 11, 12, 57, 64] [4, 7, 46, 82, 87, 5000, 5001] (.cond (.t 64) (.seq (.regi false [⟨(some 66), none, .i (.mov (.t 0))⟩, ⟨(some 67), none, .call nz4 [(.t 66), (.c (.int .i64 4))]⟩, ⟨(some 68), none, .i (.un .not (.t 67))⟩]) Bzb2) (.seq (.regi false [⟨(some 71), none, .i (.bin .eql (.t 57) (.c (.int .i64 2)))⟩, ⟨(some 70), none, .i (.mov (.t 71))⟩]) Bz4t)))
def Bzs : AC := (.kp [0, 4, 5, 6, 7, 8, 9, 10, 11, 12, 57, 58] [4, 7, 46, 82, 87, 5000, 5001] (.cond (.t 58) (.regi false [⟨(some 60), none, .i (.mov (.t 11))⟩, ⟨(some 61), none, .i (.bin .add (.t 60) (.c (.int .i64 1)))⟩, ⟨(some 62), none, .i (.mov (.t 5))⟩, ⟨(some 63), none, .i (.bin .rem (.t 61) (.t 62))⟩, ⟨(some 12), none, .i (.mov (.t 63))⟩]) (.seq (.regi false [⟨(some 65), none, .i (.bin .eql (.t 57) (.c (.int .i64 1)))⟩, ⟨(some 64), none, .i (.mov (.t 65))⟩]) Bz22)))
def Bzt : AC := (.kp [0, 4, 5, 6, 7, 8, 9, 10, 11, 12, 57] [4, 7, 46, 82, 87, 5000, 5001] (.block 4 (.seq (.regi false [⟨(some 59), none, .i (.bin .eql (.t 57) (.c (.int .i64 0)))⟩, ⟨(some 58), none, .i (.mov (.t 59))⟩]) Bzs)))
def Bzb4 : AC := (.kp [0, 4, 5, 6, 7, 8, 9, 10, 11, 12] [4, 7, 46, 82, 87, 5000, 5001] (.regi false [⟨(some 79), none, .i (.mov (.t 9))⟩, ⟨(some 80), none, .i (.mov (.t 12))⟩, ⟨(some 81), none, .i (.bsl 1 false [(.t 80)])⟩, ⟨(some 82), none, .i (.app 1 8 (.t 79) (.t 81))⟩, ⟨(some 9), none, .i (.mov (.t 82))⟩]))
def Bzb5 : AC := (.kp [0, 4, 5, 6, 7, 8, 9, 10, 11, 12] [4, 7, 46, 82, 87, 5000, 5001] (.seq (.seq (.regi false [⟨(some 57), none, .i (.mov (.t 10))⟩]) Bzt) Bzb4))
def Bzb6 : AC := (.kp [0, 4, 5, 6, 7, 8, 9, 10, 11] [4, 7, 46, 82, 87, 5000, 5001] (.regi false [⟨(some 52), none, .i (.mov (.t 11))⟩, ⟨(some 53), none, .i (.bin .add (.t 52) (.c (.int .i64 1)))⟩, ⟨(some 11), none, .i (.mov (.t 53))⟩]))
def Bz4u : AC := (.kp [0, 4, 5, 6, 7, 8, 9, 10, 11] [4, 7, 46, 82, 87, 5000, 5001] (.seq (.block 3 (.seq (.regi false [⟨(some 54), none, .i (.mov (.t 0))⟩, ⟨(some 55), none, .i (.mov (.t 5))⟩, ⟨(some 56), none, .call nz0 [(.t 54), (.t 55)]⟩, ⟨(some 12), none, .i (.mov (.t 56))⟩]) Bzb5)) Bzb6))
def Bz23 : AC := (.kp [0, 4, 5, 6, 7, 8, 9, 10, 11] [4, 7, 46, 82, 87, 5000, 5001] (.seq (.seq (.regi false [⟨(some 49), none, .i (.mov (.t 11))⟩, ⟨(some 50), none, .i (.mov (.t 5))⟩, ⟨(some 51), none, .i (.bin .lss (.t 49) (.t 50))⟩]) Bz4s) Bz4u))
def Bzb7 : AC := (.kp [0, 4, 5, 6, 7, 8, 9, 10, 11] [4, 7, 46, 82, 87, 5000, 5001] (.block 2 (.loop Bz23)))
def Bzb8 : AC := (.kp [0, 4, 5, 6, 7, 8, 9] [4, 7, 46, 82, 87, 5000, 5001] (.gh (.regi false [⟨(some 83), none, .i (.fad 1 (.t 7))⟩, ⟨(some 84), none, .i (.ld (.t 83))⟩, ⟨(some 85), none, .i (.mov (.t 9))⟩, ⟨(some 86), none, .i (.bsl 1 true [(.t 85)])⟩, ⟨(some 87), none, .i (.app 1 24 (.t 84) (.t 86))⟩, ⟨(some 88), none, .i (.fad 1 (.t 7))⟩, ⟨none, none, .i (.sto 1 (.t 88) (.t 87))⟩])))
def Bzb9 : AC := (.kp [0, 4, 5, 6, 7, 8, 9, 10] [4, 7, 46, 82, 87, 5000, 5001] (.seq (.seq (.regi false [⟨(some 11), none, .i (.mov (.c (.int .i64 0)))⟩]) Bzb7) Bzb8))
def Bzba : AC := (.kp [0, 4, 5, 6, 7, 8, 9] [4, 7, 46, 82, 87, 5000, 5001] (.seq (.regi false [⟨(some 47), none, .i (.mov (.t 0))⟩, ⟨(some 48), none, .call nz0 [(.t 47), (.c (.int .i64 5))]⟩, ⟨(some 10), none, .i (.mov (.t 48))⟩]) Bzb9))
def Bzbb : AC := (.kp [0, 4, 5, 6, 7, 8] [4, 7, 87, 5000, 5001] (.regi false [⟨(some 44), none, .i (.mov (.t 8))⟩, ⟨(some 45), none, .i (.bin .add (.t 44) (.c (.int .i64 1)))⟩, ⟨(some 8), none, .i (.mov (.t 45))⟩]))
def Bz4v : AC := (.kp [0, 4, 5, 6, 7, 8] [4, 7, 87, 5000, 5001] (.seq (.block 1 (.seq (.regi false [⟨(some 46), none, .i (.bsl 1 false [])⟩, ⟨(some 9), none, .i (.mov (.t 46))⟩]) Bzba)) Bzbb))
def Bz24 : AC := (.kp [0, 4, 5, 6, 7, 8] [4, 7, 87, 5000, 5001] (.seq (.seq (.regi false [⟨(some 41), none, .i (.mov (.t 8))⟩, ⟨(some 42), none, .i (.mov (.t 6))⟩, ⟨(some 43), none, .i (.bin .lss (.t 41) (.t 42))⟩]) Bz4r) Bz4v))
def Bzbc : AC := (.kp [0, 4, 5, 6, 7, 8] [4, 7, 87, 5000, 5001] (.ad 7 1 87 1 (.block 0 (.loop Bz24))))
def Bzbd : AC := (.kp [4, 7] [4, 7, 87, 5000, 5001] (.seq (.regi false [⟨(some 89), none, .i (.lda 2 (.t 7))⟩, ⟨none, none, .i (.sto 2 (.t 4) (.t 89))⟩]) .ret))
def Bzbe : AC := (.kp [0, 4, 5, 6, 7] [4, 7, 87, 5000, 5001] (.seq (.seq (.regi false [⟨(some 8), none, .i (.mov (.c (.int .i64 0)))⟩]) Bzbc) Bzbd))
def Bzu : AC := (.kp [0, 4, 5, 6] [4, 7, 87, 5000, 5001] (.seq (.regi false [⟨(some 39), none, .i (.mov (.t 5))⟩, ⟨(some 40), none, .i (.bst [.int .i64 0, .slice none 0 0] [(0, 1, (.t 39))])⟩, ⟨(some 7), none, .i (.new [.int .i64 0, .slice none 0 0])⟩, ⟨none, none, .i (.sto 2 (.t 7) (.t 40))⟩]) Bzbe))
def Bz4w : AC := (.kp [0, 4, 5, 6] [4, 7, 87, 5000, 5001] (.seq (.seq (.regi false [⟨(some 32), none, .i (.mov (.t 6))⟩, ⟨(some 33), none, .i (.bin .eql (.t 32) (.c (.int .i64 1)))⟩, ⟨(some 34), none, .i (.mov (.t 33))⟩, ⟨(some 35), (some (34, true)), .i (.mov (.t 0))⟩, ⟨(some 36), (some (34, true)), .call nz4 [(.t 35), (.c (.int .i64 3))]⟩, ⟨(some 37), (some (34, true)), .i (.un .not (.t 36))⟩, ⟨(some 38), none, .i (.pick (.t 34) (.t 37) (.c (.bool false)))⟩]) Bz4q) Bzu))
def Bzc : AC := (.kp [0, 4, 5] [4, 7, 87, 5000, 5001] (.seq (.regi false [⟨(some 29), none, .i (.mov (.t 0))⟩, ⟨(some 30), none, .call nz0 [(.t 29), (.c (.int .i64 3))]⟩, ⟨(some 31), none, .i (.bin .add (.c (.int .i64 1)) (.t 30))⟩, ⟨(some 6), none, .i (.mov (.t 31))⟩]) Bz4w))
def Bz4x : AC := (.kp [0, 1, 4, 5] [4, 7, 87, 5000, 5001] (.seq (.seq (.regi false [⟨(some 17), none, .i (.mov (.t 5))⟩, ⟨(some 18), none, .i (.bin .lss (.t 17) (.c (.int .i64 3)))⟩, ⟨(some 19), none, .i (.mov (.t 18))⟩, ⟨(some 20), (some (19, true)), .i (.mov (.t 0))⟩, ⟨(some 21), (some (19, true)), .call nz4 [(.t 20), (.c (.int .i64 3))]⟩, ⟨(some 22), (some (19, true)), .i (.un .not (.t 21))⟩, ⟨(some 23), none, .i (.pick (.t 19) (.t 22) (.c (.bool false)))⟩]) Bz4p) Bzc))
def Bzbf : AC := (.kp [0, 1, 4] [4, 7, 87, 5000, 5001] (.seq (.regi false [⟨(some 13), none, .i (.mov (.t 0))⟩, ⟨(some 14), none, .i (.mov (.t 1))⟩, ⟨(some 15), none, .call nz0 [(.t 13), (.t 14)]⟩, ⟨(some 16), none, .i (.bin .add (.c (.int .i64 1)) (.t 15))⟩, ⟨(some 5), none, .i (.mov (.t 16))⟩]) Bz4x))
def Az4y : AFn := ⟨90, 2, (.seq (.regi false [⟨(some 4), none, .i (.new [.int .i64 0, .slice none 0 0])⟩]) Bzbf), [.cell (some 2) 4]⟩
theorem czdy : cFn (drV none) Try.prog nzb Az4y := ⟨_, _, Try.func103, rfl, by kernel_rfl, by decide, rfl, by kernel_rfl, by kernel_rfl⟩
def Bzbg : AC := (.kp [0] [5000] (.dn (.seq (.reg false [⟨(some 3), none, .i (.mov (.t 0))⟩, ⟨(some 4), none, .i (.len (.t 3))⟩, ⟨(some 2), none, .i (.mov (.t 4))⟩]) (.dn .ret))))
def Azbh : AFn := ⟨5, 1, (.seq (.reg false [⟨(some 2), none, .i (.mov (.c (.int .i64 0)))⟩]) Bzbg), [.tmp 2]⟩
theorem czdz : cFn (drV none) Try.prog nz2s Azbh := ⟨_, _, Try.func104, rfl, by kernel_rfl, by decide, rfl, by kernel_rfl, by kernel_rfl⟩
def Bzbi : AC := (.kp [0, 1, 5, 7, 8, 16] [16, 1016, 5000, 5001] (.dn (.cond (.t 16) (.seq (.reg false [⟨(some 17), none, .i (.mov (.t 5))⟩, ⟨(some 4), none, .i (.mov (.t 17))⟩]) (.dn .ret)) .skip)))
def Bzbj : AC := (.kp [0, 1, 5, 7, 8] [5000, 5001] (.dn (.seq (.reg false [⟨(some 11), none, .i (.mov (.t 1))⟩, ⟨(some 12), none, .i (.mov (.t 0))⟩, ⟨(some 13), none, .i (.mov (.t 5))⟩, ⟨(some 14), none, .i (.iad 1 (.t 12) (.t 13))⟩, ⟨(some 15), none, .i (.ld (.t 14))⟩, ⟨(some 16), none, .calv (.t 11) [(.t 15)]⟩]) Bzbi)))
def Bzbk : AC := (.kp [0, 1, 7, 8] [5000, 5001] (.dn (.reg false [⟨(some 18), none, .i (.bin .add (.t 8) (.c (.int .i64 1)))⟩, ⟨(some 8), none, .i (.mov (.t 18))⟩])))
def Bz4z : AC := (.kp [0, 1, 7, 8] [5000, 5001] (.dn (.seq (.block 1 (.seq (.reg false [⟨(some 10), none, .i (.mov (.t 8))⟩, ⟨(some 5), none, .i (.mov (.t 10))⟩]) Bzbj)) Bzbk)))
def Bz50 : AC := (.kp [0, 1, 7, 8, 9] [5000, 5001] (.dn (.seq (.cond (.t 9) .skip (.exit 0)) Bz4z)))
def Bz25 : AC := (.kp [0, 1, 7, 8] [5000, 5001] (.dn (.seq (.reg false [⟨(some 9), none, .i (.bin .lss (.t 8) (.t 7))⟩]) Bz50)))
def Bzbl : AC := (.kp [0, 1, 7, 8] [5000, 5001] (.dn (.block 0 (.loop Bz25))))
def Bzbm : AC := (.kp [] [5000, 5001] (.dn (.seq (.reg false [⟨(some 4), none, .i (.mov (.c (.int .i64 (-1))))⟩]) (.dn .ret))))
def Bzbn : AC := (.kp [0, 1] [5000, 5001] (.dn (.seq (.seq (.reg false [⟨(some 6), none, .i (.mov (.t 0))⟩, ⟨(some 7), none, .i (.len (.t 6))⟩, ⟨(some 8), none, .i (.mov (.c (.int .i64 0)))⟩]) Bzbl) Bzbm)))
def Azbo : AFn := ⟨19, 2, (.seq (.reg false [⟨(some 4), none, .i (.mov (.c (.int .i64 0)))⟩]) Bzbn), [.tmp 4]⟩
theorem cze0 : cFn (drV none) Try.prog nz2t Azbo := ⟨_, _, Try.func105, rfl, by kernel_rfl, by decide, rfl, by kernel_rfl, by kernel_rfl⟩
def Bzbp : AC := (.kp [0, 1] [5000, 5001] (.dn (.seq (.reg false [⟨(some 5), none, .i (.mov (.t 0))⟩, ⟨(some 6), none, .i (.mov (.t 1))⟩, ⟨(some 7), none, .call nz2y [(.t 5), (.t 6)]⟩, ⟨(some 8), none, .i (.bin .geq (.t 7) (.c (.int .i64 0)))⟩, ⟨(some 4), none, .i (.mov (.t 8))⟩]) (.dn .ret))))
def Azbq : AFn := ⟨9, 2, (.seq (.reg false [⟨(some 4), none, .i (.mov (.c (.bool false)))⟩]) Bzbp), [.tmp 4]⟩
theorem cze1 : cFn (drV none) Try.prog nz2u Azbq := ⟨_, _, Try.func106, rfl, by kernel_rfl, by decide, rfl, by kernel_rfl, by kernel_rfl⟩
def Bzbr : AC := (.kp [0, 1, 2] [5000, 5001, 5002] (.dn (.seq (.reg false [⟨(some 5), none, .i (.mov (.t 0))⟩, ⟨(some 6), none, .i (.ld (.t 1))⟩, ⟨(some 7), none, .i (.ld (.t 2))⟩, ⟨(some 8), none, .call nza [(.t 5), (.t 6), (.t 7)]⟩, ⟨(some 9), none, .i (.un .not (.t 8))⟩, ⟨(some 4), none, .i (.mov (.t 9))⟩]) (.dn .ret))))
def Azbs : AFn := ⟨10, 3, (.seq (.reg false [⟨(some 4), none, .i (.mov (.c (.bool false)))⟩]) Bzbr), [.tmp 4]⟩
theorem cze2 : cFn (drV none) Try.prog nz18 Azbs := ⟨_, _, Try.func107, rfl, by kernel_rfl, by decide, rfl, by kernel_rfl, by kernel_rfl⟩
theorem x_slices_Sort_LI : ∃ fn, Try.prog.funcs[nz2v]? = some fn ∧ fn.body.isSome = true ∧ isNumG fn = false := ⟨_, Try.func108, by kernel_rfl, by decide⟩
theorem x_slices_Compact_LI : ∃ fn, Try.prog.funcs[nz2w]? = some fn ∧ fn.body.isSome = true ∧ isNumG fn = false := ⟨_, Try.func109, by kernel_rfl, by decide⟩
def Bz51 : AC := (.kp [0, 1, 5, 7, 8, 16] [5000, 5001] (.dn (.cond (.t 16) (.seq (.reg false [⟨(some 17), none, .i (.mov (.t 5))⟩, ⟨(some 4), none, .i (.mov (.t 17))⟩]) (.dn .ret)) .skip)))
def Bzbt : AC := (.kp [0, 1, 5, 7, 8] [5000, 5001] (.dn (.seq (.reg false [⟨(some 11), none, .i (.mov (.t 1))⟩, ⟨(some 12), none, .i (.mov (.t 0))⟩, ⟨(some 13), none, .i (.mov (.t 5))⟩, ⟨(some 14), none, .i (.iad 1 (.t 12) (.t 13))⟩, ⟨(some 15), none, .i (.ld (.t 14))⟩, ⟨(some 16), none, .i (.bin .eql (.t 11) (.t 15))⟩]) Bz51)))
def Bzbu : AC := (.kp [0, 1, 7, 8] [5000, 5001] (.dn (.reg false [⟨(some 18), none, .i (.bin .add (.t 8) (.c (.int .i64 1)))⟩, ⟨(some 8), none, .i (.mov (.t 18))⟩])))
def Bz52 : AC := (.kp [0, 1, 7, 8] [5000, 5001] (.dn (.seq (.block 1 (.seq (.reg false [⟨(some 10), none, .i (.mov (.t 8))⟩, ⟨(some 5), none, .i (.mov (.t 10))⟩]) Bzbt)) Bzbu)))
def Bz53 : AC := (.kp [0, 1, 7, 8, 9] [5000, 5001] (.dn (.seq (.cond (.t 9) .skip (.exit 0)) Bz52)))
def Bz26 : AC := (.kp [0, 1, 7, 8] [5000, 5001] (.dn (.seq (.reg false [⟨(some 9), none, .i (.bin .lss (.t 8) (.t 7))⟩]) Bz53)))
def Bzbv : AC := (.kp [0, 1, 7, 8] [5000, 5001] (.dn (.block 0 (.loop Bz26))))
def Bzbw : AC := (.kp [] [5000, 5001] (.dn (.seq (.reg false [⟨(some 4), none, .i (.mov (.c (.int .i64 (-1))))⟩]) (.dn .ret))))
def Bzbx : AC := (.kp [0, 1] [5000, 5001] (.dn (.seq (.seq (.reg false [⟨(some 6), none, .i (.mov (.t 0))⟩, ⟨(some 7), none, .i (.len (.t 6))⟩, ⟨(some 8), none, .i (.mov (.c (.int .i64 0)))⟩]) Bzbv) Bzbw)))
def Azby : AFn := ⟨19, 2, (.seq (.reg false [⟨(some 4), none, .i (.mov (.c (.int .i64 0)))⟩]) Bzbx), [.tmp 4]⟩
theorem cze3 : cFn (drV none) Try.prog nz2x Azby := ⟨_, _, Try.func110, rfl, by kernel_rfl, by decide, rfl, by kernel_rfl, by kernel_rfl⟩
def Bzbz : AC := (.kp [0, 1, 5, 7, 8, 16] [16, 1016, 5000, 5001] (.dn (.cond (.t 16) (.seq (.reg false [⟨(some 17), none, .i (.mov (.t 5))⟩, ⟨(some 4), none, .i (.mov (.t 17))⟩]) (.dn .ret)) .skip)))
def Bzc0 : AC := (.kp [0, 1, 5, 7, 8] [5000, 5001] (.dn (.seq (.reg false [⟨(some 11), none, .i (.mov (.t 1))⟩, ⟨(some 12), none, .i (.mov (.t 0))⟩, ⟨(some 13), none, .i (.mov (.t 5))⟩, ⟨(some 14), none, .i (.iad 1 (.t 12) (.t 13))⟩, ⟨(some 15), none, .i (.ld (.t 14))⟩, ⟨(some 16), none, .calv (.t 11) [(.t 15)]⟩]) Bzbz)))
def Bzc1 : AC := (.kp [0, 1, 7, 8] [5000, 5001] (.dn (.reg false [⟨(some 18), none, .i (.bin .add (.t 8) (.c (.int .i64 1)))⟩, ⟨(some 8), none, .i (.mov (.t 18))⟩])))
def Bz54 : AC := (.kp [0, 1, 7, 8] [5000, 5001] (.dn (.seq (.block 1 (.seq (.reg false [⟨(some 10), none, .i (.mov (.t 8))⟩, ⟨(some 5), none, .i (.mov (.t 10))⟩]) Bzc0)) Bzc1)))
def Bz55 : AC := (.kp [0, 1, 7, 8, 9] [5000, 5001] (.dn (.seq (.cond (.t 9) .skip (.exit 0)) Bz54)))
def Bz27 : AC := (.kp [0, 1, 7, 8] [5000, 5001] (.dn (.seq (.reg false [⟨(some 9), none, .i (.bin .lss (.t 8) (.t 7))⟩]) Bz55)))
def Bzc2 : AC := (.kp [0, 1, 7, 8] [5000, 5001] (.dn (.block 0 (.loop Bz27))))
def Bzc3 : AC := (.kp [] [5000, 5001] (.dn (.seq (.reg false [⟨(some 4), none, .i (.mov (.c (.int .i64 (-1))))⟩]) (.dn .ret))))
def Bzc4 : AC := (.kp [0, 1] [5000, 5001] (.dn (.seq (.seq (.reg false [⟨(some 6), none, .i (.mov (.t 0))⟩, ⟨(some 7), none, .i (.len (.t 6))⟩, ⟨(some 8), none, .i (.mov (.c (.int .i64 0)))⟩]) Bzc2) Bzc3)))
def Azc5 : AFn := ⟨19, 2, (.seq (.reg false [⟨(some 4), none, .i (.mov (.c (.int .i64 0)))⟩]) Bzc4), [.tmp 4]⟩
theorem cze4 : cFn (drV none) Try.prog nz2y Azc5 := ⟨_, _, Try.func112, rfl, by kernel_rfl, by decide, rfl, by kernel_rfl, by kernel_rfl⟩
def Bz56 : AC := (.kp [0, 3, 4, 5, 12] [8, 41, 5000] (.dn (.cond (.t 12) .skip (.exit 0))))
def Bz57 : AC := (.kp [0, 3, 4, 5, 6, 7, 17] [8, 41, 5000] (.dn (.cond (.t 17) .skip (.exit 2))))
def Bzc6 : AC := (.kp [0, 3, 4, 5, 6, 7, 28] [8, 41, 5000] (.dn (.cond (.t 28) (.reg false [⟨(some 29), none, .i (.mov (.t 3))⟩, ⟨(some 30), none, .i (.mov (.t 7))⟩, ⟨(some 31), none, .i (.iad 1 (.t 29) (.t 30))⟩, ⟨(some 32), none, .i (.ld (.t 31))⟩, ⟨(some 6), none, .i (.mov (.t 32))⟩]) .skip)))
def Bzc7 : AC := (.kp [0, 3, 4, 5, 6, 7] [8, 41, 5000] (.dn (.reg false [⟨(some 18), none, .i (.mov (.t 7))⟩, ⟨(some 19), none, .i (.bin .add (.t 18) (.c (.int .i64 1)))⟩, ⟨(some 7), none, .i (.mov (.t 19))⟩])))
def Bzc8 : AC := (.kp [0, 3, 4, 5, 6, 7] [8, 41, 5000] (.dn (.seq (.block 3 (.seq (.reg true [⟨(some 20), none, .i (.mov (.t 0))⟩, ⟨(some 21), none, .i (.mov (.t 7))⟩, ⟨(some 22), none, .i (.iad 1 (.t 20) (.t 21))⟩, ⟨(some 23), none, .i (.ld (.t 22))⟩, ⟨(some 24), none, .i (.mov (.t 0))⟩, ⟨(some 25), none, .i (.mov (.t 5))⟩, ⟨(some 26), none, .i (.iad 1 (.t 24) (.t 25))⟩, ⟨(some 27), none, .i (.ld (.t 26))⟩, ⟨(some 28), none, .i (.bin .eql (.t 23) (.t 27))⟩]) Bzc6)) Bzc7)))
def Bz28 : AC := (.kp [0, 3, 4, 5, 6, 7] [8, 41, 5000] (.dn (.seq (.seq (.reg false [⟨(some 15), none, .i (.mov (.t 7))⟩, ⟨(some 16), none, .i (.mov (.t 5))⟩, ⟨(some 17), none, .i (.bin .lss (.t 15) (.t 16))⟩]) Bz57) Bzc8)))
def Bzc9 : AC := (.kp [0, 3, 4, 5, 6, 7] [8, 41, 5000] (.dn (.block 2 (.loop Bz28))))
def Bzca : AC := (.kp [0, 3, 4, 5, 6] [8, 41, 5000] (.dn (.reg false [⟨(some 36), none, .i (.mov (.t 4))⟩, ⟨(some 37), none, .i (.bin .add (.t 36) (.c (.int .i64 1)))⟩, ⟨(some 4), none, .i (.mov (.t 37))⟩])))
def Bz58 : AC := (.kp [0, 3, 4, 5, 6, 34] [8, 41, 5000] (.dn (.cond (.t 34) (.seq (.reg false [⟨(some 35), none, .i (.mov (.t 4))⟩, ⟨(some 6), none, .i (.mov (.t 35))⟩]) Bzca) .skip)))
def Bz59 : AC := (.kp [0, 3, 4, 5, 6] [8, 41, 5000] (.dn (.reg false [⟨(some 38), none, .i (.mov (.t 3))⟩, ⟨(some 39), none, .i (.mov (.t 6))⟩, ⟨(some 40), none, .i (.bsl 1 false [(.t 39)])⟩, ⟨(some 41), none, .i (.app 1 8 (.t 38) (.t 40))⟩, ⟨(some 3), none, .i (.mov (.t 41))⟩])))
def Bzcb : AC := (.kp [0, 3, 4, 5, 6] [8, 41, 5000] (.dn (.seq (.seq (.reg false [⟨(some 33), none, .i (.mov (.t 6))⟩, ⟨(some 34), none, .i (.bin .lss (.t 33) (.c (.int .i64 0)))⟩]) Bz58) Bz59)))
def Bzcc : AC := (.kp [0, 3, 4, 5, 6] [8, 41, 5000] (.dn (.seq (.seq (.reg false [⟨(some 7), none, .i (.mov (.c (.int .i64 0)))⟩]) Bzc9) Bzcb)))
def Bz5a : AC := (.kp [0, 3, 4, 5] [8, 41, 5000] (.dn (.reg false [⟨(some 13), none, .i (.mov (.t 5))⟩, ⟨(some 14), none, .i (.bin .add (.t 13) (.c (.int .i64 1)))⟩, ⟨(some 5), none, .i (.mov (.t 14))⟩])))
def Bzcd : AC := (.kp [0, 3, 4, 5] [8, 41, 5000] (.dn (.seq (.block 1 (.seq (.reg false [⟨(some 6), none, .i (.mov (.c (.int .i64 (-1))))⟩]) Bzcc)) Bz5a)))
def Bz29 : AC := (.kp [0, 3, 4, 5] [8, 41, 5000] (.dn (.seq (.seq (.reg false [⟨(some 9), none, .i (.mov (.t 5))⟩, ⟨(some 10), none, .i (.mov (.t 0))⟩, ⟨(some 11), none, .i (.len (.t 10))⟩, ⟨(some 12), none, .i (.bin .lss (.t 9) (.t 11))⟩]) Bz56) Bzcd)))
def Bzce : AC := (.kp [0, 3, 4, 5] [8, 41, 5000] (.dn (.block 0 (.loop Bz29))))
def Bzcf : AC := (.kp [3] [8, 41, 5000] (.dn (.seq (.reg false [⟨(some 42), none, .i (.mov (.t 3))⟩, ⟨(some 2), none, .i (.mov (.t 42))⟩]) (.dn .ret))))
def Bzcg : AC := (.kp [0, 3, 4] [8, 41, 5000] (.dn (.seq (.seq (.reg false [⟨(some 5), none, .i (.mov (.c (.int .i64 0)))⟩]) Bzce) Bzcf)))
def Bzch : AC := (.kp [0, 3] [8, 41, 5000] (.dn (.seq (.reg false [⟨(some 4), none, .i (.mov (.c (.int .i64 0)))⟩]) Bzcg)))
def Bzci : AC := (.kp [0] [5000] (.dn (.seq (.reg false [⟨(some 8), none, .i (.bsl 1 false [])⟩, ⟨(some 3), none, .i (.mov (.t 8))⟩]) Bzch)))
def Azcj : AFn := ⟨43, 1, (.seq (.reg false [⟨(some 2), none, .i (.mov (.c (.slice none 0 0)))⟩]) Bzci), [.tmp 2]⟩
theorem cze5 : cFn (drV none) Try.prog nz2z Azcj := ⟨_, _, Try.func114, rfl, by kernel_rfl, by decide, rfl, by kernel_rfl, by kernel_rfl⟩
def Bzck : AC := (.kp [0, 1] [5000, 5001] (.dn (.seq (.reg false [⟨(some 5), none, .i (.mov (.t 1))⟩, ⟨(some 6), none, .i (.mov (.t 0))⟩, ⟨(some 7), none, .i (.mov (.t 1))⟩, ⟨(some 8), none, .i (.len (.t 7))⟩, ⟨(some 9), none, .call nz0 [(.t 6), (.t 8)]⟩, ⟨(some 10), none, .i (.iad 1 (.t 5) (.t 9))⟩, ⟨(some 11), none, .i (.ld (.t 10))⟩, ⟨(some 4), none, .i (.mov (.t 11))⟩]) (.dn .ret))))
def Azcl : AFn := ⟨12, 2, (.seq (.reg false [⟨(some 4), none, .i (.mov (.c (.int .i64 0)))⟩]) Bzck), [.tmp 4]⟩
theorem cze6 : cFn (drV none) Try.prog nzl Azcl := ⟨_, _, Try.func115, rfl, by kernel_rfl, by decide, rfl, by kernel_rfl, by kernel_rfl⟩
def Bzcm : AC := (.kp [0, 1, 7] [5000, 5001] (.dn (.cond (.t 7) (.seq (.reg false [⟨(some 8), none, .i (.mov (.t 0))⟩, ⟨(some 4), none, .i (.mov (.t 8))⟩]) (.dn .ret)) .skip)))
def Bzcn : AC := (.kp [1] [5000, 5001] (.dn (.seq (.reg false [⟨(some 9), none, .i (.mov (.t 1))⟩, ⟨(some 4), none, .i (.mov (.t 9))⟩]) (.dn .ret))))
def Bzco : AC := (.kp [0, 1] [5000, 5001] (.dn (.seq (.seq (.reg false [⟨(some 5), none, .i (.mov (.t 0))⟩, ⟨(some 6), none, .i (.mov (.t 1))⟩, ⟨(some 7), none, .i (.bin .lss (.t 5) (.t 6))⟩]) Bzcm) Bzcn)))
def Azcp : AFn := ⟨10, 2, (.seq (.reg false [⟨(some 4), none, .i (.mov (.c (.int .i64 0)))⟩]) Bzco), [.tmp 4]⟩
theorem cze7 : cFn (drV none) Try.prog nz30 Azcp := ⟨_, _, Try.func116, rfl, by kernel_rfl, by decide, rfl, by kernel_rfl, by kernel_rfl⟩
end Go.Ab
namespace Go.Ab
def Cz.start (W : World) : Cz :=
  { w := W, base := W.heap.size, ext := fun b => b < W.heap.size, hp := fun _ => .gone, loc := fun _ => undef, names := fun _ => none, used := fun _ => False, old := fun b => b < W.heap.size }
theorem start_taken {W : World} {b : Nat} : ¬ (Cz.start W).taken b := by rintro ⟨r, h, _⟩; exact h rfl
theorem start_imm {W : World} {b : Nat} (h : b < W.heap.size) : (Cz.start W).imm b := ⟨.inl h, h, start_taken⟩
theorem start_good (W : World) : Good W (fun _ => False) (Cz.start W) := by
  refine ⟨⟨rfl, fun _ h => h⟩, fun _ => trivial, ?_, ?_, ?_, ?_, ?_, ?_, ?_, ⟨0, fun v h => h.elim⟩, rfl, rfl, rfl, Nat.le_refl _, fun _ _ _ => rfl⟩
  · intro r r' b h; exact absurd rfl h
  · intro r b h; exact absurd rfl h
  · intro r v h; simp [Cz.start, AObj.ver] at h
  · intro r r' v h; simp [Cz.start, AObj.ver] at h
  · intro b h; exact h.elim
  · intro n b h; simp [Cz.start] at h
  · intro n n' b h; simp [Cz.start] at h
theorem start_outHp (W : World) : (Cz.start W).hp = outHp [] [] := by
  funext n
  simp [Cz.start, outHp]
theorem cell_lt {W : World} {b off : Nat} {v : Value} (h : W.cell? ⟨b, off, none⟩ = some v) : b < W.heap.size := by
  unfold World.cell? at h
  by_cases hb : b < W.heap.size
  · exact hb
  · have h1 : W.heap[b]? = none := Array.getElem?_eq_none (by omega)
    simp only [h1] at h; cases h
mutual
inductive Shp (P : Program) : TypeId → List AVal → Prop where
  | int {t : TypeId} {k : IntKind} {n : Int} : P.underlying t = some (.int k) → (Lit.int k n).wf = true → Shp P t [.val (.int k n)]
  | bool {t : TypeId} {b : Bool} : P.underlying t = some .bool → Shp P t [.val (.bool b)]
  | string {t : TypeId} {s : ByteArray} : P.underlying t = some .string → s.size ≤ maxLen → Shp P t [.val (.string s)]
  | slice {t e : TypeId} {xss : List (List AVal)} : P.underlying t = some (.slice e) → (∀ xs ∈ xss, Shp P e xs) → (∀ xs ∈ xss, xs.length = P.cellsOf e) → xss.length ≤ maxLen → Shp P t [.ro (some (some 0)) (P.cellsOf e) xss.flatten]
  | struct {t : TypeId} {fs : Array Field} {As : List AVal} : P.underlying t = some (.struct fs) → ShpF P fs.toList As → Shp P t As
inductive ShpF (P : Program) : List Field → List AVal → Prop where
  | nil : ShpF P [] []
  | cons {f : Field} {fs : List Field} {As Bs : List AVal} : Shp P f.type As → ShpF P fs Bs → ShpF P (f :: fs) (As ++ Bs)
end
def contig (P : Program) : List Field → Nat → Nat → Bool
  | [], off, n => off == n
  | f :: fs, off, n => f.offset == off && contig P fs (off + P.cellsOf f.type) n
section
variable {H : Type} {enc : TypeId × Value → H} {P : Program} {W : World} {sp : Nat → Bool} {held : Bool}
theorem RepAt.append {c : Cz} {b : Nat} : ∀ {xs ys : List AVal} {off : Nat}, RepAt c b off xs → RepAt c b (off + xs.length) ys → RepAt c b off (xs ++ ys)
  | [], _, _, _, h => by simpa using h
  | x :: xs, ys, off, h, h' => by
    simp only [RepAt, List.cons_append] at h ⊢
    refine ⟨h.1, RepAt.append h.2 ?_⟩
    have e : off + 1 + xs.length = off + (x :: xs).length := by simp; omega
    rw [e]; exact h'
theorem RepAt.flatten {c : Cz} {b k : Nat} : ∀ {xss : List (List AVal)} {off : Nat}, (∀ i xs, xss[i]? = some xs → xs.length = k ∧ RepAt c b (off + i * k) xs) → RepAt c b off xss.flatten
  | [], _, _ => by simp [RepAt]
  | xs :: xss, off, h => by
    obtain ⟨h1, h2⟩ := h 0 xs rfl
    rw [List.flatten_cons]
    refine RepAt.append (by simpa using h2) (RepAt.flatten (k := k) fun i ys hi => ?_)
    obtain ⟨h3, h4⟩ := h (i + 1) ys (by simpa using hi)
    refine ⟨h3, ?_⟩
    rw [h1]
    have e : off + k + i * k = off + (i + 1) * k := by rw [Nat.add_mul]; omega
    rw [e]; exact h4
theorem cells_at {a : Addr} {k : Nat} {cs : List Value} {As : List AVal} (ha : a.spot = none) (h : W.cells? 0 a k = some cs) (hr : RepL (Cz.start W) As cs) : RepAt (Cz.start W) a.block a.off As := by
  have h1 : (List.range k).mapM (fun i => W.cell? (a.add i)) = some cs := by
    unfold World.cells? at h; simpa using h
  have h2 : ∀ i v, cs[i]? = some v → W.cell? ⟨a.block, a.off + i, none⟩ = some v := by
    intro i v hi
    have hlt := (List.getElem?_eq_some_iff.1 hi).1
    have hl := mapM_some_length h1
    have := mapM_some_get h1 i i (by rw [List.getElem?_range]; rw [List.length_range] at hl; omega)
    rw [hi] at this
    have e : a.add i = ⟨a.block, a.off + i, none⟩ := by obtain ⟨b, o, q⟩ := a; simp only at ha; subst ha; exact addr_add _ _ _
    rw [e] at this; exact this
  have key : ∀ (As : List AVal) (cs : List Value) (off : Nat), RepL (Cz.start W) As cs → (∀ i v, cs[i]? = some v → W.cell? ⟨a.block, off + i, none⟩ = some v) → RepAt (Cz.start W) a.block off As := by
    intro As
    induction As with
    | nil => intro cs off _ _; simp [RepAt]
    | cons A As ih =>
      intro cs off hr hc
      cases cs with
      | nil => simp [RepL] at hr
      | cons v cs =>
        simp only [RepL] at hr
        simp only [RepAt]
        refine ⟨⟨v, (by have := hc 0 v rfl; exact this), hr.1⟩, ih cs (off + 1) hr.2 fun i u hi => ?_⟩
        have := hc (i + 1) u (by simpa using hi)
        rw [← this]; congr 2; omega
  exact key As cs a.off hr h2
theorem flat_len {α : Type} {k : Nat} : ∀ {xss : List (List α)}, (∀ (i : Nat) (As : List α), xss[i]? = some As → As.length = k) → xss.flatten.length = xss.length * k
  | [], _ => by simp
  | x :: xss, h => by
    rw [List.flatten_cons, List.length_append, h 0 x rfl, flat_len (k := k) fun i As hi => h (i + 1) As (by simpa using hi), List.length_cons, Nat.add_mul]
    omega
theorem trod_rep (good : TypeId → Bool) (hgood : ∀ t, good t = true → (∃ k, P.underlying t = some (.int k)) ∨ P.underlying t = some .bool ∨ P.underlying t = some .string ∨ (∃ e, P.underlying t = some (.slice e) ∧ good e = true ∧ 0 < P.cellsOf e) ∨ ∃ fs, P.underlying t = some (.struct fs) ∧ (∀ f ∈ fs.toList, good f.type = true) ∧ contig P fs.toList 0 (P.cellsOf t) = true) :
    ∀ (fuel : Nat) (t : TypeId) (cs : List Value) (x : DataW H × List MemPlace), good t = true → DataW.trod enc P W 0 sp held fuel t cs = some x → ∃ As, Shp P t As ∧ RepL (Cz.start W) As cs := by
  intro fuel
  induction fuel with
  | zero => intro t cs x _ h; simp [DataW.trod] at h
  | succ fuel ih =>
    intro t cs x hg h
    rcases hgood t hg with ⟨k, ht⟩ | ht | ht | ⟨e, ht, hge, hpos⟩ | ⟨fs, ht, hgf, hcon⟩
    · unfold DataW.trod at h
      rw [ht] at h
      split at h <;> simp_all
      rename_i k' n hk
      obtain ⟨⟨rfl, hw⟩, _⟩ := h
      exact ⟨[.val (.int _ n)], .int ht hw, by simp [RepL, Rep]⟩
    · unfold DataW.trod at h
      rw [ht] at h
      split at h <;> simp_all
      rename_i b
      exact ⟨[.val (.bool b)], .bool ht, by simp [RepL, Rep]⟩
    · unfold DataW.trod at h
      rw [ht] at h
      split at h <;> simp_all
      rename_i s
      exact ⟨[.val (.string s)], .string ht h.1, by simp [RepL, Rep]⟩
    · rcases DataW.trod_slice ht h with ⟨rfl, _⟩ | ⟨a, len, cap, elems, rest, n, hn, rfl, _, _, hl, hc, hel, helem, _, _⟩
      · refine ⟨[.ro (some (some 0)) (P.cellsOf e) ([] : List (List AVal)).flatten], .slice ht (by simp) (by simp) (by simp), ?_⟩
        simp only [RepL, Rep, and_true]
        exact ⟨none, 0, 0, rfl, hpos, by simp, ⟨Nat.le_refl _, by simp⟩, (by intro n e; cases e; exact ⟨fun h => (by cases h), .inl (by simp)⟩), .inl (by simp)⟩
      · have hn' : n = fuel := by omega
        subst hn'
        have hel2 : ∀ i, i < len → ∃ cs As, W.cells? 0 (a.add (i * P.cellsOf e)) (P.cellsOf e) = some cs ∧ Shp P e As ∧ RepL (Cz.start W) As cs := by
          intro i hi
          have h1 := helem i hi
          rw [List.getElem?_eq_getElem (by omega), Option.bind_eq_some_iff] at h1
          obtain ⟨cs, h2, h3⟩ := h1
          obtain ⟨As, h4, h5⟩ := ih e cs _ hge h3
          exact ⟨cs, As, h2, h4, h5⟩
        have hex : ∃ xss : List (List AVal), xss.length = len ∧ ∀ i As, xss[i]? = some As → ∃ cs, W.cells? 0 (a.add (i * P.cellsOf e)) (P.cellsOf e) = some cs ∧ Shp P e As ∧ RepL (Cz.start W) As cs := by
          have : ∀ m, m ≤ len → ∃ xss : List (List AVal), xss.length = m ∧ ∀ i As, xss[i]? = some As → ∃ cs, W.cells? 0 (a.add (i * P.cellsOf e)) (P.cellsOf e) = some cs ∧ Shp P e As ∧ RepL (Cz.start W) As cs := by
            intro m
            induction m with
            | zero => intro _; exact ⟨[], rfl, by simp⟩
            | succ m ihm =>
              intro hm
              obtain ⟨xss, h1, h2⟩ := ihm (by omega)
              obtain ⟨cs, As, h3, h4, h5⟩ := hel2 m (by omega)
              refine ⟨xss ++ [As], by simp [h1], fun i Bs hi => ?_⟩
              by_cases hlt : i < xss.length
              · rw [List.getElem?_append_left hlt] at hi; exact h2 i Bs hi
              · have hi2 := (List.getElem?_eq_some_iff.1 hi).1
                have : i = m := by simp at hi2; omega
                subst this
                rw [List.getElem?_append_right (by omega), h1, Nat.sub_self] at hi
                simp only [List.getElem?_cons_zero, Option.some.injEq] at hi
                subst hi
                exact ⟨cs, h3, h4, h5⟩
          exact this len (Nat.le_refl _)
        obtain ⟨xss, hxl, hxs⟩ := hex
        have hlen : ∀ (i : Nat) (As : List AVal), xss[i]? = some As → As.length = P.cellsOf e := by
          intro i As hi
          obtain ⟨cs, h1, _, h2⟩ := hxs i As hi
          rw [h2.length]
          unfold World.cells? at h1
          simp only [Nat.zero_le, if_true] at h1
          rw [mapM_some_length h1, List.length_range]
        have hflat : xss.flatten.length = len * P.cellsOf e := by
          rw [flat_len hlen, hxl]
        refine ⟨[.ro (some (some 0)) (P.cellsOf e) xss.flatten], .slice ht ?_ ?_ (by omega), ?_⟩
        · intro xs hm
          obtain ⟨i, hi⟩ := List.getElem?_of_mem hm
          obtain ⟨_, _, h2, _⟩ := hxs i xs hi
          exact h2
        · intro xs hm
          obtain ⟨i, hi⟩ := List.getElem?_of_mem hm
          exact hlen i xs hi
        · simp only [RepL, Rep, and_true]
          have key : xss.flatten.length = 0 ∨ ∃ b off, some a = some (⟨b, off, none⟩ : Addr) ∧ (Cz.start W).imm b ∧ RepAt (Cz.start W) b off xss.flatten := ?_
          · refine ⟨some a, len, cap, rfl, hpos, hflat, ⟨hl, hc⟩, ?_, key⟩
            intro n e; cases e
            refine ⟨fun h => (by cases h), ?_⟩
            rcases key with h | ⟨b, off, h1, h2, _⟩
            · exact .inl h
            · exact .inr ⟨b, off, h1, h2.2.1⟩
          by_cases h0 : len = 0
          · left; rw [hflat, h0, Nat.zero_mul]
          · right
            obtain ⟨cs0, As0, h1, _, h2⟩ := hel2 0 (by omega)
            have hfirst : ∃ v, W.cell? (a.add 0) = some v := by
              unfold World.cells? at h1
              simp only [Nat.zero_le, if_true] at h1
              have h3 := mapM_some_length h1
              rw [List.length_range] at h3
              have h4 := mapM_some_get h1 0 0 (by rw [List.getElem?_range]; exact hpos)
              rw [List.getElem?_eq_getElem (by omega)] at h4
              refine ⟨cs0[0]'(by omega), ?_⟩
              rw [← h4]; simp [Addr.add]
            obtain ⟨v, hv⟩ := hfirst
            obtain ⟨b, off, spot⟩ := a
            have hs : spot = none := by simpa [Addr.add] using World.cell?_spot hv
            subst hs
            rw [addr_add, Nat.add_zero] at hv
            refine ⟨b, off, rfl, start_imm (cell_lt hv), RepAt.flatten (k := P.cellsOf e) fun i As hi => ⟨hlen i As hi, ?_⟩⟩
            obtain ⟨cs, h3, _, h4⟩ := hxs i As hi
            rw [addr_add] at h3
            exact cells_at rfl h3 h4
    · unfold DataW.trod at h
      rw [ht] at h
      simp only [] at h
      split at h
      · rename_i hlen
        simp only [Option.map_eq_some_iff] at h
        obtain ⟨xs, hxs, _⟩ := h
        have key : ∀ (fl : List Field) (off : Nat) (ys : List (DataW H × List MemPlace)), (∀ f ∈ fl, good f.type = true) → contig P fl off (P.cellsOf t) = true →
            fl.mapM (fun f => DataW.trod enc P W 0 sp held fuel f.type ((cs.drop f.offset).take (P.cellsOf f.type))) = some ys → off ≤ cs.length → ∃ As, ShpF P fl As ∧ RepL (Cz.start W) As (cs.drop off) := by
          intro fl
          induction fl with
          | nil =>
            intro off ys _ hc _ _
            simp only [contig, beq_iff_eq] at hc
            refine ⟨[], .nil, ?_⟩
            rw [List.drop_of_length_le (by omega)]; simp [RepL]
          | cons f fl ihf =>
            intro off ys hg hc hm hoff
            simp only [contig, Bool.and_eq_true, beq_iff_eq] at hc
            obtain ⟨hc1, hc2⟩ := hc
            rw [List.mapM_cons] at hm
            simp only [Option.bind_eq_bind, Option.bind_eq_some_iff] at hm
            obtain ⟨y, hy, ys', hys, _⟩ := hm
            obtain ⟨As, hA, hR⟩ := ih f.type _ _ (hg f (by simp)) hy
            have hle : off + P.cellsOf f.type ≤ cs.length := by
              have : ∀ (fl : List Field) (o n : Nat), contig P fl o n = true → o ≤ n := by
                intro fl
                induction fl with
                | nil => intro o n h; simp only [contig, beq_iff_eq] at h; omega
                | cons g fl ihg =>
                  intro o n h
                  simp only [contig, Bool.and_eq_true] at h
                  have := ihg _ _ h.2; omega
              have := this _ _ _ hc2; omega
            obtain ⟨Bs, hB, hS⟩ := ihf (off + P.cellsOf f.type) ys' (fun g hgm => hg g (by simp [hgm])) hc2 hys hle
            refine ⟨As ++ Bs, .cons hA hB, ?_⟩
            rw [hc1] at hR
            have e : cs.drop off = (cs.drop off).take (P.cellsOf f.type) ++ cs.drop (off + P.cellsOf f.type) := by
              rw [← List.drop_drop, List.take_append_drop]
            rw [e]
            exact RepL.append hR hS
        obtain ⟨As, h1, h2⟩ := key fs.toList 0 xs hgf hcon hxs (Nat.zero_le _)
        exact ⟨As, .struct ht h1, by simpa using h2⟩
      · cases h
end
end Go.Ab
namespace Go.Ab
section
variable {H : Type} {enc : TypeId × Value → H} {P : Program}
def ArgShp (P : Program) (t : TypeId) (A : AVal) : Prop := Shp P t [A] ∧ (∀ fs, P.underlying t ≠ some (.struct fs)) ∨ ∃ As fs, P.underlying t = some (.struct fs) ∧ A = .st As ∧ Shp P t As
inductive ArgsShp (P : Program) : List TypeId → List AVal → Prop where
  | nil : ArgsShp P [] []
  | cons {t : TypeId} {ts : List TypeId} {A : AVal} {As : List AVal} : ArgShp P t A → ArgsShp P ts As → ArgsShp P (t :: ts) (A :: As)
theorem start_below {W : World} {c1 : Cz} (G : Good W (fun _ => False) c1) : RowKit.Below W.heap.size W c1.w :=
  ⟨G.os, G.tape, G.output, G.size, fun k hk => G.frame k hk (fun h => h)⟩
theorem law_calls {W : World} {ts : List TypeId} {args : Array Value} {ds : List (DataW H)} {ps : List MemPlace}
    (hread : ∀ (j : Nat) (t : TypeId) (v : Value) (d : DataW H) (p : List MemPlace), ts[j]? = some t → args[j]? = some v → DataW.Trod enc P W 0 (fun _ => true) true t v d p → ∃ A, ArgShp P t A ∧ Rep (Cz.start W) A v)
    (hA : DataW.TrodAll enc P W 0 (fun _ => true) true ts args.toList ds ps) : ∃ As, ArgsShp P ts As ∧ RepL (Cz.start W) As args.toList := by
  have key : ∀ (ts' : List TypeId) (vs : List Value) (off : Nat) (ds : List (DataW H)) (ps : List MemPlace), (∀ (i : Nat) t, ts'[i]? = some t → ts[off + i]? = some t) → (∀ (i : Nat) v, vs[i]? = some v → args[off + i]? = some v) →
      DataW.TrodAll enc P W 0 (fun _ => true) true ts' vs ds ps → ∃ As, ArgsShp P ts' As ∧ RepL (Cz.start W) As vs := by
    intro ts'
    induction ts' with
    | nil =>
      intro vs off ds ps _ _ h
      cases vs with
      | nil => exact ⟨[], .nil, by simp [RepL]⟩
      | cons v vs => cases ds <;> simp [DataW.TrodAll] at h
    | cons t ts' ih =>
      intro vs off ds ps ht hv h
      cases vs with
      | nil => simp [DataW.TrodAll] at h
      | cons v vs =>
        cases ds with
        | nil => simp [DataW.TrodAll] at h
        | cons d ds =>
          simp only [DataW.TrodAll] at h
          obtain ⟨p, q, h1, h2, _⟩ := h
          obtain ⟨A, hA, hR⟩ := hread off t v d p (by simpa using ht 0 t rfl) (by simpa using hv 0 v rfl) h1
          obtain ⟨As, hAs, hRs⟩ := ih vs (off + 1) ds q (fun i t' ht' => by have := ht (i + 1) t' (by simpa using ht'); rw [← this]; congr 1; omega)
            (fun i v' hv' => by have := hv (i + 1) v' (by simpa using hv'); rw [← this]; congr 1; omega) h2
          exact ⟨A :: As, .cons hA hAs, by simp only [RepL]; exact ⟨hR, hRs⟩⟩
  exact key ts args.toList 0 ds ps (fun i t h => by simpa using h) (fun i v hv => by simpa using hv) hA
def GoodTypes (P : Program) (good : TypeId → Bool) : Prop := ∀ t, good t = true → (∃ k, P.underlying t = some (.int k)) ∨ P.underlying t = some .bool ∨ P.underlying t = some .string ∨
  (∃ e, P.underlying t = some (.slice e) ∧ good e = true ∧ 0 < P.cellsOf e) ∨ ∃ fs, P.underlying t = some (.struct fs) ∧ (∀ f ∈ fs.toList, good f.type = true) ∧ contig P fs.toList 0 (P.cellsOf t) = true
def goodOK (P : Program) (l : List TypeId) : Bool := l.all fun t => match P.underlying t with
  | some (.int _) => true
  | some .bool => true
  | some .string => true
  | some (.slice e) => l.contains e && decide (0 < P.cellsOf e)
  | some (.struct fs) => fs.toList.all (fun f => l.contains f.type) && contig P fs.toList 0 (P.cellsOf t)
  | _ => false
theorem good_of {l : List TypeId} (h : goodOK P l = true) : GoodTypes P (fun t => l.contains t) := by
  intro t ht
  unfold goodOK at h
  rw [List.all_eq_true] at h
  have h1 := h t (by simpa using ht)
  split at h1
  · rename_i k hk; exact .inl ⟨k, hk⟩
  · rename_i hk; exact .inr (.inl hk)
  · rename_i hk; exact .inr (.inr (.inl hk))
  · rename_i e hk
    simp only [Bool.and_eq_true, decide_eq_true_eq] at h1
    exact .inr (.inr (.inr (.inl ⟨e, hk, h1.1, h1.2⟩)))
  · rename_i fs hk
    simp only [Bool.and_eq_true, List.all_eq_true] at h1
    exact .inr (.inr (.inr (.inr ⟨fs, hk, h1.1, h1.2⟩)))
  · cases h1
theorem read_arg {W : World} {r : Reach} {base : Nat} {good : TypeId → Bool} (hgood : GoodTypes P good) {t : TypeId} (hg : good t = true) {v : Value} (hok : Value.okWide P W r base t v) {d : DataW H} {p : List MemPlace}
    (h : DataW.Trod enc P W 0 (fun _ => true) true t v d p) : ∃ A, ArgShp P t A ∧ Rep (Cz.start W) A v := by
  obtain ⟨fuel, h⟩ := h
  obtain ⟨As, hS, hR⟩ := trod_rep good hgood fuel t _ _ hg h
  have one : (∀ cs, v ≠ .agg cs) → (∀ fs, P.underlying t ≠ some (.struct fs)) → ∃ A, ArgShp P t A ∧ Rep (Cz.start W) A v := by
    intro hv hns
    have e : v.cells.toList = [v] := by
      cases v with
      | agg cs => exact absurd rfl (hv cs)
      | _ => rfl
    rw [e] at hR
    match As, hS, hR with
    | [A], hS, hR => exact ⟨A, .inl ⟨hS, hns⟩, by simpa [RepL] using hR⟩
    | [], _, hR => simp [RepL] at hR
    | _ :: _ :: _, _, hR => simp [RepL] at hR
  rcases hgood t hg with ⟨k, ht⟩ | ht | ht | ⟨e, ht, _⟩ | ⟨fs, ht, _⟩
  · obtain ⟨n, rfl⟩ := WideShapes.okWide_int ht hok
    exact one (fun _ h => by cases h) (fun fs h => by rw [ht] at h; cases h)
  · obtain ⟨b, rfl, _⟩ := RowKit.open_bool ht hok ⟨fuel, h⟩
    exact one (fun _ h => by cases h) (fun fs h => by rw [ht] at h; cases h)
  · obtain ⟨s, rfl⟩ := WideShapes.okWide_string ht hok
    exact one (fun _ h => by cases h) (fun fs h => by rw [ht] at h; cases h)
  · obtain ⟨a, len, cap, rfl⟩ := WideShapes.okWide_slice ht hok
    exact one (fun _ h => by cases h) (fun fs h => by rw [ht] at h; cases h)
  · obtain ⟨cs, rfl, _⟩ := WideShapes.okWide_struct ht hok
    exact ⟨.st As, .inr ⟨As, fs, ht, rfl, hS⟩, by simp only [Rep]; exact ⟨cs, rfl, hR⟩⟩
theorem law_true {W : World} {f : FuncId} {args : Array Value} {As : List AVal} (hcon : Fun P f As (bv true)) (hR : RepL (Cz.start W) As args.toList) :
    Calls P f args W fun e W' => e = .returned (.bool true) ∧ RowKit.Below W.heap.size W W' := by
  have h := hcon.2 (Cz.start W) (fun _ => False) args.toList (start_good W) (start_outHp W) hR
  have e : args.toList.toArray = args := by simp
  rw [e] at h
  refine h.mono ?_
  rintro e W' ⟨v, c1, outs, rows, res, ⟨_, _, rfl⟩, he, rfl, G, _, hrep, _⟩
  have : v = .bool true := by simpa [Rep] using hrep
  subst this
  exact ⟨he, start_below G⟩
theorem below_all (hl : laidOutB P = true) {W W' : World} (hb : RowKit.Below W.heap.size W W') : ∀ (ts : List TypeId) (vs : List Value) (ds : List (DataW H)) (ps : List MemPlace), (∀ t ∈ ts, P.readableRec t = true ∧ t < P.types.size) → (∀ x ∈ ps, x.block < W.heap.size) →
    DataW.TrodAll enc P W 0 (fun _ => true) true ts vs ds ps → DataW.TrodAll enc P W' 0 (fun b => decide (b < W.heap.size)) true ts vs ds ps
  | [], [], [], ps, _, _, h => h
  | [], _ :: _, _, _, _, _, h => by simp [DataW.TrodAll] at h
  | [], [], _ :: _, _, _, _, h => by simp [DataW.TrodAll] at h
  | _ :: _, [], _, _, _, _, h => by simp [DataW.TrodAll] at h
  | _ :: _, _ :: _, [], _, _, _, h => by simp [DataW.TrodAll] at h
  | t :: ts, v :: vs, d :: ds, ps, hr, hlt, h => by
    simp only [DataW.TrodAll] at h ⊢
    obtain ⟨p, q, h1, h2, rfl⟩ := h
    obtain ⟨r1, r2⟩ := hr t (by simp)
    exact ⟨p, q, RowKit.Below.trod hl r1 r2 h1 hb fun x hx => hlt x (by simp [hx]), below_all hl hb ts vs ds q (fun t' ht => hr t' (by simp [ht])) (fun x hx => hlt x (by simp [hx])) h2, rfl⟩
theorem law_post {fn : Func} {s : ChangeSpec} {f : FuncId} {W : World} {args : Array Value} {ds gs : List (DataW H)} {before : List MemPlace} {tb : TypeId} {fresh handsOn : Bool} (hv : s.vars = []) (hl : laidOutB P = true)
    (hr : ∀ t ∈ fn.params.toList, P.readableRec t = true ∧ t < P.types.size) (hres : fn.resultTypes = #[tb]) (hb : P.underlying tb = some .bool)
    (hs : ds.length = fn.params.size → (s.fn H ds).results = [.lit (.bool true)] ∧ (s.fn H ds).args = ds ∧ (s.fn H ds).vars = [])
    (hW : DataW.Whole enc P fn.params.toList s.vars false W args.toList ds gs before)
    {good : TypeId → Bool} (hgood : GoodTypes P good) (hgp : ∀ t ∈ fn.params.toList, good t = true) {base : Nat} (hval : ∀ (j : Nat) t v, fn.params[j]? = some t → args[j]? = some v → Value.okWide P W .any base t v)
    (hcon : ∀ As, ArgsShp P fn.params.toList As → Fun P f As (bv true)) :
    Calls P f args W fun e W' => ∃ v, e = .returned v ∧ s.post enc P fn false fresh handsOn false W args v W' := by
  have hW' := hW
  obtain ⟨p, q, hA, hV, rfl, _, _⟩ := hW
  rw [hv] at hV
  have hgs : gs = [] ∧ q = [] := by
    cases gs with
    | nil => exact ⟨rfl, hV⟩
    | cons g gs => simp [DataW.TrodVars] at hV
  obtain ⟨rfl, rfl⟩ := hgs
  obtain ⟨As, h1, h2⟩ := law_calls (fun j t v d p ht hv h => read_arg hgood (hgp t (List.mem_of_getElem? ht)) (hval j t v (by simpa using ht) hv) h) hA
  refine (law_true (hcon As h1) h2).mono ?_
  rintro e W' ⟨he, hbel⟩
  have hlen : ds.length = fn.params.size := by
    have := (trodAll_length hA).2
    simpa using this
  obtain ⟨s1, s2, s3⟩ := hs hlen
  refine ⟨_, he, ds, [], p ++ [], [], p, [], hW', ?_, ?_, ?_, hbel.frame _, fun h => by cases h⟩
  · rw [List.append_nil, s1, hres]
    exact trodAll_cons_mk (RowKit.shut_bool hb _) ChangeShapes.trodAll_mk0
  · rw [List.append_nil, s2]
    exact below_all hl hbel _ _ _ _ hr (fun x hx => hA.lt x hx) hA
  · rw [List.append_nil, s3, hv]; rfl
end
end Go.Ab
