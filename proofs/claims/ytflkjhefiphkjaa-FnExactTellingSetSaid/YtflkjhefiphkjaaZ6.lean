/- Contracts and what they lean on, part 6. Conditions: none. -/
import Derived.Test.YtflkjhefiphkjaaChecked
import Derived.Test.YtflkjhefiphkjaaZ5
set_option maxRecDepth 100000
set_option maxHeartbeats 4000000
set_option linter.all false
open Nat (reduceLeDiff reduceMul reduceSub reduceEqDiff reduceAdd)
open Int (reduceToNat reduceNeg reduceLE)
namespace Go.Ab
open Go.Proofs
theorem mixed : Try.prog.follows .mixedOrders = true := by kernel_rfl
abbrev n_main_main : FuncId := 0
abbrev n_gosem_cut : FuncId := 1
abbrev n_gosem_cut_init : FuncId := 2
abbrev nza : FuncId := 3
abbrev nzeh : FuncId := 4
abbrev nz2z : FuncId := 5
abbrev nz8 : FuncId := 6
abbrev nz1d : FuncId := 7
abbrev nz4 : FuncId := 8
abbrev nz1e : FuncId := 9
abbrev nz30 : FuncId := 10
abbrev nz31 : FuncId := 11
abbrev nz5 : FuncId := 12
abbrev nz9 : FuncId := 13
abbrev nzei : FuncId := 14
abbrev nzej : FuncId := 15
abbrev nzek : FuncId := 16
abbrev nzel : FuncId := 17
abbrev nzem : FuncId := 18
abbrev nzen : FuncId := 19
abbrev nzeo : FuncId := 20
abbrev nzep : FuncId := 21
abbrev nzeq : FuncId := 22
abbrev nzer : FuncId := 23
abbrev nzes : FuncId := 24
abbrev nzet : FuncId := 25
abbrev nz1m : FuncId := 26
abbrev nz32 : FuncId := 27
abbrev nz33 : FuncId := 28
abbrev nz1n : FuncId := 29
abbrev nz34 : FuncId := 30
abbrev nz35 : FuncId := 31
abbrev nz36 : FuncId := 32
abbrev nz1o : FuncId := 33
abbrev nz37 : FuncId := 34
abbrev nzeu : FuncId := 35
abbrev nzev : FuncId := 36
abbrev nzew : FuncId := 37
abbrev nzex : FuncId := 38
abbrev nzey : FuncId := 39
abbrev nzez : FuncId := 40
abbrev nzf0 : FuncId := 41
abbrev nzf1 : FuncId := 42
abbrev nzf2 : FuncId := 43
abbrev nz38 : FuncId := 44
abbrev nzf3 : FuncId := 45
abbrev nzf4 : FuncId := 46
abbrev nz39 : FuncId := 47
abbrev nzf5 : FuncId := 48
abbrev nzf6 : FuncId := 49
abbrev nzf7 : FuncId := 50
abbrev nzf8 : FuncId := 51
abbrev nzf9 : FuncId := 52
abbrev nzfa : FuncId := 53
abbrev nz3a : FuncId := 54
abbrev nz3b : FuncId := 55
abbrev nz3c : FuncId := 56
abbrev nz1f : FuncId := 57
abbrev nz1p : FuncId := 58
abbrev nz1q : FuncId := 59
abbrev nz3d : FuncId := 60
abbrev nz3e : FuncId := 61
abbrev nz3f : FuncId := 62
abbrev nz3g : FuncId := 63
abbrev nz1g : FuncId := 64
abbrev nz1j : FuncId := 65
abbrev nz1r : FuncId := 66
abbrev nz1s : FuncId := 67
abbrev nz1t : FuncId := 68
abbrev nz3h : FuncId := 69
abbrev nz1u : FuncId := 70
abbrev nz1v : FuncId := 71
abbrev nz3i : FuncId := 72
abbrev nzfb : FuncId := 73
abbrev nzfc : FuncId := 74
abbrev nzfd : FuncId := 75
abbrev nzfe : FuncId := 76
abbrev nz3j : FuncId := 77
abbrev nz3k : FuncId := 78
abbrev nz3l : FuncId := 79
abbrev nz1w : FuncId := 80
abbrev nz3m : FuncId := 81
abbrev nz3n : FuncId := 82
abbrev nz1x : FuncId := 83
abbrev nzff : FuncId := 84
abbrev nz3o : FuncId := 85
abbrev nz3p : FuncId := 86
abbrev nz3q : FuncId := 87
abbrev n_runtime_boundsError_Error : FuncId := 88
abbrev n_runtime_boundsError_RuntimeError : FuncId := 89
abbrev n_runtime_errorString_Error : FuncId := 90
abbrev n_runtime_errorString_RuntimeError : FuncId := 91
abbrev n_runtime_plainError_Error : FuncId := 92
abbrev n_runtime_plainError_RuntimeError : FuncId := 93
abbrev n_runtime_errorAddressString_Error : FuncId := 94
abbrev n_runtime_errorAddressString_RuntimeError : FuncId := 95
abbrev n_runtime_TypeAssertionError_Error : FuncId := 96
abbrev n_runtime_TypeAssertionError_RuntimeError : FuncId := 97
abbrev n_runtime_PanicNilError_Error : FuncId := 98
abbrev n_runtime_PanicNilError_RuntimeError : FuncId := 99
abbrev n_internal_abi_Type_Align : FuncId := 100
abbrev n_internal_runtime_maps_unhashableTypeError_Error : FuncId := 101
abbrev n_internal_runtime_maps_unhashableTypeError_RuntimeError : FuncId := 102
abbrev nzfg : FuncId := 103
abbrev nzfh : FuncId := 104
abbrev nzfi : FuncId := 105
abbrev n_internal_abi_Kind_String : FuncId := 106
def Bz2 : AC := (.kp [1, 18] [1, 5000, 901, 902, 903, 904, 905, 906, 907, 908, 909, 911, 912, 913, 914, 915, 916, 917, 918, 919] (.cond (.t 18) (.seq (.regi false [⟨(some 2), none, .i (.mov (.c (.bool true)))⟩]) .ret) .skip))
def Bzb : AC := (.kp [1, 4, 5, 6, 7, 8, 40] [1, 6, 21, 22, 26, 29, 1021, 1026, 5000, 901, 902, 903, 904, 905, 906, 907, 908, 909, 911, 912, 913, 914, 915, 916, 917, 918, 919] (.cond (.t 40) (.seq (.regi false [⟨(some 2), none, .i (.mov (.c (.bool false)))⟩]) .ret) .skip))
def Bzc : AC := (.kp [1, 4, 5, 6, 7, 8, 45] [1, 6, 21, 22, 26, 29, 1021, 1026, 5000, 901, 902, 903, 904, 905, 906, 907, 908, 909, 911, 912, 913, 914, 915, 916, 917, 918, 919] (.cond (.t 45) (.seq (.regi false [⟨(some 2), none, .i (.mov (.c (.bool false)))⟩]) .ret) .skip))
def Bzd : AC := (.kp [1, 4, 5, 7, 61] [1, 6, 21, 22, 26, 29, 1021, 1026, 5000, 901, 902, 903, 904, 905, 906, 907, 908, 909, 911, 912, 913, 914, 915, 916, 917, 918, 919] (.cond (.t 61) (.seq (.regi false [⟨(some 2), none, .i (.mov (.c (.bool false)))⟩]) .ret) .skip))
def Bze : AC := (.kp [1, 4, 5, 7, 10, 11, 69] [1, 6, 21, 22, 26, 29, 1021, 1026, 5000, 901, 902, 903, 904, 905, 906, 907, 908, 909, 911, 912, 913, 914, 915, 916, 917, 918, 919] (.cond (.t 69) (.seq (.regi false [⟨(some 2), none, .i (.mov (.c (.bool false)))⟩]) .ret) .skip))
def Bzf : AC := (.kp [1, 4, 5, 7, 10, 72] [1, 6, 21, 22, 26, 29, 1021, 1026, 5000, 901, 902, 903, 904, 905, 906, 907, 908, 909, 911, 912, 913, 914, 915, 916, 917, 918, 919] (.cond (.t 72) (.seq (.regi false [⟨(some 2), none, .i (.mov (.c (.bool false)))⟩]) .ret) .skip))
def Bzg : AC := (.kp [7, 10, 87] [1, 6, 21, 22, 26, 29, 75, 76, 1021, 1026, 1075, 5000, 901, 902, 903, 904, 905, 906, 907, 908, 909, 911, 912, 913, 914, 915, 916, 917, 918, 919] (.cond (.t 87) (.seq (.regi false [⟨(some 2), none, .i (.mov (.c (.bool false)))⟩]) .ret) .skip))
def Bzh : AC := (.kp [10, 11, 92] [5000, 901, 902, 903, 904, 905, 906, 907, 908, 909, 911, 912, 913, 914, 915, 916, 917, 918, 919] (.cond (.t 92) (.seq (.regi false [⟨(some 2), none, .i (.mov (.c (.bool false)))⟩]) .ret) .skip))
def Bzi : AC := (.kp [95] [5000, 901, 902, 903, 904, 905, 906, 907, 908, 909, 911, 912, 913, 914, 915, 916, 917, 918, 919] (.cond (.t 95) (.seq (.regi false [⟨(some 2), none, .i (.mov (.c (.bool false)))⟩]) .ret) .skip))
def Bzj : AC := (.kp [] [5000, 901, 902, 903, 904, 905, 906, 907, 908, 909, 911, 912, 913, 914, 915, 916, 917, 918, 919] (.seq (.regi false [⟨(some 2), none, .i (.mov (.c (.bool true)))⟩]) .ret))
def Bzk : AC := (.kp [10, 11] [5000, 901, 902, 903, 904, 905, 906, 907, 908, 909, 911, 912, 913, 914, 915, 916, 917, 918, 919] (.seq (.seq (.regi false [⟨(some 93), none, .i (.mov (.t 11))⟩, ⟨(some 94), none, .i (.mov (.t 10))⟩, ⟨(some 95), none, .i (.bin .neq (.t 93) (.t 94))⟩]) Bzi) Bzj))
def Bzl : AC := (.kp [10, 11] [5000, 901, 902, 903, 904, 905, 906, 907, 908, 909, 911, 912, 913, 914, 915, 916, 917, 918, 919] (.seq (.seq (.regi false [⟨(some 91), none, .i (.mov (.t 11))⟩, ⟨(some 92), none, .i (.bin .lss (.t 91) (.c (.int .i64 0)))⟩]) Bzh) Bzk))
def Bzm : AC := (.kp [7, 10, 11] [1, 6, 26, 29, 1026, 5000, 901, 902, 903, 904, 905, 906, 907, 908, 909, 911, 912, 913, 914, 915, 916, 917, 918, 919] (.seq (.regi false [⟨(some 88), none, .i (.mov (.t 7))⟩, ⟨(some 89), none, .i (.mov (.t 11))⟩, ⟨(some 90), none, .call nz9 [(.t 88), (.t 89)]⟩, ⟨(some 11), none, .i (.mov (.t 90))⟩]) Bzl))
def Bzn : AC := (.kp [7, 10] [1, 6, 26, 29, 1026, 5000, 901, 902, 903, 904, 905, 906, 907, 908, 909, 911, 912, 913, 914, 915, 916, 917, 918, 919] (.seq (.regi false [⟨(some 11), none, .i (.mov (.c (.int .i64 1)))⟩]) Bzm))
def Bzo : AC := (.kp [4, 5, 7, 10, 12, 13] [1, 6, 21, 22, 26, 29, 75, 76, 1021, 1026, 1075, 5000, 901, 902, 903, 904, 905, 906, 907, 908, 909, 911, 912, 913, 914, 915, 916, 917, 918, 919] (.seq (.seq (.regi false [⟨(some 79), none, .i (.mov (.t 12))⟩, ⟨(some 80), none, .i (.mov (.t 4))⟩, ⟨(some 81), none, .call nz1e [(.t 79), (.t 80)]⟩, ⟨(some 82), none, .i (.un .not (.t 81))⟩, ⟨(some 83), none, .i (.mov (.t 82))⟩, ⟨(some 84), (some (83, false)), .i (.mov (.t 13))⟩, ⟨(some 85), (some (83, false)), .i (.mov (.t 5))⟩, ⟨(some 86), (some (83, false)), .i (.bin .neq (.t 84) (.t 85))⟩, ⟨(some 87), none, .i (.pick (.t 83) (.c (.bool true)) (.t 86))⟩]) Bzg) Bzn))
def Bzp : AC := (.kp [1, 4, 5, 7, 10] [1, 6, 21, 22, 26, 29, 1021, 1026, 5000, 901, 902, 903, 904, 905, 906, 907, 908, 909, 911, 912, 913, 914, 915, 916, 917, 918, 919] (.seq (.regi false [⟨(some 74), none, .i (.lda 4 (.t 1))⟩, ⟨(some 75), none, .call nz1d [(.t 74)]⟩, ⟨(some 76), none, .call nz4 [(.t 75)]⟩, ⟨(some 73), none, .i (.mov (.t 76))⟩, ⟨(some 77), none, .i (.ext 0 (.t 73))⟩, ⟨(some 78), none, .i (.ext 1 (.t 73))⟩, ⟨(some 12), none, .i (.mov (.t 77))⟩, ⟨(some 13), none, .i (.mov (.t 78))⟩]) Bzo))
def Bzq : AC := (.kp [1, 4, 5, 7, 10, 11] [1, 6, 21, 22, 26, 29, 1021, 1026, 5000, 901, 902, 903, 904, 905, 906, 907, 908, 909, 911, 912, 913, 914, 915, 916, 917, 918, 919] (.seq (.seq (.regi false [⟨(some 70), none, .i (.mov (.t 11))⟩, ⟨(some 71), none, .i (.mov (.t 10))⟩, ⟨(some 72), none, .i (.bin .neq (.t 70) (.t 71))⟩]) Bzf) Bzp))
def Bzr : AC := (.kp [1, 4, 5, 7, 10, 11] [1, 6, 21, 22, 26, 29, 1021, 1026, 5000, 901, 902, 903, 904, 905, 906, 907, 908, 909, 911, 912, 913, 914, 915, 916, 917, 918, 919] (.seq (.seq (.regi false [⟨(some 68), none, .i (.mov (.t 11))⟩, ⟨(some 69), none, .i (.bin .lss (.t 68) (.c (.int .i64 0)))⟩]) Bze) Bzq))
def Bzs : AC := (.kp [1, 4, 5, 7, 10, 11] [1, 6, 21, 22, 26, 29, 1021, 1026, 5000, 901, 902, 903, 904, 905, 906, 907, 908, 909, 911, 912, 913, 914, 915, 916, 917, 918, 919] (.seq (.regi false [⟨(some 65), none, .i (.mov (.t 7))⟩, ⟨(some 66), none, .i (.mov (.t 11))⟩, ⟨(some 67), none, .call nz9 [(.t 65), (.t 66)]⟩, ⟨(some 11), none, .i (.mov (.t 67))⟩]) Bzr))
def Bzt : AC := (.kp [1, 4, 5, 7, 10] [1, 6, 21, 22, 26, 29, 1021, 1026, 5000, 901, 902, 903, 904, 905, 906, 907, 908, 909, 911, 912, 913, 914, 915, 916, 917, 918, 919] (.seq (.regi false [⟨(some 11), none, .i (.mov (.c (.int .i64 1)))⟩]) Bzs))
def Bzu : AC := (.kp [1, 4, 5, 7, 10] [1, 6, 21, 22, 26, 29, 1021, 1026, 5000, 901, 902, 903, 904, 905, 906, 907, 908, 909, 911, 912, 913, 914, 915, 916, 917, 918, 919] (.seq (.regi false [⟨(some 62), none, .i (.mov (.t 7))⟩, ⟨(some 63), none, .i (.mov (.t 10))⟩, ⟨(some 64), none, .call nz5 [(.t 62), (.t 63)]⟩, ⟨(some 10), none, .i (.mov (.t 64))⟩]) Bzt))
def Bzv : AC := (.kp [1, 4, 5, 7] [1, 6, 21, 22, 26, 29, 1021, 1026, 5000, 901, 902, 903, 904, 905, 906, 907, 908, 909, 911, 912, 913, 914, 915, 916, 917, 918, 919] (.seq (.regi false [⟨(some 10), none, .i (.mov (.c (.int .i64 1)))⟩]) Bzu))
def Bzw : AC := (.kp [1, 4, 5, 7, 8, 9] [1, 6, 21, 22, 26, 29, 1021, 1026, 5000, 901, 902, 903, 904, 905, 906, 907, 908, 909, 911, 912, 913, 914, 915, 916, 917, 918, 919] (.seq (.seq (.regi false [⟨(some 49), none, .i (.mov (.t 9))⟩, ⟨(some 50), none, .i (.bin .lss (.t 49) (.c (.int .i64 0)))⟩, ⟨(some 51), none, .i (.mov (.t 50))⟩, ⟨(some 52), (some (51, false)), .i (.mov (.t 7))⟩, ⟨(some 53), (some (51, false)), .i (.mov (.t 4))⟩, ⟨(some 54), (some (51, false)), .call nz1e [(.t 52), (.t 53)]⟩, ⟨(some 55), (some (51, false)), .i (.un .not (.t 54))⟩, ⟨(some 56), none, .i (.pick (.t 51) (.c (.bool true)) (.t 55))⟩, ⟨(some 57), none, .i (.mov (.t 56))⟩, ⟨(some 58), (some (57, false)), .i (.mov (.t 8))⟩, ⟨(some 59), (some (57, false)), .i (.mov (.t 5))⟩, ⟨(some 60), (some (57, false)), .i (.bin .neq (.t 58) (.t 59))⟩, ⟨(some 61), none, .i (.pick (.t 57) (.c (.bool true)) (.t 60))⟩]) Bzd) Bzv))
def Bzx : AC := (.kp [1, 4, 5, 6, 7, 8, 9] [1, 6, 21, 22, 26, 29, 1021, 1026, 5000, 901, 902, 903, 904, 905, 906, 907, 908, 909, 911, 912, 913, 914, 915, 916, 917, 918, 919] (.seq (.regi false [⟨(some 46), none, .i (.lda 4 (.t 6))⟩, ⟨(some 47), none, .i (.mov (.t 9))⟩, ⟨(some 48), none, .call nz31 [(.t 46), (.t 47)]⟩, ⟨(some 9), none, .i (.mov (.t 48))⟩]) Bzw))
def Bzy : AC := (.kp [1, 4, 5, 6, 7, 8] [1, 6, 21, 22, 26, 29, 1021, 1026, 5000, 901, 902, 903, 904, 905, 906, 907, 908, 909, 911, 912, 913, 914, 915, 916, 917, 918, 919] (.seq (.regi false [⟨(some 9), none, .i (.mov (.c (.int .i64 1)))⟩]) Bzx))
def Bzz : AC := (.kp [1, 4, 5, 6, 7, 8] [1, 6, 21, 22, 26, 29, 1021, 1026, 5000, 901, 902, 903, 904, 905, 906, 907, 908, 909, 911, 912, 913, 914, 915, 916, 917, 918, 919] (.seq (.seq (.regi true [⟨(some 41), none, .i (.lda 4 (.t 6))⟩, ⟨(some 42), none, .i (.lda 4 (.t 1))⟩, ⟨(some 43), none, .call nz1d [(.t 42)]⟩, ⟨(some 44), none, .calh nz30 [(.t 41), (.t 43)]⟩, ⟨(some 45), none, .i (.un .not (.t 44))⟩]) Bzc) Bzy))
def Bz10 : AC := (.kp [1, 4, 5, 6, 7, 8] [1, 6, 21, 22, 26, 29, 1021, 1026, 5000, 901, 902, 903, 904, 905, 906, 907, 908, 909, 911, 912, 913, 914, 915, 916, 917, 918, 919] (.gh (.seq (.seq (.regi false [⟨(some 32), none, .i (.mov (.t 7))⟩, ⟨(some 33), none, .i (.mov (.t 4))⟩, ⟨(some 34), none, .call nz1e [(.t 32), (.t 33)]⟩, ⟨(some 35), none, .i (.un .not (.t 34))⟩, ⟨(some 36), none, .i (.mov (.t 35))⟩, ⟨(some 37), (some (36, false)), .i (.mov (.t 8))⟩, ⟨(some 38), (some (36, false)), .i (.mov (.t 5))⟩, ⟨(some 39), (some (36, false)), .i (.bin .neq (.t 37) (.t 38))⟩, ⟨(some 40), none, .i (.pick (.t 36) (.c (.bool true)) (.t 39))⟩]) Bzb) Bzz)))
def Bz11 : AC := (.kp [1, 4, 5, 6] [1, 6, 21, 22, 26, 1021, 1026, 5000, 901, 902, 903, 904, 905, 906, 907, 908, 909, 911, 912, 913, 914, 915, 916, 917, 918, 919] (.seq (.regi false [⟨(some 28), none, .i (.lda 4 (.t 6))⟩, ⟨(some 29), none, .call nz4 [(.t 28)]⟩, ⟨(some 27), none, .i (.mov (.t 29))⟩, ⟨(some 30), none, .i (.ext 0 (.t 27))⟩, ⟨(some 31), none, .i (.ext 1 (.t 27))⟩, ⟨(some 7), none, .i (.mov (.t 30))⟩, ⟨(some 8), none, .i (.mov (.t 31))⟩]) Bz10))
def Bz12 : AC := (.kp [1, 4, 5] [1, 21, 22, 1021, 5000, 901, 902, 903, 904, 905, 906, 907, 908, 909, 911, 912, 913, 914, 915, 916, 917, 918, 919] (.gh (.seq (.regi false [⟨(some 25), none, .i (.lda 4 (.t 1))⟩, ⟨(some 26), none, .call nz1d [(.t 25)]⟩, ⟨(some 6), none, .i (.new [.int .i64 0, .int .i64 0, .slice none 0 0, .slice none 0 0])⟩, ⟨none, none, .i (.sto 4 (.t 6) (.t 26))⟩]) Bz11)))
def Bz13 : AC := (.kp [1] [1, 5000, 901, 902, 903, 904, 905, 906, 907, 908, 909, 911, 912, 913, 914, 915, 916, 917, 918, 919] (.seq (.regi false [⟨(some 20), none, .i (.lda 4 (.t 1))⟩, ⟨(some 21), none, .call nz1d [(.t 20)]⟩, ⟨(some 22), none, .call nz8 [(.t 21)]⟩, ⟨(some 19), none, .i (.mov (.t 22))⟩, ⟨(some 23), none, .i (.ext 0 (.t 19))⟩, ⟨(some 24), none, .i (.ext 1 (.t 19))⟩, ⟨(some 4), none, .i (.mov (.t 23))⟩, ⟨(some 5), none, .i (.mov (.t 24))⟩]) Bz12))
def Bz3 : AC := (.kp [1, 3] [1, 5000, 901, 902, 903, 904, 905, 906, 907, 908, 909, 911, 912, 913, 914, 915, 916, 917, 918, 919] (.seq (.seq (.regi false [⟨(some 17), none, .i (.mov (.t 3))⟩, ⟨(some 18), none, .i (.bin .lss (.t 17) (.c (.int .i64 0)))⟩]) Bz2) Bz13))
def Bz14 : AC := (.kp [1, 3] [1, 5000, 901, 902, 903, 904, 905, 906, 907, 908, 909, 911, 912, 913, 914, 915, 916, 917, 918, 919] (.seq (.regi false [⟨(some 14), none, .i (.lda 4 (.t 1))⟩, ⟨(some 15), none, .i (.mov (.t 3))⟩, ⟨(some 16), none, .call nz2z [(.t 14), (.t 15)]⟩, ⟨(some 3), none, .i (.mov (.t 16))⟩]) Bz3))
def Bz15 : AC := (.kp [1] [1, 5000, 901, 902, 903, 904, 905, 906, 907, 908, 909, 911, 912, 913, 914, 915, 916, 917, 918, 919] (.seq (.regi false [⟨(some 3), none, .i (.mov (.c (.int .i64 1048576)))⟩]) Bz14))
def Az16 : AFn := ⟨96, 1, (.seq (.regi false [⟨(some 1), none, .i (.box (.t 0))⟩, ⟨(some 2), none, .i (.mov (.c (.bool false)))⟩]) Bz15), [.tmp 2]⟩
theorem cz1b : cFn (drV none) Try.prog nza Az16 := ⟨_, _, Try.func3, rfl, by kernel_rfl, by decide, rfl, by kernel_rfl, by kernel_rfl⟩
def Bz3r : AC := (.kp [1, 2, 10] [2, 5000, 5001] (.dn (.cond (.t 10) (.seq (.reg false [⟨(some 4), none, .i (.mov (.c (.int .i64 (-1))))⟩]) (.dn .ret)) .skip)))
def Bz3s : AC := (.kp [1, 16] [5000, 5001] (.dn (.cond (.t 16) (.seq (.reg false [⟨(some 4), none, .i (.mov (.c (.int .i64 (-1))))⟩]) (.dn .ret)) .skip)))
def Bz61 : AC := (.kp [1] [5000, 5001] (.dn (.seq (.reg false [⟨(some 17), none, .i (.mov (.t 1))⟩, ⟨(some 4), none, .i (.mov (.t 17))⟩]) (.dn .ret))))
def Bz3t : AC := (.kp [1] [5000, 5001] (.dn (.seq (.seq (.reg false [⟨(some 15), none, .i (.mov (.t 1))⟩, ⟨(some 16), none, .i (.bin .lss (.t 15) (.c (.int .i64 0)))⟩]) Bz3s) Bz61)))
def Bz62 : AC := (.kp [1, 2] [2, 5000, 5001] (.dn (.seq (.reg false [⟨(some 11), none, .i (.fad 3 (.t 2))⟩, ⟨(some 12), none, .i (.ld (.t 11))⟩, ⟨(some 13), none, .i (.mov (.t 1))⟩, ⟨(some 14), none, .call nz1m [(.t 12), (.t 13)]⟩, ⟨(some 1), none, .i (.mov (.t 14))⟩]) Bz3t)))
def Bz3u : AC := (.kp [1, 2] [2, 5000, 5001] (.dn (.seq (.seq (.reg false [⟨(some 9), none, .i (.mov (.t 1))⟩, ⟨(some 10), none, .i (.bin .lss (.t 9) (.c (.int .i64 0)))⟩]) Bz3r) Bz62)))
def Bz63 : AC := (.kp [1, 2] [2, 5000, 5001] (.dn (.seq (.reg false [⟨(some 5), none, .i (.fad 2 (.t 2))⟩, ⟨(some 6), none, .i (.ld (.t 5))⟩, ⟨(some 7), none, .i (.mov (.t 1))⟩, ⟨(some 8), none, .call nz1m [(.t 6), (.t 7)]⟩, ⟨(some 1), none, .i (.mov (.t 8))⟩]) Bz3u)))
def Az64 : AFn := ⟨18, 2, (.seq (.reg false [⟨(some 2), none, .i (.box (.t 0))⟩, ⟨(some 4), none, .i (.mov (.c (.int .i64 0)))⟩]) Bz63), [.tmp 4]⟩
theorem czd6 : cFn (drV none) Try.prog nz2z Az64 := ⟨_, _, Try.func5, rfl, by kernel_rfl, by decide, rfl, by kernel_rfl, by kernel_rfl⟩
def Bz3v : AC := (.kp [1, 7] [1, 5000] (.cond (.t 7) (.seq (.regi false [⟨(some 8), none, .i (.bsl 1 true [])⟩, ⟨(some 2), none, .i (.mov (.t 8))⟩, ⟨(some 3), none, .i (.mov (.c (.int .i64 1)))⟩]) .ret) .skip))
def Bz3w : AC := (.kp [4, 14] [1, 10, 5000] (.cond (.t 14) (.seq (.regi false [⟨(some 15), none, .i (.bsl 1 true [])⟩, ⟨(some 2), none, .i (.mov (.t 15))⟩, ⟨(some 3), none, .i (.mov (.c (.int .i64 4)))⟩]) .ret) .skip))
def Bz65 : AC := (.kp [4] [1, 10, 5000] (.seq (.regi false [⟨(some 16), none, .i (.mov (.t 4))⟩, ⟨(some 2), none, .i (.mov (.t 16))⟩, ⟨(some 3), none, .i (.mov (.c (.int .i64 0)))⟩]) .ret))
def Bz3x : AC := (.kp [4, 5] [1, 10, 5000] (.seq (.seq (.regi false [⟨(some 13), none, .i (.mov (.t 5))⟩, ⟨(some 14), none, .i (.un .not (.t 13))⟩]) Bz3w) Bz65))
def Bz66 : AC := (.kp [1] [1, 5000] (.seq (.regi false [⟨(some 10), none, .call nz33 [(.t 1)]⟩, ⟨(some 9), none, .i (.mov (.t 10))⟩, ⟨(some 11), none, .i (.ext 0 (.t 9))⟩, ⟨(some 12), none, .i (.ext 1 (.t 9))⟩, ⟨(some 4), none, .i (.mov (.t 11))⟩, ⟨(some 5), none, .i (.mov (.t 12))⟩]) Bz3x))
def Bz67 : AC := (.kp [1] [1, 5000] (.seq (.seq (.regi false [⟨(some 6), none, .call nz32 [(.t 1)]⟩, ⟨(some 7), none, .i (.un .not (.t 6))⟩]) Bz3v) Bz66))
def Az68 : AFn := ⟨17, 1, (.seq (.regi false [⟨(some 1), none, .i (.box (.t 0))⟩, ⟨(some 2), none, .i (.mov (.c (.slice none 0 0)))⟩, ⟨(some 3), none, .i (.mov (.c (.int .i64 0)))⟩]) Bz67), [.tmp 2, .tmp 3]⟩
theorem czd7 : cFn (drV none) Try.prog nz8 Az68 := ⟨_, _, Try.func6, rfl, by kernel_rfl, by decide, rfl, by kernel_rfl, by kernel_rfl⟩
def Bz69 : AC := (.kp [2, 3] [1, 2, 3, 12, 16, 5000] (.seq (.regi false [⟨(some 18), none, .i (.lda 4 (.t 3))⟩, ⟨none, none, .i (.sto 4 (.t 2) (.t 18))⟩]) .ret))
def Bz6a : AC := (.kp [1, 2, 3] [1, 2, 3, 12, 16, 5000] (.seq (.regi false [⟨(some 14), none, .i (.fad 3 (.t 1))⟩, ⟨(some 15), none, .i (.ld (.t 14))⟩, ⟨(some 16), none, .call nz1n [(.t 15)]⟩, ⟨(some 17), none, .i (.fad 3 (.t 3))⟩, ⟨none, none, .i (.sto 1 (.t 17) (.t 16))⟩]) Bz69))
def Bz6b : AC := (.kp [1, 2, 3] [1, 2, 3, 12, 16, 5000] (.seq (.regi false [⟨(some 10), none, .i (.fad 2 (.t 1))⟩, ⟨(some 11), none, .i (.ld (.t 10))⟩, ⟨(some 12), none, .call nz1n [(.t 11)]⟩, ⟨(some 13), none, .i (.fad 2 (.t 3))⟩, ⟨none, none, .i (.sto 1 (.t 13) (.t 12))⟩]) Bz6a))
def Bz6c : AC := (.kp [1, 2, 3] [1, 2, 3, 12, 16, 5000] (.seq (.regi false [⟨(some 7), none, .i (.fad 1 (.t 1))⟩, ⟨(some 8), none, .i (.ld (.t 7))⟩, ⟨(some 9), none, .i (.fad 1 (.t 3))⟩, ⟨none, none, .i (.sto 1 (.t 9) (.t 8))⟩]) Bz6b))
def Bz6d : AC := (.kp [1, 2, 3] [1, 2, 3, 12, 16, 5000] (.seq (.regi false [⟨(some 4), none, .i (.fad 0 (.t 1))⟩, ⟨(some 5), none, .i (.ld (.t 4))⟩, ⟨(some 6), none, .i (.fad 0 (.t 3))⟩, ⟨none, none, .i (.sto 1 (.t 6) (.t 5))⟩]) Bz6c))
def Bz6e : AC := (.kp [1, 2] [1, 2, 3, 12, 16, 5000] (.seq (.regi false [⟨(some 3), none, .i (.new [.int .i64 0, .int .i64 0, .slice none 0 0, .slice none 0 0])⟩]) Bz6d))
def Az6f : AFn := ⟨19, 1, (.seq (.regi false [⟨(some 1), none, .i (.box (.t 0))⟩, ⟨(some 2), none, .i (.new [.int .i64 0, .int .i64 0, .slice none 0 0, .slice none 0 0])⟩]) Bz6e), [.cell (some 4) 2]⟩
theorem czd8 : cFn (drV none) Try.prog nz1d Az6f := ⟨_, _, Try.func7, rfl, by kernel_rfl, by decide, rfl, by kernel_rfl, by kernel_rfl⟩
def Bz3y : AC := (.kp [1, 8] [1, 5000] (.cond (.t 8) (.seq (.regi false [⟨(some 2), none, .i (.mov (.c (.slice none 0 0)))⟩, ⟨(some 3), none, .i (.mov (.c (.int .i64 1)))⟩]) .ret) .skip))
def Bz3z : AC := (.kp [4, 15] [1, 11, 5000] (.cond (.t 15) (.seq (.regi false [⟨(some 2), none, .i (.mov (.c (.slice none 0 0)))⟩, ⟨(some 3), none, .i (.mov (.c (.int .i64 4)))⟩]) .ret) .skip))
def Bz6g : AC := (.kp [4] [1, 11, 5000] (.seq (.regi false [⟨(some 16), none, .i (.mov (.t 4))⟩, ⟨(some 2), none, .i (.mov (.t 16))⟩, ⟨(some 3), none, .i (.mov (.c (.int .i64 0)))⟩]) .ret))
def Bz40 : AC := (.kp [4, 5] [1, 11, 5000] (.seq (.seq (.regi false [⟨(some 14), none, .i (.mov (.t 5))⟩, ⟨(some 15), none, .i (.un .not (.t 14))⟩]) Bz3z) Bz6g))
def Bz6h : AC := (.kp [1] [1, 5000] (.seq (.regi false [⟨(some 10), none, .i (.lda 4 (.t 1))⟩, ⟨(some 11), none, .call nz35 [(.t 10)]⟩, ⟨(some 9), none, .i (.mov (.t 11))⟩, ⟨(some 12), none, .i (.ext 0 (.t 9))⟩, ⟨(some 13), none, .i (.ext 1 (.t 9))⟩, ⟨(some 4), none, .i (.mov (.t 12))⟩, ⟨(some 5), none, .i (.mov (.t 13))⟩]) Bz40))
def Bz6i : AC := (.kp [1] [1, 5000] (.seq (.seq (.regi false [⟨(some 6), none, .i (.lda 4 (.t 1))⟩, ⟨(some 7), none, .call nz34 [(.t 6)]⟩, ⟨(some 8), none, .i (.un .not (.t 7))⟩]) Bz3y) Bz6h))
def Az6j : AFn := ⟨17, 1, (.seq (.regi false [⟨(some 1), none, .i (.box (.t 0))⟩, ⟨(some 2), none, .i (.mov (.c (.slice none 0 0)))⟩, ⟨(some 3), none, .i (.mov (.c (.int .i64 0)))⟩]) Bz6i), [.tmp 2, .tmp 3]⟩
theorem czd9 : cFn (drV none) Try.prog nz4 Az6j := ⟨_, _, Try.func8, rfl, by kernel_rfl, by decide, rfl, by kernel_rfl, by kernel_rfl⟩
def Bz41 : AC := (.kp [0, 1, 10] [5000, 5001] (.dn (.cond (.t 10) (.seq (.reg false [⟨(some 4), none, .i (.mov (.c (.bool false)))⟩]) (.dn .ret)) .skip)))
def Bz42 : AC := (.kp [0, 1, 5, 14] [5000, 5001] (.dn (.cond (.t 14) .skip (.exit 0))))
def Bz6k : AC := (.kp [0, 1, 5, 26] [5000, 5001] (.dn (.cond (.t 26) (.seq (.reg false [⟨(some 4), none, .i (.mov (.c (.bool false)))⟩]) (.dn .ret)) .skip)))
def Bz6l : AC := (.kp [0, 1, 5] [5000, 5001] (.dn (.reg false [⟨(some 15), none, .i (.mov (.t 5))⟩, ⟨(some 16), none, .i (.bin .add (.t 15) (.c (.int .i64 1)))⟩, ⟨(some 5), none, .i (.mov (.t 16))⟩])))
def Bz43 : AC := (.kp [0, 1, 5] [5000, 5001] (.dn (.seq (.block 1 (.seq (.reg true [⟨(some 17), none, .i (.mov (.t 0))⟩, ⟨(some 18), none, .i (.mov (.t 5))⟩, ⟨(some 19), none, .i (.iad 1 (.t 17) (.t 18))⟩, ⟨(some 20), none, .i (.ld (.t 19))⟩, ⟨(some 21), none, .i (.mov (.t 1))⟩, ⟨(some 22), none, .i (.mov (.t 5))⟩, ⟨(some 23), none, .i (.iad 1 (.t 21) (.t 22))⟩, ⟨(some 24), none, .i (.ld (.t 23))⟩, ⟨(some 25), none, .calh nz36 [(.t 20), (.t 24)]⟩, ⟨(some 26), none, .i (.un .not (.t 25))⟩]) Bz6k)) Bz6l)))
def Bz1y : AC := (.kp [0, 1, 5] [5000, 5001] (.dn (.seq (.seq (.reg false [⟨(some 11), none, .i (.mov (.t 5))⟩, ⟨(some 12), none, .i (.mov (.t 0))⟩, ⟨(some 13), none, .i (.len (.t 12))⟩, ⟨(some 14), none, .i (.bin .lss (.t 11) (.t 13))⟩]) Bz42) Bz43)))
def Bz6m : AC := (.kp [0, 1, 5] [5000, 5001] (.dn (.block 0 (.loop Bz1y))))
def Bz6n : AC := (.kp [] [5000, 5001] (.dn (.seq (.reg false [⟨(some 4), none, .i (.mov (.c (.bool true)))⟩]) (.dn .ret))))
def Bz6o : AC := (.kp [0, 1] [5000, 5001] (.dn (.seq (.seq (.reg false [⟨(some 5), none, .i (.mov (.c (.int .i64 0)))⟩]) Bz6m) Bz6n)))
def Bz6p : AC := (.kp [0, 1] [5000, 5001] (.dn (.seq (.seq (.reg false [⟨(some 6), none, .i (.mov (.t 0))⟩, ⟨(some 7), none, .i (.len (.t 6))⟩, ⟨(some 8), none, .i (.mov (.t 1))⟩, ⟨(some 9), none, .i (.len (.t 8))⟩, ⟨(some 10), none, .i (.bin .neq (.t 7) (.t 9))⟩]) Bz41) Bz6o)))
def Az6q : AFn := ⟨27, 2, (.seq (.reg false [⟨(some 4), none, .i (.mov (.c (.bool false)))⟩]) Bz6p), [.tmp 4]⟩
theorem czda : cFn (drV none) Try.prog nz1e Az6q := ⟨_, _, Try.func9, rfl, by kernel_rfl, by decide, rfl, by kernel_rfl, by kernel_rfl⟩
def Bz1z : AC := (.kp [2, 3, 9] [2, 3, 5000, 5001] (.dn (.cond (.t 9) (.seq (.reg false [⟨(some 4), none, .i (.mov (.c (.bool false)))⟩]) (.dn .ret)) .skip)))
def Bz44 : AC := (.kp [2, 3, 14] [2, 3, 5000, 5001] (.dn (.cond (.t 14) (.seq (.reg false [⟨(some 4), none, .i (.mov (.c (.bool false)))⟩]) (.dn .ret)) .skip)))
def Bz45 : AC := (.kp [2, 3, 20] [2, 3, 5000, 5001] (.dn (.cond (.t 20) (.seq (.reg false [⟨(some 4), none, .i (.mov (.c (.bool false)))⟩]) (.dn .ret)) .skip)))
def Bz46 : AC := (.kp [26] [5000, 5001] (.dn (.cond (.t 26) (.seq (.reg false [⟨(some 4), none, .i (.mov (.c (.bool false)))⟩]) (.dn .ret)) .skip)))
def Bz6r : AC := (.kp [] [5000, 5001] (.dn (.seq (.reg false [⟨(some 4), none, .i (.mov (.c (.bool true)))⟩]) (.dn .ret))))
def Bz6s : AC := (.kp [2, 3] [2, 3, 5000, 5001] (.dn (.seq (.seq (.reg false [⟨(some 21), none, .i (.fad 3 (.t 2))⟩, ⟨(some 22), none, .i (.ld (.t 21))⟩, ⟨(some 23), none, .i (.fad 3 (.t 3))⟩, ⟨(some 24), none, .i (.ld (.t 23))⟩, ⟨(some 25), none, .call nz1e [(.t 22), (.t 24)]⟩, ⟨(some 26), none, .i (.un .not (.t 25))⟩]) Bz46) Bz6r)))
def Bz6t : AC := (.kp [2, 3] [2, 3, 5000, 5001] (.dn (.seq (.seq (.reg false [⟨(some 15), none, .i (.fad 2 (.t 2))⟩, ⟨(some 16), none, .i (.ld (.t 15))⟩, ⟨(some 17), none, .i (.fad 2 (.t 3))⟩, ⟨(some 18), none, .i (.ld (.t 17))⟩, ⟨(some 19), none, .call nz1e [(.t 16), (.t 18)]⟩, ⟨(some 20), none, .i (.un .not (.t 19))⟩]) Bz45) Bz6s)))
def Bz47 : AC := (.kp [2, 3] [2, 3, 5000, 5001] (.dn (.seq (.seq (.reg false [⟨(some 10), none, .i (.fad 1 (.t 2))⟩, ⟨(some 11), none, .i (.ld (.t 10))⟩, ⟨(some 12), none, .i (.fad 1 (.t 3))⟩, ⟨(some 13), none, .i (.ld (.t 12))⟩, ⟨(some 14), none, .i (.bin .neq (.t 11) (.t 13))⟩]) Bz44) Bz6t)))
def Bz6u : AC := (.kp [2, 3] [2, 3, 5000, 5001] (.dn (.seq (.seq (.reg false [⟨(some 5), none, .i (.fad 0 (.t 2))⟩, ⟨(some 6), none, .i (.ld (.t 5))⟩, ⟨(some 7), none, .i (.fad 0 (.t 3))⟩, ⟨(some 8), none, .i (.ld (.t 7))⟩, ⟨(some 9), none, .i (.bin .neq (.t 6) (.t 8))⟩]) Bz1z) Bz47)))
def Az6v : AFn := ⟨27, 2, (.seq (.reg false [⟨(some 2), none, .i (.box (.t 0))⟩, ⟨(some 3), none, .i (.box (.t 1))⟩, ⟨(some 4), none, .i (.mov (.c (.bool false)))⟩]) Bz6u), [.tmp 4]⟩
theorem czdb : cFn (drV none) Try.prog nz30 Az6v := ⟨_, _, Try.func10, rfl, by kernel_rfl, by decide, rfl, by kernel_rfl, by kernel_rfl⟩
def Bz6w : AC := (.kp [1] [5000, 5001, 5002, 5003, 5004, 5005, 5006, 5007] (.seq (.regi false [⟨(some 13), none, .i (.mov (.t 1))⟩, ⟨(some 4), none, .i (.mov (.t 13))⟩]) .ret))
def Bz6x : AC := (.kp [1, 2] [2, 5000, 5001, 5002, 5003, 5004, 5005, 5006, 5007] (.seq (.regi false [⟨(some 9), none, .i (.fad 3 (.t 2))⟩, ⟨(some 10), none, .i (.ld (.t 9))⟩, ⟨(some 11), none, .i (.mov (.t 1))⟩, ⟨(some 12), none, .call nz5 [(.t 10), (.t 11)]⟩, ⟨(some 1), none, .i (.mov (.t 12))⟩]) Bz6w))
def Bz6y : AC := (.kp [1, 2] [2, 5000, 5001, 5002, 5003, 5004, 5005, 5006, 5007] (.seq (.regi false [⟨(some 5), none, .i (.fad 2 (.t 2))⟩, ⟨(some 6), none, .i (.ld (.t 5))⟩, ⟨(some 7), none, .i (.mov (.t 1))⟩, ⟨(some 8), none, .call nz5 [(.t 6), (.t 7)]⟩, ⟨(some 1), none, .i (.mov (.t 8))⟩]) Bz6x))
def Az6z : AFn := ⟨14, 2, (.seq (.regi false [⟨(some 2), none, .i (.box (.t 0))⟩, ⟨(some 4), none, .i (.mov (.c (.int .i64 0)))⟩]) Bz6y), [.tmp 4]⟩
theorem czdc : cFn (drV none) Try.prog nz31 Az6z := ⟨_, _, Try.func11, rfl, by kernel_rfl, by decide, rfl, by kernel_rfl, by kernel_rfl⟩
def Bz1 : AC := (.kp [0, 1, 5, 9] [5000, 5001, 5002, 5003, 5004, 5005, 5006, 5007, 5008, 5009] (.cond (.t 9) .skip (.exit 0)))
def Bz6 : AC := (.kp [0, 1, 5] [5000, 5001, 5002, 5003, 5004, 5005, 5006, 5007, 5008, 5009] (.regi false [⟨(some 10), none, .i (.mov (.t 5))⟩, ⟨(some 11), none, .i (.bin .add (.t 10) (.c (.int .i64 1)))⟩, ⟨(some 5), none, .i (.mov (.t 11))⟩]))
def Bz7 : AC := (.kp [0, 1, 5] [5000, 5001, 5002, 5003, 5004, 5005, 5006, 5007, 5008, 5009] (.gh (.seq (.block 1 (.regi false [⟨(some 12), none, .i (.mov (.t 0))⟩, ⟨(some 13), none, .i (.mov (.t 5))⟩, ⟨(some 14), none, .i (.iad 1 (.t 12) (.t 13))⟩, ⟨(some 15), none, .i (.ld (.t 14))⟩, ⟨(some 16), none, .i (.mov (.t 1))⟩, ⟨(some 17), none, .call nz1o [(.t 15), (.t 16)]⟩, ⟨(some 1), none, .i (.mov (.t 17))⟩])) Bz6)))
def Bz0 : AC := (.kp [0, 1, 5] [5000, 5001, 5002, 5003, 5004, 5005, 5006, 5007, 5008, 5009] (.seq (.seq (.regi false [⟨(some 6), none, .i (.mov (.t 5))⟩, ⟨(some 7), none, .i (.mov (.t 0))⟩, ⟨(some 8), none, .i (.len (.t 7))⟩, ⟨(some 9), none, .i (.bin .lss (.t 6) (.t 8))⟩]) Bz1) Bz7))
def Bz17 : AC := (.kp [0, 1, 5] [5000, 5001, 5002, 5003, 5004, 5005, 5006, 5007, 5008, 5009] (.block 0 (.loop Bz0)))
def Bz18 : AC := (.kp [1] [5000, 5001, 5002, 5003, 5004, 5005, 5006, 5007, 5008, 5009] (.seq (.regi false [⟨(some 18), none, .i (.mov (.t 1))⟩, ⟨(some 4), none, .i (.mov (.t 18))⟩]) .ret))
def Bz19 : AC := (.kp [0, 1] [5000, 5001, 5002, 5003, 5004, 5005, 5006, 5007, 5008, 5009] (.seq (.seq (.regi false [⟨(some 5), none, .i (.mov (.c (.int .i64 0)))⟩]) Bz17) Bz18))
def Az1a : AFn := ⟨19, 2, (.seq (.regi false [⟨(some 4), none, .i (.mov (.c (.int .i64 0)))⟩]) Bz19), [.tmp 4]⟩
theorem cz1c : cFn (drV none) Try.prog nz5 Az1a := ⟨_, _, Try.func12, rfl, by kernel_rfl, by decide, rfl, by kernel_rfl, by kernel_rfl⟩
def Bz48 : AC := (.kp [0, 1, 5, 9] [5000, 5001] (.dn (.cond (.t 9) .skip (.exit 0))))
def Bz70 : AC := (.kp [0, 1, 5, 19] [5000, 5001] (.dn (.cond (.t 19) (.seq (.reg false [⟨(some 4), none, .i (.mov (.c (.int .i64 (-1))))⟩]) (.dn .ret)) .skip)))
def Bz71 : AC := (.kp [0, 1, 5] [5000, 5001] (.dn (.seq (.reg false [⟨(some 18), none, .i (.mov (.t 1))⟩, ⟨(some 19), none, .i (.bin .lss (.t 18) (.c (.int .i64 0)))⟩]) Bz70)))
def Bz72 : AC := (.kp [0, 1, 5] [5000, 5001] (.dn (.reg false [⟨(some 10), none, .i (.mov (.t 5))⟩, ⟨(some 11), none, .i (.bin .add (.t 10) (.c (.int .i64 1)))⟩, ⟨(some 5), none, .i (.mov (.t 11))⟩])))
def Bz73 : AC := (.kp [0, 1, 5] [5000, 5001] (.dn (.seq (.block 1 (.seq (.reg false [⟨(some 12), none, .i (.mov (.t 0))⟩, ⟨(some 13), none, .i (.mov (.t 5))⟩, ⟨(some 14), none, .i (.iad 1 (.t 12) (.t 13))⟩, ⟨(some 15), none, .i (.ld (.t 14))⟩, ⟨(some 16), none, .i (.mov (.t 1))⟩, ⟨(some 17), none, .call nz37 [(.t 15), (.t 16)]⟩, ⟨(some 1), none, .i (.mov (.t 17))⟩]) Bz71)) Bz72)))
def Bz20 : AC := (.kp [0, 1, 5] [5000, 5001] (.dn (.seq (.seq (.reg false [⟨(some 6), none, .i (.mov (.t 5))⟩, ⟨(some 7), none, .i (.mov (.t 0))⟩, ⟨(some 8), none, .i (.len (.t 7))⟩, ⟨(some 9), none, .i (.bin .lss (.t 6) (.t 8))⟩]) Bz48) Bz73)))
def Bz74 : AC := (.kp [0, 1, 5] [5000, 5001] (.dn (.block 0 (.loop Bz20))))
def Bz75 : AC := (.kp [1] [5000, 5001] (.dn (.seq (.reg false [⟨(some 20), none, .i (.mov (.t 1))⟩, ⟨(some 4), none, .i (.mov (.t 20))⟩]) (.dn .ret))))
def Bz76 : AC := (.kp [0, 1] [5000, 5001] (.dn (.seq (.seq (.reg false [⟨(some 5), none, .i (.mov (.c (.int .i64 0)))⟩]) Bz74) Bz75)))
def Az77 : AFn := ⟨21, 2, (.seq (.reg false [⟨(some 4), none, .i (.mov (.c (.int .i64 0)))⟩]) Bz76), [.tmp 4]⟩
theorem czdd : cFn (drV none) Try.prog nz9 Az77 := ⟨_, _, Try.func13, rfl, by kernel_rfl, by decide, rfl, by kernel_rfl, by kernel_rfl⟩
def Bz49 : AC := (.kp [0, 1, 11] [5000, 5001] (.dn (.cond (.t 11) (.seq (.reg false [⟨(some 4), none, .i (.mov (.c (.int .i64 (-1))))⟩]) (.dn .ret)) .skip)))
def Bz4a : AC := (.kp [0, 1, 5, 15] [5000, 5001] (.dn (.cond (.t 15) .skip (.exit 0))))
def Bz4b : AC := (.kp [0, 1, 5, 25] [5000, 5001] (.dn (.cond (.t 25) (.seq (.reg false [⟨(some 4), none, .i (.mov (.c (.int .i64 (-1))))⟩]) (.dn .ret)) .skip)))
def Bz4c : AC := (.kp [0, 1, 5] [5000, 5001] (.dn (.seq (.reg false [⟨(some 24), none, .i (.mov (.t 1))⟩, ⟨(some 25), none, .i (.bin .lss (.t 24) (.c (.int .i64 0)))⟩]) Bz4b)))
def Bz78 : AC := (.kp [0, 1, 5] [5000, 5001] (.dn (.reg false [⟨(some 16), none, .i (.mov (.t 5))⟩, ⟨(some 17), none, .i (.bin .add (.t 16) (.c (.int .i64 1)))⟩, ⟨(some 5), none, .i (.mov (.t 17))⟩])))
def Bz4d : AC := (.kp [0, 1, 5] [5000, 5001] (.dn (.seq (.block 1 (.seq (.reg false [⟨(some 18), none, .i (.mov (.t 0))⟩, ⟨(some 19), none, .i (.mov (.t 5))⟩, ⟨(some 20), none, .i (.iad 1 (.t 18) (.t 19))⟩, ⟨(some 21), none, .i (.ld (.t 20))⟩, ⟨(some 22), none, .i (.mov (.t 1))⟩, ⟨(some 23), none, .call nz3a [(.t 21), (.t 22)]⟩, ⟨(some 1), none, .i (.mov (.t 23))⟩]) Bz4c)) Bz78)))
def Bz21 : AC := (.kp [0, 1, 5] [5000, 5001] (.dn (.seq (.seq (.reg false [⟨(some 12), none, .i (.mov (.t 5))⟩, ⟨(some 13), none, .i (.mov (.t 0))⟩, ⟨(some 14), none, .i (.len (.t 13))⟩, ⟨(some 15), none, .i (.bin .lss (.t 12) (.t 14))⟩]) Bz4a) Bz4d)))
def Bz79 : AC := (.kp [0, 1, 5] [5000, 5001] (.dn (.block 0 (.loop Bz21))))
def Bz7a : AC := (.kp [1] [5000, 5001] (.dn (.seq (.reg false [⟨(some 26), none, .i (.mov (.t 1))⟩, ⟨(some 4), none, .i (.mov (.t 26))⟩]) (.dn .ret))))
def Bz7b : AC := (.kp [0, 1] [5000, 5001] (.dn (.seq (.seq (.reg false [⟨(some 5), none, .i (.mov (.c (.int .i64 0)))⟩]) Bz79) Bz7a)))
def Bz4e : AC := (.kp [0, 1] [5000, 5001] (.dn (.seq (.seq (.reg false [⟨(some 10), none, .i (.mov (.t 1))⟩, ⟨(some 11), none, .i (.bin .lss (.t 10) (.c (.int .i64 0)))⟩]) Bz49) Bz7b)))
def Bz7c : AC := (.kp [0, 1] [5000, 5001] (.dn (.seq (.reg false [⟨(some 6), none, .i (.mov (.t 1))⟩, ⟨(some 7), none, .i (.mov (.t 0))⟩, ⟨(some 8), none, .i (.len (.t 7))⟩, ⟨(some 9), none, .i (.bin .sub (.t 6) (.t 8))⟩, ⟨(some 1), none, .i (.mov (.t 9))⟩]) Bz4e)))
def Az7d : AFn := ⟨27, 2, (.seq (.reg false [⟨(some 4), none, .i (.mov (.c (.int .i64 0)))⟩]) Bz7c), [.tmp 4]⟩
theorem czde : cFn (drV none) Try.prog nz1m Az7d := ⟨_, _, Try.func26, rfl, by kernel_rfl, by decide, rfl, by kernel_rfl, by kernel_rfl⟩
def Bz1k : AC := (.kp [0, 30] [5000] (.dn (.cond (.t 30) (.seq (.reg false [⟨(some 2), none, .i (.mov (.c (.bool false)))⟩]) (.dn .ret)) .skip)))
def Bz4f : AC := (.kp [0, 4, 37] [5000] (.dn (.cond (.t 37) .skip (.exit 0))))
def Bz4g : AC := (.kp [0, 4, 52] [5000] (.dn (.cond (.t 52) (.seq (.reg false [⟨(some 2), none, .i (.mov (.c (.bool false)))⟩]) (.dn .ret)) .skip)))
def Bz4h : AC := (.kp [0, 4, 5, 62] [5000] (.dn (.cond (.t 62) .skip (.exit 2))))
def Bz4i : AC := (.kp [0, 4, 5, 81] [5000] (.dn (.cond (.t 81) (.seq (.reg false [⟨(some 2), none, .i (.mov (.c (.bool false)))⟩]) (.dn .ret)) .skip)))
def Bz7e : AC := (.kp [0, 4, 5] [5000] (.dn (.reg false [⟨(some 63), none, .i (.mov (.t 5))⟩, ⟨(some 64), none, .i (.bin .add (.t 63) (.c (.int .i64 1)))⟩, ⟨(some 5), none, .i (.mov (.t 64))⟩])))
def Bz7f : AC := (.kp [0, 4, 5] [5000] (.dn (.seq (.block 3 (.seq (.reg true [⟨(some 65), none, .i (.mov (.t 0))⟩, ⟨(some 66), none, .i (.nilck (.t 65))⟩, ⟨(some 67), none, .i (.fad 3 (.t 66))⟩, ⟨(some 68), none, .i (.ld (.t 67))⟩, ⟨(some 69), none, .i (.mov (.t 4))⟩, ⟨(some 70), none, .i (.iad 1 (.t 68) (.t 69))⟩, ⟨(some 71), none, .i (.ld (.t 70))⟩, ⟨(some 72), none, .i (.mov (.t 5))⟩, ⟨(some 73), none, .i (.iad 1 (.t 71) (.t 72))⟩, ⟨(some 74), none, .i (.ld (.t 73))⟩, ⟨(some 75), none, .i (.mov (.t 0))⟩, ⟨(some 76), none, .i (.nilck (.t 75))⟩, ⟨(some 77), none, .i (.fad 1 (.t 76))⟩, ⟨(some 78), none, .i (.ld (.t 77))⟩, ⟨(some 79), none, .i (.bin .sub (.t 78) (.c (.int .i64 1)))⟩, ⟨(some 80), none, .calh nz1f [(.t 74), (.c (.int .i64 0)), (.t 79)]⟩, ⟨(some 81), none, .i (.un .not (.t 80))⟩]) Bz4i)) Bz7e)))
def Bz22 : AC := (.kp [0, 4, 5] [5000] (.dn (.seq (.seq (.reg false [⟨(some 53), none, .i (.mov (.t 5))⟩, ⟨(some 54), none, .i (.mov (.t 0))⟩, ⟨(some 55), none, .i (.nilck (.t 54))⟩, ⟨(some 56), none, .i (.fad 3 (.t 55))⟩, ⟨(some 57), none, .i (.ld (.t 56))⟩, ⟨(some 58), none, .i (.mov (.t 4))⟩, ⟨(some 59), none, .i (.iad 1 (.t 57) (.t 58))⟩, ⟨(some 60), none, .i (.ld (.t 59))⟩, ⟨(some 61), none, .i (.len (.t 60))⟩, ⟨(some 62), none, .i (.bin .lss (.t 53) (.t 61))⟩]) Bz4h) Bz7f)))
def Bz7g : AC := (.kp [0, 4, 5] [5000] (.dn (.block 2 (.loop Bz22))))
def Bz7h : AC := (.kp [0, 4] [5000] (.dn (.seq (.reg false [⟨(some 5), none, .i (.mov (.c (.int .i64 0)))⟩]) Bz7g)))
def Bz7i : AC := (.kp [0, 4] [5000] (.dn (.reg false [⟨(some 38), none, .i (.mov (.t 4))⟩, ⟨(some 39), none, .i (.bin .add (.t 38) (.c (.int .i64 1)))⟩, ⟨(some 4), none, .i (.mov (.t 39))⟩])))
def Bz7j : AC := (.kp [0, 4] [5000] (.dn (.seq (.block 1 (.seq (.seq (.reg true [⟨(some 40), none, .i (.mov (.t 0))⟩, ⟨(some 41), none, .i (.nilck (.t 40))⟩, ⟨(some 42), none, .i (.fad 3 (.t 41))⟩, ⟨(some 43), none, .i (.ld (.t 42))⟩, ⟨(some 44), none, .i (.mov (.t 4))⟩, ⟨(some 45), none, .i (.iad 1 (.t 43) (.t 44))⟩, ⟨(some 46), none, .i (.ld (.t 45))⟩, ⟨(some 47), none, .i (.len (.t 46))⟩, ⟨(some 48), none, .i (.mov (.t 0))⟩, ⟨(some 49), none, .i (.nilck (.t 48))⟩, ⟨(some 50), none, .i (.fad 0 (.t 49))⟩, ⟨(some 51), none, .i (.ld (.t 50))⟩, ⟨(some 52), none, .i (.bin .neq (.t 47) (.t 51))⟩]) Bz4g) Bz7h)) Bz7i)))
def Bz23 : AC := (.kp [0, 4] [5000] (.dn (.seq (.seq (.reg false [⟨(some 31), none, .i (.mov (.t 4))⟩, ⟨(some 32), none, .i (.mov (.t 0))⟩, ⟨(some 33), none, .i (.nilck (.t 32))⟩, ⟨(some 34), none, .i (.fad 3 (.t 33))⟩, ⟨(some 35), none, .i (.ld (.t 34))⟩, ⟨(some 36), none, .i (.len (.t 35))⟩, ⟨(some 37), none, .i (.bin .lss (.t 31) (.t 36))⟩]) Bz4f) Bz7j)))
def Bz7k : AC := (.kp [0, 4] [5000] (.dn (.block 0 (.loop Bz23))))
def Bz7l : AC := (.kp [] [5000] (.dn (.seq (.reg false [⟨(some 2), none, .i (.mov (.c (.bool true)))⟩]) (.dn .ret))))
def Bz7m : AC := (.kp [0] [5000] (.dn (.seq (.seq (.reg false [⟨(some 4), none, .i (.mov (.c (.int .i64 0)))⟩]) Bz7k) Bz7l)))
def Bz7n : AC := (.kp [0, 3] [3, 7, 5000] (.dn (.seq (.seq (.reg true [⟨(some 8), none, .calh nz3c [(.t 3)]⟩, ⟨(some 9), none, .i (.un .not (.t 8))⟩, ⟨(some 10), none, .i (.mov (.t 9))⟩, ⟨(some 11), (some (10, false)), .i (.mov (.t 0))⟩, ⟨(some 12), (some (10, false)), .i (.nilck (.t 11))⟩, ⟨(some 13), (some (10, false)), .i (.fad 1 (.t 12))⟩, ⟨(some 14), (some (10, false)), .i (.ld (.t 13))⟩, ⟨(some 15), (some (10, false)), .calh nz1f [(.t 14), (.c (.int .i64 1)), (.c (.int .i64 3))]⟩, ⟨(some 16), (some (10, false)), .i (.un .not (.t 15))⟩, ⟨(some 17), none, .i (.pick (.t 10) (.c (.bool true)) (.t 16))⟩, ⟨(some 18), none, .i (.mov (.t 17))⟩, ⟨(some 19), (some (18, false)), .i (.mov (.t 0))⟩, ⟨(some 20), (some (18, false)), .i (.nilck (.t 19))⟩, ⟨(some 21), (some (18, false)), .i (.fad 3 (.t 20))⟩, ⟨(some 22), (some (18, false)), .i (.ld (.t 21))⟩, ⟨(some 23), (some (18, false)), .i (.len (.t 22))⟩, ⟨(some 24), (some (18, false)), .i (.mov (.t 0))⟩, ⟨(some 25), (some (18, false)), .i (.nilck (.t 24))⟩, ⟨(some 26), (some (18, false)), .i (.fad 2 (.t 25))⟩, ⟨(some 27), (some (18, false)), .i (.ld (.t 26))⟩, ⟨(some 28), (some (18, false)), .i (.len (.t 27))⟩, ⟨(some 29), (some (18, false)), .i (.bin .neq (.t 23) (.t 28))⟩, ⟨(some 30), none, .i (.pick (.t 18) (.c (.bool true)) (.t 29))⟩]) Bz1k) Bz7m)))
def Bz7o : AC := (.kp [0] [5000] (.dn (.seq (.reg false [⟨(some 6), none, .i (.mov (.t 0))⟩, ⟨(some 7), none, .call nz3b [(.t 6)]⟩, ⟨(some 3), none, .i (.new [.int .i64 0, .slice none 0 0])⟩, ⟨none, none, .i (.sto 2 (.t 3) (.t 7))⟩]) Bz7n)))
def Az7p : AFn := ⟨82, 1, (.seq (.reg false [⟨(some 2), none, .i (.mov (.c (.bool false)))⟩]) Bz7o), [.tmp 2]⟩
theorem czdf : cFn (drV none) Try.prog nz32 Az7p := ⟨_, _, Try.func27, rfl, by kernel_rfl, by decide, rfl, by kernel_rfl, by kernel_rfl⟩
def Bz4j : AC := (.kp [0, 4, 5, 21] [15, 82, 5000] (.cond (.t 21) .skip (.exit 0)))
def Bz4k : AC := (.kp [0, 4, 5, 6, 31] [15, 82, 5000] (.cond (.t 31) .skip (.exit 2)))
def Bz1l : AC := (.kp [0, 4, 5, 6, 7, 8, 41] [15, 82, 5000] (.cond (.t 41) .skip (.exit 4)))
def Bz7q : AC := (.kp [0, 4, 5, 6, 8, 9, 11] [15, 51, 61, 82, 5000] (.regi false [⟨(some 64), none, .i (.mov (.t 9))⟩, ⟨(some 65), none, .i (.mov (.t 11))⟩, ⟨(some 66), none, .call nz1q [(.t 64), (.t 65)]⟩, ⟨(some 67), none, .i (.un .not (.t 66))⟩, ⟨(some 7), none, .i (.mov (.t 67))⟩]))
def Bz7r : AC := (.kp [0, 4, 5, 6, 8, 9] [15, 51, 82, 5000] (.seq (.regi false [⟨(some 55), none, .i (.mov (.t 0))⟩, ⟨(some 56), none, .i (.mov (.t 6))⟩, ⟨(some 57), none, .i (.mov (.t 4))⟩, ⟨(some 58), none, .i (.mov (.t 8))⟩, ⟨(some 59), none, .i (.iad 1 (.t 57) (.t 58))⟩, ⟨(some 60), none, .i (.ld (.t 59))⟩, ⟨(some 61), none, .call nz1p [(.t 55), (.t 56), (.t 60)]⟩, ⟨(some 54), none, .i (.mov (.t 61))⟩, ⟨(some 62), none, .i (.ext 0 (.t 54))⟩, ⟨(some 63), none, .i (.ext 1 (.t 54))⟩, ⟨(some 11), none, .i (.mov (.t 62))⟩, ⟨(some 12), none, .i (.mov (.t 63))⟩]) Bz7q))
def Bz7s : AC := (.kp [0, 4, 5, 6, 7, 8] [15, 82, 5000] (.regi false [⟨(some 42), none, .i (.mov (.t 8))⟩, ⟨(some 43), none, .i (.bin .add (.t 42) (.c (.int .i64 1)))⟩, ⟨(some 8), none, .i (.mov (.t 43))⟩]))
def Bz7t : AC := (.kp [0, 4, 5, 6, 8] [15, 82, 5000] (.seq (.block 5 (.seq (.regi false [⟨(some 45), none, .i (.mov (.t 0))⟩, ⟨(some 46), none, .i (.mov (.t 5))⟩, ⟨(some 47), none, .i (.mov (.t 4))⟩, ⟨(some 48), none, .i (.mov (.t 8))⟩, ⟨(some 49), none, .i (.iad 1 (.t 47) (.t 48))⟩, ⟨(some 50), none, .i (.ld (.t 49))⟩, ⟨(some 51), none, .call nz1p [(.t 45), (.t 46), (.t 50)]⟩, ⟨(some 44), none, .i (.mov (.t 51))⟩, ⟨(some 52), none, .i (.ext 0 (.t 44))⟩, ⟨(some 53), none, .i (.ext 1 (.t 44))⟩, ⟨(some 9), none, .i (.mov (.t 52))⟩, ⟨(some 10), none, .i (.mov (.t 53))⟩]) Bz7r)) Bz7s))
def Bz1h : AC := (.kp [0, 4, 5, 6, 7, 8] [15, 82, 5000] (.seq (.seq (.regi false [⟨(some 34), none, .i (.mov (.t 8))⟩, ⟨(some 35), none, .i (.mov (.t 4))⟩, ⟨(some 36), none, .i (.len (.t 35))⟩, ⟨(some 37), none, .i (.bin .lss (.t 34) (.t 36))⟩, ⟨(some 38), none, .i (.mov (.t 37))⟩, ⟨(some 39), (some (38, true)), .i (.mov (.t 7))⟩, ⟨(some 40), (some (38, true)), .i (.un .not (.t 39))⟩, ⟨(some 41), none, .i (.pick (.t 38) (.t 40) (.c (.bool false)))⟩]) Bz1l) Bz7t))
def Bz7u : AC := (.kp [0, 4, 5, 6, 7, 8] [15, 82, 5000] (.block 4 (.loop Bz1h)))
def Bz24 : AC := (.kp [0, 4, 5, 6, 68] [15, 82, 5000] (.cond (.t 68) (.exit 3) .skip))
def Bz4l : AC := (.kp [0, 4, 5, 6, 13, 77] [15, 73, 82, 5000] (.cond (.t 77) (.seq (.regi false [⟨(some 78), none, .i (.bsl 1 true [])⟩, ⟨(some 2), none, .i (.mov (.t 78))⟩, ⟨(some 3), none, .i (.mov (.c (.bool false)))⟩]) .ret) .skip))
def Bz7v : AC := (.kp [0, 4, 5, 6, 13] [15, 73, 82, 5000] (.gh (.regi false [⟨(some 79), none, .i (.mov (.t 4))⟩, ⟨(some 80), none, .i (.mov (.t 13))⟩, ⟨(some 81), none, .i (.bsl 1 true [(.t 80)])⟩, ⟨(some 82), none, .i (.app 1 24 (.t 79) (.t 81))⟩, ⟨(some 4), none, .i (.mov (.t 82))⟩])))
def Bz4m : AC := (.kp [0, 4, 5, 6, 13, 14] [15, 73, 82, 5000] (.seq (.seq (.regi false [⟨(some 76), none, .i (.mov (.t 14))⟩, ⟨(some 77), none, .i (.un .not (.t 76))⟩]) Bz4l) Bz7v))
def Bz7w : AC := (.kp [0, 4, 5, 6] [15, 82, 5000] (.seq (.regi false [⟨(some 70), none, .i (.mov (.t 0))⟩, ⟨(some 71), none, .i (.mov (.t 5))⟩, ⟨(some 72), none, .i (.mov (.t 6))⟩, ⟨(some 73), none, .call nz3d [(.t 70), (.t 71), (.t 72)]⟩, ⟨(some 69), none, .i (.mov (.t 73))⟩, ⟨(some 74), none, .i (.ext 0 (.t 69))⟩, ⟨(some 75), none, .i (.ext 1 (.t 69))⟩, ⟨(some 13), none, .i (.mov (.t 74))⟩, ⟨(some 14), none, .i (.mov (.t 75))⟩]) Bz4m))
def Bz25 : AC := (.kp [0, 4, 5, 6, 7] [15, 82, 5000] (.seq (.seq (.regi false [⟨(some 68), none, .i (.mov (.t 7))⟩]) Bz24) Bz7w))
def Bz7x : AC := (.kp [0, 4, 5, 6, 7] [15, 82, 5000] (.seq (.seq (.regi false [⟨(some 8), none, .i (.mov (.c (.int .i64 0)))⟩]) Bz7u) Bz25))
def Bz26 : AC := (.kp [0, 4, 5, 6] [15, 82, 5000] (.regi false [⟨(some 32), none, .i (.mov (.t 6))⟩, ⟨(some 33), none, .i (.bin .add (.t 32) (.c (.int .i64 1)))⟩, ⟨(some 6), none, .i (.mov (.t 33))⟩]))
def Bz7y : AC := (.kp [0, 4, 5, 6] [15, 82, 5000] (.seq (.block 3 (.seq (.regi false [⟨(some 7), none, .i (.mov (.c (.bool false)))⟩]) Bz7x)) Bz26))
def Bz27 : AC := (.kp [0, 4, 5, 6] [15, 82, 5000] (.seq (.seq (.regi false [⟨(some 26), none, .i (.mov (.t 6))⟩, ⟨(some 27), none, .i (.mov (.t 0))⟩, ⟨(some 28), none, .i (.nilck (.t 27))⟩, ⟨(some 29), none, .i (.fad 0 (.t 28))⟩, ⟨(some 30), none, .i (.ld (.t 29))⟩, ⟨(some 31), none, .i (.bin .lss (.t 26) (.t 30))⟩]) Bz4k) Bz7y))
def Bz7z : AC := (.kp [0, 4, 5, 6] [15, 82, 5000] (.block 2 (.loop Bz27)))
def Bz80 : AC := (.kp [0, 4, 5] [15, 82, 5000] (.regi false [⟨(some 22), none, .i (.mov (.t 5))⟩, ⟨(some 23), none, .i (.bin .add (.t 22) (.c (.int .i64 1)))⟩, ⟨(some 5), none, .i (.mov (.t 23))⟩]))
def Bz81 : AC := (.kp [0, 4, 5] [15, 82, 5000] (.seq (.block 1 (.seq (.regi false [⟨(some 24), none, .i (.mov (.t 5))⟩, ⟨(some 25), none, .i (.bin .add (.t 24) (.c (.int .i64 1)))⟩, ⟨(some 6), none, .i (.mov (.t 25))⟩]) Bz7z)) Bz80))
def Bz28 : AC := (.kp [0, 4, 5] [15, 82, 5000] (.seq (.seq (.regi false [⟨(some 16), none, .i (.mov (.t 5))⟩, ⟨(some 17), none, .i (.mov (.t 0))⟩, ⟨(some 18), none, .i (.nilck (.t 17))⟩, ⟨(some 19), none, .i (.fad 0 (.t 18))⟩, ⟨(some 20), none, .i (.ld (.t 19))⟩, ⟨(some 21), none, .i (.bin .lss (.t 16) (.t 20))⟩]) Bz4j) Bz81))
def Bz82 : AC := (.kp [0, 4, 5] [15, 82, 5000] (.block 0 (.loop Bz28)))
def Bz83 : AC := (.kp [4] [15, 82, 5000] (.seq (.regi false [⟨(some 83), none, .i (.mov (.t 4))⟩, ⟨(some 2), none, .i (.mov (.t 83))⟩, ⟨(some 3), none, .i (.mov (.c (.bool true)))⟩]) .ret))
def Bz84 : AC := (.kp [0, 4] [15, 82, 5000] (.seq (.seq (.regi false [⟨(some 5), none, .i (.mov (.c (.int .i64 0)))⟩]) Bz82) Bz83))
def Bz85 : AC := (.kp [0] [5000] (.seq (.regi false [⟨(some 15), none, .i (.bsl 1 true [])⟩, ⟨(some 4), none, .i (.mov (.t 15))⟩]) Bz84))
def Az29 : AFn := ⟨84, 1, (.seq (.regi false [⟨(some 2), none, .i (.mov (.c (.slice none 0 0)))⟩, ⟨(some 3), none, .i (.mov (.c (.bool false)))⟩]) Bz85), [.tmp 2, .tmp 3]⟩
theorem czdg : cFn (drV none) Try.prog nz33 Az29 := ⟨_, _, Try.func28, rfl, by kernel_rfl, by decide, rfl, by kernel_rfl, by kernel_rfl⟩
def Bz4n : AC := (.kp [0, 3, 4, 11] [7, 20, 5000] (.cond (.t 11) .skip (.exit 0)))
def Bz86 : AC := (.kp [0, 3, 4] [7, 20, 5000] (.regi false [⟨(some 12), none, .i (.mov (.t 4))⟩, ⟨(some 13), none, .i (.bin .add (.t 12) (.c (.int .i64 1)))⟩, ⟨(some 4), none, .i (.mov (.t 13))⟩]))
def Bz4o : AC := (.kp [0, 3, 4] [7, 20, 5000] (.seq (.block 1 (.regi false [⟨(some 14), none, .i (.mov (.t 3))⟩, ⟨(some 15), none, .i (.mov (.t 4))⟩, ⟨(some 16), none, .i (.mov (.t 0))⟩, ⟨(some 17), none, .i (.mov (.t 4))⟩, ⟨(some 18), none, .i (.iad 1 (.t 16) (.t 17))⟩, ⟨(some 19), none, .i (.ld (.t 18))⟩, ⟨(some 20), none, .call nz3e [(.t 19)]⟩, ⟨(some 21), none, .i (.iad 1 (.t 14) (.t 15))⟩, ⟨none, none, .i (.sto 1 (.t 21) (.t 20))⟩])) Bz86))
def Bz87 : AC := (.kp [0, 3, 4] [7, 20, 5000] (.seq (.seq (.regi false [⟨(some 8), none, .i (.mov (.t 4))⟩, ⟨(some 9), none, .i (.mov (.t 0))⟩, ⟨(some 10), none, .i (.len (.t 9))⟩, ⟨(some 11), none, .i (.bin .lss (.t 8) (.t 10))⟩]) Bz4n) Bz4o))
def Bz88 : AC := (.kp [0, 3, 4] [7, 20, 5000] (.block 0 (.loop Bz87)))
def Bz89 : AC := (.kp [3] [7, 20, 5000] (.seq (.regi false [⟨(some 22), none, .i (.mov (.t 3))⟩, ⟨(some 2), none, .i (.mov (.t 22))⟩]) .ret))
def Bz8a : AC := (.kp [0, 3] [7, 20, 5000] (.seq (.seq (.regi false [⟨(some 4), none, .i (.mov (.c (.int .i64 0)))⟩]) Bz88) Bz89))
def Bz8b : AC := (.kp [0] [5000] (.seq (.regi false [⟨(some 5), none, .i (.mov (.t 0))⟩, ⟨(some 6), none, .i (.len (.t 5))⟩, ⟨(some 7), none, .i (.mks 1 24 [.slice none 0 0] (.t 6) (.t 6))⟩, ⟨(some 3), none, .i (.mov (.t 7))⟩]) Bz8a))
def Az8c : AFn := ⟨23, 1, (.seq (.regi false [⟨(some 2), none, .i (.mov (.c (.slice none 0 0)))⟩]) Bz8b), [.tmp 2]⟩
theorem czdh : cFn (drV none) Try.prog nz1n Az8c := ⟨_, _, Try.func29, rfl, by kernel_rfl, by decide, rfl, by kernel_rfl, by kernel_rfl⟩
def Bz8d : AC := (.kp [1] [1, 5000] (.dn (.seq (.reg false [⟨(some 3), none, .i (.lda 4 (.t 1))⟩, ⟨(some 4), none, .call nz3g [(.t 3)]⟩, ⟨(some 5), none, .call nz3f [(.t 4)]⟩, ⟨(some 6), none, .i (.mov (.t 5))⟩, ⟨(some 7), (some (6, true)), .i (.fad 1 (.t 1))⟩, ⟨(some 8), (some (6, true)), .i (.ld (.t 7))⟩, ⟨(some 9), (some (6, true)), .call nz1g [(.t 8), (.c (.int .i64 1)), (.c (.int .i64 3))]⟩, ⟨(some 10), none, .i (.pick (.t 6) (.t 9) (.c (.bool false)))⟩, ⟨(some 11), none, .i (.mov (.t 10))⟩, ⟨(some 12), (some (11, true)), .i (.fad 3 (.t 1))⟩, ⟨(some 13), (some (11, true)), .i (.ld (.t 12))⟩, ⟨(some 14), (some (11, true)), .i (.len (.t 13))⟩, ⟨(some 15), (some (11, true)), .i (.fad 2 (.t 1))⟩, ⟨(some 16), (some (11, true)), .i (.ld (.t 15))⟩, ⟨(some 17), (some (11, true)), .i (.len (.t 16))⟩, ⟨(some 18), (some (11, true)), .i (.bin .eql (.t 14) (.t 17))⟩, ⟨(some 19), none, .i (.pick (.t 11) (.t 18) (.c (.bool false)))⟩, ⟨(some 20), none, .i (.mov (.t 19))⟩, ⟨(some 21), (some (20, true)), .i (.fad 3 (.t 1))⟩, ⟨(some 22), (some (20, true)), .i (.ld (.t 21))⟩, ⟨(some 23), (some (20, true)), .i (.mkf nz1r [(.t 1)])⟩, ⟨(some 24), (some (20, true)), .call nz1j [(.t 22), (.t 23)]⟩, ⟨(some 25), (some (20, true)), .i (.un .not (.t 24))⟩, ⟨(some 26), none, .i (.pick (.t 20) (.t 25) (.c (.bool false)))⟩, ⟨(some 2), none, .i (.mov (.t 26))⟩]) (.dn .ret))))
def Az8e : AFn := ⟨27, 1, (.seq (.reg false [⟨(some 1), none, .i (.box (.t 0))⟩, ⟨(some 2), none, .i (.mov (.c (.bool false)))⟩]) Bz8d), [.tmp 2]⟩
theorem czdi : cFn (drV none) Try.prog nz34 Az8e := ⟨_, _, Try.func30, rfl, by kernel_rfl, by decide, rfl, by kernel_rfl, by kernel_rfl⟩
def Bz4p : AC := (.kp [1, 4, 5, 6, 11, 12, 20] [1, 5, 6, 9, 40, 5000] (.cond (.t 20) .skip (.exit 2)))
def Bz4q : AC := (.kp [1, 4, 5, 6, 7, 11, 12, 32] [1, 5, 6, 9, 28, 40, 5000] (.cond (.t 32) (.seq (.regi false [⟨(some 2), none, .i (.mov (.c (.slice none 0 0)))⟩, ⟨(some 3), none, .i (.mov (.c (.bool false)))⟩]) .ret) .skip))
def Bz8f : AC := (.kp [1, 4, 5, 6, 7, 11, 12, 36] [1, 5, 6, 9, 28, 40, 5000] (.gh (.cond (.t 36) (.regi false [⟨(some 37), none, .i (.mov (.t 4))⟩, ⟨(some 38), none, .i (.mov (.t 7))⟩, ⟨(some 39), none, .i (.bsl 1 true [(.t 38)])⟩, ⟨(some 40), none, .i (.app 1 24 (.t 37) (.t 39))⟩, ⟨(some 4), none, .i (.mov (.t 40))⟩]) .skip)))
def Bz8g : AC := (.kp [1, 4, 5, 6, 7, 11, 12] [1, 5, 6, 9, 28, 40, 5000] (.seq (.regi false [⟨(some 33), none, .i (.mov (.t 4))⟩, ⟨(some 34), none, .i (.mkf nz1u [(.t 1), (.t 5), (.t 6)])⟩, ⟨(some 35), none, .call nz1j [(.t 33), (.t 34)]⟩, ⟨(some 36), none, .i (.un .not (.t 35))⟩]) Bz8f))
def Bz4r : AC := (.kp [1, 4, 5, 6, 7, 8, 11, 12] [1, 5, 6, 9, 28, 40, 5000] (.seq (.seq (.regi false [⟨(some 31), none, .i (.mov (.t 8))⟩, ⟨(some 32), none, .i (.un .not (.t 31))⟩]) Bz4q) Bz8g))
def Bz4s : AC := (.kp [1, 4, 5, 11, 12, 41] [1, 5, 9, 40, 5000] (.regi false [⟨(some 6), none, .i (.new [.int .i64 0])⟩, ⟨none, none, .i (.sto 1 (.t 6) (.t 41))⟩]))
def Bz4t : AC := (.kp [1, 4, 5, 6, 11, 12] [1, 5, 6, 9, 40, 5000] (.regi false [⟨(some 21), none, .i (.ld (.t 6))⟩, ⟨(some 22), none, .i (.bin .add (.t 21) (.c (.int .i64 1)))⟩, ⟨none, none, .i (.sto 1 (.t 6) (.t 22))⟩]))
def Bz4u : AC := (.kp [1, 4, 5, 6, 11, 12] [1, 5, 6, 9, 40, 5000] (.seq (.seq (.regi false [⟨(some 41), none, .i (.ld (.t 6))⟩]) Bz4s) Bz4t))
def Bz8h : AC := (.kp [1, 4, 5, 6, 11, 12] [1, 5, 6, 9, 40, 5000] (.seq (.block 3 (.seq (.regi false [⟨(some 24), none, .i (.lda 4 (.t 1))⟩, ⟨(some 25), none, .i (.lda 4 (.t 1))⟩, ⟨(some 26), none, .i (.ld (.t 5))⟩, ⟨(some 27), none, .i (.ld (.t 6))⟩, ⟨(some 28), none, .call nz3h [(.t 24), (.t 25), (.t 26), (.t 27)]⟩, ⟨(some 23), none, .i (.mov (.t 28))⟩, ⟨(some 29), none, .i (.ext 0 (.t 23))⟩, ⟨(some 30), none, .i (.ext 1 (.t 23))⟩, ⟨(some 7), none, .i (.mov (.t 29))⟩, ⟨(some 8), none, .i (.mov (.t 30))⟩]) Bz4r)) Bz4u))
def Bz2a : AC := (.kp [1, 4, 5, 6, 11, 12] [1, 5, 6, 9, 40, 5000] (.seq (.seq (.regi false [⟨(some 17), none, .i (.ld (.t 6))⟩, ⟨(some 18), none, .i (.fad 0 (.t 1))⟩, ⟨(some 19), none, .i (.ld (.t 18))⟩, ⟨(some 20), none, .i (.bin .lss (.t 17) (.t 19))⟩]) Bz4p) Bz8h))
def Bz8i : AC := (.kp [1, 4, 5, 6, 11, 12] [1, 5, 6, 9, 40, 5000] (.block 2 (.loop Bz2a)))
def Bz8j : AC := (.kp [1, 4, 5, 11, 12] [1, 5, 9, 40, 5000] (.seq (.regi false [⟨(some 15), none, .i (.ld (.t 5))⟩, ⟨(some 16), none, .i (.bin .add (.t 15) (.c (.int .i64 1)))⟩, ⟨(some 6), none, .i (.new [.int .i64 0])⟩, ⟨none, none, .i (.sto 1 (.t 6) (.t 16))⟩]) Bz8i))
def Bz8k : AC := (.kp [1, 4, 11, 12] [1, 9, 40, 5000] (.regi false [⟨(some 42), none, .i (.bin .add (.t 12) (.c (.int .i64 1)))⟩, ⟨(some 12), none, .i (.mov (.t 42))⟩]))
def Bz8l : AC := (.kp [1, 4, 11, 12] [1, 9, 40, 5000] (.seq (.block 1 (.seq (.regi false [⟨(some 14), none, .i (.mov (.t 12))⟩, ⟨(some 5), none, .i (.new [.int .i64 0])⟩, ⟨none, none, .i (.sto 1 (.t 5) (.t 14))⟩]) Bz8j)) Bz8k))
def Bz4v : AC := (.kp [1, 4, 11, 12, 13] [1, 9, 40, 5000] (.seq (.cond (.t 13) .skip (.exit 0)) Bz8l))
def Bz2b : AC := (.kp [1, 4, 11, 12] [1, 9, 40, 5000] (.seq (.regi false [⟨(some 13), none, .i (.bin .lss (.t 12) (.t 11))⟩]) Bz4v))
def Bz8m : AC := (.kp [1, 4, 11, 12] [1, 9, 40, 5000] (.block 0 (.loop Bz2b)))
def Bz8n : AC := (.kp [4] [9, 40, 5000] (.seq (.regi false [⟨(some 43), none, .i (.mov (.t 4))⟩, ⟨(some 2), none, .i (.mov (.t 43))⟩, ⟨(some 3), none, .i (.mov (.c (.bool true)))⟩]) .ret))
def Bz8o : AC := (.kp [1, 4] [1, 9, 40, 5000] (.seq (.seq (.regi false [⟨(some 10), none, .i (.fad 0 (.t 1))⟩, ⟨(some 11), none, .i (.ld (.t 10))⟩, ⟨(some 12), none, .i (.mov (.c (.int .i64 0)))⟩]) Bz8m) Bz8n))
def Bz8p : AC := (.kp [1] [1, 5000] (.seq (.regi false [⟨(some 9), none, .i (.bsl 1 true [])⟩, ⟨(some 4), none, .i (.mov (.t 9))⟩]) Bz8o))
def Az2c : AFn := ⟨44, 1, (.seq (.regi false [⟨(some 1), none, .i (.box (.t 0))⟩, ⟨(some 2), none, .i (.mov (.c (.slice none 0 0)))⟩, ⟨(some 3), none, .i (.mov (.c (.bool false)))⟩]) Bz8p), [.tmp 2, .tmp 3]⟩
theorem czdj : cFn (drV none) Try.prog nz35 Az2c := ⟨_, _, Try.func31, rfl, by kernel_rfl, by decide, rfl, by kernel_rfl, by kernel_rfl⟩
def Bz4w : AC := (.kp [0, 1, 10] [5000, 5001] (.dn (.cond (.t 10) (.seq (.reg false [⟨(some 4), none, .i (.mov (.c (.bool false)))⟩]) (.dn .ret)) .skip)))
def Bz4x : AC := (.kp [0, 1, 5, 14] [5000, 5001] (.dn (.cond (.t 14) .skip (.exit 0))))
def Bz8q : AC := (.kp [0, 1, 5, 25] [5000, 5001] (.dn (.cond (.t 25) (.seq (.reg false [⟨(some 4), none, .i (.mov (.c (.bool false)))⟩]) (.dn .ret)) .skip)))
def Bz8r : AC := (.kp [0, 1, 5] [5000, 5001] (.dn (.reg false [⟨(some 15), none, .i (.mov (.t 5))⟩, ⟨(some 16), none, .i (.bin .add (.t 15) (.c (.int .i64 1)))⟩, ⟨(some 5), none, .i (.mov (.t 16))⟩])))
def Bz4y : AC := (.kp [0, 1, 5] [5000, 5001] (.dn (.seq (.block 1 (.seq (.reg true [⟨(some 17), none, .i (.mov (.t 0))⟩, ⟨(some 18), none, .i (.mov (.t 5))⟩, ⟨(some 19), none, .i (.iad 1 (.t 17) (.t 18))⟩, ⟨(some 20), none, .i (.ld (.t 19))⟩, ⟨(some 21), none, .i (.mov (.t 1))⟩, ⟨(some 22), none, .i (.mov (.t 5))⟩, ⟨(some 23), none, .i (.iad 1 (.t 21) (.t 22))⟩, ⟨(some 24), none, .i (.ld (.t 23))⟩, ⟨(some 25), none, .i (.bin .neq (.t 20) (.t 24))⟩]) Bz8q)) Bz8r)))
def Bz2d : AC := (.kp [0, 1, 5] [5000, 5001] (.dn (.seq (.seq (.reg false [⟨(some 11), none, .i (.mov (.t 5))⟩, ⟨(some 12), none, .i (.mov (.t 0))⟩, ⟨(some 13), none, .i (.len (.t 12))⟩, ⟨(some 14), none, .i (.bin .lss (.t 11) (.t 13))⟩]) Bz4x) Bz4y)))
def Bz8s : AC := (.kp [0, 1, 5] [5000, 5001] (.dn (.block 0 (.loop Bz2d))))
def Bz8t : AC := (.kp [] [5000, 5001] (.dn (.seq (.reg false [⟨(some 4), none, .i (.mov (.c (.bool true)))⟩]) (.dn .ret))))
def Bz8u : AC := (.kp [0, 1] [5000, 5001] (.dn (.seq (.seq (.reg false [⟨(some 5), none, .i (.mov (.c (.int .i64 0)))⟩]) Bz8s) Bz8t)))
def Bz8v : AC := (.kp [0, 1] [5000, 5001] (.dn (.seq (.seq (.reg false [⟨(some 6), none, .i (.mov (.t 0))⟩, ⟨(some 7), none, .i (.len (.t 6))⟩, ⟨(some 8), none, .i (.mov (.t 1))⟩, ⟨(some 9), none, .i (.len (.t 8))⟩, ⟨(some 10), none, .i (.bin .neq (.t 7) (.t 9))⟩]) Bz4w) Bz8u)))
def Az8w : AFn := ⟨26, 2, (.seq (.reg false [⟨(some 4), none, .i (.mov (.c (.bool false)))⟩]) Bz8v), [.tmp 4]⟩
theorem czdk : cFn (drV none) Try.prog nz36 Az8w := ⟨_, _, Try.func32, rfl, by kernel_rfl, by decide, rfl, by kernel_rfl, by kernel_rfl⟩
def Bz2e : AC := (.kp [0, 1, 5, 9] [5000, 5001] (.dn (.cond (.t 9) .skip (.exit 0))))
def Bz8x : AC := (.kp [0, 1, 5] [5000, 5001] (.dn (.reg false [⟨(some 16), none, .i (.mov (.t 1))⟩, ⟨(some 17), none, .i (.bin .add (.t 16) (.c (.int .i64 1)))⟩, ⟨(some 1), none, .i (.mov (.t 17))⟩])))
def Bz8y : AC := (.kp [0, 1, 5] [5000, 5001] (.dn (.reg false [⟨(some 10), none, .i (.mov (.t 5))⟩, ⟨(some 11), none, .i (.bin .add (.t 10) (.c (.int .i64 1)))⟩, ⟨(some 5), none, .i (.mov (.t 11))⟩])))
def Bz2f : AC := (.kp [0, 1, 5] [5000, 5001] (.dn (.seq (.block 1 (.seq (.reg false [⟨(some 12), none, .i (.mov (.t 0))⟩, ⟨(some 13), none, .i (.mov (.t 5))⟩, ⟨(some 14), none, .i (.mov (.t 1))⟩, ⟨(some 15), none, .i (.iad 1 (.t 12) (.t 13))⟩, ⟨none, none, .i (.sto 1 (.t 15) (.t 14))⟩]) Bz8x)) Bz8y)))
def Bz1i : AC := (.kp [0, 1, 5] [5000, 5001] (.dn (.seq (.seq (.reg false [⟨(some 6), none, .i (.mov (.t 5))⟩, ⟨(some 7), none, .i (.mov (.t 0))⟩, ⟨(some 8), none, .i (.len (.t 7))⟩, ⟨(some 9), none, .i (.bin .lss (.t 6) (.t 8))⟩]) Bz2e) Bz2f)))
def Bz4z : AC := (.kp [0, 1, 5] [5000, 5001] (.dn (.block 0 (.loop Bz1i))))
def Bz50 : AC := (.kp [1] [5000, 5001] (.dn (.seq (.reg false [⟨(some 18), none, .i (.mov (.t 1))⟩, ⟨(some 4), none, .i (.mov (.t 18))⟩]) (.dn .ret))))
def Bz51 : AC := (.kp [0, 1] [5000, 5001] (.dn (.seq (.seq (.reg false [⟨(some 5), none, .i (.mov (.c (.int .i64 0)))⟩]) Bz4z) Bz50)))
def Az52 : AFn := ⟨19, 2, (.seq (.reg false [⟨(some 4), none, .i (.mov (.c (.int .i64 0)))⟩]) Bz51), [.tmp 4]⟩
theorem cz8z : cFn (drV none) Try.prog nz1o Az52 := ⟨_, _, Try.func33, rfl, by kernel_rfl, by decide, rfl, by kernel_rfl, by kernel_rfl⟩
def Bz53 : AC := (.kp [0, 1, 5, 9] [5000, 5001] (.dn (.cond (.t 9) .skip (.exit 0))))
def Bz90 : AC := (.kp [0, 1, 5, 17] [5000, 5001] (.dn (.cond (.t 17) (.seq (.reg false [⟨(some 4), none, .i (.mov (.c (.int .i64 (-1))))⟩]) (.dn .ret)) .skip)))
def Bz91 : AC := (.kp [0, 1, 5] [5000, 5001] (.dn (.reg false [⟨(some 18), none, .i (.mov (.t 1))⟩, ⟨(some 19), none, .i (.bin .add (.t 18) (.c (.int .i64 1)))⟩, ⟨(some 1), none, .i (.mov (.t 19))⟩])))
def Bz92 : AC := (.kp [0, 1, 5] [5000, 5001] (.dn (.reg false [⟨(some 10), none, .i (.mov (.t 5))⟩, ⟨(some 11), none, .i (.bin .add (.t 10) (.c (.int .i64 1)))⟩, ⟨(some 5), none, .i (.mov (.t 11))⟩])))
def Bz54 : AC := (.kp [0, 1, 5] [5000, 5001] (.dn (.seq (.block 1 (.seq (.seq (.reg false [⟨(some 12), none, .i (.mov (.t 0))⟩, ⟨(some 13), none, .i (.mov (.t 5))⟩, ⟨(some 14), none, .i (.iad 1 (.t 12) (.t 13))⟩, ⟨(some 15), none, .i (.ld (.t 14))⟩, ⟨(some 16), none, .i (.mov (.t 1))⟩, ⟨(some 17), none, .i (.bin .neq (.t 15) (.t 16))⟩]) Bz90) Bz91)) Bz92)))
def Bz2g : AC := (.kp [0, 1, 5] [5000, 5001] (.dn (.seq (.seq (.reg false [⟨(some 6), none, .i (.mov (.t 5))⟩, ⟨(some 7), none, .i (.mov (.t 0))⟩, ⟨(some 8), none, .i (.len (.t 7))⟩, ⟨(some 9), none, .i (.bin .lss (.t 6) (.t 8))⟩]) Bz53) Bz54)))
def Bz93 : AC := (.kp [0, 1, 5] [5000, 5001] (.dn (.block 0 (.loop Bz2g))))
def Bz94 : AC := (.kp [1] [5000, 5001] (.dn (.seq (.reg false [⟨(some 20), none, .i (.mov (.t 1))⟩, ⟨(some 4), none, .i (.mov (.t 20))⟩]) (.dn .ret))))
def Bz95 : AC := (.kp [0, 1] [5000, 5001] (.dn (.seq (.seq (.reg false [⟨(some 5), none, .i (.mov (.c (.int .i64 0)))⟩]) Bz93) Bz94)))
def Az96 : AFn := ⟨21, 2, (.seq (.reg false [⟨(some 4), none, .i (.mov (.c (.int .i64 0)))⟩]) Bz95), [.tmp 4]⟩
theorem czdl : cFn (drV none) Try.prog nz37 Az96 := ⟨_, _, Try.func34, rfl, by kernel_rfl, by decide, rfl, by kernel_rfl, by kernel_rfl⟩
def Bz97 : AC := (.kp [0, 4] [5000] (.dn (.cond (.t 4) (.seq (.reg false [⟨(some 2), none, .i (.mov (.c (.slice none 0 0)))⟩]) (.dn .ret)) .skip)))
def Bz98 : AC := (.kp [0] [5000] (.dn (.seq (.reg false [⟨(some 5), none, .i (.bsl 1 false [])⟩, ⟨(some 6), none, .i (.mov (.t 0))⟩, ⟨(some 7), none, .i (.app 1 8 (.t 5) (.t 6))⟩, ⟨(some 2), none, .i (.mov (.t 7))⟩]) (.dn .ret))))
def Bz99 : AC := (.kp [0] [5000] (.dn (.seq (.seq (.reg false [⟨(some 3), none, .i (.mov (.t 0))⟩, ⟨(some 4), none, .i (.isnil false (.t 3))⟩]) Bz97) Bz98)))
def Az9a : AFn := ⟨8, 1, (.seq (.reg false [⟨(some 2), none, .i (.mov (.c (.slice none 0 0)))⟩]) Bz99), [.tmp 2]⟩
theorem czdm : cFn (drV none) Try.prog nz38 Az9a := ⟨_, _, Try.func44, rfl, by kernel_rfl, by decide, rfl, by kernel_rfl, by kernel_rfl⟩
def Bz9b : AC := (.kp [0] [5000] (.dn (.seq (.reg false [⟨(some 3), none, .i (.bsl 1 false [])⟩, ⟨(some 4), none, .i (.mov (.t 0))⟩, ⟨(some 5), none, .i (.app 1 8 (.t 3) (.t 4))⟩, ⟨(some 2), none, .i (.mov (.t 5))⟩]) (.dn .ret))))
def Az9c : AFn := ⟨6, 1, (.seq (.reg false [⟨(some 2), none, .i (.mov (.c (.slice none 0 0)))⟩]) Bz9b), [.tmp 2]⟩
theorem czdn : cFn (drV none) Try.prog nz39 Az9c := ⟨_, _, Try.func47, rfl, by kernel_rfl, by decide, rfl, by kernel_rfl, by kernel_rfl⟩
def Bz9d : AC := (.kp [1, 10] [5000, 5001] (.dn (.cond (.t 10) (.seq (.reg false [⟨(some 4), none, .i (.mov (.c (.int .i64 (-1))))⟩]) (.dn .ret)) .skip)))
def Bz9e : AC := (.kp [1] [5000, 5001] (.dn (.seq (.reg false [⟨(some 11), none, .i (.mov (.t 1))⟩, ⟨(some 4), none, .i (.mov (.t 11))⟩]) (.dn .ret))))
def Bz9f : AC := (.kp [1] [5000, 5001] (.dn (.seq (.seq (.reg false [⟨(some 9), none, .i (.mov (.t 1))⟩, ⟨(some 10), none, .i (.bin .lss (.t 9) (.c (.int .i64 0)))⟩]) Bz9d) Bz9e)))
def Bz9g : AC := (.kp [0, 1] [5000, 5001] (.dn (.seq (.reg false [⟨(some 5), none, .i (.mov (.t 1))⟩, ⟨(some 6), none, .i (.mov (.t 0))⟩, ⟨(some 7), none, .i (.len (.t 6))⟩, ⟨(some 8), none, .i (.bin .sub (.t 5) (.t 7))⟩, ⟨(some 1), none, .i (.mov (.t 8))⟩]) Bz9f)))
def Az9h : AFn := ⟨12, 2, (.seq (.reg false [⟨(some 4), none, .i (.mov (.c (.int .i64 0)))⟩]) Bz9g), [.tmp 4]⟩
theorem czdo : cFn (drV none) Try.prog nz3a Az9h := ⟨_, _, Try.func54, rfl, by kernel_rfl, by decide, rfl, by kernel_rfl, by kernel_rfl⟩
def Bz9i : AC := (.kp [0, 2] [2, 5000] (.dn (.seq (.reg true [⟨(some 3), none, .i (.mov (.t 0))⟩, ⟨(some 4), none, .i (.nilck (.t 3))⟩, ⟨(some 5), none, .i (.fad 0 (.t 4))⟩, ⟨(some 6), none, .i (.ld (.t 5))⟩, ⟨(some 7), none, .i (.mov (.t 0))⟩, ⟨(some 8), none, .i (.nilck (.t 7))⟩, ⟨(some 9), none, .i (.fad 2 (.t 8))⟩, ⟨(some 10), none, .i (.ld (.t 9))⟩, ⟨(some 11), none, .i (.bst [.int .i64 0, .slice none 0 0] [(0, 1, (.t 6)), (1, 1, (.t 10))])⟩, ⟨none, none, .i (.sto 2 (.t 2) (.t 11))⟩]) (.dn .ret))))
def Az9j : AFn := ⟨12, 1, (.seq (.reg false [⟨(some 2), none, .i (.new [.int .i64 0, .slice none 0 0])⟩]) Bz9i), [.cell (some 2) 2]⟩
theorem czdp : cFn (drV none) Try.prog nz3b Az9j := ⟨_, _, Try.func55, rfl, by kernel_rfl, by decide, rfl, by kernel_rfl, by kernel_rfl⟩
def Bz2h : AC := (.kp [0, 18] [5000] (.dn (.cond (.t 18) (.seq (.reg false [⟨(some 2), none, .i (.mov (.c (.bool false)))⟩]) (.dn .ret)) .skip)))
def Bz55 : AC := (.kp [0, 3, 25] [5000] (.dn (.cond (.t 25) .skip (.exit 0))))
def Bz9k : AC := (.kp [0, 3, 40] [5000] (.dn (.cond (.t 40) (.seq (.reg false [⟨(some 2), none, .i (.mov (.c (.bool false)))⟩]) (.dn .ret)) .skip)))
def Bz9l : AC := (.kp [0, 3] [5000] (.dn (.reg false [⟨(some 26), none, .i (.mov (.t 3))⟩, ⟨(some 27), none, .i (.bin .add (.t 26) (.c (.int .i64 1)))⟩, ⟨(some 3), none, .i (.mov (.t 27))⟩])))
def Bz56 : AC := (.kp [0, 3] [5000] (.dn (.seq (.block 1 (.seq (.reg true [⟨(some 28), none, .i (.mov (.t 0))⟩, ⟨(some 29), none, .i (.nilck (.t 28))⟩, ⟨(some 30), none, .i (.fad 1 (.t 29))⟩, ⟨(some 31), none, .i (.ld (.t 30))⟩, ⟨(some 32), none, .i (.mov (.t 3))⟩, ⟨(some 33), none, .i (.iad 1 (.t 31) (.t 32))⟩, ⟨(some 34), none, .i (.ld (.t 33))⟩, ⟨(some 35), none, .i (.mov (.t 0))⟩, ⟨(some 36), none, .i (.nilck (.t 35))⟩, ⟨(some 37), none, .i (.fad 0 (.t 36))⟩, ⟨(some 38), none, .i (.ld (.t 37))⟩, ⟨(some 39), none, .calh nz3j [(.t 34), (.t 38)]⟩, ⟨(some 40), none, .i (.un .not (.t 39))⟩]) Bz9k)) Bz9l)))
def Bz2i : AC := (.kp [0, 3] [5000] (.dn (.seq (.seq (.reg false [⟨(some 19), none, .i (.mov (.t 3))⟩, ⟨(some 20), none, .i (.mov (.t 0))⟩, ⟨(some 21), none, .i (.nilck (.t 20))⟩, ⟨(some 22), none, .i (.fad 1 (.t 21))⟩, ⟨(some 23), none, .i (.ld (.t 22))⟩, ⟨(some 24), none, .i (.len (.t 23))⟩, ⟨(some 25), none, .i (.bin .lss (.t 19) (.t 24))⟩]) Bz55) Bz56)))
def Bz9m : AC := (.kp [0, 3] [5000] (.dn (.block 0 (.loop Bz2i))))
def Bz9n : AC := (.kp [] [5000] (.dn (.seq (.reg false [⟨(some 2), none, .i (.mov (.c (.bool true)))⟩]) (.dn .ret))))
def Bz9o : AC := (.kp [0] [5000] (.dn (.seq (.seq (.reg false [⟨(some 3), none, .i (.mov (.c (.int .i64 0)))⟩]) Bz9m) Bz9n)))
def Bz9p : AC := (.kp [0] [5000] (.dn (.seq (.seq (.reg false [⟨(some 4), none, .i (.mov (.t 0))⟩, ⟨(some 5), none, .i (.nilck (.t 4))⟩, ⟨(some 6), none, .i (.fad 0 (.t 5))⟩, ⟨(some 7), none, .i (.ld (.t 6))⟩, ⟨(some 8), none, .call nz1f [(.t 7), (.c (.int .i64 1)), (.c (.int .i64 10))]⟩, ⟨(some 9), none, .i (.un .not (.t 8))⟩, ⟨(some 10), none, .i (.mov (.t 9))⟩, ⟨(some 11), (some (10, false)), .i (.mov (.t 0))⟩, ⟨(some 12), (some (10, false)), .i (.nilck (.t 11))⟩, ⟨(some 13), (some (10, false)), .i (.fad 1 (.t 12))⟩, ⟨(some 14), (some (10, false)), .i (.ld (.t 13))⟩, ⟨(some 15), (some (10, false)), .i (.len (.t 14))⟩, ⟨(some 16), (some (10, false)), .call nz1f [(.t 15), (.c (.int .i64 1)), (.c (.int .i64 3))]⟩, ⟨(some 17), (some (10, false)), .i (.un .not (.t 16))⟩, ⟨(some 18), none, .i (.pick (.t 10) (.c (.bool true)) (.t 17))⟩]) Bz2h) Bz9o)))
def Az9q : AFn := ⟨41, 1, (.seq (.reg false [⟨(some 2), none, .i (.mov (.c (.bool false)))⟩]) Bz9p), [.tmp 2]⟩
theorem czdq : cFn (drV none) Try.prog nz3c Az9q := ⟨_, _, Try.func56, rfl, by kernel_rfl, by decide, rfl, by kernel_rfl, by kernel_rfl⟩
def Bz9r : AC := (.kp [0, 1, 2] [5000, 5001, 5002] (.dn (.seq (.reg false [⟨(some 7), none, .i (.mov (.t 0))⟩, ⟨(some 8), none, .i (.mov (.t 1))⟩, ⟨(some 9), none, .i (.bin .geq (.t 7) (.t 8))⟩, ⟨(some 10), none, .i (.mov (.t 9))⟩, ⟨(some 11), (some (10, true)), .i (.mov (.t 0))⟩, ⟨(some 12), (some (10, true)), .i (.mov (.t 2))⟩, ⟨(some 13), (some (10, true)), .i (.bin .leq (.t 11) (.t 12))⟩, ⟨(some 14), none, .i (.pick (.t 10) (.t 13) (.c (.bool false)))⟩, ⟨(some 6), none, .i (.mov (.t 14))⟩]) (.dn .ret))))
def Az9s : AFn := ⟨15, 3, (.seq (.reg false [⟨(some 6), none, .i (.mov (.c (.bool false)))⟩]) Bz9r), [.tmp 6]⟩
theorem czdr : cFn (drV none) Try.prog nz1f Az9s := ⟨_, _, Try.func57, rfl, by kernel_rfl, by decide, rfl, by kernel_rfl, by kernel_rfl⟩
def Bz57 : AC := (.kp [0, 1, 2, 8, 9, 14] [10, 32, 5000, 5001, 5002] (.dn (.cond (.t 14) .skip (.exit 0))))
def Bz9t : AC := (.kp [0, 1, 2, 8, 9] [10, 32, 5000, 5001, 5002] (.dn (.reg true [⟨(some 33), none, .i (.mov (.t 0))⟩, ⟨(some 34), none, .i (.nilck (.t 33))⟩, ⟨(some 35), none, .i (.fad 2 (.t 34))⟩, ⟨(some 36), none, .i (.ld (.t 35))⟩, ⟨(some 37), none, .i (.mov (.t 2))⟩, ⟨(some 38), none, .i (.mov (.t 9))⟩, ⟨(some 39), none, .i (.iad 1 (.t 37) (.t 38))⟩, ⟨(some 40), none, .i (.ld (.t 39))⟩, ⟨(some 41), none, .i (.iad 1 (.t 36) (.t 40))⟩, ⟨(some 42), none, .i (.ld (.t 41))⟩, ⟨(some 43), none, .i (.mov (.t 1))⟩, ⟨(some 44), none, .i (.iad 1 (.t 42) (.t 43))⟩, ⟨(some 45), none, .i (.ld (.t 44))⟩, ⟨(some 1), none, .i (.mov (.t 45))⟩])))
def Bz9u : AC := (.kp [0, 1, 2, 8, 9] [10, 32, 5000, 5001, 5002] (.dn (.reg false [⟨(some 15), none, .i (.mov (.t 9))⟩, ⟨(some 16), none, .i (.bin .add (.t 15) (.c (.int .i64 1)))⟩, ⟨(some 9), none, .i (.mov (.t 16))⟩])))
def Bz9v : AC := (.kp [0, 1, 2, 8, 9] [10, 32, 5000, 5001, 5002] (.dn (.seq (.block 1 (.seq (.reg true [⟨(some 17), none, .i (.mov (.t 8))⟩, ⟨(some 18), none, .i (.mov (.t 0))⟩, ⟨(some 19), none, .i (.nilck (.t 18))⟩, ⟨(some 20), none, .i (.fad 3 (.t 19))⟩, ⟨(some 21), none, .i (.ld (.t 20))⟩, ⟨(some 22), none, .i (.mov (.t 2))⟩, ⟨(some 23), none, .i (.mov (.t 9))⟩, ⟨(some 24), none, .i (.iad 1 (.t 22) (.t 23))⟩, ⟨(some 25), none, .i (.ld (.t 24))⟩, ⟨(some 26), none, .i (.iad 1 (.t 21) (.t 25))⟩, ⟨(some 27), none, .i (.ld (.t 26))⟩, ⟨(some 28), none, .i (.mov (.t 1))⟩, ⟨(some 29), none, .i (.iad 1 (.t 27) (.t 28))⟩, ⟨(some 30), none, .i (.ld (.t 29))⟩, ⟨(some 31), none, .i (.bsl 1 false [(.t 30)])⟩, ⟨(some 32), none, .i (.app 1 8 (.t 17) (.t 31))⟩, ⟨(some 8), none, .i (.mov (.t 32))⟩]) Bz9t)) Bz9u)))
def Bz2j : AC := (.kp [0, 1, 2, 8, 9] [10, 32, 5000, 5001, 5002] (.dn (.seq (.seq (.reg false [⟨(some 11), none, .i (.mov (.t 9))⟩, ⟨(some 12), none, .i (.mov (.t 2))⟩, ⟨(some 13), none, .i (.len (.t 12))⟩, ⟨(some 14), none, .i (.bin .lss (.t 11) (.t 13))⟩]) Bz57) Bz9v)))
def Bz9w : AC := (.kp [0, 1, 2, 8, 9] [10, 32, 5000, 5001, 5002] (.dn (.block 0 (.loop Bz2j))))
def Bz9x : AC := (.kp [1, 8] [10, 32, 5000, 5001, 5002] (.dn (.seq (.reg false [⟨(some 46), none, .i (.mov (.t 8))⟩, ⟨(some 47), none, .i (.mov (.t 1))⟩, ⟨(some 6), none, .i (.mov (.t 46))⟩, ⟨(some 7), none, .i (.mov (.t 47))⟩]) (.dn .ret))))
def Bz9y : AC := (.kp [0, 1, 2, 8] [10, 32, 5000, 5001, 5002] (.dn (.seq (.seq (.reg false [⟨(some 9), none, .i (.mov (.c (.int .i64 0)))⟩]) Bz9w) Bz9x)))
def Bz9z : AC := (.kp [0, 1, 2] [5000, 5001, 5002] (.dn (.seq (.reg false [⟨(some 10), none, .i (.bsl 1 false [])⟩, ⟨(some 8), none, .i (.mov (.t 10))⟩]) Bz9y)))
def Az58 : AFn := ⟨48, 3, (.seq (.reg false [⟨(some 6), none, .i (.mov (.c (.slice none 0 0)))⟩, ⟨(some 7), none, .i (.mov (.c (.int .i64 0)))⟩]) Bz9z), [.tmp 6, .tmp 7]⟩
theorem czds : cFn (drV none) Try.prog nz1p Az58 := ⟨_, _, Try.func58, rfl, by kernel_rfl, by decide, rfl, by kernel_rfl, by kernel_rfl⟩
def Bza0 : AC := (.kp [0, 1, 10] [5000, 5001] (.dn (.cond (.t 10) (.seq (.reg false [⟨(some 4), none, .i (.mov (.c (.bool false)))⟩]) (.dn .ret)) .skip)))
def Bza1 : AC := (.kp [0, 1, 5, 14] [5000, 5001] (.dn (.cond (.t 14) .skip (.exit 0))))
def Bza2 : AC := (.kp [0, 1, 5, 25] [5000, 5001] (.dn (.cond (.t 25) (.seq (.reg false [⟨(some 4), none, .i (.mov (.c (.bool false)))⟩]) (.dn .ret)) .skip)))
def Bza3 : AC := (.kp [0, 1, 5] [5000, 5001] (.dn (.reg false [⟨(some 15), none, .i (.mov (.t 5))⟩, ⟨(some 16), none, .i (.bin .add (.t 15) (.c (.int .i64 1)))⟩, ⟨(some 5), none, .i (.mov (.t 16))⟩])))
def Bza4 : AC := (.kp [0, 1, 5] [5000, 5001] (.dn (.seq (.block 1 (.seq (.reg true [⟨(some 17), none, .i (.mov (.t 0))⟩, ⟨(some 18), none, .i (.mov (.t 5))⟩, ⟨(some 19), none, .i (.iad 1 (.t 17) (.t 18))⟩, ⟨(some 20), none, .i (.ld (.t 19))⟩, ⟨(some 21), none, .i (.mov (.t 1))⟩, ⟨(some 22), none, .i (.mov (.t 5))⟩, ⟨(some 23), none, .i (.iad 1 (.t 21) (.t 22))⟩, ⟨(some 24), none, .i (.ld (.t 23))⟩, ⟨(some 25), none, .i (.bin .neq (.t 20) (.t 24))⟩]) Bza2)) Bza3)))
def Bza5 : AC := (.kp [0, 1, 5] [5000, 5001] (.dn (.seq (.seq (.reg false [⟨(some 11), none, .i (.mov (.t 5))⟩, ⟨(some 12), none, .i (.mov (.t 0))⟩, ⟨(some 13), none, .i (.len (.t 12))⟩, ⟨(some 14), none, .i (.bin .lss (.t 11) (.t 13))⟩]) Bza1) Bza4)))
def Bza6 : AC := (.kp [0, 1, 5] [5000, 5001] (.dn (.block 0 (.loop Bza5))))
def Bza7 : AC := (.kp [] [5000, 5001] (.dn (.seq (.reg false [⟨(some 4), none, .i (.mov (.c (.bool true)))⟩]) (.dn .ret))))
def Bza8 : AC := (.kp [0, 1] [5000, 5001] (.dn (.seq (.seq (.reg false [⟨(some 5), none, .i (.mov (.c (.int .i64 0)))⟩]) Bza6) Bza7)))
def Bza9 : AC := (.kp [0, 1] [5000, 5001] (.dn (.seq (.seq (.reg false [⟨(some 6), none, .i (.mov (.t 0))⟩, ⟨(some 7), none, .i (.len (.t 6))⟩, ⟨(some 8), none, .i (.mov (.t 1))⟩, ⟨(some 9), none, .i (.len (.t 8))⟩, ⟨(some 10), none, .i (.bin .neq (.t 7) (.t 9))⟩]) Bza0) Bza8)))
def Azaa : AFn := ⟨26, 2, (.seq (.reg false [⟨(some 4), none, .i (.mov (.c (.bool false)))⟩]) Bza9), [.tmp 4]⟩
theorem czdt : cFn (drV none) Try.prog nz1q Azaa := ⟨_, _, Try.func59, rfl, by kernel_rfl, by decide, rfl, by kernel_rfl, by kernel_rfl⟩
def Bzab : AC := (.kp [1, 2, 8] [12, 5000, 5001, 5002] (.dn (.seq (.reg false [⟨(some 13), none, .i (.mov (.t 8))⟩, ⟨(some 14), none, .i (.mov (.t 1))⟩, ⟨(some 15), none, .i (.mov (.t 2))⟩, ⟨(some 16), none, .call nz3k [(.t 13), (.t 14), (.t 15)]⟩, ⟨(some 17), none, .i (.ext 0 (.t 16))⟩, ⟨(some 18), none, .i (.ext 1 (.t 16))⟩, ⟨(some 6), none, .i (.mov (.t 17))⟩, ⟨(some 7), none, .i (.mov (.t 18))⟩]) (.dn .ret))))
def Bzac : AC := (.kp [0, 1, 2] [5000, 5001, 5002] (.dn (.seq (.reg false [⟨(some 9), none, .i (.mov (.t 0))⟩, ⟨(some 10), none, .i (.mov (.t 0))⟩, ⟨(some 11), none, .i (.bst [.pointer none, .pointer none, .slice none 0 0, .slice none 0 0] [(0, 1, (.t 9)), (1, 1, (.t 10))])⟩, ⟨(some 12), none, .i (.box (.t 11))⟩, ⟨(some 8), none, .i (.mov (.t 12))⟩]) Bzab)))
def Azad : AFn := ⟨19, 3, (.seq (.reg false [⟨(some 6), none, .i (.mov (.c (.slice none 0 0)))⟩, ⟨(some 7), none, .i (.mov (.c (.bool false)))⟩]) Bzac), [.tmp 6, .tmp 7]⟩
theorem czdu : cFn (drV none) Try.prog nz3d Azad := ⟨_, _, Try.func60, rfl, by kernel_rfl, by decide, rfl, by kernel_rfl, by kernel_rfl⟩
def Bz59 : AC := (.kp [0, 3, 4, 11] [7, 5000] (.dn (.cond (.t 11) .skip (.exit 0))))
def Bzae : AC := (.kp [0, 3, 4] [7, 5000] (.dn (.reg false [⟨(some 12), none, .i (.mov (.t 4))⟩, ⟨(some 13), none, .i (.bin .add (.t 12) (.c (.int .i64 1)))⟩, ⟨(some 4), none, .i (.mov (.t 13))⟩])))
def Bz5a : AC := (.kp [0, 3, 4] [7, 5000] (.dn (.seq (.block 1 (.reg false [⟨(some 14), none, .i (.mov (.t 3))⟩, ⟨(some 15), none, .i (.mov (.t 4))⟩, ⟨(some 16), none, .i (.mov (.t 0))⟩, ⟨(some 17), none, .i (.mov (.t 4))⟩, ⟨(some 18), none, .i (.iad 1 (.t 16) (.t 17))⟩, ⟨(some 19), none, .i (.ld (.t 18))⟩, ⟨(some 20), none, .i (.iad 1 (.t 14) (.t 15))⟩, ⟨none, none, .i (.sto 1 (.t 20) (.t 19))⟩])) Bzae)))
def Bz2k : AC := (.kp [0, 3, 4] [7, 5000] (.dn (.seq (.seq (.reg false [⟨(some 8), none, .i (.mov (.t 4))⟩, ⟨(some 9), none, .i (.mov (.t 0))⟩, ⟨(some 10), none, .i (.len (.t 9))⟩, ⟨(some 11), none, .i (.bin .lss (.t 8) (.t 10))⟩]) Bz59) Bz5a)))
def Bzaf : AC := (.kp [0, 3, 4] [7, 5000] (.dn (.block 0 (.loop Bz2k))))
def Bzag : AC := (.kp [3] [7, 5000] (.dn (.seq (.reg false [⟨(some 21), none, .i (.mov (.t 3))⟩, ⟨(some 2), none, .i (.mov (.t 21))⟩]) (.dn .ret))))
def Bzah : AC := (.kp [0, 3] [7, 5000] (.dn (.seq (.seq (.reg false [⟨(some 4), none, .i (.mov (.c (.int .i64 0)))⟩]) Bzaf) Bzag)))
def Bzai : AC := (.kp [0] [5000] (.dn (.seq (.reg false [⟨(some 5), none, .i (.mov (.t 0))⟩, ⟨(some 6), none, .i (.len (.t 5))⟩, ⟨(some 7), none, .i (.mks 1 8 [.int .i64 0] (.t 6) (.t 6))⟩, ⟨(some 3), none, .i (.mov (.t 7))⟩]) Bzah)))
def Azaj : AFn := ⟨22, 1, (.seq (.reg false [⟨(some 2), none, .i (.mov (.c (.slice none 0 0)))⟩]) Bzai), [.tmp 2]⟩
theorem czdv : cFn (drV none) Try.prog nz3e Azaj := ⟨_, _, Try.func61, rfl, by kernel_rfl, by decide, rfl, by kernel_rfl, by kernel_rfl⟩
def Bzak : AC := (.kp [1] [1, 5000] (.dn (.seq (.reg false [⟨(some 3), none, .i (.fad 0 (.t 1))⟩, ⟨(some 4), none, .i (.ld (.t 3))⟩, ⟨(some 5), none, .call nz1g [(.t 4), (.c (.int .i64 1)), (.c (.int .i64 10))]⟩, ⟨(some 6), none, .i (.mov (.t 5))⟩, ⟨(some 7), (some (6, true)), .i (.lda 2 (.t 1))⟩, ⟨(some 8), (some (6, true)), .call nz3l [(.t 7)]⟩, ⟨(some 9), (some (6, true)), .call nz1g [(.t 8), (.c (.int .i64 1)), (.c (.int .i64 3))]⟩, ⟨(some 10), none, .i (.pick (.t 6) (.t 9) (.c (.bool false)))⟩, ⟨(some 11), none, .i (.mov (.t 10))⟩, ⟨(some 12), (some (11, true)), .i (.fad 1 (.t 1))⟩, ⟨(some 13), (some (11, true)), .i (.ld (.t 12))⟩, ⟨(some 14), (some (11, true)), .i (.mkf nz1w [(.t 1)])⟩, ⟨(some 15), (some (11, true)), .call nz1j [(.t 13), (.t 14)]⟩, ⟨(some 16), (some (11, true)), .i (.un .not (.t 15))⟩, ⟨(some 17), none, .i (.pick (.t 11) (.t 16) (.c (.bool false)))⟩, ⟨(some 2), none, .i (.mov (.t 17))⟩]) (.dn .ret))))
def Azal : AFn := ⟨18, 1, (.seq (.reg false [⟨(some 1), none, .i (.box (.t 0))⟩, ⟨(some 2), none, .i (.mov (.c (.bool false)))⟩]) Bzak), [.tmp 2]⟩
theorem czdw : cFn (drV none) Try.prog nz3f Azal := ⟨_, _, Try.func62, rfl, by kernel_rfl, by decide, rfl, by kernel_rfl, by kernel_rfl⟩
def Bzam : AC := (.kp [1, 2] [1, 2, 5000] (.dn (.seq (.reg false [⟨(some 3), none, .i (.fad 0 (.t 1))⟩, ⟨(some 4), none, .i (.ld (.t 3))⟩, ⟨(some 5), none, .i (.fad 2 (.t 1))⟩, ⟨(some 6), none, .i (.ld (.t 5))⟩, ⟨(some 7), none, .i (.bst [.int .i64 0, .slice none 0 0] [(0, 1, (.t 4)), (1, 1, (.t 6))])⟩, ⟨none, none, .i (.sto 2 (.t 2) (.t 7))⟩]) (.dn .ret))))
def Azan : AFn := ⟨8, 1, (.seq (.reg false [⟨(some 1), none, .i (.box (.t 0))⟩, ⟨(some 2), none, .i (.new [.int .i64 0, .slice none 0 0])⟩]) Bzam), [.cell (some 2) 2]⟩
theorem czdx : cFn (drV none) Try.prog nz3g Azan := ⟨_, _, Try.func63, rfl, by kernel_rfl, by decide, rfl, by kernel_rfl, by kernel_rfl⟩
def Bzao : AC := (.kp [0, 1, 2] [5000, 5001, 5002] (.dn (.seq (.reg false [⟨(some 7), none, .i (.mov (.t 0))⟩, ⟨(some 8), none, .i (.mov (.t 1))⟩, ⟨(some 9), none, .i (.bin .geq (.t 7) (.t 8))⟩, ⟨(some 10), none, .i (.mov (.t 9))⟩, ⟨(some 11), (some (10, true)), .i (.mov (.t 0))⟩, ⟨(some 12), (some (10, true)), .i (.mov (.t 2))⟩, ⟨(some 13), (some (10, true)), .i (.bin .leq (.t 11) (.t 12))⟩, ⟨(some 14), none, .i (.pick (.t 10) (.t 13) (.c (.bool false)))⟩, ⟨(some 6), none, .i (.mov (.t 14))⟩]) (.dn .ret))))
def Azap : AFn := ⟨15, 3, (.seq (.reg false [⟨(some 6), none, .i (.mov (.c (.bool false)))⟩]) Bzao), [.tmp 6]⟩
theorem czdy : cFn (drV none) Try.prog nz1g Azap := ⟨_, _, Try.func64, rfl, by kernel_rfl, by decide, rfl, by kernel_rfl, by kernel_rfl⟩
def Bzaq : AC := (.kp [0, 1] [5000, 5001] (.dn (.seq (.reg false [⟨(some 5), none, .i (.mov (.t 0))⟩, ⟨(some 6), none, .i (.mov (.t 1))⟩, ⟨(some 7), none, .call nz3m [(.t 5), (.t 6)]⟩, ⟨(some 8), none, .i (.bin .geq (.t 7) (.c (.int .i64 0)))⟩, ⟨(some 4), none, .i (.mov (.t 8))⟩]) (.dn .ret))))
def Azar : AFn := ⟨9, 2, (.seq (.reg false [⟨(some 4), none, .i (.mov (.c (.bool false)))⟩]) Bzaq), [.tmp 4]⟩
theorem czdz : cFn (drV none) Try.prog nz1j Azar := ⟨_, _, Try.func65, rfl, by kernel_rfl, by decide, rfl, by kernel_rfl, by kernel_rfl⟩
def Bzas : AC := (.kp [0, 1] [5000, 5001] (.dn (.seq (.reg true [⟨(some 4), none, .i (.mov (.t 0))⟩, ⟨(some 5), none, .call nz1s [(.t 4)]⟩, ⟨(some 6), none, .i (.fad 0 (.t 1))⟩, ⟨(some 7), none, .i (.ld (.t 6))⟩, ⟨(some 8), none, .i (.bin .neq (.t 5) (.t 7))⟩, ⟨(some 9), none, .i (.mov (.t 8))⟩, ⟨(some 10), (some (9, false)), .i (.mov (.t 0))⟩, ⟨(some 11), (some (9, false)), .i (.fad 1 (.t 1))⟩, ⟨(some 12), (some (9, false)), .i (.ld (.t 11))⟩, ⟨(some 13), (some (9, false)), .i (.bin .sub (.t 12) (.c (.int .i64 1)))⟩, ⟨(some 14), (some (9, false)), .calh nz1t [(.t 10), (.c (.int .i64 0)), (.t 13)]⟩, ⟨(some 15), (some (9, false)), .i (.un .not (.t 14))⟩, ⟨(some 16), none, .i (.pick (.t 9) (.c (.bool true)) (.t 15))⟩, ⟨(some 3), none, .i (.mov (.t 16))⟩]) (.dn .ret))))
def Azat : AFn := ⟨17, 2, (.seq (.reg false [⟨(some 3), none, .i (.mov (.c (.bool false)))⟩]) Bzas), [.tmp 3]⟩
theorem cze0 : cFn (drV none) Try.prog nz1r Azat := ⟨_, _, Try.func66, rfl, by kernel_rfl, by decide, rfl, by kernel_rfl, by kernel_rfl⟩
def Bzau : AC := (.kp [0] [5000] (.dn (.seq (.reg false [⟨(some 3), none, .i (.mov (.t 0))⟩, ⟨(some 4), none, .i (.len (.t 3))⟩, ⟨(some 2), none, .i (.mov (.t 4))⟩]) (.dn .ret))))
def Azav : AFn := ⟨5, 1, (.seq (.reg false [⟨(some 2), none, .i (.mov (.c (.int .i64 0)))⟩]) Bzau), [.tmp 2]⟩
theorem cze1 : cFn (drV none) Try.prog nz1s Azav := ⟨_, _, Try.func67, rfl, by kernel_rfl, by decide, rfl, by kernel_rfl, by kernel_rfl⟩
def Bzaw : AC := (.kp [0, 4, 5] [4, 5, 5000, 5001, 5002] (.dn (.seq (.reg false [⟨(some 7), none, .i (.mov (.t 0))⟩, ⟨(some 8), none, .i (.mkf nz1x [(.t 4), (.t 5)])⟩, ⟨(some 9), none, .call nz3n [(.t 7), (.t 8)]⟩, ⟨(some 10), none, .i (.un .not (.t 9))⟩, ⟨(some 6), none, .i (.mov (.t 10))⟩]) (.dn .ret))))
def Azax : AFn := ⟨11, 3, (.seq (.reg false [⟨(some 4), none, .i (.box (.t 1))⟩, ⟨(some 5), none, .i (.box (.t 2))⟩, ⟨(some 6), none, .i (.mov (.c (.bool false)))⟩]) Bzaw), [.tmp 6]⟩
theorem cze2 : cFn (drV none) Try.prog nz1t Azax := ⟨_, _, Try.func68, rfl, by kernel_rfl, by decide, rfl, by kernel_rfl, by kernel_rfl⟩
def Bz5b : AC := (.kp [4, 5, 10, 11, 12, 32] [4, 5, 22, 23, 5000, 5001, 5002, 5003] (.dn (.cond (.t 32) .skip (.exit 0))))
def Bz2l : AC := (.kp [4, 5, 10, 11, 12, 13, 14, 15, 41, 42, 70] [4, 5, 13, 22, 23, 48, 5000, 5001, 5002, 5003] (.dn (.cond (.t 70) (.seq (.reg false [⟨(some 71), none, .i (.mov (.t 15))⟩, ⟨(some 8), none, .i (.mov (.t 71))⟩, ⟨(some 9), none, .i (.mov (.c (.bool true)))⟩]) (.dn .ret)) .skip)))
def Bzay : AC := (.kp [4, 5, 10, 11, 12, 13, 16, 41, 42] [4, 5, 13, 16, 22, 23, 5000, 5001, 5002, 5003] (.dn (.reg false [⟨(some 102), none, .i (.mov (.t 10))⟩, ⟨(some 103), none, .i (.lda 2 (.t 16))⟩, ⟨(some 104), none, .i (.bsl 2 true [(.t 103)])⟩, ⟨(some 105), none, .i (.app 2 16 (.t 102) (.t 104))⟩, ⟨(some 10), none, .i (.mov (.t 105))⟩])))
def Bz5c : AC := (.kp [4, 5, 10, 11, 12, 13, 15, 16, 41, 42, 98] [4, 5, 13, 16, 22, 23, 48, 5000, 5001, 5002, 5003] (.dn (.cond (.t 98) (.seq (.reg false [⟨(some 99), none, .i (.mov (.t 11))⟩, ⟨(some 100), none, .i (.lda 2 (.t 16))⟩, ⟨(some 101), none, .i (.mov (.t 15))⟩, ⟨none, none, .i (.mup 3 (.t 99) (.t 100) (.t 101))⟩]) Bzay) .skip)))
def Bz5d : AC := (.kp [4, 5, 10, 11, 12, 13, 15, 16, 18, 41, 42] [4, 5, 13, 16, 22, 23, 48, 5000, 5001, 5002, 5003] (.dn (.seq (.reg false [⟨(some 97), none, .i (.mov (.t 18))⟩, ⟨(some 98), none, .i (.un .not (.t 97))⟩]) Bz5c)))
def Bz5e : AC := (.kp [4, 5, 10, 11, 12, 13, 15, 16, 41, 42] [4, 5, 13, 16, 22, 23, 48, 5000, 5001, 5002, 5003] (.dn (.seq (.reg false [⟨(some 92), none, .i (.mov (.t 11))⟩, ⟨(some 93), none, .i (.lda 2 (.t 16))⟩, ⟨(some 94), none, .i (.lkp 3 true (.val (.slice none 0 0)) (.t 92) (.t 93))⟩, ⟨(some 91), none, .i (.mov (.t 94))⟩, ⟨(some 95), none, .i (.ext 0 (.t 91))⟩, ⟨(some 96), none, .i (.ext 1 (.t 91))⟩, ⟨(some 17), none, .i (.mov (.t 95))⟩, ⟨(some 18), none, .i (.mov (.t 96))⟩]) Bz5d)))
def Bz5f : AC := (.kp [4, 5, 10, 11, 12, 13, 14, 15, 41, 42] [4, 5, 13, 22, 23, 48, 5000, 5001, 5002, 5003] (.dn (.seq (.reg true [⟨(some 72), none, .i (.fad 2 (.t 4))⟩, ⟨(some 73), none, .i (.ld (.t 72))⟩, ⟨(some 74), none, .i (.mov (.t 14))⟩, ⟨(some 75), none, .i (.iad 1 (.t 73) (.t 74))⟩, ⟨(some 76), none, .i (.ld (.t 75))⟩, ⟨(some 77), none, .i (.fad 0 (.t 13))⟩, ⟨(some 78), none, .i (.ld (.t 77))⟩, ⟨(some 79), none, .i (.iad 1 (.t 76) (.t 78))⟩, ⟨(some 80), none, .i (.ld (.t 79))⟩, ⟨(some 81), none, .i (.fad 2 (.t 5))⟩, ⟨(some 82), none, .i (.ld (.t 81))⟩, ⟨(some 83), none, .i (.mov (.t 14))⟩, ⟨(some 84), none, .i (.iad 1 (.t 82) (.t 83))⟩, ⟨(some 85), none, .i (.ld (.t 84))⟩, ⟨(some 86), none, .i (.fad 1 (.t 13))⟩, ⟨(some 87), none, .i (.ld (.t 86))⟩, ⟨(some 88), none, .i (.iad 1 (.t 85) (.t 87))⟩, ⟨(some 89), none, .i (.ld (.t 88))⟩, ⟨(some 90), none, .i (.bst [.int .i64 0, .int .i64 0] [(0, 1, (.t 80)), (1, 1, (.t 89))])⟩, ⟨(some 16), none, .i (.new [.int .i64 0, .int .i64 0])⟩, ⟨none, none, .i (.sto 2 (.t 16) (.t 90))⟩]) Bz5e)))
def Bz2m : AC := (.kp [4, 5, 10, 11, 12, 13, 14, 15, 41, 42] [4, 5, 13, 22, 23, 48, 5000, 5001, 5002, 5003] (.dn (.seq (.seq (.reg true [⟨(some 52), none, .i (.fad 3 (.t 4))⟩, ⟨(some 53), none, .i (.ld (.t 52))⟩, ⟨(some 54), none, .i (.mov (.t 14))⟩, ⟨(some 55), none, .i (.iad 1 (.t 53) (.t 54))⟩, ⟨(some 56), none, .i (.ld (.t 55))⟩, ⟨(some 57), none, .i (.fad 0 (.t 13))⟩, ⟨(some 58), none, .i (.ld (.t 57))⟩, ⟨(some 59), none, .i (.iad 1 (.t 56) (.t 58))⟩, ⟨(some 60), none, .i (.ld (.t 59))⟩, ⟨(some 61), none, .i (.fad 3 (.t 5))⟩, ⟨(some 62), none, .i (.ld (.t 61))⟩, ⟨(some 63), none, .i (.mov (.t 14))⟩, ⟨(some 64), none, .i (.iad 1 (.t 62) (.t 63))⟩, ⟨(some 65), none, .i (.ld (.t 64))⟩, ⟨(some 66), none, .i (.fad 1 (.t 13))⟩, ⟨(some 67), none, .i (.ld (.t 66))⟩, ⟨(some 68), none, .i (.iad 1 (.t 65) (.t 67))⟩, ⟨(some 69), none, .i (.ld (.t 68))⟩, ⟨(some 70), none, .i (.bin .neq (.t 60) (.t 69))⟩]) Bz2l) Bz5f)))
def Bzaz : AC := (.kp [4, 5, 10, 11, 12, 13, 14, 41, 42] [4, 5, 13, 22, 23, 5000, 5001, 5002, 5003] (.dn (.seq (.reg false [⟨(some 45), none, .i (.mov (.t 11))⟩, ⟨(some 46), none, .i (.lda 2 (.t 13))⟩, ⟨(some 47), none, .i (.lkp 3 false (.val (.slice none 0 0)) (.t 45) (.t 46))⟩, ⟨(some 48), none, .call nz38 [(.t 47)]⟩, ⟨(some 49), none, .i (.mov (.t 14))⟩, ⟨(some 50), none, .i (.bsl 1 false [(.t 49)])⟩, ⟨(some 51), none, .i (.app 1 8 (.t 48) (.t 50))⟩, ⟨(some 15), none, .i (.mov (.t 51))⟩]) Bz2m)))
def Bz5g : AC := (.kp [4, 5, 10, 11, 12, 13, 41, 42] [4, 5, 13, 22, 23, 5000, 5001, 5002, 5003] (.dn (.reg false [⟨(some 106), none, .i (.bin .add (.t 42) (.c (.int .i64 1)))⟩, ⟨(some 42), none, .i (.mov (.t 106))⟩])))
def Bzb0 : AC := (.kp [4, 5, 10, 11, 12, 13, 41, 42] [4, 5, 13, 22, 23, 5000, 5001, 5002, 5003] (.dn (.seq (.block 3 (.seq (.reg false [⟨(some 44), none, .i (.mov (.t 42))⟩, ⟨(some 14), none, .i (.mov (.t 44))⟩]) Bzaz)) Bz5g)))
def Bz5h : AC := (.kp [4, 5, 10, 11, 12, 13, 41, 42, 43] [4, 5, 13, 22, 23, 5000, 5001, 5002, 5003] (.dn (.seq (.cond (.t 43) .skip (.exit 2)) Bzb0)))
def Bz2n : AC := (.kp [4, 5, 10, 11, 12, 13, 41, 42] [4, 5, 13, 22, 23, 5000, 5001, 5002, 5003] (.dn (.seq (.reg false [⟨(some 43), none, .i (.bin .lss (.t 42) (.t 41))⟩]) Bz5h)))
def Bzb1 : AC := (.kp [4, 5, 10, 11, 12, 13, 41, 42] [4, 5, 13, 22, 23, 5000, 5001, 5002, 5003] (.dn (.block 2 (.loop Bz2n))))
def Bzb2 : AC := (.kp [4, 5, 10, 11, 12, 13] [4, 5, 13, 22, 23, 5000, 5001, 5002, 5003] (.dn (.seq (.reg false [⟨(some 39), none, .i (.fad 2 (.t 4))⟩, ⟨(some 40), none, .i (.ld (.t 39))⟩, ⟨(some 41), none, .i (.len (.t 40))⟩, ⟨(some 42), none, .i (.mov (.c (.int .i64 0)))⟩]) Bzb1)))
def Bzb3 : AC := (.kp [4, 5, 10, 11, 12] [4, 5, 22, 23, 5000, 5001, 5002, 5003] (.dn (.reg false [⟨(some 33), none, .i (.mov (.t 12))⟩, ⟨(some 34), none, .i (.bin .add (.t 33) (.c (.int .i64 1)))⟩, ⟨(some 12), none, .i (.mov (.t 34))⟩])))
def Bzb4 : AC := (.kp [4, 5, 10, 11, 12] [4, 5, 22, 23, 5000, 5001, 5002, 5003] (.dn (.seq (.block 1 (.seq (.reg false [⟨(some 35), none, .i (.mov (.t 10))⟩, ⟨(some 36), none, .i (.mov (.t 12))⟩, ⟨(some 37), none, .i (.iad 2 (.t 35) (.t 36))⟩, ⟨(some 38), none, .i (.lda 2 (.t 37))⟩, ⟨(some 13), none, .i (.new [.int .i64 0, .int .i64 0])⟩, ⟨none, none, .i (.sto 2 (.t 13) (.t 38))⟩]) Bzb2)) Bzb3)))
def Bz2o : AC := (.kp [4, 5, 10, 11, 12] [4, 5, 22, 23, 5000, 5001, 5002, 5003] (.dn (.seq (.seq (.reg false [⟨(some 29), none, .i (.mov (.t 12))⟩, ⟨(some 30), none, .i (.mov (.t 10))⟩, ⟨(some 31), none, .i (.len (.t 30))⟩, ⟨(some 32), none, .i (.bin .lss (.t 29) (.t 31))⟩]) Bz5b) Bzb4)))
def Bzb5 : AC := (.kp [4, 5, 10, 11, 12] [4, 5, 22, 23, 5000, 5001, 5002, 5003] (.dn (.block 0 (.loop Bz2o))))
def Bzb6 : AC := (.kp [] [5000, 5001, 5002, 5003] (.dn (.seq (.reg false [⟨(some 8), none, .i (.mov (.c (.slice none 0 0)))⟩, ⟨(some 9), none, .i (.mov (.c (.bool false)))⟩]) (.dn .ret))))
def Bzb7 : AC := (.kp [4, 5, 10, 11] [4, 5, 22, 23, 5000, 5001, 5002, 5003] (.dn (.seq (.seq (.reg false [⟨(some 12), none, .i (.mov (.c (.int .i64 0)))⟩]) Bzb5) Bzb6)))
def Bzb8 : AC := (.kp [2, 3, 4, 5] [4, 5, 5000, 5001, 5002, 5003] (.dn (.seq (.reg true [⟨(some 19), none, .i (.mov (.t 2))⟩, ⟨(some 20), none, .i (.mov (.t 3))⟩, ⟨(some 21), none, .i (.bsv [.int .i64 0, .int .i64 0] [(0, 1, (.t 19)), (1, 1, (.t 20))])⟩, ⟨(some 22), none, .i (.bsl 2 false [(.t 21)])⟩, ⟨(some 23), none, .i (.mkm)⟩, ⟨(some 24), none, .i (.mov (.t 2))⟩, ⟨(some 25), none, .i (.mov (.t 3))⟩, ⟨(some 26), none, .i (.bsv [.int .i64 0, .int .i64 0] [(0, 1, (.t 24)), (1, 1, (.t 25))])⟩, ⟨(some 27), none, .i (.bsl 1 false [])⟩, ⟨none, none, .i (.mup 3 (.t 23) (.t 26) (.t 27))⟩, ⟨(some 28), none, .i (.mov (.t 23))⟩, ⟨(some 10), none, .i (.mov (.t 22))⟩, ⟨(some 11), none, .i (.mov (.t 28))⟩]) Bzb7)))
def Az2p : AFn := ⟨107, 4, (.seq (.reg false [⟨(some 4), none, .i (.box (.t 0))⟩, ⟨(some 5), none, .i (.box (.t 1))⟩, ⟨(some 8), none, .i (.mov (.c (.slice none 0 0)))⟩, ⟨(some 9), none, .i (.mov (.c (.bool false)))⟩]) Bzb8), [.tmp 8, .tmp 9]⟩
theorem cze3 : cFn (drV none) Try.prog nz3h Az2p := ⟨_, _, Try.func69, rfl, by kernel_rfl, by decide, rfl, by kernel_rfl, by kernel_rfl⟩
def Bzb9 : AC := (.kp [6, 8] [14, 21, 5000, 5001, 5002, 5003] (.dn (.seq (.reg false [⟨(some 24), none, .i (.mov (.t 6))⟩, ⟨(some 25), none, .i (.mov (.t 8))⟩, ⟨(some 26), none, .call nz3i [(.t 24), (.t 25)]⟩, ⟨(some 27), none, .i (.un .not (.t 26))⟩, ⟨(some 5), none, .i (.mov (.t 27))⟩]) (.dn .ret))))
def Bzba : AC := (.kp [0, 1, 3, 6] [14, 5000, 5001, 5002, 5003] (.dn (.seq (.reg false [⟨(some 18), none, .i (.lda 4 (.t 1))⟩, ⟨(some 19), none, .i (.ld (.t 3))⟩, ⟨(some 20), none, .i (.mov (.t 0))⟩, ⟨(some 21), none, .call nz1v [(.t 18), (.t 19), (.t 20)]⟩, ⟨(some 17), none, .i (.mov (.t 21))⟩, ⟨(some 22), none, .i (.ext 0 (.t 17))⟩, ⟨(some 23), none, .i (.ext 1 (.t 17))⟩, ⟨(some 8), none, .i (.mov (.t 22))⟩, ⟨(some 9), none, .i (.mov (.t 23))⟩]) Bzb9)))
def Bzbb : AC := (.kp [0, 1, 2, 3] [5000, 5001, 5002, 5003] (.dn (.seq (.reg false [⟨(some 11), none, .i (.lda 4 (.t 1))⟩, ⟨(some 12), none, .i (.ld (.t 2))⟩, ⟨(some 13), none, .i (.mov (.t 0))⟩, ⟨(some 14), none, .call nz1v [(.t 11), (.t 12), (.t 13)]⟩, ⟨(some 10), none, .i (.mov (.t 14))⟩, ⟨(some 15), none, .i (.ext 0 (.t 10))⟩, ⟨(some 16), none, .i (.ext 1 (.t 10))⟩, ⟨(some 6), none, .i (.mov (.t 15))⟩, ⟨(some 7), none, .i (.mov (.t 16))⟩]) Bzba)))
def Azbc : AFn := ⟨28, 4, (.seq (.reg false [⟨(some 5), none, .i (.mov (.c (.bool false)))⟩]) Bzbb), [.tmp 5]⟩
theorem cze4 : cFn (drV none) Try.prog nz1u Azbc := ⟨_, _, Try.func70, rfl, by kernel_rfl, by decide, rfl, by kernel_rfl, by kernel_rfl⟩
def Bzbd : AC := (.kp [1, 3, 8, 10, 12, 13, 14] [3, 11, 28, 5000, 5001, 5002] (.dn (.reg false [⟨(some 29), none, .i (.fad 2 (.t 3))⟩, ⟨(some 30), none, .i (.ld (.t 29))⟩, ⟨(some 31), none, .i (.mov (.t 10))⟩, ⟨(some 32), none, .i (.iad 1 (.t 30) (.t 31))⟩, ⟨(some 33), none, .i (.ld (.t 32))⟩, ⟨(some 34), none, .i (.mov (.t 1))⟩, ⟨(some 35), none, .i (.iad 1 (.t 33) (.t 34))⟩, ⟨(some 36), none, .i (.ld (.t 35))⟩, ⟨(some 1), none, .i (.mov (.t 36))⟩])))
def Bzbe : AC := (.kp [1, 3, 8, 10, 12, 13, 14] [3, 11, 28, 5000, 5001, 5002] (.dn (.seq (.reg false [⟨(some 18), none, .i (.mov (.t 8))⟩, ⟨(some 19), none, .i (.fad 3 (.t 3))⟩, ⟨(some 20), none, .i (.ld (.t 19))⟩, ⟨(some 21), none, .i (.mov (.t 10))⟩, ⟨(some 22), none, .i (.iad 1 (.t 20) (.t 21))⟩, ⟨(some 23), none, .i (.ld (.t 22))⟩, ⟨(some 24), none, .i (.mov (.t 1))⟩, ⟨(some 25), none, .i (.iad 1 (.t 23) (.t 24))⟩, ⟨(some 26), none, .i (.ld (.t 25))⟩, ⟨(some 27), none, .i (.bsl 1 false [(.t 26)])⟩, ⟨(some 28), none, .i (.app 1 8 (.t 18) (.t 27))⟩, ⟨(some 8), none, .i (.mov (.t 28))⟩]) Bzbd)))
def Bzbf : AC := (.kp [1, 3, 8, 12, 13, 14] [3, 11, 28, 5000, 5001, 5002] (.dn (.reg false [⟨(some 37), none, .i (.bin .add (.t 14) (.c (.int .i64 1)))⟩, ⟨(some 14), none, .i (.mov (.t 37))⟩])))
def Bzbg : AC := (.kp [1, 3, 8, 12, 13, 14] [3, 11, 28, 5000, 5001, 5002] (.dn (.seq (.block 1 (.seq (.reg false [⟨(some 16), none, .i (.iad 1 (.t 12) (.t 14))⟩, ⟨(some 17), none, .i (.ld (.t 16))⟩, ⟨(some 10), none, .i (.mov (.t 17))⟩]) Bzbe)) Bzbf)))
def Bz5i : AC := (.kp [1, 3, 8, 12, 13, 14, 15] [3, 11, 28, 5000, 5001, 5002] (.dn (.seq (.cond (.t 15) .skip (.exit 0)) Bzbg)))
def Bz2q : AC := (.kp [1, 3, 8, 12, 13, 14] [3, 11, 28, 5000, 5001, 5002] (.dn (.seq (.reg false [⟨(some 15), none, .i (.bin .lss (.t 14) (.t 13))⟩]) Bz5i)))
def Bzbh : AC := (.kp [1, 3, 8, 12, 13, 14] [3, 11, 28, 5000, 5001, 5002] (.dn (.block 0 (.loop Bz2q))))
def Bzbi : AC := (.kp [1, 8] [3, 11, 28, 5000, 5001, 5002] (.dn (.seq (.reg false [⟨(some 38), none, .i (.mov (.t 8))⟩, ⟨(some 39), none, .i (.mov (.t 1))⟩, ⟨(some 6), none, .i (.mov (.t 38))⟩, ⟨(some 7), none, .i (.mov (.t 39))⟩]) (.dn .ret))))
def Bzbj : AC := (.kp [1, 2, 3, 8] [3, 11, 28, 5000, 5001, 5002] (.dn (.seq (.seq (.reg false [⟨(some 12), none, .i (.mov (.t 2))⟩, ⟨(some 13), none, .i (.len (.t 12))⟩, ⟨(some 14), none, .i (.mov (.c (.int .i64 0)))⟩]) Bzbh) Bzbi)))
def Bzbk : AC := (.kp [1, 2, 3] [3, 5000, 5001, 5002] (.dn (.seq (.reg false [⟨(some 11), none, .i (.bsl 1 false [])⟩, ⟨(some 8), none, .i (.mov (.t 11))⟩]) Bzbj)))
def Az5j : AFn := ⟨40, 3, (.seq (.reg false [⟨(some 3), none, .i (.box (.t 0))⟩, ⟨(some 6), none, .i (.mov (.c (.slice none 0 0)))⟩, ⟨(some 7), none, .i (.mov (.c (.int .i64 0)))⟩]) Bzbk), [.tmp 6, .tmp 7]⟩
theorem cze5 : cFn (drV none) Try.prog nz1v Az5j := ⟨_, _, Try.func71, rfl, by kernel_rfl, by decide, rfl, by kernel_rfl, by kernel_rfl⟩
def Bz5k : AC := (.kp [0, 1, 10] [5000, 5001] (.dn (.cond (.t 10) (.seq (.reg false [⟨(some 4), none, .i (.mov (.c (.bool false)))⟩]) (.dn .ret)) .skip)))
def Bzbl : AC := (.kp [0, 1, 12, 13, 24] [5000, 5001] (.dn (.cond (.t 24) (.seq (.reg false [⟨(some 4), none, .i (.mov (.c (.bool false)))⟩]) (.dn .ret)) .skip)))
def Bzbm : AC := (.kp [0, 1, 5, 12, 13] [5000, 5001] (.dn (.seq (.reg true [⟨(some 16), none, .i (.mov (.t 0))⟩, ⟨(some 17), none, .i (.mov (.t 5))⟩, ⟨(some 18), none, .i (.iad 1 (.t 16) (.t 17))⟩, ⟨(some 19), none, .i (.ld (.t 18))⟩, ⟨(some 20), none, .i (.mov (.t 1))⟩, ⟨(some 21), none, .i (.mov (.t 5))⟩, ⟨(some 22), none, .i (.iad 1 (.t 20) (.t 21))⟩, ⟨(some 23), none, .i (.ld (.t 22))⟩, ⟨(some 24), none, .i (.bin .neq (.t 19) (.t 23))⟩]) Bzbl)))
def Bzbn : AC := (.kp [0, 1, 12, 13] [5000, 5001] (.dn (.reg false [⟨(some 25), none, .i (.bin .add (.t 13) (.c (.int .i64 1)))⟩, ⟨(some 13), none, .i (.mov (.t 25))⟩])))
def Bz5l : AC := (.kp [0, 1, 12, 13] [5000, 5001] (.dn (.seq (.block 1 (.seq (.reg false [⟨(some 15), none, .i (.mov (.t 13))⟩, ⟨(some 5), none, .i (.mov (.t 15))⟩]) Bzbm)) Bzbn)))
def Bz5m : AC := (.kp [0, 1, 12, 13, 14] [5000, 5001] (.dn (.seq (.cond (.t 14) .skip (.exit 0)) Bz5l)))
def Bz2r : AC := (.kp [0, 1, 12, 13] [5000, 5001] (.dn (.seq (.reg false [⟨(some 14), none, .i (.bin .lss (.t 13) (.t 12))⟩]) Bz5m)))
def Bzbo : AC := (.kp [0, 1, 12, 13] [5000, 5001] (.dn (.block 0 (.loop Bz2r))))
def Bzbp : AC := (.kp [] [5000, 5001] (.dn (.seq (.reg false [⟨(some 4), none, .i (.mov (.c (.bool true)))⟩]) (.dn .ret))))
def Bzbq : AC := (.kp [0, 1] [5000, 5001] (.dn (.seq (.seq (.reg false [⟨(some 11), none, .i (.mov (.t 0))⟩, ⟨(some 12), none, .i (.len (.t 11))⟩, ⟨(some 13), none, .i (.mov (.c (.int .i64 0)))⟩]) Bzbo) Bzbp)))
def Bzbr : AC := (.kp [0, 1] [5000, 5001] (.dn (.seq (.seq (.reg false [⟨(some 6), none, .i (.mov (.t 0))⟩, ⟨(some 7), none, .i (.len (.t 6))⟩, ⟨(some 8), none, .i (.mov (.t 1))⟩, ⟨(some 9), none, .i (.len (.t 8))⟩, ⟨(some 10), none, .i (.bin .neq (.t 7) (.t 9))⟩]) Bz5k) Bzbq)))
def Azbs : AFn := ⟨26, 2, (.seq (.reg false [⟨(some 4), none, .i (.mov (.c (.bool false)))⟩]) Bzbr), [.tmp 4]⟩
theorem cze6 : cFn (drV none) Try.prog nz3i Azbs := ⟨_, _, Try.func72, rfl, by kernel_rfl, by decide, rfl, by kernel_rfl, by kernel_rfl⟩
def Bz5n : AC := (.kp [0, 1, 5, 9] [5000, 5001] (.dn (.cond (.t 9) .skip (.exit 0))))
def Bzbt : AC := (.kp [0, 1, 5, 19] [5000, 5001] (.dn (.cond (.t 19) (.seq (.reg false [⟨(some 4), none, .i (.mov (.c (.bool false)))⟩]) (.dn .ret)) .skip)))
def Bzbu : AC := (.kp [0, 1, 5] [5000, 5001] (.dn (.reg false [⟨(some 10), none, .i (.mov (.t 5))⟩, ⟨(some 11), none, .i (.bin .add (.t 10) (.c (.int .i64 1)))⟩, ⟨(some 5), none, .i (.mov (.t 11))⟩])))
def Bz5o : AC := (.kp [0, 1, 5] [5000, 5001] (.dn (.seq (.block 1 (.seq (.reg false [⟨(some 12), none, .i (.mov (.t 0))⟩, ⟨(some 13), none, .i (.mov (.t 5))⟩, ⟨(some 14), none, .i (.iad 1 (.t 12) (.t 13))⟩, ⟨(some 15), none, .i (.ld (.t 14))⟩, ⟨(some 16), none, .i (.mov (.t 1))⟩, ⟨(some 17), none, .i (.bin .sub (.t 16) (.c (.int .i64 1)))⟩, ⟨(some 18), none, .call nz1f [(.t 15), (.c (.int .i64 0)), (.t 17)]⟩, ⟨(some 19), none, .i (.un .not (.t 18))⟩]) Bzbt)) Bzbu)))
def Bz2s : AC := (.kp [0, 1, 5] [5000, 5001] (.dn (.seq (.seq (.reg false [⟨(some 6), none, .i (.mov (.t 5))⟩, ⟨(some 7), none, .i (.mov (.t 0))⟩, ⟨(some 8), none, .i (.len (.t 7))⟩, ⟨(some 9), none, .i (.bin .lss (.t 6) (.t 8))⟩]) Bz5n) Bz5o)))
def Bzbv : AC := (.kp [0, 1, 5] [5000, 5001] (.dn (.block 0 (.loop Bz2s))))
def Bzbw : AC := (.kp [0, 1] [5000, 5001] (.dn (.seq (.reg false [⟨(some 20), none, .i (.mov (.t 0))⟩, ⟨(some 21), none, .i (.len (.t 20))⟩, ⟨(some 22), none, .i (.mov (.t 1))⟩, ⟨(some 23), none, .i (.bin .eql (.t 21) (.t 22))⟩, ⟨(some 4), none, .i (.mov (.t 23))⟩]) (.dn .ret))))
def Bzbx : AC := (.kp [0, 1] [5000, 5001] (.dn (.seq (.seq (.reg false [⟨(some 5), none, .i (.mov (.c (.int .i64 0)))⟩]) Bzbv) Bzbw)))
def Azby : AFn := ⟨24, 2, (.seq (.reg false [⟨(some 4), none, .i (.mov (.c (.bool false)))⟩]) Bzbx), [.tmp 4]⟩
theorem cze7 : cFn (drV none) Try.prog nz3j Azby := ⟨_, _, Try.func77, rfl, by kernel_rfl, by decide, rfl, by kernel_rfl, by kernel_rfl⟩
def Bz5p : AC := (.kp [0, 8, 31] [5000, 5001, 5002, 17, 22] (.dn (.cond (.t 31) .skip (.exit 0))))
def Bz5q : AC := (.kp [0, 8, 9, 10, 50] [5000, 5001, 5002, 17, 22] (.dn (.cond (.t 50) .skip (.exit 2))))
def Bz5r : AC := (.kp [0, 8, 9, 10, 11, 94] [60, 5000, 5001, 5002, 17, 22] (.dn (.cond (.t 94) (.seq (.reg false [⟨(some 95), none, .i (.mov (.t 11))⟩, ⟨(some 6), none, .i (.mov (.t 95))⟩, ⟨(some 7), none, .i (.mov (.c (.bool true)))⟩]) (.dn .ret)) .skip)))
def Bzbz : AC := (.kp [0, 8, 9, 10, 11] [60, 5000, 5001, 5002, 17, 22] (.dn (.reg false [⟨(some 144), none, .i (.mov (.t 0))⟩, ⟨(some 145), none, .i (.mov (.t 0))⟩, ⟨(some 146), none, .i (.nilck (.t 145))⟩, ⟨(some 147), none, .i (.fad 3 (.t 146))⟩, ⟨(some 148), none, .i (.ld (.t 147))⟩, ⟨(some 149), none, .i (.mov (.t 11))⟩, ⟨(some 150), none, .i (.bsl 1 true [(.t 149)])⟩, ⟨(some 151), none, .i (.app 1 24 (.t 148) (.t 150))⟩, ⟨(some 152), none, .i (.nilck (.t 144))⟩, ⟨(some 153), none, .i (.fad 3 (.t 152))⟩, ⟨none, none, .i (.sto 1 (.t 153) (.t 151))⟩])))
def Bz5s : AC := (.kp [0, 8, 9, 10, 11, 12, 133] [60, 126, 5000, 5001, 5002, 17, 22] (.dn (.cond (.t 133) (.seq (.reg false [⟨(some 134), none, .i (.mov (.t 0))⟩, ⟨(some 135), none, .i (.mov (.t 0))⟩, ⟨(some 136), none, .i (.nilck (.t 135))⟩, ⟨(some 137), none, .i (.fad 2 (.t 136))⟩, ⟨(some 138), none, .i (.ld (.t 137))⟩, ⟨(some 139), none, .i (.mov (.t 12))⟩, ⟨(some 140), none, .i (.bsl 1 true [(.t 139)])⟩, ⟨(some 141), none, .i (.app 1 24 (.t 138) (.t 140))⟩, ⟨(some 142), none, .i (.nilck (.t 134))⟩, ⟨(some 143), none, .i (.fad 2 (.t 142))⟩, ⟨none, none, .i (.sto 1 (.t 143) (.t 141))⟩]) Bzbz) .skip)))
def Bzc0 : AC := (.kp [0, 8, 9, 10, 11, 12] [60, 126, 5000, 5001, 5002, 17, 22] (.dn (.seq (.reg false [⟨(some 127), none, .i (.mov (.t 0))⟩, ⟨(some 128), none, .i (.nilck (.t 127))⟩, ⟨(some 129), none, .i (.fad 2 (.t 128))⟩, ⟨(some 130), none, .i (.ld (.t 129))⟩, ⟨(some 131), none, .i (.mov (.t 12))⟩, ⟨(some 132), none, .call nz3o [(.t 130), (.t 131)]⟩, ⟨(some 133), none, .i (.bin .lss (.t 132) (.c (.int .i64 0)))⟩]) Bz5s)))
def Bzc1 : AC := (.kp [0, 8, 9, 10, 11] [60, 5000, 5001, 5002, 17, 22] (.dn (.seq (.reg true [⟨(some 96), none, .i (.mov (.t 0))⟩, ⟨(some 97), none, .i (.nilck (.t 96))⟩, ⟨(some 98), none, .i (.fad 0 (.t 97))⟩, ⟨(some 99), none, .i (.ld (.t 98))⟩, ⟨(some 100), none, .i (.nilck (.t 99))⟩, ⟨(some 101), none, .i (.fad 2 (.t 100))⟩, ⟨(some 102), none, .i (.ld (.t 101))⟩, ⟨(some 103), none, .i (.mov (.t 10))⟩, ⟨(some 104), none, .i (.iad 1 (.t 102) (.t 103))⟩, ⟨(some 105), none, .i (.ld (.t 104))⟩, ⟨(some 106), none, .i (.mov (.t 9))⟩, ⟨(some 107), none, .i (.iad 1 (.t 106) (.c (.int .i64 0)))⟩, ⟨(some 108), none, .i (.ld (.t 107))⟩, ⟨(some 109), none, .i (.iad 1 (.t 105) (.t 108))⟩, ⟨(some 110), none, .i (.ld (.t 109))⟩, ⟨(some 111), none, .i (.mov (.t 0))⟩, ⟨(some 112), none, .i (.nilck (.t 111))⟩, ⟨(some 113), none, .i (.fad 1 (.t 112))⟩, ⟨(some 114), none, .i (.ld (.t 113))⟩, ⟨(some 115), none, .i (.nilck (.t 114))⟩, ⟨(some 116), none, .i (.fad 2 (.t 115))⟩, ⟨(some 117), none, .i (.ld (.t 116))⟩, ⟨(some 118), none, .i (.mov (.t 10))⟩, ⟨(some 119), none, .i (.iad 1 (.t 117) (.t 118))⟩, ⟨(some 120), none, .i (.ld (.t 119))⟩, ⟨(some 121), none, .i (.mov (.t 9))⟩, ⟨(some 122), none, .i (.iad 1 (.t 121) (.c (.int .i64 1)))⟩, ⟨(some 123), none, .i (.ld (.t 122))⟩, ⟨(some 124), none, .i (.iad 1 (.t 120) (.t 123))⟩, ⟨(some 125), none, .i (.ld (.t 124))⟩, ⟨(some 126), none, .i (.bsl 1 false [(.t 110), (.t 125)])⟩, ⟨(some 12), none, .i (.mov (.t 126))⟩]) Bzc0)))
def Bz5t : AC := (.kp [0, 8, 9, 10, 11] [60, 5000, 5001, 5002, 17, 22] (.dn (.seq (.seq (.reg true [⟨(some 64), none, .i (.mov (.t 0))⟩, ⟨(some 65), none, .i (.nilck (.t 64))⟩, ⟨(some 66), none, .i (.fad 0 (.t 65))⟩, ⟨(some 67), none, .i (.ld (.t 66))⟩, ⟨(some 68), none, .i (.nilck (.t 67))⟩, ⟨(some 69), none, .i (.fad 3 (.t 68))⟩, ⟨(some 70), none, .i (.ld (.t 69))⟩, ⟨(some 71), none, .i (.mov (.t 10))⟩, ⟨(some 72), none, .i (.iad 1 (.t 70) (.t 71))⟩, ⟨(some 73), none, .i (.ld (.t 72))⟩, ⟨(some 74), none, .i (.mov (.t 9))⟩, ⟨(some 75), none, .i (.iad 1 (.t 74) (.c (.int .i64 0)))⟩, ⟨(some 76), none, .i (.ld (.t 75))⟩, ⟨(some 77), none, .i (.iad 1 (.t 73) (.t 76))⟩, ⟨(some 78), none, .i (.ld (.t 77))⟩, ⟨(some 79), none, .i (.mov (.t 0))⟩, ⟨(some 80), none, .i (.nilck (.t 79))⟩, ⟨(some 81), none, .i (.fad 1 (.t 80))⟩, ⟨(some 82), none, .i (.ld (.t 81))⟩, ⟨(some 83), none, .i (.nilck (.t 82))⟩, ⟨(some 84), none, .i (.fad 3 (.t 83))⟩, ⟨(some 85), none, .i (.ld (.t 84))⟩, ⟨(some 86), none, .i (.mov (.t 10))⟩, ⟨(some 87), none, .i (.iad 1 (.t 85) (.t 86))⟩, ⟨(some 88), none, .i (.ld (.t 87))⟩, ⟨(some 89), none, .i (.mov (.t 9))⟩, ⟨(some 90), none, .i (.iad 1 (.t 89) (.c (.int .i64 1)))⟩, ⟨(some 91), none, .i (.ld (.t 90))⟩, ⟨(some 92), none, .i (.iad 1 (.t 88) (.t 91))⟩, ⟨(some 93), none, .i (.ld (.t 92))⟩, ⟨(some 94), none, .i (.bin .neq (.t 78) (.t 93))⟩]) Bz5r) Bzc1)))
def Bz5u : AC := (.kp [0, 8, 9, 10] [5000, 5001, 5002, 17, 22] (.dn (.reg false [⟨(some 51), none, .i (.mov (.t 10))⟩, ⟨(some 52), none, .i (.bin .add (.t 51) (.c (.int .i64 1)))⟩, ⟨(some 10), none, .i (.mov (.t 52))⟩])))
def Bzc2 : AC := (.kp [0, 8, 9, 10] [5000, 5001, 5002, 17, 22] (.dn (.seq (.block 3 (.seq (.reg false [⟨(some 53), none, .i (.mov (.t 0))⟩, ⟨(some 54), none, .i (.nilck (.t 53))⟩, ⟨(some 55), none, .i (.fad 3 (.t 54))⟩, ⟨(some 56), none, .i (.ld (.t 55))⟩, ⟨(some 57), none, .i (.mov (.t 8))⟩, ⟨(some 58), none, .i (.iad 1 (.t 56) (.t 57))⟩, ⟨(some 59), none, .i (.ld (.t 58))⟩, ⟨(some 60), none, .call nz39 [(.t 59)]⟩, ⟨(some 61), none, .i (.mov (.t 10))⟩, ⟨(some 62), none, .i (.bsl 1 false [(.t 61)])⟩, ⟨(some 63), none, .i (.app 1 8 (.t 60) (.t 62))⟩, ⟨(some 11), none, .i (.mov (.t 63))⟩]) Bz5t)) Bz5u)))
def Bz2t : AC := (.kp [0, 8, 9, 10] [5000, 5001, 5002, 17, 22] (.dn (.seq (.seq (.reg false [⟨(some 41), none, .i (.mov (.t 10))⟩, ⟨(some 42), none, .i (.mov (.t 0))⟩, ⟨(some 43), none, .i (.nilck (.t 42))⟩, ⟨(some 44), none, .i (.fad 0 (.t 43))⟩, ⟨(some 45), none, .i (.ld (.t 44))⟩, ⟨(some 46), none, .i (.nilck (.t 45))⟩, ⟨(some 47), none, .i (.fad 2 (.t 46))⟩, ⟨(some 48), none, .i (.ld (.t 47))⟩, ⟨(some 49), none, .i (.len (.t 48))⟩, ⟨(some 50), none, .i (.bin .lss (.t 41) (.t 49))⟩]) Bz5q) Bzc2)))
def Bzc3 : AC := (.kp [0, 8, 9, 10] [5000, 5001, 5002, 17, 22] (.dn (.block 2 (.loop Bz2t))))
def Bzc4 : AC := (.kp [0, 8, 9] [5000, 5001, 5002, 17, 22] (.dn (.seq (.reg false [⟨(some 10), none, .i (.mov (.c (.int .i64 0)))⟩]) Bzc3)))
def Bzc5 : AC := (.kp [0, 8] [5000, 5001, 5002, 17, 22] (.dn (.reg false [⟨(some 32), none, .i (.mov (.t 8))⟩, ⟨(some 33), none, .i (.bin .add (.t 32) (.c (.int .i64 1)))⟩, ⟨(some 8), none, .i (.mov (.t 33))⟩])))
def Bzc6 : AC := (.kp [0, 8] [5000, 5001, 5002, 17, 22] (.dn (.seq (.block 1 (.seq (.reg false [⟨(some 34), none, .i (.mov (.t 0))⟩, ⟨(some 35), none, .i (.nilck (.t 34))⟩, ⟨(some 36), none, .i (.fad 2 (.t 35))⟩, ⟨(some 37), none, .i (.ld (.t 36))⟩, ⟨(some 38), none, .i (.mov (.t 8))⟩, ⟨(some 39), none, .i (.iad 1 (.t 37) (.t 38))⟩, ⟨(some 40), none, .i (.ld (.t 39))⟩, ⟨(some 9), none, .i (.mov (.t 40))⟩]) Bzc4)) Bzc5)))
def Bz2u : AC := (.kp [0, 8] [5000, 5001, 5002, 17, 22] (.dn (.seq (.seq (.reg false [⟨(some 25), none, .i (.mov (.t 8))⟩, ⟨(some 26), none, .i (.mov (.t 0))⟩, ⟨(some 27), none, .i (.nilck (.t 26))⟩, ⟨(some 28), none, .i (.fad 2 (.t 27))⟩, ⟨(some 29), none, .i (.ld (.t 28))⟩, ⟨(some 30), none, .i (.len (.t 29))⟩, ⟨(some 31), none, .i (.bin .lss (.t 25) (.t 30))⟩]) Bz5p) Bzc6)))
def Bzc7 : AC := (.kp [0, 8] [5000, 5001, 5002, 17, 22] (.dn (.block 0 (.loop Bz2u))))
def Bzc8 : AC := (.kp [] [5000, 5001, 5002, 17, 22] (.dn (.seq (.reg false [⟨(some 154), none, .i (.bsl 1 false [])⟩, ⟨(some 6), none, .i (.mov (.t 154))⟩, ⟨(some 7), none, .i (.mov (.c (.bool false)))⟩]) (.dn .ret))))
def Bzc9 : AC := (.kp [0] [5000, 5001, 5002, 17, 22] (.dn (.seq (.seq (.reg false [⟨(some 8), none, .i (.mov (.c (.int .i64 0)))⟩]) Bzc7) Bzc8)))
def Bzca : AC := (.kp [0] [5000, 5001, 5002, 17, 22] (.dn (.seq (.reg false [⟨(some 20), none, .i (.mov (.t 0))⟩, ⟨(some 21), none, .i (.bsl 1 false [])⟩, ⟨(some 22), none, .i (.bsl 1 true [(.t 21)])⟩, ⟨(some 23), none, .i (.nilck (.t 20))⟩, ⟨(some 24), none, .i (.fad 3 (.t 23))⟩, ⟨none, none, .i (.sto 1 (.t 24) (.t 22))⟩]) Bzc9)))
def Bzcb : AC := (.kp [0, 1, 2] [5000, 5001, 5002, 17, 22] (.dn (.seq (.reg false [⟨(some 13), none, .i (.mov (.t 0))⟩, ⟨(some 14), none, .i (.mov (.t 1))⟩, ⟨(some 15), none, .i (.mov (.t 2))⟩, ⟨(some 16), none, .i (.bsl 1 false [(.t 14), (.t 15)])⟩, ⟨(some 17), none, .i (.bsl 1 true [(.t 16)])⟩, ⟨(some 18), none, .i (.nilck (.t 13))⟩, ⟨(some 19), none, .i (.fad 2 (.t 18))⟩, ⟨none, none, .i (.sto 1 (.t 19) (.t 17))⟩]) Bzca)))
def Az2v : AFn := ⟨155, 3, (.seq (.reg false [⟨(some 6), none, .i (.mov (.c (.slice none 0 0)))⟩, ⟨(some 7), none, .i (.mov (.c (.bool false)))⟩]) Bzcb), [.tmp 6, .tmp 7]⟩
theorem cze8 : cFn (drV none) Try.prog nz3k Az2v := ⟨_, _, Try.func78, rfl, by kernel_rfl, by decide, rfl, by kernel_rfl, by kernel_rfl⟩
def Bzcc : AC := (.kp [1] [1, 5000] (.dn (.seq (.reg false [⟨(some 3), none, .i (.fad 1 (.t 1))⟩, ⟨(some 4), none, .i (.ld (.t 3))⟩, ⟨(some 5), none, .call nz3p [(.t 4)]⟩, ⟨(some 2), none, .i (.mov (.t 5))⟩]) (.dn .ret))))
def Azcd : AFn := ⟨6, 1, (.seq (.reg false [⟨(some 1), none, .i (.box (.t 0))⟩, ⟨(some 2), none, .i (.mov (.c (.int .i64 0)))⟩]) Bzcc), [.tmp 2]⟩
theorem cze9 : cFn (drV none) Try.prog nz3l Azcd := ⟨_, _, Try.func79, rfl, by kernel_rfl, by decide, rfl, by kernel_rfl, by kernel_rfl⟩
def Bzce : AC := (.kp [0, 1] [5000, 5001] (.dn (.seq (.reg true [⟨(some 4), none, .i (.mov (.t 0))⟩, ⟨(some 5), none, .call nz1s [(.t 4)]⟩, ⟨(some 6), none, .i (.fad 0 (.t 1))⟩, ⟨(some 7), none, .i (.ld (.t 6))⟩, ⟨(some 8), none, .i (.bin .neq (.t 5) (.t 7))⟩, ⟨(some 9), none, .i (.mov (.t 8))⟩, ⟨(some 10), (some (9, false)), .i (.mov (.t 0))⟩, ⟨(some 11), (some (9, false)), .i (.fad 0 (.t 1))⟩, ⟨(some 12), (some (9, false)), .i (.ld (.t 11))⟩, ⟨(some 13), (some (9, false)), .i (.bin .sub (.t 12) (.c (.int .i64 1)))⟩, ⟨(some 14), (some (9, false)), .calh nz1t [(.t 10), (.c (.int .i64 0)), (.t 13)]⟩, ⟨(some 15), (some (9, false)), .i (.un .not (.t 14))⟩, ⟨(some 16), none, .i (.pick (.t 9) (.c (.bool true)) (.t 15))⟩, ⟨(some 3), none, .i (.mov (.t 16))⟩]) (.dn .ret))))
def Azcf : AFn := ⟨17, 2, (.seq (.reg false [⟨(some 3), none, .i (.mov (.c (.bool false)))⟩]) Bzce), [.tmp 3]⟩
theorem czea : cFn (drV none) Try.prog nz1w Azcf := ⟨_, _, Try.func80, rfl, by kernel_rfl, by decide, rfl, by kernel_rfl, by kernel_rfl⟩
def Bzcg : AC := (.kp [0, 1, 5, 7, 8, 16] [16, 1016, 5000, 5001] (.dn (.cond (.t 16) (.seq (.reg false [⟨(some 17), none, .i (.mov (.t 5))⟩, ⟨(some 4), none, .i (.mov (.t 17))⟩]) (.dn .ret)) .skip)))
def Bzch : AC := (.kp [0, 1, 5, 7, 8] [5000, 5001] (.dn (.seq (.reg false [⟨(some 11), none, .i (.mov (.t 1))⟩, ⟨(some 12), none, .i (.mov (.t 0))⟩, ⟨(some 13), none, .i (.mov (.t 5))⟩, ⟨(some 14), none, .i (.iad 1 (.t 12) (.t 13))⟩, ⟨(some 15), none, .i (.ld (.t 14))⟩, ⟨(some 16), none, .calv (.t 11) [(.t 15)]⟩]) Bzcg)))
def Bzci : AC := (.kp [0, 1, 7, 8] [5000, 5001] (.dn (.reg false [⟨(some 18), none, .i (.bin .add (.t 8) (.c (.int .i64 1)))⟩, ⟨(some 8), none, .i (.mov (.t 18))⟩])))
def Bz5v : AC := (.kp [0, 1, 7, 8] [5000, 5001] (.dn (.seq (.block 1 (.seq (.reg false [⟨(some 10), none, .i (.mov (.t 8))⟩, ⟨(some 5), none, .i (.mov (.t 10))⟩]) Bzch)) Bzci)))
def Bz5w : AC := (.kp [0, 1, 7, 8, 9] [5000, 5001] (.dn (.seq (.cond (.t 9) .skip (.exit 0)) Bz5v)))
def Bz2w : AC := (.kp [0, 1, 7, 8] [5000, 5001] (.dn (.seq (.reg false [⟨(some 9), none, .i (.bin .lss (.t 8) (.t 7))⟩]) Bz5w)))
def Bzcj : AC := (.kp [0, 1, 7, 8] [5000, 5001] (.dn (.block 0 (.loop Bz2w))))
def Bzck : AC := (.kp [] [5000, 5001] (.dn (.seq (.reg false [⟨(some 4), none, .i (.mov (.c (.int .i64 (-1))))⟩]) (.dn .ret))))
def Bzcl : AC := (.kp [0, 1] [5000, 5001] (.dn (.seq (.seq (.reg false [⟨(some 6), none, .i (.mov (.t 0))⟩, ⟨(some 7), none, .i (.len (.t 6))⟩, ⟨(some 8), none, .i (.mov (.c (.int .i64 0)))⟩]) Bzcj) Bzck)))
def Azcm : AFn := ⟨19, 2, (.seq (.reg false [⟨(some 4), none, .i (.mov (.c (.int .i64 0)))⟩]) Bzcl), [.tmp 4]⟩
theorem czeb : cFn (drV none) Try.prog nz3m Azcm := ⟨_, _, Try.func81, rfl, by kernel_rfl, by decide, rfl, by kernel_rfl, by kernel_rfl⟩
def Bzcn : AC := (.kp [0, 1] [5000, 5001] (.dn (.seq (.reg false [⟨(some 5), none, .i (.mov (.t 0))⟩, ⟨(some 6), none, .i (.mov (.t 1))⟩, ⟨(some 7), none, .call nz3q [(.t 5), (.t 6)]⟩, ⟨(some 8), none, .i (.bin .geq (.t 7) (.c (.int .i64 0)))⟩, ⟨(some 4), none, .i (.mov (.t 8))⟩]) (.dn .ret))))
def Azco : AFn := ⟨9, 2, (.seq (.reg false [⟨(some 4), none, .i (.mov (.c (.bool false)))⟩]) Bzcn), [.tmp 4]⟩
theorem czec : cFn (drV none) Try.prog nz3n Azco := ⟨_, _, Try.func82, rfl, by kernel_rfl, by decide, rfl, by kernel_rfl, by kernel_rfl⟩
def Bzcp : AC := (.kp [0, 1, 2] [5000, 5001, 5002] (.dn (.seq (.reg false [⟨(some 5), none, .i (.mov (.t 0))⟩, ⟨(some 6), none, .i (.ld (.t 1))⟩, ⟨(some 7), none, .i (.ld (.t 2))⟩, ⟨(some 8), none, .call nz1g [(.t 5), (.t 6), (.t 7)]⟩, ⟨(some 9), none, .i (.un .not (.t 8))⟩, ⟨(some 4), none, .i (.mov (.t 9))⟩]) (.dn .ret))))
def Azcq : AFn := ⟨10, 3, (.seq (.reg false [⟨(some 4), none, .i (.mov (.c (.bool false)))⟩]) Bzcp), [.tmp 4]⟩
theorem czed : cFn (drV none) Try.prog nz1x Azcq := ⟨_, _, Try.func83, rfl, by kernel_rfl, by decide, rfl, by kernel_rfl, by kernel_rfl⟩
def Bz5x : AC := (.kp [0, 1, 5, 9] [5000, 5001] (.dn (.cond (.t 9) .skip (.exit 0))))
def Bzcr : AC := (.kp [0, 1, 5, 17] [5000, 5001] (.dn (.cond (.t 17) (.seq (.reg false [⟨(some 18), none, .i (.mov (.t 5))⟩, ⟨(some 4), none, .i (.mov (.t 18))⟩]) (.dn .ret)) .skip)))
def Bzcs : AC := (.kp [0, 1, 5] [5000, 5001] (.dn (.reg false [⟨(some 10), none, .i (.mov (.t 5))⟩, ⟨(some 11), none, .i (.bin .add (.t 10) (.c (.int .i64 1)))⟩, ⟨(some 5), none, .i (.mov (.t 11))⟩])))
def Bz5y : AC := (.kp [0, 1, 5] [5000, 5001] (.dn (.seq (.block 1 (.seq (.reg false [⟨(some 12), none, .i (.mov (.t 0))⟩, ⟨(some 13), none, .i (.mov (.t 5))⟩, ⟨(some 14), none, .i (.iad 1 (.t 12) (.t 13))⟩, ⟨(some 15), none, .i (.ld (.t 14))⟩, ⟨(some 16), none, .i (.mov (.t 1))⟩, ⟨(some 17), none, .call nz1q [(.t 15), (.t 16)]⟩]) Bzcr)) Bzcs)))
def Bz2x : AC := (.kp [0, 1, 5] [5000, 5001] (.dn (.seq (.seq (.reg false [⟨(some 6), none, .i (.mov (.t 5))⟩, ⟨(some 7), none, .i (.mov (.t 0))⟩, ⟨(some 8), none, .i (.len (.t 7))⟩, ⟨(some 9), none, .i (.bin .lss (.t 6) (.t 8))⟩]) Bz5x) Bz5y)))
def Bzct : AC := (.kp [0, 1, 5] [5000, 5001] (.dn (.block 0 (.loop Bz2x))))
def Bzcu : AC := (.kp [] [5000, 5001] (.dn (.seq (.reg false [⟨(some 4), none, .i (.mov (.c (.int .i64 (-1))))⟩]) (.dn .ret))))
def Bzcv : AC := (.kp [0, 1] [5000, 5001] (.dn (.seq (.seq (.reg false [⟨(some 5), none, .i (.mov (.c (.int .i64 0)))⟩]) Bzct) Bzcu)))
def Azcw : AFn := ⟨19, 2, (.seq (.reg false [⟨(some 4), none, .i (.mov (.c (.int .i64 0)))⟩]) Bzcv), [.tmp 4]⟩
theorem czee : cFn (drV none) Try.prog nz3o Azcw := ⟨_, _, Try.func85, rfl, by kernel_rfl, by decide, rfl, by kernel_rfl, by kernel_rfl⟩
def Bzcx : AC := (.kp [0] [5000] (.dn (.seq (.reg false [⟨(some 3), none, .i (.mov (.t 0))⟩, ⟨(some 4), none, .i (.len (.t 3))⟩, ⟨(some 2), none, .i (.mov (.t 4))⟩]) (.dn .ret))))
def Azcy : AFn := ⟨5, 1, (.seq (.reg false [⟨(some 2), none, .i (.mov (.c (.int .i64 0)))⟩]) Bzcx), [.tmp 2]⟩
theorem czef : cFn (drV none) Try.prog nz3p Azcy := ⟨_, _, Try.func86, rfl, by kernel_rfl, by decide, rfl, by kernel_rfl, by kernel_rfl⟩
def Bzcz : AC := (.kp [0, 1, 5, 7, 8, 16] [16, 1016, 5000, 5001] (.dn (.cond (.t 16) (.seq (.reg false [⟨(some 17), none, .i (.mov (.t 5))⟩, ⟨(some 4), none, .i (.mov (.t 17))⟩]) (.dn .ret)) .skip)))
def Bzd0 : AC := (.kp [0, 1, 5, 7, 8] [5000, 5001] (.dn (.seq (.reg false [⟨(some 11), none, .i (.mov (.t 1))⟩, ⟨(some 12), none, .i (.mov (.t 0))⟩, ⟨(some 13), none, .i (.mov (.t 5))⟩, ⟨(some 14), none, .i (.iad 1 (.t 12) (.t 13))⟩, ⟨(some 15), none, .i (.ld (.t 14))⟩, ⟨(some 16), none, .calv (.t 11) [(.t 15)]⟩]) Bzcz)))
def Bzd1 : AC := (.kp [0, 1, 7, 8] [5000, 5001] (.dn (.reg false [⟨(some 18), none, .i (.bin .add (.t 8) (.c (.int .i64 1)))⟩, ⟨(some 8), none, .i (.mov (.t 18))⟩])))
def Bz5z : AC := (.kp [0, 1, 7, 8] [5000, 5001] (.dn (.seq (.block 1 (.seq (.reg false [⟨(some 10), none, .i (.mov (.t 8))⟩, ⟨(some 5), none, .i (.mov (.t 10))⟩]) Bzd0)) Bzd1)))
def Bz60 : AC := (.kp [0, 1, 7, 8, 9] [5000, 5001] (.dn (.seq (.cond (.t 9) .skip (.exit 0)) Bz5z)))
def Bz2y : AC := (.kp [0, 1, 7, 8] [5000, 5001] (.dn (.seq (.reg false [⟨(some 9), none, .i (.bin .lss (.t 8) (.t 7))⟩]) Bz60)))
def Bzd2 : AC := (.kp [0, 1, 7, 8] [5000, 5001] (.dn (.block 0 (.loop Bz2y))))
def Bzd3 : AC := (.kp [] [5000, 5001] (.dn (.seq (.reg false [⟨(some 4), none, .i (.mov (.c (.int .i64 (-1))))⟩]) (.dn .ret))))
def Bzd4 : AC := (.kp [0, 1] [5000, 5001] (.dn (.seq (.seq (.reg false [⟨(some 6), none, .i (.mov (.t 0))⟩, ⟨(some 7), none, .i (.len (.t 6))⟩, ⟨(some 8), none, .i (.mov (.c (.int .i64 0)))⟩]) Bzd2) Bzd3)))
def Azd5 : AFn := ⟨19, 2, (.seq (.reg false [⟨(some 4), none, .i (.mov (.c (.int .i64 0)))⟩]) Bzd4), [.tmp 4]⟩
theorem czeg : cFn (drV none) Try.prog nz3q Azd5 := ⟨_, _, Try.func87, rfl, by kernel_rfl, by decide, rfl, by kernel_rfl, by kernel_rfl⟩
end Go.Ab
namespace Go.Ab
open Go.Proofs
theorem k_l00In (n lo hi : Int) : Fun Try.prog nz1f [iv n, iv lo, iv hi] (bv (decide (lo ≤ n) && decide (n ≤ hi))) := by
  refine fun_of mixed czdr rfl ⟨rfl, trivial⟩ ?_
  simp only [Bz9r, Az9s, go_sem, yz0, Int.reduceLT, reduceLE, reduceToNat, reduceNeg, Nat.reduceLT, reduceLeDiff, reduceMul, reduceSub, reduceIte, reduceEqDiff, reduceAdd, reduceCtorEq]
  by_cases h : lo ≤ n <;> simp [h, dn_val]
theorem k_within (n lo hi : Int) : Fun Try.prog nz1g [iv n, iv lo, iv hi] (bv (decide (lo ≤ n) && decide (n ≤ hi))) := by
  refine fun_of mixed czdy rfl ⟨rfl, trivial⟩ ?_
  simp only [Bzao, Azap, go_sem, yz0, Int.reduceLT, reduceLE, reduceToNat, reduceNeg, Nat.reduceLT, reduceLeDiff, reduceMul, reduceSub, reduceIte, reduceEqDiff, reduceAdd, reduceCtorEq]
  by_cases h : lo ≤ n <;> simp [h, dn_val]
theorem k_size (xs : List Int) : Fun Try.prog nz1s [.ro none 1 (ints xs)] (iv xs.length) := by
  refine fun_of mixed cze1 rfl ⟨rfl, trivial⟩ ?_
  simp only [Bzau, Azav, go_sem, yz0, Int.reduceLT, reduceLE, reduceToNat, reduceNeg, Nat.reduceLT, reduceLeDiff, reduceMul, reduceSub, reduceIte, reduceEqDiff, reduceAdd, reduceCtorEq]
theorem k_size1 (xss : List (List Int)) : Fun Try.prog nz3p [.ro none 1 (rwn xss)] (iv xss.length) := by
  refine fun_of mixed czef rfl ⟨rfl, trivial⟩ ?_
  simp only [Bzcx, Azcy, go_sem, yz0, Int.reduceLT, reduceLE, reduceToNat, reduceNeg, Nat.reduceLT, reduceLeDiff, reduceMul, reduceSub, reduceIte, reduceEqDiff, reduceAdd, reduceCtorEq]
theorem k_l00Same (xs ys : List Int) : Fun Try.prog nz1q [.ro none 1 (ints xs), .ro none 1 (ints ys)] (bv (decide (xs = ys))) := by
  refine fun_of mixed czdt rfl ⟨rfl, trivial⟩ ?_
  simp only [Bza0, Bza1, Bza2, Bza3, Bza4, Bza5, Bza6, Bza7, Bza8, Bza9, Azaa, go_sem, yz0, Int.reduceLT, reduceLE, reduceToNat, reduceNeg, Nat.reduceLT, reduceLeDiff, reduceMul, reduceSub, reduceIte, reduceEqDiff, reduceAdd, reduceCtorEq]
  intro hx hy
  refine ⟨fun hne => ?_, fun he => ?_⟩
  · have : xs ≠ ys := by rintro rfl; simp at hne
    simp [this]
  · have hlen : xs.length = ys.length := by simp at he; omega
    refine wpD_lo (fun i => xs.length - i) (fun i => i ≤ xs.length ∧ xs.take i = ys.take i)
      (fun i : Nat => ⟨L .any [(0, .ro none 1 (ints xs)), (1, .ro none 1 (ints ys)), (5, .val (.int .i64 i))], L .gone []⟩) 0 (by simp) (by simp only [go_sem, yz0, Int.reduceLT, reduceLE, reduceToNat, reduceNeg, Nat.reduceLT, reduceLeDiff, reduceMul, reduceSub, reduceIte, reduceEqDiff, reduceAdd, reduceCtorEq]; rfl) ?_
    rintro i ⟨hi, hti⟩
    simp only [go_sem, yz0, Int.reduceLT, reduceLE, reduceToNat, reduceNeg, Nat.reduceLT, reduceLeDiff, reduceMul, reduceSub, reduceIte, reduceEqDiff, reduceAdd, reduceCtorEq]
    intro _
    have hM := maxLen_le
    refine ⟨fun hlt => ?_, fun hge => ?_⟩
    · have hlt : i < xs.length := by simpa using hlt
      have hlt' : i < ys.length := by omega
      simp only [i2n, ints_getD hlt, ints_getD hlt', go_sem, yz0, Int.reduceLT, reduceLE, reduceToNat, reduceNeg, Nat.reduceLT, reduceLeDiff, reduceMul, reduceSub, reduceIte, reduceEqDiff, reduceAdd, reduceCtorEq]
      refine ⟨⟨by omega, hlt⟩, hlt, ⟨by omega, hlt'⟩, hlt', fun hne => ?_, fun heq => ⟨i + 1, by omega, ⟨by omega, ?_⟩, ?_⟩⟩
      · have : xs ≠ ys := by rintro rfl; simp at hne
        simp [this]
      · have he' : xs[i] = ys[i] := by simpa [List.getD_eq_getElem?_getD, hlt, hlt'] using heq
        rw [List.take_add_one, List.take_add_one, hti]
        simp [hlt, hlt', he']
      · rw [w64 (by omega)]; rfl
    · have : i = xs.length := by simp at hge; omega
      subst this
      have : xs = ys := by rw [List.take_length, hlen, List.take_length] at hti; exact hti
      simp [this]
end Go.Ab
namespace Go.Ab
open Go.Proofs
section
variable {P : Program} {a b : AC} {Q : AEx → St → Prop} {σ : St}
end
end Go.Ab
namespace Go.Ab
open Go.Proofs
theorem drop_getD {α : Type} {xs : List α} {i : Nat} (h : i < xs.length) (d : α) : xs.drop i = xs.getD i d :: xs.drop (i + 1) := by
  rw [List.drop_eq_getElem_cons h, List.getD_eq_getElem?_getD, List.getElem?_eq_getElem h]; rfl
theorem yz1w {α : Type} {xs : List α} {i : Nat} (h : i < xs.length) (d : α) : xs.getD i d ∈ xs := by
  rw [List.getD_eq_getElem?_getD, List.getElem?_eq_getElem h]; exact List.getElem_mem h
def fidx {α : Type} (p : α → Bool) : List α → Nat → Int
  | [], _ => -1
  | x :: xs, i => if p x then i else fidx p xs (i + 1)
theorem fidx_ge {α : Type} (p : α → Bool) : ∀ (xs : List α) (i : Nat), decide (0 ≤ fidx p xs i) = xs.any p
  | [], i => by simp [fidx]
  | x :: xs, i => by
    have h := fidx_ge p xs (i + 1)
    simp only [fidx, List.any_cons]
    by_cases hp : p x = true
    · simp [hp]
    · have h2 : p x = false := by simpa using hp
      simp only [h2, Bool.false_or, ← h]
      simp
structure Caps (caps : List AVal) : Prop where
  dn : dnL caps = caps
  coe : ∀ hp m len, CoeL hp m len caps caps
theorem k_IndexFunc (xs : List (List Int)) (g : FuncId) (caps : List AVal) (p : List Int → Bool) (hc : Caps caps) (h : ∀ x ∈ xs, Fun Try.prog g (.ro none 1 (ints x) :: caps) (bv (p x))) :
    Fun Try.prog nz3m [.ro none 1 (rwn xs), .clo g caps] (iv (fidx p xs 0)) := by
  refine fun_of mixed czeb rfl ⟨rfl, trivial⟩ ?_
  simp only [Azcm, Bzcl, hc.dn, go_sem, yz0, Int.reduceLT, reduceLE, reduceToNat, reduceNeg, Nat.reduceLT, reduceLeDiff, reduceMul, reduceSub, reduceIte, reduceEqDiff, reduceAdd, reduceCtorEq]
  intro hM
  have hM2 := maxLen_le
  simp only [Bzcj, hc.dn, go_sem, yz0, Int.reduceLT, reduceLE, reduceToNat, reduceNeg, Nat.reduceLT, reduceLeDiff, reduceMul, reduceSub, reduceIte, reduceEqDiff, reduceAdd, reduceCtorEq]
  refine wpD_lo (fun i => xs.length - i) (fun i => i ≤ xs.length ∧ fidx p (xs.drop i) i = fidx p xs 0)
    (fun i : Nat => ⟨L .any [(0, .ro none 1 (rwn xs)), (1, .clo g caps), (7, iv xs.length), (8, iv i)], L .gone []⟩) 0 (by simp) (by simp only [Bz2w, hc.dn, go_sem, yz0, Int.reduceLT, reduceLE, reduceToNat, reduceNeg, Nat.reduceLT, reduceLeDiff, reduceMul, reduceSub, reduceIte, reduceEqDiff, reduceAdd, reduceCtorEq]; try rfl) ?_
  rintro i ⟨hi, he⟩
  by_cases hlt : (i : Int) < xs.length
  · have hlt' : i < xs.length := by omega
    have w1 : IntKind.i64.wrap ((i : Int) + 1) = ((i + 1 : Nat) : Int) := by rw [w64 (by omega)]; simp
    have w2 : IntKind.i64.wrap (i : Int) = i := w64 (by omega)
    rw [drop_getD hlt' []] at he
    simp only [fidx] at he
    simp only [Bz2w, Bz5w, Bz5v, Bzch, rwn_getD hlt', decide_eq_true hlt, hc.dn, go_sem, yz0, Int.reduceLT, reduceLE, reduceToNat, reduceNeg, Nat.reduceLT, reduceLeDiff, reduceMul, reduceSub, reduceIte, reduceEqDiff, reduceAdd, reduceCtorEq]
    intro vs
    refine ⟨⟨by omega, hlt'⟩, hlt', ?_⟩
    refine yzg (h _ (yz1w hlt' [])) (by simp only [rowIs, boxIs, yzd, yz7, yze, yz9, yz6, yzi, yzh, yz14, yz4, yz2, yz17, yz5, yz16, yz3, yzj, yzf, yzc, yz1, yzb, yza, L_hit, yz15, L_nil, reduceEqDiff, ne_eq, reduceCtorEq, not_false_eq_true, true_and, and_true, and_self, exists_eq_left, exists_eq_right, List.mem_cons, List.not_mem_nil, or_false, AObj.row.injEq, AObj.box.injEq, exists_eq_left', exists_and_left, exists_eq, Nat.zero_lt_one, Nat.lt_add_one, List.map_cons, List.map_nil, AObj.ver, Nat.reduceLT, not_true_eq_false]; exact hc.coe _ _ _) trivial ?_
    simp only [Bzcg, Bzci, w1, hc.dn, go_sem, yz0, Int.reduceLT, reduceLE, reduceToNat, reduceNeg, Nat.reduceLT, reduceLeDiff, reduceMul, reduceSub, reduceIte, reduceEqDiff, reduceAdd, reduceCtorEq]
    refine ⟨fun hp => ?_, fun hp => ⟨i + 1, by omega, ⟨by omega, ?_⟩, rfl⟩⟩
    · rw [hp] at he; simp at he; rw [← he]
    · rw [hp] at he; simpa using he
  · have : i = xs.length := by omega
    subst this
    rw [List.drop_length] at he
    simp only [fidx] at he
    simp only [Bz2w, Bz5w, Bz5v, Bzck, decide_eq_false hlt, hc.dn, go_sem, yz0, Int.reduceLT, reduceLE, reduceToNat, reduceNeg, Nat.reduceLT, reduceLeDiff, reduceMul, reduceSub, reduceIte, reduceEqDiff, reduceAdd, reduceCtorEq]
    rw [← he]
theorem k_ContainsFunc (xs : List (List Int)) (g : FuncId) (caps : List AVal) (p : List Int → Bool) (hc : Caps caps) (h : ∀ x ∈ xs, Fun Try.prog g (.ro none 1 (ints x) :: caps) (bv (p x))) :
    Fun Try.prog nz1j [.ro none 1 (rwn xs), .clo g caps] (bv (xs.any p)) := by
  refine fun_of mixed czdz rfl ⟨rfl, trivial⟩ ?_
  simp only [Bzaq, Azar, hc.dn, go_sem, yz0, Int.reduceLT, reduceLE, reduceToNat, reduceNeg, Nat.reduceLT, reduceLeDiff, reduceMul, reduceSub, reduceIte, reduceEqDiff, reduceAdd, reduceCtorEq]
  intro vs
  refine yzg (k_IndexFunc xs g caps p hc h) (by simp only [rowIs, boxIs, yzd, yz7, yze, yz9, yz6, yzi, yzh, yz14, yz4, yz2, yz17, yz5, yz16, yz3, yzj, yzf, yzc, yz1, yzb, yza, L_hit, yz15, L_nil, reduceEqDiff, ne_eq, reduceCtorEq, not_false_eq_true, true_and, and_true, and_self, exists_eq_left, exists_eq_right, List.mem_cons, List.not_mem_nil, or_false, AObj.row.injEq, AObj.box.injEq, exists_eq_left', exists_and_left, exists_eq, Nat.zero_lt_one, Nat.lt_add_one, List.map_cons, List.map_nil, AObj.ver, Nat.reduceLT, not_true_eq_false]; exact hc.coe _ _ _) trivial ?_
  simp only [fidx_ge, go_sem, yz0, Int.reduceLT, reduceLE, reduceToNat, reduceNeg, Nat.reduceLT, reduceLeDiff, reduceMul, reduceSub, reduceIte, reduceEqDiff, reduceAdd, reduceCtorEq]
theorem k_IndexFunc2 (xs : List Int) (g : FuncId) (caps : List AVal) (p : Int → Bool) (hc : Caps caps) (h : ∀ x ∈ xs, Fun Try.prog g (iv x :: caps) (bv (p x))) :
    Fun Try.prog nz3q [.ro none 1 (ints xs), .clo g caps] (iv (fidx p xs 0)) := by
  refine fun_of mixed czeg rfl ⟨rfl, trivial⟩ ?_
  simp only [Azd5, Bzd4, hc.dn, go_sem, yz0, Int.reduceLT, reduceLE, reduceToNat, reduceNeg, Nat.reduceLT, reduceLeDiff, reduceMul, reduceSub, reduceIte, reduceEqDiff, reduceAdd, reduceCtorEq]
  intro hM
  have hM2 := maxLen_le
  simp only [Bzd2, hc.dn, go_sem, yz0, Int.reduceLT, reduceLE, reduceToNat, reduceNeg, Nat.reduceLT, reduceLeDiff, reduceMul, reduceSub, reduceIte, reduceEqDiff, reduceAdd, reduceCtorEq]
  refine wpD_lo (fun i => xs.length - i) (fun i => i ≤ xs.length ∧ fidx p (xs.drop i) i = fidx p xs 0)
    (fun i : Nat => ⟨L .any [(0, .ro none 1 (ints xs)), (1, .clo g caps), (7, iv xs.length), (8, iv i)], L .gone []⟩) 0 (by simp) (by simp only [Bz2y, hc.dn, go_sem, yz0, Int.reduceLT, reduceLE, reduceToNat, reduceNeg, Nat.reduceLT, reduceLeDiff, reduceMul, reduceSub, reduceIte, reduceEqDiff, reduceAdd, reduceCtorEq]; try rfl) ?_
  rintro i ⟨hi, he⟩
  by_cases hlt : (i : Int) < xs.length
  · have hlt' : i < xs.length := by omega
    have w1 : IntKind.i64.wrap ((i : Int) + 1) = ((i + 1 : Nat) : Int) := by rw [w64 (by omega)]; simp
    rw [drop_getD hlt' 0] at he
    simp only [fidx] at he
    simp only [Bz2y, Bz60, Bz5z, Bzd0, yz1s hlt', decide_eq_true hlt, hc.dn, go_sem, yz0, Int.reduceLT, reduceLE, reduceToNat, reduceNeg, Nat.reduceLT, reduceLeDiff, reduceMul, reduceSub, reduceIte, reduceEqDiff, reduceAdd, reduceCtorEq]
    intro vs
    refine ⟨⟨by omega, hlt'⟩, hlt', ?_⟩
    refine yzg (h _ (yz1w hlt' 0)) (by simp only [rowIs, boxIs, yzd, yz7, yze, yz9, yz6, yzi, yzh, yz14, yz4, yz2, yz17, yz5, yz16, yz3, yzj, yzf, yzc, yz1, yzb, yza, L_hit, yz15, L_nil, reduceEqDiff, ne_eq, reduceCtorEq, not_false_eq_true, true_and, and_true, and_self, exists_eq_left, exists_eq_right, List.mem_cons, List.not_mem_nil, or_false, AObj.row.injEq, AObj.box.injEq, exists_eq_left', exists_and_left, exists_eq, Nat.zero_lt_one, Nat.lt_add_one, List.map_cons, List.map_nil, AObj.ver, Nat.reduceLT, not_true_eq_false]; exact hc.coe _ _ _) trivial ?_
    simp only [Bzcz, Bzd1, w1, hc.dn, go_sem, yz0, Int.reduceLT, reduceLE, reduceToNat, reduceNeg, Nat.reduceLT, reduceLeDiff, reduceMul, reduceSub, reduceIte, reduceEqDiff, reduceAdd, reduceCtorEq]
    refine ⟨fun hp => ?_, fun hp => ⟨i + 1, by omega, ⟨by omega, ?_⟩, rfl⟩⟩
    · rw [hp] at he; simp at he; rw [← he]
    · rw [hp] at he; simpa using he
  · have : i = xs.length := by omega
    subst this
    rw [List.drop_length] at he
    simp only [fidx] at he
    simp only [Bz2y, Bz60, Bz5z, Bzd3, decide_eq_false hlt, hc.dn, go_sem, yz0, Int.reduceLT, reduceLE, reduceToNat, reduceNeg, Nat.reduceLT, reduceLeDiff, reduceMul, reduceSub, reduceIte, reduceEqDiff, reduceAdd, reduceCtorEq]
    rw [← he]
theorem k_ContainsFunc1 (xs : List Int) (g : FuncId) (caps : List AVal) (p : Int → Bool) (hc : Caps caps) (h : ∀ x ∈ xs, Fun Try.prog g (iv x :: caps) (bv (p x))) :
    Fun Try.prog nz3n [.ro none 1 (ints xs), .clo g caps] (bv (xs.any p)) := by
  refine fun_of mixed czec rfl ⟨rfl, trivial⟩ ?_
  simp only [Bzcn, Azco, hc.dn, go_sem, yz0, Int.reduceLT, reduceLE, reduceToNat, reduceNeg, Nat.reduceLT, reduceLeDiff, reduceMul, reduceSub, reduceIte, reduceEqDiff, reduceAdd, reduceCtorEq]
  intro vs
  refine yzg (k_IndexFunc2 xs g caps p hc h) (by simp only [rowIs, boxIs, yzd, yz7, yze, yz9, yz6, yzi, yzh, yz14, yz4, yz2, yz17, yz5, yz16, yz3, yzj, yzf, yzc, yz1, yzb, yza, L_hit, yz15, L_nil, reduceEqDiff, ne_eq, reduceCtorEq, not_false_eq_true, true_and, and_true, and_self, exists_eq_left, exists_eq_right, List.mem_cons, List.not_mem_nil, or_false, AObj.row.injEq, AObj.box.injEq, exists_eq_left', exists_and_left, exists_eq, Nat.zero_lt_one, Nat.lt_add_one, List.map_cons, List.map_nil, AObj.ver, Nat.reduceLT, not_true_eq_false]; exact hc.coe _ _ _) trivial ?_
  simp only [fidx_ge, go_sem, yz0, Int.reduceLT, reduceLE, reduceToNat, reduceNeg, Nat.reduceLT, reduceLeDiff, reduceMul, reduceSub, reduceIte, reduceEqDiff, reduceAdd, reduceCtorEq]
def allIn (xs : List Int) (lo hi : Int) : Bool := xs.all fun x => decide (lo ≤ x) && decide (x ≤ hi)
theorem allIn_iff {xs : List Int} {lo hi : Int} : allIn xs lo hi = true ↔ ∀ x ∈ xs, lo ≤ x ∧ x ≤ hi := by simp [allIn]
theorem k_areWithin_1 (n lo hi : Int) : Fun Try.prog nz1x [iv n, .rp [iv lo] 0, .rp [iv hi] 0] (bv !(decide (lo ≤ n) && decide (n ≤ hi))) := by
  refine fun_of mixed czed rfl ⟨rfl, trivial⟩ ?_
  simp only [Bzcp, Azcq, go_sem, yz0, Int.reduceLT, reduceLE, reduceToNat, reduceNeg, Nat.reduceLT, reduceLeDiff, reduceMul, reduceSub, reduceIte, reduceEqDiff, reduceAdd, reduceCtorEq]
  intro vs
  refine yzg (k_within n lo hi) qCS trivial ?_
  simp only [go_sem, yz0, Int.reduceLT, reduceLE, reduceToNat, reduceNeg, Nat.reduceLT, reduceLeDiff, reduceMul, reduceSub, reduceIte, reduceEqDiff, reduceAdd, reduceCtorEq]
theorem k_areWithin (xs : List Int) (lo hi : Int) : Fun Try.prog nz1t [.ro none 1 (ints xs), iv lo, iv hi] (bv (allIn xs lo hi)) := by
  refine fun_of mixed cze2 rfl ⟨rfl, trivial⟩ ?_
  simp only [Bzaw, Azax, go_sem, yz0, Int.reduceLT, reduceLE, reduceToNat, reduceNeg, Nat.reduceLT, reduceLeDiff, reduceMul, reduceSub, reduceIte, reduceEqDiff, reduceAdd, reduceCtorEq]
  intro vs vs2
  refine yzg (k_ContainsFunc1 xs nz1x [.rp [iv lo] 0, .rp [iv hi] 0] _ ⟨by simp only [go_sem, yz0, Int.reduceLT, reduceLE, reduceToNat, reduceNeg, Nat.reduceLT, reduceLeDiff, reduceMul, reduceSub, reduceIte, reduceEqDiff, reduceAdd, reduceCtorEq], by intros; simp only [rowIs, boxIs, yzd, yz7, yze, yz9, yz6, yzi, yzh, yz14, yz4, yz2, yz17, yz5, yz16, yz3, yzj, yzf, yzc, yz1, yzb, yza, L_hit, yz15, L_nil, reduceEqDiff, ne_eq, reduceCtorEq, not_false_eq_true, true_and, and_true, and_self, exists_eq_left, exists_eq_right, List.mem_cons, List.not_mem_nil, or_false, AObj.row.injEq, AObj.box.injEq, exists_eq_left', exists_and_left, exists_eq, Nat.zero_lt_one, Nat.lt_add_one, List.map_cons, List.map_nil, AObj.ver, Nat.reduceLT, not_true_eq_false]⟩ (fun x _ => k_areWithin_1 x lo hi)) qCS trivial ?_
  simp only [go_sem, yz0, Int.reduceLT, reduceLE, reduceToNat, reduceNeg, Nat.reduceLT, reduceLeDiff, reduceMul, reduceSub, reduceIte, reduceEqDiff, reduceAdd, reduceCtorEq]
  congr 2
  simp only [allIn, List.all_eq_not_any_not]
abbrev autA (n : Int) (next : List (List Int)) : AVal := .st [iv n, .ro none 1 (rwn next)]
abbrev autP (n : Int) (next : List (List Int)) : AVal := .rp [iv n, .ro none 1 (rwn next)] 0
def autB (n : Int) (next : List (List Int)) : Bool := (decide (1 ≤ n) && decide (n ≤ 10)) && ((decide (1 ≤ (next.length : Int)) && decide ((next.length : Int) ≤ 3)) && next.all fun row => decide ((row.length : Int) = n) && allIn row 0 (n - 1))
theorem autB_iff {n : Int} {next : List (List Int)} : autB n next = true ↔ Aut n next := by
  simp only [autB, Bool.and_eq_true, decide_eq_true_eq, List.all_eq_true, allIn_iff]
  constructor
  · rintro ⟨⟨h1, h2⟩, ⟨h3, h4⟩, h5⟩
    exact ⟨h1, h2, by omega, by omega, fun row hr => ⟨(h5 row hr).1, fun x hx => by have := (h5 row hr).2 x hx; omega⟩⟩
  · rintro ⟨h1, h2, h3, h4, h5⟩
    exact ⟨⟨h1, h2⟩, ⟨by omega, by omega⟩, fun row hr => ⟨(h5 row hr).1, fun x hx => by have := (h5 row hr).2 x hx; omega⟩⟩
theorem k_letters (n : Int) (next : List (List Int)) : Fun Try.prog nz3l [autA n next] (iv next.length) := by
  refine fun_of mixed cze9 rfl ⟨rfl, trivial⟩ ?_
  simp only [Bzcc, Azcd, go_sem, yz0, Int.reduceLT, reduceLE, reduceToNat, reduceNeg, Nat.reduceLT, reduceLeDiff, reduceMul, reduceSub, reduceIte, reduceEqDiff, reduceAdd, reduceCtorEq]
  intro vs vs2
  refine yzg (k_size1 next) qCS trivial ?_
  simp only [go_sem, yz0, Int.reduceLT, reduceLE, reduceToNat, reduceNeg, Nat.reduceLT, reduceLeDiff, reduceMul, reduceSub, reduceIte, reduceEqDiff, reduceAdd, reduceCtorEq]
theorem k_Valid_1 (row : List Int) (n : Int) (next : List (List Int)) (hn : 1 ≤ n ∧ n ≤ 10) : Fun Try.prog nz1w [.ro none 1 (ints row), autP n next] (bv !(decide ((row.length : Int) = n) && allIn row 0 (n - 1))) := by
  refine fun_of mixed czea rfl ⟨rfl, trivial⟩ ?_
  have w : IntKind.i64.wrap (n - 1) = n - 1 := w64 (by omega)
  simp only [Bzce, Azcf, w, go_sem, yz0, Int.reduceLT, reduceLE, reduceToNat, reduceNeg, Nat.reduceLT, reduceLeDiff, reduceMul, reduceSub, reduceIte, reduceEqDiff, reduceAdd, reduceCtorEq]
  intro vs
  refine yzg (k_size row) qCS trivial ?_
  by_cases h : (row.length : Int) = n
  · have h2 : ((row.length : Int) != n) = false := by simp [h]
    simp only [h2, w, go_sem, yz0, Int.reduceLT, reduceLE, reduceToNat, reduceNeg, Nat.reduceLT, reduceLeDiff, reduceMul, reduceSub, reduceIte, reduceEqDiff, reduceAdd, reduceCtorEq]
    refine yzg (k_areWithin row 0 (n - 1)) qCS trivial ?_
    simp only [go_sem, yz0, Int.reduceLT, reduceLE, reduceToNat, reduceNeg, Nat.reduceLT, reduceLeDiff, reduceMul, reduceSub, reduceIte, reduceEqDiff, reduceAdd, reduceCtorEq]
    simp [h]
  · have h2 : ((row.length : Int) != n) = true := by simp [h]
    simp only [h2, go_sem, yz0, Int.reduceLT, reduceLE, reduceToNat, reduceNeg, Nat.reduceLT, reduceLeDiff, reduceMul, reduceSub, reduceIte, reduceEqDiff, reduceAdd, reduceCtorEq]
    simp [h]
theorem k_Valid (n : Int) (next : List (List Int)) : Fun Try.prog nz3f [autA n next] (bv (autB n next)) := by
  refine fun_of mixed czdw rfl ⟨rfl, trivial⟩ ?_
  simp only [Bzak, Azal, go_sem, yz0, Int.reduceLT, reduceLE, reduceToNat, reduceNeg, Nat.reduceLT, reduceLeDiff, reduceMul, reduceSub, reduceIte, reduceEqDiff, reduceAdd, reduceCtorEq]
  intro vs vs2
  refine yzg (k_within n 1 10) qCS trivial ?_
  by_cases hn : 1 ≤ n ∧ n ≤ 10
  · have h1 : (decide (1 ≤ n) && decide (n ≤ 10)) = true := by simp [hn]
    simp only [h1, go_sem, yz0, Int.reduceLT, reduceLE, reduceToNat, reduceNeg, Nat.reduceLT, reduceLeDiff, reduceMul, reduceSub, reduceIte, reduceEqDiff, reduceAdd, reduceCtorEq]
    refine yzg (k_letters n next) qCS trivial ?_
    simp only [go_sem, yz0, Int.reduceLT, reduceLE, reduceToNat, reduceNeg, Nat.reduceLT, reduceLeDiff, reduceMul, reduceSub, reduceIte, reduceEqDiff, reduceAdd, reduceCtorEq]
    refine yzg (k_within next.length 1 3) qCS trivial ?_
    by_cases hl : 1 ≤ (next.length : Int) ∧ (next.length : Int) ≤ 3
    · have h2 : (decide (1 ≤ (next.length : Int)) && decide ((next.length : Int) ≤ 3)) = true := by simp only [decide_eq_true hl.1, decide_eq_true hl.2, Bool.and_self]
      simp only [h2, go_sem, yz0, Int.reduceLT, reduceLE, reduceToNat, reduceNeg, Nat.reduceLT, reduceLeDiff, reduceMul, reduceSub, reduceIte, reduceEqDiff, reduceAdd, reduceCtorEq]
      refine yzg (k_ContainsFunc next nz1w [autP n next] _ ⟨by simp only [go_sem, yz0, Int.reduceLT, reduceLE, reduceToNat, reduceNeg, Nat.reduceLT, reduceLeDiff, reduceMul, reduceSub, reduceIte, reduceEqDiff, reduceAdd, reduceCtorEq], by intros; simp only [rowIs, boxIs, yzd, yz7, yze, yz9, yz6, yzi, yzh, yz14, yz4, yz2, yz17, yz5, yz16, yz3, yzj, yzf, yzc, yz1, yzb, yza, L_hit, yz15, L_nil, reduceEqDiff, ne_eq, reduceCtorEq, not_false_eq_true, true_and, and_true, and_self, exists_eq_left, exists_eq_right, List.mem_cons, List.not_mem_nil, or_false, AObj.row.injEq, AObj.box.injEq, exists_eq_left', exists_and_left, exists_eq, Nat.zero_lt_one, Nat.lt_add_one, List.map_cons, List.map_nil, AObj.ver, Nat.reduceLT, not_true_eq_false]⟩ (fun x _ => k_Valid_1 x n next hn)) qCS trivial ?_
      simp only [go_sem, yz0, Int.reduceLT, reduceLE, reduceToNat, reduceNeg, Nat.reduceLT, reduceLeDiff, reduceMul, reduceSub, reduceIte, reduceEqDiff, reduceAdd, reduceCtorEq]
      simp only [autB, h1, h2, Bool.true_and]
      congr 2
      simp only [List.all_eq_not_any_not]
    · have h2 : (decide (1 ≤ (next.length : Int)) && decide ((next.length : Int) ≤ 3)) = false := by
        rw [Bool.and_eq_false_iff]
        by_cases h3 : 1 ≤ (next.length : Int)
        · right; simp; omega
        · left; simp; omega
      simp only [h2, go_sem, yz0, Int.reduceLT, reduceLE, reduceToNat, reduceNeg, Nat.reduceLT, reduceLeDiff, reduceMul, reduceSub, reduceIte, reduceEqDiff, reduceAdd, reduceCtorEq]
      simp only [autB, h1, h2, Bool.true_and, Bool.false_and]
  · have h1 : (decide (1 ≤ n) && decide (n ≤ 10)) = false := by
      rw [Bool.and_eq_false_iff]
      by_cases h3 : 1 ≤ n
      · right; simp; omega
      · left; simp; omega
    simp only [h1, go_sem, yz0, Int.reduceLT, reduceLE, reduceToNat, reduceNeg, Nat.reduceLT, reduceLeDiff, reduceMul, reduceSub, reduceIte, reduceEqDiff, reduceAdd, reduceCtorEq]
    simp only [autB, h1, Bool.false_and]
def stepA (next : List (List Int)) (s l : Int) : Int := (next.getD l.toNat []).getD s.toNat 0
def atA (next : List (List Int)) (s : Int) (w : List Int) : Int := w.foldl (stepA next) s
def IsW (l : Nat) (w : List Int) : Prop := ∀ x ∈ w, 0 ≤ x ∧ x < l
theorem Aut.step {n : Int} {next : List (List Int)} (A : Aut n next) {s l : Int} (hs : 0 ≤ s ∧ s < n) (hl : 0 ≤ l ∧ l < next.length) :
    l.toNat < next.length ∧ s.toNat < (next.getD l.toNat []).length ∧ 0 ≤ stepA next s l ∧ stepA next s l < n := by
  have h1 : l.toNat < next.length := by omega
  have h2 := A.row _ (yz1w h1 [])
  have h3 : s.toNat < (next.getD l.toNat []).length := by omega
  exact ⟨h1, h3, h2.2 _ (yz1w h3 0)⟩
theorem Aut.at {n : Int} {next : List (List Int)} (A : Aut n next) : ∀ {w : List Int} {s : Int}, 0 ≤ s ∧ s < n → IsW next.length w → 0 ≤ atA next s w ∧ atA next s w < n
  | [], s, hs, _ => hs
  | l :: w, s, hs, hw => A.at (w := w) (A.step hs (hw l (by simp))).2.2 fun x hx => hw x (by simp [hx])
end Go.Ab
