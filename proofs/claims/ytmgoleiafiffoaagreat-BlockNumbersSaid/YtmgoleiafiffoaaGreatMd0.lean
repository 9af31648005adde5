/- Texts of one kind, one behind the other. -/
import Derived.Test.YtmgoleiafiffoaaGreatProg
import Derived.KernelRfl
import Derived.Test.YtmgoleiafiffoaaGreatMb0
set_option maxRecDepth 100000
set_option linter.defProp false
namespace Go.Proofs.YtmgoleiafiffoaaGreat.Cd
open Go Go.Dx
@[reducible] def oA (d : Nat) (x : Dx.Op) : O := ⟨some d, none, x⟩
@[reducible] def oM (d x : Nat) : O := ⟨some d, none, .mov (.t x)⟩
@[reducible] def oS (x : Dx.Op) : O := ⟨none, none, x⟩
@[reducible] def oT (d g : Nat) (x : Dx.Op) : O := ⟨some d, some (g, true), x⟩
@[reducible] def oF (d g : Nat) (x : Dx.Op) : O := ⟨some d, some (g, false), x⟩
def n_1n : Nat := 3
def n_1s : Nat := 7
def n_1t : Nat := 8
def n_1r : Nat := 9
def n_1c : Nat := 11
def n_04 : Nat := 12
def n_48 : Nat := 13
def n_05 : Nat := 15
def n_47 : Nat := 16
def n_2x : Nat := 17
def n_49 : Nat := 18
def n_30 : Nat := 19
def n_2w : Nat := 20
def n_1b : Nat := 21
def n_1a : Nat := 22
def n_02 : Nat := 23
def n_2h : Nat := 24
def n_1q : Nat := 25
def n_2l : Nat := 26
def n_27 : Nat := 27
def n_4a : Nat := 31
def n_09 : Nat := 32
def n_08 : Nat := 33
def n_03 : Nat := 34
def n_4c : Nat := 35
def n_4e : Nat := 36
def n_4d : Nat := 37
def n_2y : Nat := 38
def n_32 : Nat := 39
def n_2z : Nat := 40
def n_34 : Nat := 41
def n_33 : Nat := 42
def n_3s : Nat := 43
def n_24 : Nat := 44
def n_2k : Nat := 45
def n_2j : Nat := 46
def n_2e : Nat := 47
def n_28 : Nat := 48
def n_2a : Nat := 49
def n_2f : Nat := 50
def n_2g : Nat := 51
def n_3u : Nat := 52
def n_2c : Nat := 53
def n_2b : Nat := 54
def n_0k : Nat := 59
def n_0d : Nat := 60
def n_14 : Nat := 61
def n_0u : Nat := 62
def n_3b : Nat := 63
def n_3e : Nat := 64
def n_38 : Nat := 65
def n_2t : Nat := 66
def n_2m : Nat := 67
def n_2q : Nat := 68
def n_2r : Nat := 69
def n_2o : Nat := 70
def n_2n : Nat := 71
def n_2p : Nat := 72
def n_42 : Nat := 73
def n_3m : Nat := 74
def n_2u : Nat := 78
def n_2d : Nat := 80
def n_3x : Nat := 88
def n_3f : Nat := 89
def n_3h : Nat := 90
def n_3g : Nat := 91
def n_3k : Nat := 92
def n_3l : Nat := 93
def n_3j : Nat := 94
def n_0c : Nat := 99
def n_0h : Nat := 100
def n_0g : Nat := 101
def n_0b : Nat := 102
def n_0i : Nat := 103
def n_0e : Nat := 104
def n_11 : Nat := 105
def n_13 : Nat := 106
def n_0t : Nat := 107
def n_0w : Nat := 108
def n_00 : Nat := 109
def n_0v : Nat := 110
def n_3d : Nat := 111
def n_39 : Nat := 112
def n_3a : Nat := 113
def n_2v : Nat := 114
def n_2s : Nat := 115
def n_3o : Nat := 125
def n_3n : Nat := 126
def n_3i : Nat := 127
def n_0j : Nat := 129
def n_18 : Nat := 130
def n_0q : Nat := 131
def n_4g : Nat := 132
def n_12 : Nat := 133
def n_19 : Nat := 134
def n_0l : Nat := 135
def n_4k : Nat := 136
def n_16 : Nat := 137
def n_15 : Nat := 138
def n_0a : Nat := 139
def n_01 : Nat := 140
def n_57 : Nat := 141
def n_0n : Nat := 149
def n_4i : Nat := 150
def n_4l : Nat := 151
def n_4f : Nat := 152
def n_17 : Nat := 153
def n_0o : Nat := 154
def n_0f : Nat := 155
def n_56 : Nat := 156
def n_4x : Nat := 159
def n_0y : Nat := 160
def n_4h : Nat := 161
def n_0p : Nat := 162
def n_0m : Nat := 163
def n_4p : Nat := 164
def n_4o : Nat := 165
def n_4m : Nat := 166
def n_4n : Nat := 167
def n_4y : Nat := 168
def n_4u : Nat := 169
def n_06 : Nat := 170
def n_4v : Nat := 171
def n_4w : Nat := 172
def n_0z : Nat := 173
def n_10 : Nat := 174
def n_4j : Nat := 175
def n_55 : Nat := 176
def n_53 : Nat := 177
def n_0r : Nat := 178
def n_07 : Nat := 184
def n_0s : Nat := 185
def n_54 : Nat := 186
def n_52 : Nat := 187
def n_51 : Nat := 188
def n_0x : Nat := 190
end Go.Proofs.YtmgoleiafiffoaaGreat.Cd

set_option maxRecDepth 100000
set_option linter.defProp false
namespace Go.Proofs.YtmgoleiafiffoaaGreat.Cd
open Go Go.Dx
def c0_1n : C :=
 .seq (.block 3 (.ops [oM 27 1,oM 28 2,oA 29 (.bin .mul (.c (.int .i64 4)) (.t 28)),oM 30 4,oA 31 (.bin .add (.t 29) (.t 30)),oM 32 3,oM 33 4,oA 34 (.bin .mul (.c (.int .i64 8)) (.t 33)),oA 35 (.bin .sub (.c (.int .i64 24)) (.t 34)),oA 36 (.conv .u64 (.t 35)),oA 37 (.bin .shr (.t 32) (.t 36)),oA 38 (.conv .u8 (.t 37)),oA 39 (.ia 1 (.t 27) (.t 31)),oS (.st (.t 39) (.t 38))])) (.ops [oM 25 4,oA 26 (.bin .add (.t 25) (.c (.int .i64 1))),oM 4 26])
def c1_1n : C :=
 .seq (.seq (.ops [oM 23 4,oA 24 (.bin .lss (.t 23) (.c (.int .i64 4)))]) (.cond (.t 24) (.skip) (.exit 2))) (c0_1n)
def c2_1n : C :=
 .seq (.block 1 (.seq (.ops [oA 17 (.bsl 10 (List.replicate 10 (.int .u32 0)) [(0,1,(.c (.int .u32 606142465))),(1,1,(.c (.int .u32 0))),(2,1,(.c (.int .u32 268435459))),(3,1,(.c (.int .u32 2351038464))),(4,1,(.c (.int .u32 65011720))),(5,1,(.c (.int .u32 268435459))),(6,1,(.c (.int .u32 1107296288))),(7,1,(.c (.int .u32 608305159))),(8,1,(.c (.int .u32 201326608))),(9,1,(.c (.int .u32 1073831936)))]),oM 18 2,oA 19 (.bin .mul (.t 18) (.c (.int .i64 7))),oA 20 (.bin .rem (.t 19) (.c (.int .i64 10))),oA 21 (.ia 1 (.t 17) (.t 20)),oA 22 (.ld (.t 21)),oM 3 22]) (.seq (.ops [oA 4 (.mov (.c (.int .i64 0)))]) (.block 2 (.loop c1_1n))))) (.ops [oM 15 2,oA 16 (.bin .add (.t 15) (.c (.int .i64 1))),oM 2 16])
def c3_1n : C :=
 .seq (.seq (.ops [oM 13 2,oA 14 (.bin .lss (.t 13) (.c (.int .i64 512)))]) (.cond (.t 14) (.skip) (.exit 0))) (c2_1n)
def c4_1n : C :=
 .seq (.ops [oM 57 5,oM 58 6,oM 59 7,oM 60 9,oA 61 (.call n_1t [(.t 57),(.t 58),(.t 59),(.t 60),(.c (.slice none 0 0))]),oA 62 (.un .not (.t 61))]) (.cond (.t 62) (.seq (.ops [oA 0 (.mov (.c (.bool false)))]) (.ret)) (.skip))
def c5_1n : C :=
 .seq (.ops [oA 54 (.bin .lss (.t 53) (.t 52))]) (.seq (.cond (.t 54) (.skip) (.exit 6)) (.seq (.block 7 (.seq (.ops [oA 55 (.ia 1 (.t 51) (.t 53)),oA 56 (.ld (.t 55)),oM 9 56]) (c4_1n))) (.ops [oA 63 (.bin .add (.t 53) (.c (.int .i64 1))),oM 53 63])))
def c6_1n : C :=
 .seq (.block 5 (.seq (.ops [oA 51 (.bsl 8 [(.int .i64 0),(.int .i64 0),(.int .i64 0),(.int .i64 0),(.int .i64 0),(.int .i64 0),(.int .i64 0),(.int .i64 0)] [(0,1,(.c (.int .i64 (-1)))),(1,1,(.c (.int .i64 0))),(2,1,(.c (.int .i64 1))),(3,1,(.c (.int .i64 2))),(4,1,(.c (.int .i64 3))),(5,1,(.c (.int .i64 8))),(6,1,(.c (.int .i64 32))),(7,1,(.c (.int .i64 50)))]),oA 52 (.len 1 (.t 51)),oA 53 (.mov (.c (.int .i64 0)))]) (.block 6 (.loop c5_1n)))) (.ops [oM 49 7,oA 50 (.bin .add (.t 49) (.c (.int .u32 4))),oM 7 50])
def c7_1n : C :=
 .seq (.seq (.ops [oM 47 7,oA 48 (.bin .lss (.t 47) (.c (.int .u32 1100)))]) (.cond (.t 48) (.skip) (.exit 4))) (c6_1n)
def c8_1n : C :=
 .seq (.ops [oM 70 5,oM 71 6,oM 72 11,oA 73 (.call n_1t [(.t 70),(.t 71),(.t 72),(.c (.int .i64 9)),(.c (.slice none 0 0))]),oA 74 (.un .not (.t 73))]) (.cond (.t 74) (.seq (.ops [oA 0 (.mov (.c (.bool false)))]) (.ret)) (.skip))
def c9_1n : C :=
 .seq (.ops [oA 67 (.bin .lss (.t 66) (.t 65))]) (.seq (.cond (.t 67) (.skip) (.exit 8)) (.seq (.block 9 (.seq (.ops [oA 68 (.ia 1 (.t 64) (.t 66)),oA 69 (.ld (.t 68)),oM 11 69]) (c8_1n))) (.ops [oA 75 (.bin .add (.t 66) (.c (.int .i64 1))),oM 66 75])))
def c10_1n : C :=
 .seq (.seq (.ops [oA 64 (.bsl 5 [(.int .u32 0),(.int .u32 0),(.int .u32 0),(.int .u32 0),(.int .u32 0)] [(0,1,(.c (.int .u32 2040))),(1,1,(.c (.int .u32 2044))),(2,1,(.c (.int .u32 2048))),(3,1,(.c (.int .u32 1))),(4,1,(.c (.int .u32 4294967292)))]),oA 65 (.len 1 (.t 64)),oA 66 (.mov (.c (.int .i64 0)))]) (.block 8 (.loop c9_1n))) (.seq (.ops [oA 76 (.call n_1r []),oM 0 76]) (.ret))
def c11_1n : C :=
 .seq (.ops [oM 41 1,oA 42 (.call n_1s [(.t 41)]),oM 40 42,oA 43 (.ext (.t 40) 0),oA 44 (.ext (.t 40) 1),oM 5 43,oM 6 44]) (.seq (.seq (.ops [oM 45 5,oA 46 (.eqn 0 false (.t 45))]) (.cond (.t 46) (.seq (.ops [oA 0 (.mov (.c (.bool false)))]) (.ret)) (.skip))) (.seq (.seq (.ops [oA 7 (.mov (.c (.int .u32 960)))]) (.block 4 (.loop c7_1n))) (c10_1n)))
def c_1n : C :=
 .seq (.ops [oA 0 (.mov (.c (.bool false)))]) (.seq (.ops [oA 12 (.mks [(.int .u8 0)] 1 (.c (.int .i64 2048)) (.c (.int .i64 2048))),oM 1 12]) (.seq (.seq (.ops [oA 2 (.mov (.c (.int .i64 0)))]) (.block 0 (.loop c3_1n))) (c11_1n)))
def f_1n : F := ⟨c_1n, [.t 0], some []⟩
theorem h_1n : compF Tryz.prog (compAny Tryz.prog) n_1n = some (f_1n.body, f_1n.res) := by kernel_rfl
def c0_1s : C :=
 .seq (.ops [oM 15 4,oM 16 0,oA 17 (.call n_49 [(.t 15),(.c (.int .u32 0)),(.t 16)])]) (.seq (.ops [oM 18 5,oM 19 0,oA 20 (.call n_30 [(.t 18),(.c (.int .u32 0)),(.t 19)])]) (.seq (.ops [oM 21 4,oM 22 5,oM 2 21,oM 3 22]) (.ret)))
def c1_1s : C :=
 .seq (.seq (.ops [oM 10 0,oA 11 (.len 1 (.t 10)),oA 12 (.bin .gtr (.t 11) (.c (.int .i64 2048)))]) (.cond (.t 12) (.ops [oM 13 0,oA 14 (.sl 1 (.t 13) none (some (.c (.int .i64 2048))) none),oM 0 14]) (.skip))) (c0_1s)
def c2_1s : C :=
 .seq (.ops [oA 6 (.call n_47 [(.c (.int .i64 2))]),oA 7 (.call n_2x [(.c (.int .i64 2))]),oM 4 6,oM 5 7]) (.seq (.seq (.ops [oM 8 4,oA 9 (.eqn 0 false (.t 8))]) (.cond (.t 9) (.seq (.ops [oA 2 (.mov (.c (.pointer none))),oA 3 (.mov (.c (.pointer none)))]) (.ret)) (.skip))) (c1_1s))
def c_1s : C :=
 .seq (.ops [oA 2 (.mov (.c (.pointer none))),oA 3 (.mov (.c (.pointer none)))]) (c2_1s)
def f_1s : F := ⟨c_1s, [.t 2, .t 3], some []⟩
theorem h_1s : compF Tryz.prog (compAny Tryz.prog) n_1s = some (f_1s.body, f_1s.res) := by kernel_rfl
def c0_1t : C :=
 .seq (.block 1 (.any 0 [.op 4 (oM 96 4),.op 5 (oM 97 18),.op 6 (oA 98 (.ia 1 (.t 96) (.t 97))),.op 7 (oA 99 (.ld (.t 98))),.op 8 (oM 100 4),.op 9 (oM 101 18),.op 10 (oA 102 (.ia 1 (.t 100) (.t 101))),.op 11 (oA 103 (.ld (.t 102))),.op 0 (oM 92 16),.op 1 (oM 93 18),.op 12 (oA 104 (.ia 1 (.t 92) (.t 93))),.op 13 (oS (.st (.t 104) (.t 99))),.op 2 (oM 94 17),.op 3 (oM 95 18),.op 14 (oA 105 (.nilc (.t 94))),.op 15 (oA 106 (.fa 0 (.t 105))),.op 16 (oA 107 (.fa 0 (.t 106))),.op 17 (oA 108 (.iaa 32 1 (.t 107) (.t 95))),.op 18 (oS (.st (.t 108) (.t 103)))])) (.ops [oM 90 18,oA 91 (.bin .add (.t 90) (.c (.int .i64 1))),oM 18 91])
def c1_1t : C :=
 .seq (.seq (.ops [oM 82 18,oA 83 (.bin .lss (.t 82) (.c (.int .i64 32))),oM 84 83,oT 85 84 (.mov (.t 18)),oT 86 84 (.mov (.t 4)),oT 87 84 (.len 1 (.t 86)),oT 88 84 (.bin .lss (.t 85) (.t 87)),oA 89 (.pick (.t 84) (.t 88) (.c (.bool false)))]) (.cond (.t 89) (.skip) (.exit 0))) (c0_1t)
def c2_1t : C :=
 .seq (.seq (.ops [oA 121 (.fa 3 (.t 11)),oA 122 (.ld (.t 121)),oM 123 19,oA 124 (.ia 1 (.t 122) (.t 123)),oA 125 (.ld (.t 124)),oA 126 (.len 1 (.t 125)),oA 127 (.bin .neq (.t 126) (.c (.int .i64 0)))]) (.cond (.t 127) (.seq (.ops [oA 10 (.mov (.c (.bool false)))]) (.ret)) (.skip))) (.exit 3)
def c3_1t : C :=
 .seq (.seq (.ops [oM 128 16,oA 129 (.fa 3 (.t 11)),oA 130 (.ld (.t 129)),oM 131 19,oA 132 (.ia 1 (.t 130) (.t 131)),oA 133 (.ld (.t 132)),oA 134 (.call n_2l [(.t 128),(.t 133)]),oA 135 (.un .not (.t 134))]) (.cond (.t 135) (.seq (.ops [oA 10 (.mov (.c (.bool false)))]) (.ret)) (.skip))) (.ops [oM 136 17,oM 137 14,oM 138 19,oA 139 (.ia 6 (.t 137) (.t 138)),oA 140 (.ldn 6 (.t 139)),oA 141 (.call n_27 [(.t 136),(.t 140)])])
def c4_1t : C :=
 .seq (.block 3 (.seq (.seq (.ops [oM 115 14,oM 116 19,oA 117 (.ia 6 (.t 115) (.t 116)),oA 118 (.ldn 6 (.t 117)),oA 119 (.call n_1q [(.t 118)]),oA 120 (.bin .neq (.t 119) (.c (.int .i64 1)))]) (.cond (.t 120) (c2_1t) (.skip))) (c3_1t))) (.ops [oM 113 19,oA 114 (.bin .add (.t 113) (.c (.int .i64 1))),oM 19 114])
def c5_1t : C :=
 .seq (.seq (.ops [oM 109 19,oM 110 14,oA 111 (.len 1 (.t 110)),oA 112 (.bin .lss (.t 109) (.t 111))]) (.cond (.t 112) (.skip) (.exit 2))) (c4_1t)
def c6_1t : C :=
 .seq (.any 0 [.op 0 (oM 142 16),.op 1 (oA 143 (.sl 1 (.t 142) none (some (.c (.int .i64 32))) none)),.op 2 (oM 144 17),.op 3 (oA 145 (.nilc (.t 144))),.op 4 (oA 146 (.fa 0 (.t 145))),.op 5 (oA 147 (.fa 0 (.t 146))),.op 6 (oA 148 (.sla 32 1 (.t 147) none none none)),.op 7 (oA 149 (.call n_1b [(.t 143),(.t 148)])),.op 8 (oM 150 149),.op 9 (oT 151 150 (.mov (.t 16))),.op 10 (oT 152 150 (.ia 1 (.t 151) (.c (.int .i64 32)))),.op 11 (oT 153 150 (.ld (.t 152))),.op 12 (oT 154 150 (.mov (.t 17))),.op 13 (oT 155 150 (.nilc (.t 154))),.op 14 (oT 156 150 (.fa 0 (.t 155))),.op 15 (oT 157 150 (.fa 32 (.t 156))),.op 16 (oT 158 150 (.ld (.t 157))),.op 17 (oT 159 150 (.bin .eql (.t 153) (.t 158))),.op 18 (oA 160 (.pick (.t 150) (.t 159) (.c (.bool false)))),.op 19 (oM 161 160),.op 20 (oT 162 161 (.mov (.t 16))),.op 21 (oT 163 161 (.ia 1 (.t 162) (.c (.int .i64 33)))),.op 22 (oT 164 161 (.ld (.t 163))),.op 23 (oT 165 161 (.mov (.t 17))),.op 24 (oT 166 161 (.nilc (.t 165))),.op 25 (oT 167 161 (.fa 0 (.t 166))),.op 26 (oT 168 161 (.fa 33 (.t 167))),.op 27 (oT 169 161 (.ld (.t 168))),.op 28 (oT 170 161 (.bin .eql (.t 164) (.t 169))),.op 29 (oA 171 (.pick (.t 161) (.t 170) (.c (.bool false)))),.op 30 (oM 10 171)]) (.ret)
def c7_1t : C :=
 .seq (.ops [oA 81 (.call n_2h [(.c (.int .i64 1)),(.c (.slice none 0 0)),(.c (.slice none 0 0))]),oM 17 81]) (.seq (.seq (.ops [oA 18 (.mov (.c (.int .i64 1)))]) (.block 0 (.loop c1_1t))) (.seq (.seq (.ops [oA 19 (.mov (.c (.int .i64 0)))]) (.block 2 (.loop c5_1t))) (c6_1t)))
def c8_1t : C :=
 .seq (.seq (.ops [oA 62 (.fa 0 (.t 11)),oA 63 (.ld (.t 62)),oM 64 2,oA 65 (.bin .neq (.t 63) (.t 64)),oM 66 65,oF 67 66 (.ldn 4 (.t 11)),oF 68 66 (.call n_02 [(.t 67)]),oF 69 66 (.mov (.t 2)),oF 70 66 (.bin .quo (.t 69) (.c (.int .u32 1024))),oF 71 66 (.conv .i64 (.t 70)),oF 72 66 (.bin .neq (.t 68) (.t 71)),oA 73 (.pick (.t 66) (.c (.bool true)) (.t 72)),oM 74 73,oF 75 74 (.ldn 4 (.t 11)),oF 76 74 (.mov (.t 0)),oF 77 74 (.call n_05 [(.t 75),(.t 76)]),oF 78 74 (.un .not (.t 77)),oA 79 (.pick (.t 74) (.c (.bool true)) (.t 78))]) (.cond (.t 79) (.seq (.ops [oA 10 (.mov (.c (.bool false)))]) (.ret)) (.skip))) (.seq (.ops [oA 80 (.mks [(.int .u32 0)] 4 (.c (.int .i64 40)) (.c (.int .i64 40))),oM 16 80]) (c7_1t))
def c9_1t : C :=
 .seq (.seq (.ops [oM 35 12,oM 36 15,oA 37 (.eqb true (.t 35) (.t 36)),oM 38 37,oF 39 38 (.fa 1 (.t 11)),oF 40 38 (.ld (.t 39)),oF 41 38 (.mov (.t 13)),oF 42 38 (.call n_1b [(.t 40),(.t 41)]),oF 43 38 (.un .not (.t 42)),oA 44 (.pick (.t 38) (.c (.bool true)) (.t 43)),oM 45 44,oF 46 45 (.fa 2 (.t 11)),oF 47 45 (.ld (.t 46)),oF 48 45 (.mov (.t 14)),oF 49 45 (.call n_1a [(.t 47),(.t 48)]),oF 50 45 (.un .not (.t 49)),oA 51 (.pick (.t 45) (.c (.bool true)) (.t 50)),oM 52 51,oF 53 52 (.fa 3 (.t 11)),oF 54 52 (.ld (.t 53)),oF 55 52 (.len 1 (.t 54)),oF 56 52 (.mov (.t 14)),oF 57 52 (.len 1 (.t 56)),oF 58 52 (.bin .neq (.t 55) (.t 57)),oA 59 (.pick (.t 52) (.c (.bool true)) (.t 58))]) (.cond (.t 59) (.seq (.ops [oA 10 (.mov (.c (.bool false)))]) (.ret)) (.skip))) (.seq (.seq (.ops [oM 60 12,oA 61 (.un .not (.t 60))]) (.cond (.t 61) (.seq (.ops [oA 10 (.mov (.c (.bool true)))]) (.ret)) (.skip))) (c8_1t))
def c10_1t : C :=
 .seq (.ops [oM 28 1,oM 29 2,oM 30 3,oA 31 (.call n_2w [(.t 28),(.t 29),(.t 30)]),oM 27 31,oA 32 (.ext (.t 27) 0),oA 33 (.ext (.t 27) 1),oA 34 (.ext (.t 27) 2),oM 13 32,oM 14 33,oM 15 34]) (c9_1t)
def c11_1t : C :=
 .seq (.ops [oM 21 0,oM 22 2,oM 23 3,oA 24 (.call n_04 [(.t 21),(.t 22),(.t 23)]),oM 20 24,oA 25 (.ext (.t 20) 0),oA 26 (.ext (.t 20) 1),oA 11 (.new [(.int .u32 0),(.slice none 0 0),(.slice none 0 0),(.slice none 0 0)]),oS (.stn 4 (.t 11) (.t 25)),oM 12 26]) (c10_1t)
def c_1t : C :=
 .seq (.ops [oA 10 (.mov (.c (.bool false)))]) (c11_1t)
def f_1t : F := ⟨c_1t, [.t 10], some []⟩
theorem h_1t : compF Tryz.prog (compAny Tryz.prog) n_1t = some (f_1t.body, f_1t.res) := by kernel_rfl
def c0_1r : C :=
 .seq (.ops [oM 25 3,oM 26 25,oT 27 26 (.fa 2 (.t 2)),oT 28 26 (.ld (.t 27)),oT 29 26 (.len 1 (.t 28)),oT 30 26 (.bin .eql (.t 29) (.c (.int .i64 5))),oA 31 (.pick (.t 26) (.t 30) (.c (.bool false))),oM 32 31,oT 33 32 (.fa 1 (.t 2)),oT 34 32 (.ld (.t 33)),oT 35 32 (.len 1 (.t 34)),oT 36 32 (.bin .eql (.t 35) (.c (.int .i64 5))),oA 37 (.pick (.t 32) (.t 36) (.c (.bool false))),oM 38 37,oT 39 38 (.fa 3 (.t 2)),oT 40 38 (.ld (.t 39)),oT 41 38 (.len 1 (.t 40)),oT 42 38 (.bin .eql (.t 41) (.c (.int .i64 5))),oA 43 (.pick (.t 38) (.t 42) (.c (.bool false))),oM 44 43,oT 45 44 (.ldn 4 (.t 2)),oT 46 44 (.call n_02 [(.t 45)]),oT 47 44 (.bin .eql (.t 46) (.c (.int .i64 0))),oA 48 (.pick (.t 44) (.t 47) (.c (.bool false))),oM 49 48,oT 50 49 (.ldn 4 (.t 2)),oT 51 49 (.mov (.t 1)),oT 52 49 (.call n_05 [(.t 50),(.t 51)]),oA 53 (.pick (.t 49) (.t 52) (.c (.bool false))),oM 54 53,oT 55 54 (.mov (.t 5)),oT 56 54 (.un .not (.t 55)),oA 57 (.pick (.t 54) (.t 56) (.c (.bool false))),oM 58 57,oT 59 58 (.mov (.t 7)),oT 60 58 (.un .not (.t 59)),oA 61 (.pick (.t 58) (.t 60) (.c (.bool false))),oM 0 61]) (.ret)
def c1_1r : C :=
 .seq (.ops [oA 22 (.call n_04 [(.c (.pointer none)),(.c (.int .u32 0)),(.c (.int .i64 5))]),oM 21 22,oA 23 (.ext (.t 21) 0),oA 24 (.ext (.t 21) 1),oA 6 (.new [(.int .u32 0),(.slice none 0 0),(.slice none 0 0),(.slice none 0 0)]),oS (.stn 4 (.t 6) (.t 23)),oM 7 24]) (c0_1r)
def c2_1r : C :=
 .seq (.ops [oM 17 1,oA 18 (.call n_04 [(.t 17),(.c (.int .u32 2)),(.c (.int .i64 5))]),oM 16 18,oA 19 (.ext (.t 16) 0),oA 20 (.ext (.t 16) 1),oA 4 (.new [(.int .u32 0),(.slice none 0 0),(.slice none 0 0),(.slice none 0 0)]),oS (.stn 4 (.t 4) (.t 19)),oM 5 20]) (c1_1r)
def c3_1r : C :=
 .seq (.ops [oM 12 1,oA 13 (.call n_04 [(.t 12),(.c (.int .u32 0)),(.c (.int .i64 5))]),oM 11 13,oA 14 (.ext (.t 11) 0),oA 15 (.ext (.t 11) 1),oA 2 (.new [(.int .u32 0),(.slice none 0 0),(.slice none 0 0),(.slice none 0 0)]),oS (.stn 4 (.t 2) (.t 14)),oM 3 15]) (c2_1r)
def c_1r : C :=
 .seq (.ops [oA 0 (.mov (.c (.bool false)))]) (.seq (.ops [oA 8 (.call n_47 [(.c (.int .i64 1))]),oM 1 8]) (.seq (.seq (.ops [oM 9 1,oA 10 (.eqn 0 false (.t 9))]) (.cond (.t 10) (.seq (.ops [oA 0 (.mov (.c (.bool false)))]) (.ret)) (.skip))) (c3_1r)))
def f_1r : F := ⟨c_1r, [.t 0], some []⟩
theorem h_1r : compF Tryz.prog (compAny Tryz.prog) n_1r = some (f_1r.body, f_1r.res) := by kernel_rfl
def c0_1c : C :=
 .seq (.seq (.ops [oM 22 0,oA 23 (.bin .lss (.t 22) (.c (.int .i64 0)))]) (.cond (.t 23) (.ops [oM 24 0,oM 25 2,oA 26 (.bin .add (.t 24) (.t 25)),oM 27 1,oA 28 (.bin .sub (.t 26) (.t 27)),oA 29 (.bin .add (.t 28) (.c (.int .i64 1))),oM 0 29]) (.skip))) (.seq (.ops [oM 30 1,oM 31 0,oA 32 (.bin .add (.t 30) (.t 31)),oM 6 32]) (.ret))
def c1_1c : C :=
 .seq (.seq (.ops [oM 7 0,oM 8 1,oA 9 (.bin .geq (.t 7) (.t 8)),oM 10 9,oT 11 10 (.mov (.t 0)),oT 12 10 (.mov (.t 2)),oT 13 10 (.bin .leq (.t 11) (.t 12)),oA 14 (.pick (.t 10) (.t 13) (.c (.bool false)))]) (.cond (.t 14) (.seq (.ops [oM 15 0,oM 6 15]) (.ret)) (.skip))) (.seq (.ops [oM 16 0,oM 17 2,oM 18 1,oA 19 (.bin .sub (.t 17) (.t 18)),oA 20 (.bin .add (.t 19) (.c (.int .i64 1))),oA 21 (.bin .rem (.t 16) (.t 20)),oM 0 21]) (c0_1c))
def c_1c : C :=
 .seq (.ops [oA 6 (.mov (.c (.int .i64 0)))]) (c1_1c)
def f_1c : F := ⟨c_1c, [.t 6], some []⟩
theorem h_1c : compF Tryz.prog (compAny Tryz.prog) n_1c = some (f_1c.body, f_1c.res) := by kernel_rfl
def c0_04 : C :=
 .seq (.seq (.ops [oM 73 9,oM 74 73,oF 75 74 (.mov (.t 15)),oF 76 74 (.bin .eql (.t 75) (.c (.int .i64 6))),oA 77 (.pick (.t 74) (.c (.bool true)) (.t 76))]) (.cond (.t 77) (.exit 0) (.skip))) (.ops [oM 78 15,oA 79 (.bin .eql (.t 78) (.c (.int .i64 3))),oM 9 79])
def c1_04 : C :=
 .seq (.seq (.ops [oM 61 9,oM 62 61,oT 63 62 (.mov (.t 15)),oT 64 62 (.bin .eql (.t 63) (.c (.int .i64 3))),oT 65 62 (.mov (.t 64)),oF 66 65 (.mov (.t 15)),oF 67 65 (.bin .eql (.t 66) (.c (.int .i64 6))),oT 68 62 (.pick (.t 65) (.c (.bool true)) (.t 67)),oA 69 (.pick (.t 62) (.t 68) (.c (.bool false)))]) (.cond (.t 69) (.exit 0) (.skip))) (.seq (.ops [oM 70 12,oA 71 (.ldn 6 (.t 14)),oA 72 (.call n_03 [(.t 8),(.t 70),(.t 71)])]) (c0_04))
def c2_04 : C :=
 .seq (.ops [oM 57 12,oA 58 (.call n_09 [(.t 57)]),oA 14 (.new [(.int .i64 0),(.int .i64 0),(.int .i64 0),(.int .i64 0),(.int .i64 0),(.int .u32 0)]),oS (.stn 6 (.t 14) (.t 58))]) (.seq (.ops [oA 59 (.ldn 6 (.t 14)),oA 60 (.call n_08 [(.t 59)]),oM 15 60]) (c1_04))
def c3_04 : C :=
 .seq (.ops [oM 52 0,oM 53 11,oA 54 (.call n_48 [(.t 52),(.t 53),(.c (.int .i64 4))]),oM 51 54,oA 55 (.ext (.t 51) 0),oA 56 (.ext (.t 51) 1),oM 12 55,oM 13 56]) (c2_04)
def c4_04 : C :=
 .seq (.seq (.ops [oM 44 10,oA 45 (.bin .gtr (.t 44) (.c (.int .i64 0))),oM 46 45,oT 47 46 (.mov (.t 11)),oT 48 46 (.bin .rem (.t 47) (.c (.int .u32 1024))),oT 49 46 (.bin .eql (.t 48) (.c (.int .u32 0))),oA 50 (.pick (.t 46) (.t 49) (.c (.bool false)))]) (.cond (.t 50) (.exit 0) (.skip))) (c3_04)
def c5_04 : C :=
 .seq (.block 1 (.seq (.ops [oM 38 36,oM 10 38]) (.seq (.ops [oM 39 1,oM 40 10,oA 41 (.bin .mul (.c (.int .i64 4)) (.t 40)),oA 42 (.conv .u32 (.t 41)),oA 43 (.bin .add (.t 39) (.t 42)),oM 11 43]) (c4_04)))) (.ops [oA 80 (.bin .add (.t 36) (.c (.int .i64 1))),oM 36 80])
def c6_04 : C :=
 .seq (.ops [oA 37 (.bin .lss (.t 36) (.t 35))]) (.seq (.cond (.t 37) (.skip) (.exit 0)) (c5_04))
def c7_04 : C :=
 .seq (.ops [oA 9 (.mov (.c (.bool false)))]) (.seq (.skip) (.seq (.seq (.ops [oM 35 2,oA 36 (.mov (.c (.int .i64 0)))]) (.block 0 (.loop c6_04))) (.seq (.ops [oA 81 (.ldn 4 (.t 8)),oS (.stn 4 (.t 6) (.t 81)),oA 7 (.mov (.c (.bool true)))]) (.ret))))
def c8_04 : C :=
 .seq (.ops [oM 30 1,oA 31 (.build [(.int .u32 0),(.slice none 0 0),(.slice none 0 0),(.slice none 0 0)] [(0,1,(.t 30))]),oA 8 (.new [(.int .u32 0),(.slice none 0 0),(.slice none 0 0),(.slice none 0 0)]),oS (.stn 4 (.t 8) (.t 31))]) (.seq (.ops [oM 32 2,oA 33 (.mn (.t 32) (.c (.int .i64 32))),oA 34 (.mx (.c (.int .i64 1)) (.t 33)),oM 2 34]) (c7_04))
def c9_04 : C :=
 .seq (.seq (.ops [oM 16 0,oA 17 (.eqn 0 false (.t 16)),oM 18 17,oF 19 18 (.mov (.t 1)),oF 20 18 (.bin .rem (.t 19) (.c (.int .u32 4))),oF 21 18 (.bin .neq (.t 20) (.c (.int .u32 0))),oA 22 (.pick (.t 18) (.c (.bool true)) (.t 21)),oM 23 22,oF 24 23 (.mov (.t 1)),oF 25 23 (.mov (.t 0)),oF 26 23 (.call n_4a [(.t 25)]),oF 27 23 (.bin .geq (.t 24) (.t 26)),oA 28 (.pick (.t 23) (.c (.bool true)) (.t 27))]) (.cond (.t 28) (.seq (.ops [oA 29 (.build [(.int .u32 0),(.slice none 0 0),(.slice none 0 0),(.slice none 0 0)] []),oS (.stn 4 (.t 6) (.t 29)),oA 7 (.mov (.c (.bool false)))]) (.ret)) (.skip))) (c8_04)
def c_04 : C :=
 .seq (.ops [oA 6 (.new [(.int .u32 0),(.slice none 0 0),(.slice none 0 0),(.slice none 0 0)]),oA 7 (.mov (.c (.bool false)))]) (c9_04)
def f_04 : F := ⟨c_04, [.ldn 4 6, .t 7], some []⟩
theorem h_04 : compF Tryz.prog (compAny Tryz.prog) n_04 = some (f_04.body, f_04.res) := by kernel_rfl
def c0_48 : C :=
 .seq (.block 1 (.seq (.ops [oA 29 (.ia 1 (.t 25) (.t 27)),oA 30 (.ld (.t 29)),oM 10 30]) (.ops [oM 31 8,oA 32 (.bin .shl (.t 31) (.c (.int .u64 8))),oM 33 10,oA 34 (.conv .u32 (.t 33)),oA 35 (.bin .or (.t 32) (.t 34)),oM 8 35]))) (.ops [oA 36 (.bin .add (.t 27) (.c (.int .i64 1))),oM 27 36])
def c1_48 : C :=
 .seq (.ops [oA 28 (.bin .lss (.t 27) (.t 26))]) (.seq (.cond (.t 28) (.skip) (.exit 0)) (c0_48))
def c2_48 : C :=
 .seq (.seq (.ops [oM 16 0,oA 17 (.nilc (.t 16)),oA 18 (.fa 0 (.t 17)),oA 19 (.ld (.t 18)),oM 20 1,oM 21 1,oA 22 (.conv .i64 (.t 21)),oM 23 2,oA 24 (.bin .add (.t 22) (.t 23)),oA 25 (.sl 1 (.t 19) (some (.t 20)) (some (.t 24)) none),oA 26 (.len 1 (.t 25)),oA 27 (.mov (.c (.int .i64 0)))]) (.block 0 (.loop c1_48))) (.seq (.ops [oM 37 8,oM 6 37,oA 7 (.mov (.c (.bool true)))]) (.ret))
def c3_48 : C :=
 .seq (.seq (.ops [oM 11 0,oM 12 1,oM 13 2,oA 14 (.call n_4c [(.t 11),(.t 12),(.t 13)]),oA 15 (.un .not (.t 14))]) (.cond (.t 15) (.seq (.ops [oA 6 (.mov (.c (.int .u32 0))),oA 7 (.mov (.c (.bool false)))]) (.ret)) (.skip))) (.seq (.ops [oA 8 (.mov (.c (.int .u32 0)))]) (c2_48))
def c_48 : C :=
 .seq (.ops [oA 6 (.mov (.c (.int .u32 0))),oA 7 (.mov (.c (.bool false)))]) (c3_48)
def f_48 : F := ⟨c_48, [.t 6, .t 7], some []⟩
theorem h_48 : compF Tryz.prog (compAny Tryz.prog) n_48 = some (f_48.body, f_48.res) := by kernel_rfl
def c0_05 : C :=
 .seq (.ops [oM 30 8,oA 31 (.un .not (.t 30)),oM 32 31,oF 33 32 (.mov (.t 7)),oF 34 32 (.mov (.t 6)),oF 35 32 (.bin .neq (.t 33) (.t 34)),oA 36 (.pick (.t 32) (.c (.bool true)) (.t 35))]) (.cond (.t 36) (.seq (.ops [oA 4 (.mov (.c (.bool false)))]) (.ret)) (.skip))
def c1_05 : C :=
 .seq (.ops [oM 20 1,oA 21 (.fa 0 (.t 2)),oA 22 (.ld (.t 21)),oM 23 5,oA 24 (.bin .mul (.c (.int .i64 4)) (.t 23)),oA 25 (.conv .u32 (.t 24)),oA 26 (.bin .add (.t 22) (.t 25)),oA 27 (.call n_48 [(.t 20),(.t 26),(.c (.int .i64 4))]),oM 19 27,oA 28 (.ext (.t 19) 0),oA 29 (.ext (.t 19) 1),oM 7 28,oM 8 29]) (c0_05)
def c2_05 : C :=
 .seq (.block 1 (.seq (.ops [oM 16 14,oA 17 (.ia 1 (.t 12) (.t 14)),oA 18 (.ld (.t 17)),oM 5 16,oM 6 18]) (c1_05))) (.ops [oA 37 (.bin .add (.t 14) (.c (.int .i64 1))),oM 14 37])
def c3_05 : C :=
 .seq (.ops [oA 15 (.bin .lss (.t 14) (.t 13))]) (.seq (.cond (.t 15) (.skip) (.exit 0)) (c2_05))
def c4_05 : C :=
 .seq (.seq (.ops [oM 9 1,oA 10 (.eqn 0 false (.t 9))]) (.cond (.t 10) (.seq (.ops [oA 4 (.mov (.c (.bool false)))]) (.ret)) (.skip))) (.seq (.seq (.ops [oA 11 (.fa 1 (.t 2)),oA 12 (.ld (.t 11)),oA 13 (.len 1 (.t 12)),oA 14 (.mov (.c (.int .i64 0)))]) (.block 0 (.loop c3_05))) (.seq (.ops [oA 4 (.mov (.c (.bool true)))]) (.ret)))
def c_05 : C :=
 .seq (.ops [oA 2 (.box (.t 0)),oA 4 (.mov (.c (.bool false)))]) (c4_05)
def f_05 : F := ⟨c_05, [.t 4], some []⟩
theorem h_05 : compF Tryz.prog (compAny Tryz.prog) n_05 = some (f_05.body, f_05.res) := by kernel_rfl
def c0_47 : C :=
 .seq (.any 4 [.op 0 (oM 7 3),.op 1 (oA 8 (.bin .mul (.t 7) (.c (.int .i64 1024)))),.al 2 0 (oA 9 (.mks [(.int .u8 0)] 1 (.t 8) (.t 8))),.op 3 (oM 10 3),.al 4 1 (oA 11 (.mks [(.bool false)] 1 (.t 10) (.t 10))),.op 5 (oM 12 3),.al 6 2 (oA 13 (.mks [(.bool false)] 1 (.t 12) (.t 12))),.op 7 (oA 14 (.build [(.slice none 0 0),(.slice none 0 0),(.slice none 0 0)] [(0,1,(.t 9)),(1,1,(.t 11)),(2,1,(.t 13))])),.al 8 3 (oA 15 (.box (.t 14))),.op 9 (oM 2 15)]) (.ret)
def c_47 : C :=
 .seq (.ops [oA 2 (.mov (.c (.pointer none)))]) (.seq (.ops [oM 4 0,oA 5 (.mn (.t 4) (.c (.int .i64 64))),oA 6 (.mx (.c (.int .i64 1)) (.t 5)),oM 3 6]) (c0_47))
def f_47 : F := ⟨c_47, [.t 2], some []⟩
theorem h_47 : compF Tryz.prog (compAny Tryz.prog) n_47 = some (f_47.body, f_47.res) := by kernel_rfl
def c0_2x : C :=
 .seq (.any 4 [.op 0 (oM 7 3),.op 1 (oA 8 (.bin .mul (.t 7) (.c (.int .i64 1024)))),.al 2 0 (oA 9 (.mks [(.int .u8 0)] 1 (.t 8) (.t 8))),.op 3 (oM 10 3),.al 4 1 (oA 11 (.mks [(.bool false)] 1 (.t 10) (.t 10))),.op 5 (oM 12 3),.al 6 2 (oA 13 (.mks [(.bool false)] 1 (.t 12) (.t 12))),.op 7 (oA 14 (.build [(.slice none 0 0),(.slice none 0 0),(.slice none 0 0)] [(0,1,(.t 9)),(1,1,(.t 11)),(2,1,(.t 13))])),.al 8 3 (oA 15 (.box (.t 14))),.op 9 (oM 2 15)]) (.ret)
def c_2x : C :=
 .seq (.ops [oA 2 (.mov (.c (.pointer none)))]) (.seq (.ops [oM 4 0,oA 5 (.mn (.t 4) (.c (.int .i64 64))),oA 6 (.mx (.t 5) (.c (.int .i64 1))),oM 3 6]) (c0_2x))
def f_2x : F := ⟨c_2x, [.t 2], some []⟩
theorem h_2x : compF Tryz.prog (compAny Tryz.prog) n_2x = some (f_2x.body, f_2x.res) := by kernel_rfl
def c0_49 : C :=
 .seq (.ops [oM 13 0,oA 14 (.nilc (.t 13)),oA 15 (.fa 0 (.t 14)),oA 16 (.ld (.t 15)),oM 17 1,oA 18 (.sl 1 (.t 16) (some (.t 17)) none none),oM 19 2,oA 20 (.cpy 1 (.t 18) (.t 19))]) (.seq (.ops [oM 21 0,oM 22 1,oM 23 2,oA 24 (.len 1 (.t 23)),oA 25 (.call n_4e [(.t 21),(.t 22),(.t 24)])]) (.seq (.ops [oA 6 (.mov (.c (.bool true)))]) (.ret)))
def c1_49 : C :=
 .seq (.seq (.ops [oM 7 0,oM 8 1,oM 9 2,oA 10 (.len 1 (.t 9)),oA 11 (.call n_4d [(.t 7),(.t 8),(.t 10)]),oA 12 (.un .not (.t 11))]) (.cond (.t 12) (.seq (.ops [oA 6 (.mov (.c (.bool false)))]) (.ret)) (.skip))) (c0_49)
def c_49 : C :=
 .seq (.ops [oA 6 (.mov (.c (.bool false)))]) (c1_49)
def f_49 : F := ⟨c_49, [.t 6], some []⟩
theorem h_49 : compF Tryz.prog (compAny Tryz.prog) n_49 = some (f_49.body, f_49.res) := by kernel_rfl
def c0_30 : C :=
 .seq (.ops [oM 13 0,oA 14 (.nilc (.t 13)),oA 15 (.fa 0 (.t 14)),oA 16 (.ld (.t 15)),oM 17 1,oA 18 (.sl 1 (.t 16) (some (.t 17)) none none),oM 19 2,oA 20 (.cpy 1 (.t 18) (.t 19))]) (.seq (.ops [oM 21 0,oM 22 1,oM 23 2,oA 24 (.len 1 (.t 23)),oA 25 (.call n_32 [(.t 21),(.t 22),(.t 24)])]) (.seq (.ops [oA 6 (.mov (.c (.bool true)))]) (.ret)))
def c1_30 : C :=
 .seq (.seq (.ops [oM 7 0,oM 8 1,oM 9 2,oA 10 (.len 1 (.t 9)),oA 11 (.call n_2y [(.t 7),(.t 8),(.t 10)]),oA 12 (.un .not (.t 11))]) (.cond (.t 12) (.seq (.ops [oA 6 (.mov (.c (.bool false)))]) (.ret)) (.skip))) (c0_30)
def c_30 : C :=
 .seq (.ops [oA 6 (.mov (.c (.bool false)))]) (c1_30)
def f_30 : F := ⟨c_30, [.t 6], some []⟩
theorem h_30 : compF Tryz.prog (compAny Tryz.prog) n_30 = some (f_30.body, f_30.res) := by kernel_rfl
def c0_2w : C :=
 .seq (.ops [oM 75 16,oM 76 75,oF 77 76 (.mov (.t 14)),oF 78 76 (.bin .eql (.t 77) (.c (.int .i64 6))),oA 79 (.pick (.t 76) (.c (.bool true)) (.t 78)),oM 80 79,oF 81 80 (.mov (.t 1)),oF 82 80 (.bin .rem (.t 81) (.c (.int .u32 1024))),oF 83 80 (.bin .eql (.t 82) (.c (.int .u32 0))),oA 84 (.pick (.t 80) (.c (.bool true)) (.t 83))]) (.cond (.t 84) (.exit 0) (.skip))
def c1_2w : C :=
 .seq (.any 2 [.op 5 (oA 70 (.ldn 6 (.t 13))),.op 0 (oM 65 9),.op 1 (oM 66 11),.al 2 0 (oA 67 (.bsl 1 [(.int .u32 0)] [(0,1,(.t 66))])),.op 3 (oA 68 (.app 1 4 (.t 65) (.t 67))),.re 5 (oA 70 (.ldn 6 (.t 13))),.op 4 (oM 69 10),.al 6 1 (oA 71 (.bsl 1 [(.int .i64 0),(.int .i64 0),(.int .i64 0),(.int .i64 0),(.int .i64 0),(.int .u32 0)] [(0,6,(.t 70))])),.op 7 (oA 72 (.app 6 48 (.t 69) (.t 71))),.op 8 (oM 9 68),.op 9 (oM 10 72)]) (.seq (.ops [oM 73 1,oA 74 (.bin .add (.t 73) (.c (.int .u32 4))),oM 1 74]) (c0_2w))
def c2_2w : C :=
 .seq (.seq (.ops [oM 56 16,oM 57 56,oT 58 57 (.mov (.t 14)),oT 59 57 (.bin .eql (.t 58) (.c (.int .i64 3))),oT 60 57 (.mov (.t 59)),oF 61 60 (.mov (.t 14)),oF 62 60 (.bin .eql (.t 61) (.c (.int .i64 6))),oT 63 57 (.pick (.t 60) (.c (.bool true)) (.t 62)),oA 64 (.pick (.t 57) (.t 63) (.c (.bool false)))]) (.cond (.t 64) (.exit 0) (.skip))) (c1_2w)
def c3_2w : C :=
 .seq (.ops [oM 45 15,oA 46 (.bin .gtr (.t 45) (.c (.int .i64 0))),oM 47 46,oT 48 47 (.mov (.t 10)),oT 49 47 (.mov (.t 15)),oT 50 47 (.bin .sub (.t 49) (.c (.int .i64 1))),oT 51 47 (.ia 6 (.t 48) (.t 50)),oT 52 47 (.ldn 6 (.t 51)),oT 53 47 (.call n_33 [(.t 52)]),oT 54 47 (.bin .eql (.t 53) (.c (.int .i64 3))),oA 55 (.pick (.t 47) (.t 54) (.c (.bool false))),oM 16 55]) (c2_2w)
def c4_2w : C :=
 .seq (.ops [oM 39 11,oA 40 (.call n_34 [(.t 39)]),oA 13 (.new [(.int .i64 0),(.int .i64 0),(.int .i64 0),(.int .i64 0),(.int .i64 0),(.int .u32 0)]),oS (.stn 6 (.t 13) (.t 40))]) (.seq (.ops [oA 41 (.ldn 6 (.t 13)),oA 42 (.call n_33 [(.t 41)]),oM 14 42]) (.seq (.ops [oM 43 10,oA 44 (.len 1 (.t 43)),oM 15 44]) (c3_2w)))
def c5_2w : C :=
 .block 1 (.seq (.ops [oM 34 0,oM 35 1,oA 36 (.call n_2z [(.t 34),(.t 35),(.c (.int .i64 4))]),oM 33 36,oA 37 (.ext (.t 33) 0),oA 38 (.ext (.t 33) 1),oM 11 37,oM 12 38]) (c4_2w))
def c6_2w : C :=
 .seq (.seq (.ops [oM 29 9,oA 30 (.len 1 (.t 29)),oM 31 2,oA 32 (.bin .lss (.t 30) (.t 31))]) (.cond (.t 32) (.skip) (.exit 0))) (c5_2w)
def c7_2w : C :=
 .seq (.ops [oA 9 (.mov (.c (.slice none 0 0)))]) (.seq (.ops [oA 10 (.mov (.c (.slice none 0 0)))]) (.seq (.block 0 (.loop c6_2w)) (.seq (.ops [oM 85 9,oM 86 10,oM 6 85,oM 7 86,oA 8 (.mov (.c (.bool true)))]) (.ret))))
def c8_2w : C :=
 .seq (.seq (.ops [oM 17 1,oA 18 (.bin .rem (.t 17) (.c (.int .u32 4))),oA 19 (.bin .neq (.t 18) (.c (.int .u32 0))),oM 20 19,oF 21 20 (.mov (.t 0)),oF 22 20 (.mov (.t 1)),oF 23 20 (.call n_2y [(.t 21),(.t 22),(.c (.int .i64 4))]),oF 24 20 (.un .not (.t 23)),oA 25 (.pick (.t 20) (.c (.bool true)) (.t 24))]) (.cond (.t 25) (.seq (.ops [oA 6 (.mov (.c (.slice none 0 0))),oA 7 (.mov (.c (.slice none 0 0))),oA 8 (.mov (.c (.bool false)))]) (.ret)) (.skip))) (.seq (.ops [oM 26 2,oA 27 (.mn (.t 26) (.c (.int .i64 32))),oA 28 (.mx (.t 27) (.c (.int .i64 1))),oM 2 28]) (c7_2w))
def c_2w : C :=
 .seq (.ops [oA 6 (.mov (.c (.slice none 0 0))),oA 7 (.mov (.c (.slice none 0 0))),oA 8 (.mov (.c (.bool false)))]) (c8_2w)
def f_2w : F := ⟨c_2w, [.t 6, .t 7, .t 8], some []⟩
theorem h_2w : compF Tryz.prog (compAny Tryz.prog) n_2w = some (f_2w.body, f_2w.res) := by kernel_rfl
end Go.Proofs.YtmgoleiafiffoaaGreat.Cd

set_option maxRecDepth 100000
set_option linter.defProp false
namespace Go.Proofs.YtmgoleiafiffoaaGreat.Cd
open Go Go.Dx
def c0_1b : C :=
 .seq (.block 1 (.seq (.any 0 [.op 0 (oM 17 0),.op 1 (oM 18 5),.op 2 (oA 19 (.ia 1 (.t 17) (.t 18))),.op 3 (oA 20 (.ld (.t 19))),.op 4 (oM 21 1),.op 5 (oM 22 5),.op 6 (oA 23 (.ia 1 (.t 21) (.t 22))),.op 7 (oA 24 (.ld (.t 23))),.op 8 (oA 25 (.bin .neq (.t 20) (.t 24)))]) (.cond (.t 25) (.seq (.ops [oA 4 (.mov (.c (.bool false)))]) (.ret)) (.skip)))) (.ops [oM 15 5,oA 16 (.bin .add (.t 15) (.c (.int .i64 1))),oM 5 16])
def c1_1b : C :=
 .seq (.seq (.ops [oM 11 5,oM 12 0,oA 13 (.len 1 (.t 12)),oA 14 (.bin .lss (.t 11) (.t 13))]) (.cond (.t 14) (.skip) (.exit 0))) (c0_1b)
def c2_1b : C :=
 .seq (.seq (.ops [oM 6 0,oA 7 (.len 1 (.t 6)),oM 8 1,oA 9 (.len 1 (.t 8)),oA 10 (.bin .neq (.t 7) (.t 9))]) (.cond (.t 10) (.seq (.ops [oA 4 (.mov (.c (.bool false)))]) (.ret)) (.skip))) (.seq (.seq (.ops [oA 5 (.mov (.c (.int .i64 0)))]) (.block 0 (.loop c1_1b))) (.seq (.ops [oA 4 (.mov (.c (.bool true)))]) (.ret)))
def c_1b : C :=
 .seq (.ops [oA 4 (.mov (.c (.bool false)))]) (c2_1b)
def f_1b : F := ⟨c_1b, [.t 4], some []⟩
theorem h_1b : compF Tryz.prog (compAny Tryz.prog) n_1b = some (f_1b.body, f_1b.res) := by kernel_rfl
def c0_1a : C :=
 .seq (.block 1 (.seq (.any 0 [.op 0 (oM 17 0),.op 1 (oM 18 5),.op 2 (oA 19 (.ia 6 (.t 17) (.t 18))),.op 3 (oA 20 (.ldn 6 (.t 19))),.op 4 (oM 21 1),.op 5 (oM 22 5),.op 6 (oA 23 (.ia 6 (.t 21) (.t 22))),.op 7 (oA 24 (.ldn 6 (.t 23))),.op 8 (oA 25 (.eqt true (.agg [(0,1,false,(.int .i64)),(1,1,false,(.int .i64)),(2,1,false,(.int .i64)),(3,1,false,(.int .i64)),(4,1,false,(.int .i64)),(5,1,false,(.int .u32))]) (.t 20) (.t 24)))]) (.cond (.t 25) (.seq (.ops [oA 4 (.mov (.c (.bool false)))]) (.ret)) (.skip)))) (.ops [oM 15 5,oA 16 (.bin .add (.t 15) (.c (.int .i64 1))),oM 5 16])
def c1_1a : C :=
 .seq (.seq (.ops [oM 11 5,oM 12 0,oA 13 (.len 1 (.t 12)),oA 14 (.bin .lss (.t 11) (.t 13))]) (.cond (.t 14) (.skip) (.exit 0))) (c0_1a)
def c2_1a : C :=
 .seq (.seq (.ops [oM 6 0,oA 7 (.len 1 (.t 6)),oM 8 1,oA 9 (.len 1 (.t 8)),oA 10 (.bin .neq (.t 7) (.t 9))]) (.cond (.t 10) (.seq (.ops [oA 4 (.mov (.c (.bool false)))]) (.ret)) (.skip))) (.seq (.seq (.ops [oA 5 (.mov (.c (.int .i64 0)))]) (.block 0 (.loop c1_1a))) (.seq (.ops [oA 4 (.mov (.c (.bool true)))]) (.ret)))
def c_1a : C :=
 .seq (.ops [oA 4 (.mov (.c (.bool false)))]) (c2_1a)
def f_1a : F := ⟨c_1a, [.t 4], some []⟩
theorem h_1a : compF Tryz.prog (compAny Tryz.prog) n_1a = some (f_1a.body, f_1a.res) := by kernel_rfl
def c_02 : C :=
 .seq (.ops [oA 1 (.box (.t 0)),oA 2 (.mov (.c (.int .i64 0)))]) (.seq (.ops [oA 3 (.fa 0 (.t 1)),oA 4 (.ld (.t 3)),oA 5 (.bin .quo (.t 4) (.c (.int .u32 1024))),oA 6 (.conv .i64 (.t 5)),oM 2 6]) (.ret))
def f_02 : F := ⟨c_02, [.t 2], some []⟩
theorem h_02 : compF Tryz.prog (compAny Tryz.prog) n_02 = some (f_02.body, f_02.res) := by kernel_rfl
def c0_2h : C :=
 .seq (.ops [oA 7 (.call n_3s []),oM 8 0,oM 9 1,oM 10 2,oA 11 (.call n_24 [(.t 8),(.t 9),(.t 10)]),oA 12 (.build [(.int .u32 0),(.int .u32 0),(.int .u32 0),(.int .u32 0),(.int .u32 0),(.int .u32 0),(.int .u32 0),(.int .u32 0),(.int .u32 0),(.int .u32 0),(.int .u32 0),(.int .u32 0),(.int .u32 0),(.int .u32 0),(.int .u32 0),(.int .u32 0),(.int .u32 0),(.int .u32 0),(.int .u32 0),(.int .u32 0),(.int .u32 0),(.int .u32 0),(.int .u32 0),(.int .u32 0),(.int .u32 0),(.int .u32 0),(.int .u32 0),(.int .u32 0),(.int .u32 0),(.int .u32 0),(.int .u32 0),(.int .u32 0),(.int .u32 0),(.int .u32 0),(.int .u32 0),(.int .u32 0),(.bool false),(.bool false),(.int .u32 0),(.int .u32 0),(.int .u32 0),(.int .u32 0),(.int .u32 0),(.int .u32 0),(.int .u32 0),(.int .u32 0),(.int .u32 0),(.int .u32 0),(.int .u32 0),(.int .u32 0),(.int .u32 0),(.int .u32 0),(.int .u32 0),(.int .u32 0),(.int .u32 0),(.int .u32 0),(.int .u32 0),(.int .u32 0),(.int .u32 0),(.int .u32 0),(.int .u32 0),(.int .u32 0),(.int .u32 0),(.int .u32 0),(.int .u32 0),(.int .u32 0),(.int .u32 0),(.int .u32 0),(.int .u32 0),(.int .u32 0),(.int .u32 0),(.bool false),(.int .i64 0),(.pointer none)] [(0,73,(.t 7)),(73,1,(.t 11))]),oA 13 (.box (.t 12)),oM 6 13]) (.ret)
def c_2h : C :=
 .seq (.ops [oA 6 (.mov (.c (.pointer none)))]) (c0_2h)
def f_2h : F := ⟨c_2h, [.t 6], some []⟩
theorem h_2h : compF Tryz.prog (compAny Tryz.prog) n_2h = some (f_2h.body, f_2h.res) := by kernel_rfl
def c0_1q : C :=
 .seq (.seq (.ops [oM 6 3,oA 7 (.bin .geq (.t 6) (.c (.int .i64 1))),oM 8 7,oT 9 8 (.mov (.t 3)),oT 10 8 (.bin .leq (.t 9) (.c (.int .i64 6))),oA 11 (.pick (.t 8) (.t 10) (.c (.bool false))),oM 12 11,oF 13 12 (.mov (.t 3)),oF 14 12 (.bin .geq (.t 13) (.c (.int .i64 9))),oF 15 12 (.mov (.t 14)),oT 16 15 (.mov (.t 3)),oT 17 15 (.bin .leq (.t 16) (.c (.int .i64 10))),oF 18 12 (.pick (.t 15) (.t 17) (.c (.bool false))),oA 19 (.pick (.t 12) (.c (.bool true)) (.t 18)),oM 20 19,oF 21 20 (.mov (.t 3)),oF 22 20 (.bin .geq (.t 21) (.c (.int .i64 13))),oF 23 20 (.mov (.t 22)),oT 24 23 (.mov (.t 3)),oT 25 23 (.bin .leq (.t 24) (.c (.int .i64 21))),oF 26 20 (.pick (.t 23) (.t 25) (.c (.bool false))),oA 27 (.pick (.t 20) (.c (.bool true)) (.t 26)),oM 28 27,oF 29 28 (.mov (.t 3)),oF 30 28 (.bin .eql (.t 29) (.c (.int .i64 23))),oA 31 (.pick (.t 28) (.c (.bool true)) (.t 30)),oM 32 31,oF 33 32 (.mov (.t 3)),oF 34 32 (.bin .geq (.t 33) (.c (.int .i64 25))),oF 35 32 (.mov (.t 34)),oT 36 35 (.mov (.t 3)),oT 37 35 (.bin .leq (.t 36) (.c (.int .i64 31))),oF 38 32 (.pick (.t 35) (.t 37) (.c (.bool false))),oA 39 (.pick (.t 32) (.c (.bool true)) (.t 38)),oM 40 39,oF 41 40 (.mov (.t 3)),oF 42 40 (.bin .geq (.t 41) (.c (.int .i64 47))),oF 43 40 (.mov (.t 42)),oT 44 43 (.mov (.t 3)),oT 45 43 (.bin .leq (.t 44) (.c (.int .i64 53))),oF 46 40 (.pick (.t 43) (.t 45) (.c (.bool false))),oA 47 (.pick (.t 40) (.c (.bool true)) (.t 46)),oM 48 47,oF 49 48 (.mov (.t 3)),oF 50 48 (.bin .geq (.t 49) (.c (.int .i64 63))),oF 51 48 (.mov (.t 50)),oT 52 51 (.mov (.t 3)),oT 53 51 (.bin .leq (.t 52) (.c (.int .i64 65))),oF 54 48 (.pick (.t 51) (.t 53) (.c (.bool false))),oA 55 (.pick (.t 48) (.c (.bool true)) (.t 54)),oM 56 55,oF 57 56 (.mov (.t 3)),oF 58 56 (.bin .eql (.t 57) (.c (.int .i64 76))),oA 59 (.pick (.t 56) (.c (.bool true)) (.t 58)),oM 60 59,oF 61 60 (.mov (.t 3)),oF 62 60 (.bin .eql (.t 61) (.c (.int .i64 77))),oA 63 (.pick (.t 60) (.c (.bool true)) (.t 62))]) (.cond (.t 63) (.seq (.ops [oA 2 (.mov (.c (.int .i64 1)))]) (.ret)) (.skip))) (.seq (.ops [oA 2 (.mov (.c (.int .i64 0)))]) (.ret))
def c_1q : C :=
 .seq (.ops [oA 1 (.box (.t 0)),oA 2 (.mov (.c (.int .i64 0)))]) (.seq (.ops [oA 4 (.fa 0 (.t 1)),oA 5 (.ld (.t 4)),oM 3 5]) (c0_1q))
def f_1q : F := ⟨c_1q, [.t 2], some []⟩
theorem h_1q : compF Tryz.prog (compAny Tryz.prog) n_1q = some (f_1q.body, f_1q.res) := by kernel_rfl
def c0_2l : C :=
 .seq (.block 1 (.seq (.ops [oM 13 1,oM 14 5,oA 15 (.ia 5 (.t 13) (.t 14)),oA 16 (.ldn 5 (.t 15)),oA 17 (.call n_2k [(.t 16)]),oA 18 (.un .not (.t 17))]) (.cond (.t 18) (.seq (.ops [oA 4 (.mov (.c (.bool false)))]) (.ret)) (.skip)))) (.ops [oM 11 5,oA 12 (.bin .add (.t 11) (.c (.int .i64 1))),oM 5 12])
def c1_2l : C :=
 .seq (.seq (.ops [oM 7 5,oM 8 1,oA 9 (.len 1 (.t 8)),oA 10 (.bin .lss (.t 7) (.t 9))]) (.cond (.t 10) (.skip) (.exit 0))) (c0_2l)
def c2_2l : C :=
 .seq (.block 3 (.ops [oM 25 0,oM 26 1,oM 27 6,oA 28 (.ia 5 (.t 26) (.t 27)),oA 29 (.ldn 5 (.t 28)),oA 30 (.call n_2j [(.t 25),(.t 29)])])) (.ops [oM 23 6,oA 24 (.bin .add (.t 23) (.c (.int .i64 1))),oM 6 24])
def c3_2l : C :=
 .seq (.seq (.ops [oM 19 6,oM 20 1,oA 21 (.len 1 (.t 20)),oA 22 (.bin .lss (.t 19) (.t 21))]) (.cond (.t 22) (.skip) (.exit 2))) (c2_2l)
def c_2l : C :=
 .seq (.ops [oA 4 (.mov (.c (.bool false)))]) (.seq (.seq (.ops [oA 5 (.mov (.c (.int .i64 0)))]) (.block 0 (.loop c1_2l))) (.seq (.seq (.ops [oA 6 (.mov (.c (.int .i64 0)))]) (.block 2 (.loop c3_2l))) (.seq (.ops [oA 4 (.mov (.c (.bool true)))]) (.ret))))
def f_2l : F := ⟨c_2l, [.t 4], some []⟩
theorem h_2l : compF Tryz.prog (compAny Tryz.prog) n_2l = some (f_2l.body, f_2l.res) := by kernel_rfl
def c0_27 : C :=
 .seq (.ops [oM 33 7,oA 34 (.bin .geq (.t 33) (.c (.int .i64 0)))]) (.cond (.t 34) (.seq (.ops [oM 35 0,oM 36 7,oA 37 (.call n_28 [(.t 35),(.t 36),(.c (.bool false))]),oM 4 37]) (.ret)) (.skip))
def c1_27 : C :=
 .seq (.ops [oM 47 0,oA 48 (.ldn 6 (.t 3)),oM 49 5,oA 50 (.call n_2a [(.t 47),(.t 48),(.t 49)]),oM 8 50]) (.seq (.ops [oM 51 8,oA 52 (.bin .geq (.t 51) (.c (.int .i64 0)))]) (.cond (.t 52) (.seq (.ops [oM 53 8,oM 4 53]) (.ret)) (.skip)))
def c2_27 : C :=
 .seq (.ops [oM 56 0,oA 57 (.ldn 6 (.t 3)),oM 58 5,oM 59 6,oA 60 (.call n_2f [(.t 56),(.t 57),(.t 58),(.t 59)]),oM 9 60]) (.seq (.ops [oM 61 9,oA 62 (.bin .geq (.t 61) (.c (.int .i64 0)))]) (.cond (.t 62) (.seq (.ops [oM 63 9,oM 4 63]) (.ret)) (.skip)))
def c3_27 : C :=
 .seq (.ops [oA 70 (.fa 0 (.t 3)),oA 71 (.ld (.t 70)),oA 72 (.bin .eql (.t 71) (.c (.int .i64 60)))]) (.cond (.t 72) (.seq (.ops [oM 73 0,oA 74 (.nilc (.t 73)),oA 75 (.fa 0 (.t 74)),oA 76 (.call n_3u [(.t 75),(.c (.int .i64 1))])]) (.seq (.ops [oA 4 (.mov (.c (.int .i64 (-1))))]) (.ret))) (.skip))
def c4_27 : C :=
 .cond (.t 64) (.seq (.ops [oM 66 0,oA 67 (.ldn 6 (.t 3)),oM 68 6,oA 69 (.call n_2g [(.t 66),(.t 67),(.t 68)])]) (c3_27)) (.ops [oM 40 0,oA 41 (.ldn 6 (.t 3)),oM 42 5,oM 43 6,oA 44 (.call n_2c [(.t 40),(.t 41),(.t 42),(.t 43)])])
def c5_27 : C :=
 .block 0 (.seq (.ops [oA 46 (.bin .eql (.t 39) (.c (.int .i64 4))),oM 45 46]) (.cond (.t 45) (c1_27) (.seq (.ops [oA 55 (.bin .eql (.t 39) (.c (.int .i64 5))),oM 54 55]) (.cond (.t 54) (c2_27) (.seq (.ops [oA 65 (.bin .eql (.t 39) (.c (.int .i64 6))),oM 64 65]) (c4_27))))))
def c6_27 : C :=
 .seq (.ops [oM 77 0,oA 78 (.ldn 6 (.t 3)),oM 79 5,oM 80 6,oA 81 (.call n_2b [(.t 77),(.t 78),(.t 79),(.t 80)])]) (.seq (.ops [oM 82 0,oA 83 (.nilc (.t 82)),oA 84 (.fa 0 (.t 83)),oA 85 (.call n_3u [(.t 84),(.c (.int .i64 1))])]) (.seq (.ops [oA 4 (.mov (.c (.int .i64 (-1))))]) (.ret)))
def c7_27 : C :=
 .seq (.seq (.ops [oM 28 0,oA 29 (.ldn 6 (.t 3)),oM 30 5,oM 31 6,oA 32 (.call n_2e [(.t 28),(.t 29),(.t 30),(.t 31)]),oM 7 32]) (c0_27)) (.seq (.seq (.ops [oA 38 (.ldn 6 (.t 3)),oA 39 (.call n_33 [(.t 38)])]) (c5_27)) (c6_27))
def c8_27 : C :=
 .seq (.any 0 [.op 0 (oM 10 0),.op 1 (oA 11 (.fa 1 (.t 3))),.op 2 (oA 12 (.ld (.t 11))),.op 3 (oA 13 (.bin .and (.t 12) (.c (.int .i64 31)))),.op 4 (oA 14 (.nilc (.t 10))),.op 5 (oA 15 (.fa 0 (.t 14))),.op 6 (oA 16 (.fa 0 (.t 15))),.op 7 (oA 17 (.iaa 32 1 (.t 16) (.t 13))),.op 8 (oA 18 (.ld (.t 17))),.op 9 (oM 19 0),.op 10 (oA 20 (.fa 2 (.t 3))),.op 11 (oA 21 (.ld (.t 20))),.op 12 (oA 22 (.bin .and (.t 21) (.c (.int .i64 31)))),.op 13 (oA 23 (.nilc (.t 19))),.op 14 (oA 24 (.fa 0 (.t 23))),.op 15 (oA 25 (.fa 0 (.t 24))),.op 16 (oA 26 (.iaa 32 1 (.t 25) (.t 22))),.op 17 (oA 27 (.ld (.t 26))),.op 18 (oM 5 18),.op 19 (oM 6 27)]) (c7_27)
def c_27 : C :=
 .seq (.ops [oA 3 (.box (.t 1)),oA 4 (.mov (.c (.int .i64 0)))]) (c8_27)
def f_27 : F := ⟨c_27, [.t 4], some []⟩
theorem h_27 : compF Tryz.prog (compAny Tryz.prog) n_27 = some (f_27.body, f_27.res) := by kernel_rfl
def c_4a : C :=
 .seq (.ops [oA 2 (.mov (.c (.int .u32 0)))]) (.seq (.ops [oM 3 0,oA 4 (.nilc (.t 3)),oA 5 (.fa 0 (.t 4)),oA 6 (.ld (.t 5)),oA 7 (.len 1 (.t 6)),oA 8 (.conv .u32 (.t 7)),oM 2 8]) (.ret))
def f_4a : F := ⟨c_4a, [.t 2], some []⟩
theorem h_4a : compF Tryz.prog (compAny Tryz.prog) n_4a = some (f_4a.body, f_4a.res) := by kernel_rfl
def c_09 : C :=
 .seq (.ops [oA 2 (.new [(.int .i64 0),(.int .i64 0),(.int .i64 0),(.int .i64 0),(.int .i64 0),(.int .u32 0)])]) (.seq (.ops [oM 3 0,oA 4 (.call n_0d [(.t 3)]),oM 5 0,oA 6 (.call n_0k [(.t 4),(.t 5)]),oS (.stn 6 (.t 2) (.t 6))]) (.ret))
def f_09 : F := ⟨c_09, [.ldn 6 2], some []⟩
theorem h_09 : compF Tryz.prog (compAny Tryz.prog) n_09 = some (f_09.body, f_09.res) := by kernel_rfl
def c0_08 : C :=
 .seq (.ops [oM 67 3,oA 68 (.bin .eql (.t 67) (.c (.int .i64 22))),oM 69 68,oF 70 69 (.mov (.t 3)),oF 71 69 (.bin .eql (.t 70) (.c (.int .i64 24))),oA 72 (.pick (.t 69) (.c (.bool true)) (.t 71)),oM 73 72,oF 74 73 (.mov (.t 3)),oF 75 73 (.bin .eql (.t 74) (.c (.int .i64 46))),oA 76 (.pick (.t 73) (.c (.bool true)) (.t 75)),oM 77 76,oF 78 77 (.mov (.t 3)),oF 79 77 (.bin .geq (.t 78) (.c (.int .i64 32))),oF 80 77 (.mov (.t 79)),oT 81 80 (.mov (.t 3)),oT 82 80 (.bin .leq (.t 81) (.c (.int .i64 35))),oF 83 77 (.pick (.t 80) (.t 82) (.c (.bool false))),oA 84 (.pick (.t 77) (.c (.bool true)) (.t 83)),oM 66 84]) (.cond (.t 66) (.seq (.ops [oA 2 (.mov (.c (.int .i64 2)))]) (.ret)) (.skip))
def c1_08 : C :=
 .seq (.ops [oM 56 3,oA 57 (.bin .geq (.t 56) (.c (.int .i64 71))),oM 58 57,oT 59 58 (.mov (.t 3)),oT 60 58 (.bin .leq (.t 59) (.c (.int .i64 73))),oA 61 (.pick (.t 58) (.t 60) (.c (.bool false))),oM 62 61,oF 63 62 (.mov (.t 3)),oF 64 62 (.bin .eql (.t 63) (.c (.int .i64 75))),oA 65 (.pick (.t 62) (.c (.bool true)) (.t 64)),oM 55 65]) (.cond (.t 55) (.seq (.ops [oA 2 (.mov (.c (.int .i64 5)))]) (.ret)) (c0_08))
def c2_08 : C :=
 .seq (.ops [oM 45 3,oA 46 (.bin .geq (.t 45) (.c (.int .i64 66))),oM 47 46,oT 48 47 (.mov (.t 3)),oT 49 47 (.bin .leq (.t 48) (.c (.int .i64 70))),oA 50 (.pick (.t 47) (.t 49) (.c (.bool false))),oM 51 50,oF 52 51 (.mov (.t 3)),oF 53 51 (.bin .eql (.t 52) (.c (.int .i64 74))),oA 54 (.pick (.t 51) (.c (.bool true)) (.t 53)),oM 44 54]) (.cond (.t 44) (.seq (.ops [oA 2 (.mov (.c (.int .i64 4)))]) (.ret)) (c1_08))
def c3_08 : C :=
 .seq (.ops [oM 30 3,oA 31 (.bin .eql (.t 30) (.c (.int .i64 7))),oM 32 31,oF 33 32 (.mov (.t 3)),oF 34 32 (.bin .eql (.t 33) (.c (.int .i64 8))),oA 35 (.pick (.t 32) (.c (.bool true)) (.t 34)),oM 36 35,oF 37 36 (.mov (.t 3)),oF 38 36 (.bin .geq (.t 37) (.c (.int .i64 36))),oF 39 36 (.mov (.t 38)),oT 40 39 (.mov (.t 3)),oT 41 39 (.bin .leq (.t 40) (.c (.int .i64 45))),oF 42 36 (.pick (.t 39) (.t 41) (.c (.bool false))),oA 43 (.pick (.t 36) (.c (.bool true)) (.t 42)),oM 29 43]) (.cond (.t 29) (.seq (.ops [oA 2 (.mov (.c (.int .i64 3)))]) (.ret)) (c2_08))
def c4_08 : C :=
 .block 0 (.seq (.ops [oM 7 3,oA 8 (.bin .leq (.t 7) (.c (.int .i64 0))),oM 9 8,oF 10 9 (.mov (.t 3)),oF 11 9 (.bin .geq (.t 10) (.c (.int .i64 78))),oA 12 (.pick (.t 9) (.c (.bool true)) (.t 11)),oM 13 12,oF 14 13 (.mov (.t 3)),oF 15 13 (.bin .eql (.t 14) (.c (.int .i64 11))),oA 16 (.pick (.t 13) (.c (.bool true)) (.t 15)),oM 17 16,oF 18 17 (.mov (.t 3)),oF 19 17 (.bin .eql (.t 18) (.c (.int .i64 12))),oA 20 (.pick (.t 17) (.c (.bool true)) (.t 19)),oM 21 20,oF 22 21 (.mov (.t 3)),oF 23 21 (.bin .geq (.t 22) (.c (.int .i64 54))),oF 24 21 (.mov (.t 23)),oT 25 24 (.mov (.t 3)),oT 26 24 (.bin .leq (.t 25) (.c (.int .i64 62))),oF 27 21 (.pick (.t 24) (.t 26) (.c (.bool false))),oA 28 (.pick (.t 21) (.c (.bool true)) (.t 27)),oM 6 28]) (.cond (.t 6) (.seq (.ops [oA 2 (.mov (.c (.int .i64 6)))]) (.ret)) (c3_08)))
def c_08 : C :=
 .seq (.ops [oA 1 (.box (.t 0)),oA 2 (.mov (.c (.int .i64 0)))]) (.seq (.seq (.ops [oA 4 (.fa 0 (.t 1)),oA 5 (.ld (.t 4)),oM 3 5]) (c4_08)) (.seq (.ops [oA 2 (.mov (.c (.int .i64 1)))]) (.ret)))
def f_08 : F := ⟨c_08, [.t 2], some []⟩
theorem h_08 : compF Tryz.prog (compAny Tryz.prog) n_08 = some (f_08.body, f_08.res) := by kernel_rfl
def c0_03 : C :=
 .any 1 [.op 1 (oM 27 0),.op 2 (oA 28 (.nilc (.t 27))),.op 3 (oA 29 (.fa 3 (.t 28))),.op 4 (oA 30 (.ld (.t 29))),.op 5 (oA 31 (.ldn 6 (.t 5))),.op 6 (oA 32 (.call n_0u [(.t 31)])),.re 4 (oA 30 (.ld (.t 29))),.op 7 (oA 33 (.call n_14 [(.t 32)])),.re 4 (oA 30 (.ld (.t 29))),.al 8 0 (oA 34 (.bsl 1 [(.slice none 0 0)] [(0,1,(.t 33))])),.op 9 (oA 35 (.app 1 24 (.t 30) (.t 34))),.op 0 (oM 26 0),.op 10 (oA 36 (.nilc (.t 26))),.op 11 (oA 37 (.fa 3 (.t 36))),.op 12 (oS (.st (.t 37) (.t 35)))]
def c1_03 : C :=
 .seq (.any 2 [.op 2 (oM 8 0),.op 3 (oA 9 (.nilc (.t 8))),.op 4 (oA 10 (.fa 1 (.t 9))),.op 5 (oA 11 (.ld (.t 10))),.op 9 (oM 15 0),.op 10 (oA 16 (.nilc (.t 15))),.op 11 (oA 17 (.fa 2 (.t 16))),.op 12 (oA 18 (.ld (.t 17))),.op 13 (oA 19 (.ldn 6 (.t 5))),.op 6 (oM 12 1),.al 7 0 (oA 13 (.bsl 1 [(.int .u32 0)] [(0,1,(.t 12))])),.op 8 (oA 14 (.app 1 4 (.t 11) (.t 13))),.re 12 (oA 18 (.ld (.t 17))),.re 13 (oA 19 (.ldn 6 (.t 5))),.al 14 1 (oA 20 (.bsl 1 [(.int .i64 0),(.int .i64 0),(.int .i64 0),(.int .i64 0),(.int .i64 0),(.int .u32 0)] [(0,6,(.t 19))])),.op 15 (oA 21 (.app 6 48 (.t 18) (.t 20))),.op 0 (oM 6 0),.op 16 (oA 22 (.nilc (.t 6))),.op 17 (oA 23 (.fa 1 (.t 22))),.op 18 (oS (.st (.t 23) (.t 14))),.op 1 (oM 7 0),.op 19 (oA 24 (.nilc (.t 7))),.op 20 (oA 25 (.fa 2 (.t 24))),.op 21 (oS (.st (.t 25) (.t 21)))]) (c0_03)
def c_03 : C :=
 .seq (.ops [oA 5 (.box (.t 2))]) (c1_03)
def f_03 : F := ⟨c_03, [], some []⟩
theorem h_03 : compF Tryz.prog (compAny Tryz.prog) n_03 = some (f_03.body, f_03.res) := by kernel_rfl
def c0_4c : C :=
 .seq (.ops [oM 7 2,oA 8 (.bin .eql (.t 7) (.c (.int .i64 1))),oM 9 8,oF 10 9 (.mov (.t 2)),oF 11 9 (.bin .eql (.t 10) (.c (.int .i64 2))),oA 12 (.pick (.t 9) (.c (.bool true)) (.t 11)),oM 13 12,oF 14 13 (.mov (.t 2)),oF 15 13 (.bin .eql (.t 14) (.c (.int .i64 4))),oA 16 (.pick (.t 13) (.c (.bool true)) (.t 15)),oM 17 16,oT 18 17 (.mov (.t 1)),oT 19 17 (.mov (.t 2)),oT 20 17 (.conv .u32 (.t 19)),oT 21 17 (.bin .rem (.t 18) (.t 20)),oT 22 17 (.bin .eql (.t 21) (.c (.int .u32 0))),oA 23 (.pick (.t 17) (.t 22) (.c (.bool false))),oM 24 23,oT 25 24 (.mov (.t 0)),oT 26 24 (.mov (.t 1)),oT 27 24 (.mov (.t 2)),oT 28 24 (.call n_4d [(.t 25),(.t 26),(.t 27)]),oA 29 (.pick (.t 24) (.t 28) (.c (.bool false))),oM 6 29]) (.ret)
def c_4c : C :=
 .seq (.ops [oA 6 (.mov (.c (.bool false)))]) (c0_4c)
def f_4c : F := ⟨c_4c, [.t 6], some []⟩
theorem h_4c : compF Tryz.prog (compAny Tryz.prog) n_4c = some (f_4c.body, f_4c.res) := by kernel_rfl
def c0_4e : C :=
 .seq (.block 1 (.any 0 [.op 0 (oM 22 0),.op 1 (oA 23 (.nilc (.t 22))),.op 2 (oA 24 (.fa 2 (.t 23))),.op 3 (oA 25 (.ld (.t 24))),.op 5 (oM 27 0),.op 6 (oA 28 (.nilc (.t 27))),.op 7 (oA 29 (.fa 2 (.t 28))),.op 8 (oA 30 (.ld (.t 29))),.op 9 (oM 31 6),.op 10 (oA 32 (.ia 1 (.t 30) (.t 31))),.op 11 (oA 33 (.ld (.t 32))),.op 12 (oM 34 33),.op 13 (oF 35 34 (.mov (.t 0))),.op 14 (oF 36 34 (.nilc (.t 35))),.op 15 (oF 37 34 (.fa 1 (.t 36))),.op 16 (oF 38 34 (.ld (.t 37))),.op 17 (oF 39 34 (.mov (.t 6))),.op 18 (oF 40 34 (.ia 1 (.t 38) (.t 39))),.op 19 (oF 41 34 (.ld (.t 40))),.op 4 (oM 26 6),.op 20 (oA 42 (.pick (.t 34) (.c (.bool true)) (.t 41))),.op 21 (oA 43 (.ia 1 (.t 25) (.t 26))),.op 22 (oS (.st (.t 43) (.t 42)))])) (.ops [oM 20 6,oA 21 (.bin .add (.t 20) (.c (.int .i64 1))),oM 6 21])
def c1_4e : C :=
 .seq (.seq (.ops [oM 12 6,oM 13 1,oA 14 (.conv .i64 (.t 13)),oM 15 2,oA 16 (.bin .add (.t 14) (.t 15)),oA 17 (.bin .sub (.t 16) (.c (.int .i64 1))),oA 18 (.bin .quo (.t 17) (.c (.int .i64 1024))),oA 19 (.bin .leq (.t 12) (.t 18))]) (.cond (.t 19) (.skip) (.exit 0))) (c0_4e)
def c_4e : C :=
 .seq (.seq (.ops [oM 7 2,oA 8 (.bin .lss (.t 7) (.c (.int .i64 1)))]) (.cond (.t 8) (.ret) (.skip))) (.seq (.ops [oM 9 1,oA 10 (.conv .i64 (.t 9)),oA 11 (.bin .quo (.t 10) (.c (.int .i64 1024))),oM 6 11]) (.block 0 (.loop c1_4e)))
def f_4e : F := ⟨c_4e, [], some []⟩
theorem h_4e : compF Tryz.prog (compAny Tryz.prog) n_4e = some (f_4e.body, f_4e.res) := by kernel_rfl
def c0_4d : C :=
 .seq (.ops [oM 7 2,oA 8 (.bin .geq (.t 7) (.c (.int .i64 0))),oM 9 8,oT 10 9 (.mov (.t 1)),oT 11 9 (.conv .i64 (.t 10)),oT 12 9 (.mov (.t 0)),oT 13 9 (.nilc (.t 12)),oT 14 9 (.fa 0 (.t 13)),oT 15 9 (.ld (.t 14)),oT 16 9 (.len 1 (.t 15)),oT 17 9 (.bin .leq (.t 11) (.t 16)),oA 18 (.pick (.t 9) (.t 17) (.c (.bool false))),oM 19 18,oT 20 19 (.mov (.t 2)),oT 21 19 (.mov (.t 0)),oT 22 19 (.nilc (.t 21)),oT 23 19 (.fa 0 (.t 22)),oT 24 19 (.ld (.t 23)),oT 25 19 (.len 1 (.t 24)),oT 26 19 (.mov (.t 1)),oT 27 19 (.conv .i64 (.t 26)),oT 28 19 (.bin .sub (.t 25) (.t 27)),oT 29 19 (.bin .leq (.t 20) (.t 28)),oA 30 (.pick (.t 19) (.t 29) (.c (.bool false))),oM 6 30]) (.ret)
def c_4d : C :=
 .seq (.ops [oA 6 (.mov (.c (.bool false)))]) (c0_4d)
def f_4d : F := ⟨c_4d, [.t 6], some []⟩
theorem h_4d : compF Tryz.prog (compAny Tryz.prog) n_4d = some (f_4d.body, f_4d.res) := by kernel_rfl
def c0_2y : C :=
 .seq (.ops [oM 7 2,oA 8 (.bin .geq (.t 7) (.c (.int .i64 0))),oM 9 8,oT 10 9 (.mov (.t 1)),oT 11 9 (.conv .u64 (.t 10)),oT 12 9 (.mov (.t 2)),oT 13 9 (.conv .u64 (.t 12)),oT 14 9 (.bin .add (.t 11) (.t 13)),oT 15 9 (.mov (.t 0)),oT 16 9 (.nilc (.t 15)),oT 17 9 (.fa 0 (.t 16)),oT 18 9 (.ld (.t 17)),oT 19 9 (.len 1 (.t 18)),oT 20 9 (.conv .u64 (.t 19)),oT 21 9 (.bin .leq (.t 14) (.t 20)),oA 22 (.pick (.t 9) (.t 21) (.c (.bool false))),oM 6 22]) (.ret)
def c_2y : C :=
 .seq (.ops [oA 6 (.mov (.c (.bool false)))]) (c0_2y)
def f_2y : F := ⟨c_2y, [.t 6], some []⟩
theorem h_2y : compF Tryz.prog (compAny Tryz.prog) n_2y = some (f_2y.body, f_2y.res) := by kernel_rfl
def c0_32 : C :=
 .seq (.ops [oM 18 0,oA 19 (.nilc (.t 18)),oA 20 (.fa 1 (.t 19)),oA 21 (.ld (.t 20)),oM 22 7,oA 23 (.ia 1 (.t 21) (.t 22)),oA 24 (.ld (.t 23))]) (.cond (.t 24) (.ops [oM 25 0,oA 26 (.nilc (.t 25)),oA 27 (.fa 2 (.t 26)),oA 28 (.ld (.t 27)),oM 29 7,oA 30 (.ia 1 (.t 28) (.t 29)),oS (.st (.t 30) (.c (.bool true)))]) (.skip))
def c1_32 : C :=
 .seq (.block 1 (.seq (.ops [oM 13 1,oA 14 (.conv .i64 (.t 13)),oM 15 6,oA 16 (.bin .add (.t 14) (.t 15)),oA 17 (.bin .quo (.t 16) (.c (.int .i64 1024))),oM 7 17]) (c0_32))) (.ops [oM 11 6,oA 12 (.bin .add (.t 11) (.c (.int .i64 1))),oM 6 12])
def c2_32 : C :=
 .seq (.seq (.ops [oM 8 6,oM 9 2,oA 10 (.bin .lss (.t 8) (.t 9))]) (.cond (.t 10) (.skip) (.exit 0))) (c1_32)
def c_32 : C :=
 .seq (.ops [oA 6 (.mov (.c (.int .i64 0)))]) (.block 0 (.loop c2_32))
def f_32 : F := ⟨c_32, [], some []⟩
theorem h_32 : compF Tryz.prog (compAny Tryz.prog) n_32 = some (f_32.body, f_32.res) := by kernel_rfl
def c0_2z : C :=
 .seq (.block 1 (.ops [oM 39 8,oA 40 (.bin .shl (.t 39) (.c (.int .u64 8))),oM 41 0,oA 42 (.nilc (.t 41)),oA 43 (.fa 0 (.t 42)),oA 44 (.ld (.t 43)),oM 45 1,oA 46 (.conv .i64 (.t 45)),oM 47 9,oA 48 (.bin .add (.t 46) (.t 47)),oA 49 (.ia 1 (.t 44) (.t 48)),oA 50 (.ld (.t 49)),oA 51 (.conv .u32 (.t 50)),oA 52 (.bin .or (.t 40) (.t 51)),oM 8 52])) (.ops [oM 37 9,oA 38 (.bin .add (.t 37) (.c (.int .i64 1))),oM 9 38])
def c1_2z : C :=
 .seq (.seq (.ops [oM 34 9,oM 35 2,oA 36 (.bin .lss (.t 34) (.t 35))]) (.cond (.t 36) (.skip) (.exit 0))) (c0_2z)
def c2_2z : C :=
 .seq (.seq (.ops [oM 10 2,oA 11 (.bin .neq (.t 10) (.c (.int .i64 1))),oM 12 11,oT 13 12 (.mov (.t 2)),oT 14 12 (.bin .neq (.t 13) (.c (.int .i64 2))),oA 15 (.pick (.t 12) (.t 14) (.c (.bool false))),oM 16 15,oT 17 16 (.mov (.t 2)),oT 18 16 (.bin .neq (.t 17) (.c (.int .i64 4))),oA 19 (.pick (.t 16) (.t 18) (.c (.bool false))),oM 20 19,oF 21 20 (.mov (.t 1)),oF 22 20 (.mov (.t 2)),oF 23 20 (.conv .u32 (.t 22)),oF 24 20 (.bin .rem (.t 21) (.t 23)),oF 25 20 (.bin .neq (.t 24) (.c (.int .u32 0))),oA 26 (.pick (.t 20) (.c (.bool true)) (.t 25)),oM 27 26,oF 28 27 (.mov (.t 0)),oF 29 27 (.mov (.t 1)),oF 30 27 (.mov (.t 2)),oF 31 27 (.call n_2y [(.t 28),(.t 29),(.t 30)]),oF 32 27 (.un .not (.t 31)),oA 33 (.pick (.t 27) (.c (.bool true)) (.t 32))]) (.cond (.t 33) (.seq (.ops [oA 6 (.mov (.c (.int .u32 0))),oA 7 (.mov (.c (.bool false)))]) (.ret)) (.skip))) (.seq (.ops [oA 8 (.mov (.c (.int .u32 0)))]) (.seq (.seq (.ops [oA 9 (.mov (.c (.int .i64 0)))]) (.block 0 (.loop c1_2z))) (.seq (.ops [oM 53 8,oM 6 53,oA 7 (.mov (.c (.bool true)))]) (.ret))))
def c_2z : C :=
 .seq (.ops [oA 6 (.mov (.c (.int .u32 0))),oA 7 (.mov (.c (.bool false)))]) (c2_2z)
def f_2z : F := ⟨c_2z, [.t 6, .t 7], some []⟩
theorem h_2z : compF Tryz.prog (compAny Tryz.prog) n_2z = some (f_2z.body, f_2z.res) := by kernel_rfl
def c0_34 : C :=
 .seq (.seq (.ops [oA 75 (.fa 3 (.t 5)),oA 76 (.ld (.t 75)),oA 77 (.call n_38 [(.t 76),(.c (.int .u8 106))])]) (.cond (.t 77) (.ops [oM 78 0,oA 79 (.bin .and (.t 78) (.c (.int .u32 67108863))),oA 80 (.fa 5 (.t 6)),oS (.st (.t 80) (.t 79))]) (.skip))) (.seq (.ops [oA 81 (.ldn 6 (.t 6)),oS (.stn 6 (.t 2) (.t 81))]) (.ret))
def c1_34 : C :=
 .seq (.seq (.ops [oA 69 (.fa 3 (.t 5)),oA 70 (.ld (.t 69)),oA 71 (.call n_38 [(.t 70),(.c (.int .u8 105))])]) (.cond (.t 71) (.ops [oM 72 0,oA 73 (.bin .and (.t 72) (.c (.int .u32 65535))),oA 74 (.fa 5 (.t 6)),oS (.st (.t 74) (.t 73))]) (.skip))) (c0_34)
def c2_34 : C :=
 .seq (.seq (.ops [oA 61 (.fa 3 (.t 5)),oA 62 (.ld (.t 61)),oA 63 (.call n_38 [(.t 62),(.c (.int .u8 104))])]) (.cond (.t 63) (.ops [oM 64 0,oA 65 (.bin .shr (.t 64) (.c (.int .u64 6))),oA 66 (.bin .and (.t 65) (.c (.int .u32 31))),oA 67 (.conv .i64 (.t 66)),oA 68 (.fa 4 (.t 6)),oS (.st (.t 68) (.t 67))]) (.skip))) (c1_34)
def c3_34 : C :=
 .seq (.seq (.ops [oA 53 (.fa 3 (.t 5)),oA 54 (.ld (.t 53)),oA 55 (.call n_38 [(.t 54),(.c (.int .u8 100))])]) (.cond (.t 55) (.ops [oM 56 0,oA 57 (.bin .shr (.t 56) (.c (.int .u64 11))),oA 58 (.bin .and (.t 57) (.c (.int .u32 31))),oA 59 (.conv .i64 (.t 58)),oA 60 (.fa 3 (.t 6)),oS (.st (.t 60) (.t 59))]) (.skip))) (c2_34)
def c4_34 : C :=
 .seq (.seq (.ops [oA 45 (.fa 3 (.t 5)),oA 46 (.ld (.t 45)),oA 47 (.call n_38 [(.t 46),(.c (.int .u8 116))])]) (.cond (.t 47) (.ops [oM 48 0,oA 49 (.bin .shr (.t 48) (.c (.int .u64 16))),oA 50 (.bin .and (.t 49) (.c (.int .u32 31))),oA 51 (.conv .i64 (.t 50)),oA 52 (.fa 2 (.t 6)),oS (.st (.t 52) (.t 51))]) (.skip))) (c3_34)
def c5_34 : C :=
 .seq (.seq (.ops [oA 37 (.fa 3 (.t 5)),oA 38 (.ld (.t 37)),oA 39 (.call n_38 [(.t 38),(.c (.int .u8 115))])]) (.cond (.t 39) (.ops [oM 40 0,oA 41 (.bin .shr (.t 40) (.c (.int .u64 21))),oA 42 (.bin .and (.t 41) (.c (.int .u32 31))),oA 43 (.conv .i64 (.t 42)),oA 44 (.fa 1 (.t 6)),oS (.st (.t 44) (.t 43))]) (.skip))) (c4_34)
def c6_34 : C :=
 .seq (.ops [oA 34 (.fa 2 (.t 5)),oA 35 (.ld (.t 34)),oA 36 (.build [(.int .i64 0),(.int .i64 0),(.int .i64 0),(.int .i64 0),(.int .i64 0),(.int .u32 0)] [(0,1,(.t 35))]),oA 6 (.new [(.int .i64 0),(.int .i64 0),(.int .i64 0),(.int .i64 0),(.int .i64 0),(.int .u32 0)]),oS (.stn 6 (.t 6) (.t 36))]) (c5_34)
def c7_34 : C :=
 .seq (.seq (.any 0 [.op 0 (oA 21 (.fa 0 (.t 5))),.op 1 (oA 22 (.ld (.t 21))),.op 2 (oM 23 0),.op 3 (oA 24 (.bin .shr (.t 23) (.c (.int .u64 26)))),.op 4 (oA 25 (.conv .i64 (.t 24))),.op 5 (oA 26 (.bin .neq (.t 22) (.t 25))),.op 6 (oM 27 26),.op 7 (oF 28 27 (.fa 1 (.t 5))),.op 8 (oF 29 27 (.ld (.t 28))),.op 9 (oF 30 27 (.mov (.t 0))),.op 10 (oF 31 27 (.call n_3e [(.t 30)])),.re 8 (oF 29 27 (.ld (.t 28))),.op 11 (oF 32 27 (.bin .neq (.t 29) (.t 31))),.op 12 (oA 33 (.pick (.t 27) (.c (.bool true)) (.t 32)))]) (.cond (.t 33) (.exit 1) (.skip))) (c6_34)
def c8_34 : C :=
 .seq (.block 1 (.seq (.ops [oM 17 3,oM 18 4,oA 19 (.ia 4 (.t 17) (.t 18)),oA 20 (.ldn 4 (.t 19)),oA 5 (.new [(.int .i64 0),(.int .i64 0),(.int .i64 0),(.string .empty)]),oS (.stn 4 (.t 5) (.t 20))]) (c7_34))) (.ops [oM 15 4,oA 16 (.bin .add (.t 15) (.c (.int .i64 1))),oM 4 16])
def c9_34 : C :=
 .seq (.seq (.ops [oM 11 4,oM 12 3,oA 13 (.len 1 (.t 12)),oA 14 (.bin .lss (.t 11) (.t 13))]) (.cond (.t 14) (.skip) (.exit 0))) (c8_34)
def c10_34 : C :=
 .seq (.ops [oM 7 0,oA 8 (.bin .shr (.t 7) (.c (.int .u64 26))),oA 9 (.conv .i64 (.t 8)),oA 10 (.call n_3b [(.t 9)]),oM 3 10]) (.seq (.seq (.ops [oA 4 (.mov (.c (.int .i64 0)))]) (.block 0 (.loop c9_34))) (.seq (.ops [oA 82 (.build [(.int .i64 0),(.int .i64 0),(.int .i64 0),(.int .i64 0),(.int .i64 0),(.int .u32 0)] []),oS (.stn 6 (.t 2) (.t 82))]) (.ret)))
def c_34 : C :=
 .seq (.ops [oA 2 (.new [(.int .i64 0),(.int .i64 0),(.int .i64 0),(.int .i64 0),(.int .i64 0),(.int .u32 0)])]) (c10_34)
def f_34 : F := ⟨c_34, [.ldn 6 2], some []⟩
theorem h_34 : compF Tryz.prog (compAny Tryz.prog) n_34 = some (f_34.body, f_34.res) := by kernel_rfl
def c0_33 : C :=
 .seq (.ops [oM 67 3,oA 68 (.bin .eql (.t 67) (.c (.int .i64 22))),oM 69 68,oF 70 69 (.mov (.t 3)),oF 71 69 (.bin .eql (.t 70) (.c (.int .i64 24))),oA 72 (.pick (.t 69) (.c (.bool true)) (.t 71)),oM 73 72,oF 74 73 (.mov (.t 3)),oF 75 73 (.bin .eql (.t 74) (.c (.int .i64 46))),oA 76 (.pick (.t 73) (.c (.bool true)) (.t 75)),oM 77 76,oF 78 77 (.mov (.t 3)),oF 79 77 (.bin .geq (.t 78) (.c (.int .i64 32))),oF 80 77 (.mov (.t 79)),oT 81 80 (.mov (.t 3)),oT 82 80 (.bin .leq (.t 81) (.c (.int .i64 35))),oF 83 77 (.pick (.t 80) (.t 82) (.c (.bool false))),oA 84 (.pick (.t 77) (.c (.bool true)) (.t 83)),oM 66 84]) (.cond (.t 66) (.seq (.ops [oA 2 (.mov (.c (.int .i64 2)))]) (.ret)) (.skip))
def c1_33 : C :=
 .seq (.ops [oM 56 3,oA 57 (.bin .geq (.t 56) (.c (.int .i64 71))),oM 58 57,oT 59 58 (.mov (.t 3)),oT 60 58 (.bin .leq (.t 59) (.c (.int .i64 73))),oA 61 (.pick (.t 58) (.t 60) (.c (.bool false))),oM 62 61,oF 63 62 (.mov (.t 3)),oF 64 62 (.bin .eql (.t 63) (.c (.int .i64 75))),oA 65 (.pick (.t 62) (.c (.bool true)) (.t 64)),oM 55 65]) (.cond (.t 55) (.seq (.ops [oA 2 (.mov (.c (.int .i64 5)))]) (.ret)) (c0_33))
def c2_33 : C :=
 .seq (.ops [oM 45 3,oA 46 (.bin .geq (.t 45) (.c (.int .i64 66))),oM 47 46,oT 48 47 (.mov (.t 3)),oT 49 47 (.bin .leq (.t 48) (.c (.int .i64 70))),oA 50 (.pick (.t 47) (.t 49) (.c (.bool false))),oM 51 50,oF 52 51 (.mov (.t 3)),oF 53 51 (.bin .eql (.t 52) (.c (.int .i64 74))),oA 54 (.pick (.t 51) (.c (.bool true)) (.t 53)),oM 44 54]) (.cond (.t 44) (.seq (.ops [oA 2 (.mov (.c (.int .i64 4)))]) (.ret)) (c1_33))
def c3_33 : C :=
 .seq (.ops [oM 30 3,oA 31 (.bin .eql (.t 30) (.c (.int .i64 7))),oM 32 31,oF 33 32 (.mov (.t 3)),oF 34 32 (.bin .eql (.t 33) (.c (.int .i64 8))),oA 35 (.pick (.t 32) (.c (.bool true)) (.t 34)),oM 36 35,oF 37 36 (.mov (.t 3)),oF 38 36 (.bin .geq (.t 37) (.c (.int .i64 36))),oF 39 36 (.mov (.t 38)),oT 40 39 (.mov (.t 3)),oT 41 39 (.bin .leq (.t 40) (.c (.int .i64 45))),oF 42 36 (.pick (.t 39) (.t 41) (.c (.bool false))),oA 43 (.pick (.t 36) (.c (.bool true)) (.t 42)),oM 29 43]) (.cond (.t 29) (.seq (.ops [oA 2 (.mov (.c (.int .i64 3)))]) (.ret)) (c2_33))
def c4_33 : C :=
 .seq (.block 0 (.seq (.ops [oM 7 3,oA 8 (.bin .leq (.t 7) (.c (.int .i64 0))),oM 9 8,oF 10 9 (.mov (.t 3)),oF 11 9 (.bin .geq (.t 10) (.c (.int .i64 78))),oA 12 (.pick (.t 9) (.c (.bool true)) (.t 11)),oM 13 12,oF 14 13 (.mov (.t 3)),oF 15 13 (.bin .geq (.t 14) (.c (.int .i64 54))),oF 16 13 (.mov (.t 15)),oT 17 16 (.mov (.t 3)),oT 18 16 (.bin .leq (.t 17) (.c (.int .i64 62))),oF 19 13 (.pick (.t 16) (.t 18) (.c (.bool false))),oA 20 (.pick (.t 13) (.c (.bool true)) (.t 19)),oM 21 20,oF 22 21 (.mov (.t 3)),oF 23 21 (.bin .eql (.t 22) (.c (.int .i64 11))),oA 24 (.pick (.t 21) (.c (.bool true)) (.t 23)),oM 25 24,oF 26 25 (.mov (.t 3)),oF 27 25 (.bin .eql (.t 26) (.c (.int .i64 12))),oA 28 (.pick (.t 25) (.c (.bool true)) (.t 27)),oM 6 28]) (.cond (.t 6) (.seq (.ops [oA 2 (.mov (.c (.int .i64 6)))]) (.ret)) (c3_33)))) (.seq (.ops [oA 2 (.mov (.c (.int .i64 1)))]) (.ret))
def c_33 : C :=
 .seq (.ops [oA 1 (.box (.t 0)),oA 2 (.mov (.c (.int .i64 0)))]) (.seq (.ops [oA 4 (.fa 0 (.t 1)),oA 5 (.ld (.t 4)),oM 3 5]) (c4_33))
def f_33 : F := ⟨c_33, [.t 2], some []⟩
theorem h_33 : compF Tryz.prog (compAny Tryz.prog) n_33 = some (f_33.body, f_33.res) := by kernel_rfl
def c0_3s : C :=
 .seq (.ops [oA 2 (.build [(.int .u32 0),(.int .u32 0),(.int .u32 0),(.int .u32 0),(.int .u32 0),(.int .u32 0),(.int .u32 0),(.int .u32 0),(.int .u32 0),(.int .u32 0),(.int .u32 0),(.int .u32 0),(.int .u32 0),(.int .u32 0),(.int .u32 0),(.int .u32 0),(.int .u32 0),(.int .u32 0),(.int .u32 0),(.int .u32 0),(.int .u32 0),(.int .u32 0),(.int .u32 0),(.int .u32 0),(.int .u32 0),(.int .u32 0),(.int .u32 0),(.int .u32 0),(.int .u32 0),(.int .u32 0),(.int .u32 0),(.int .u32 0),(.int .u32 0),(.int .u32 0),(.int .u32 0),(.int .u32 0),(.bool false),(.bool false),(.int .u32 0),(.int .u32 0),(.int .u32 0),(.int .u32 0),(.int .u32 0),(.int .u32 0),(.int .u32 0),(.int .u32 0),(.int .u32 0),(.int .u32 0),(.int .u32 0),(.int .u32 0),(.int .u32 0),(.int .u32 0),(.int .u32 0),(.int .u32 0),(.int .u32 0),(.int .u32 0),(.int .u32 0),(.int .u32 0),(.int .u32 0),(.int .u32 0),(.int .u32 0),(.int .u32 0),(.int .u32 0),(.int .u32 0),(.int .u32 0),(.int .u32 0),(.int .u32 0),(.int .u32 0),(.int .u32 0),(.int .u32 0),(.int .u32 0),(.bool false),(.int .i64 0)] [(34,1,(.c (.int .u32 2147484672))),(35,1,(.c (.int .u32 2147484676)))]),oA 1 (.new [(.int .u32 0),(.int .u32 0),(.int .u32 0),(.int .u32 0),(.int .u32 0),(.int .u32 0),(.int .u32 0),(.int .u32 0),(.int .u32 0),(.int .u32 0),(.int .u32 0),(.int .u32 0),(.int .u32 0),(.int .u32 0),(.int .u32 0),(.int .u32 0),(.int .u32 0),(.int .u32 0),(.int .u32 0),(.int .u32 0),(.int .u32 0),(.int .u32 0),(.int .u32 0),(.int .u32 0),(.int .u32 0),(.int .u32 0),(.int .u32 0),(.int .u32 0),(.int .u32 0),(.int .u32 0),(.int .u32 0),(.int .u32 0),(.int .u32 0),(.int .u32 0),(.int .u32 0),(.int .u32 0),(.bool false),(.bool false),(.int .u32 0),(.int .u32 0),(.int .u32 0),(.int .u32 0),(.int .u32 0),(.int .u32 0),(.int .u32 0),(.int .u32 0),(.int .u32 0),(.int .u32 0),(.int .u32 0),(.int .u32 0),(.int .u32 0),(.int .u32 0),(.int .u32 0),(.int .u32 0),(.int .u32 0),(.int .u32 0),(.int .u32 0),(.int .u32 0),(.int .u32 0),(.int .u32 0),(.int .u32 0),(.int .u32 0),(.int .u32 0),(.int .u32 0),(.int .u32 0),(.int .u32 0),(.int .u32 0),(.int .u32 0),(.int .u32 0),(.int .u32 0),(.int .u32 0),(.bool false),(.int .i64 0)]),oS (.stn 73 (.t 1) (.t 2))]) (.seq (.ops [oA 3 (.fa 39 (.t 1)),oA 4 (.iaa 16 1 (.t 3) (.c (.int .i64 15))),oS (.st (.t 4) (.c (.int .u32 98304)))]) (.seq (.ops [oA 5 (.ldn 73 (.t 1)),oS (.stn 73 (.t 0) (.t 5))]) (.ret)))
def c_3s : C :=
 .seq (.ops [oA 0 (.new [(.int .u32 0),(.int .u32 0),(.int .u32 0),(.int .u32 0),(.int .u32 0),(.int .u32 0),(.int .u32 0),(.int .u32 0),(.int .u32 0),(.int .u32 0),(.int .u32 0),(.int .u32 0),(.int .u32 0),(.int .u32 0),(.int .u32 0),(.int .u32 0),(.int .u32 0),(.int .u32 0),(.int .u32 0),(.int .u32 0),(.int .u32 0),(.int .u32 0),(.int .u32 0),(.int .u32 0),(.int .u32 0),(.int .u32 0),(.int .u32 0),(.int .u32 0),(.int .u32 0),(.int .u32 0),(.int .u32 0),(.int .u32 0),(.int .u32 0),(.int .u32 0),(.int .u32 0),(.int .u32 0),(.bool false),(.bool false),(.int .u32 0),(.int .u32 0),(.int .u32 0),(.int .u32 0),(.int .u32 0),(.int .u32 0),(.int .u32 0),(.int .u32 0),(.int .u32 0),(.int .u32 0),(.int .u32 0),(.int .u32 0),(.int .u32 0),(.int .u32 0),(.int .u32 0),(.int .u32 0),(.int .u32 0),(.int .u32 0),(.int .u32 0),(.int .u32 0),(.int .u32 0),(.int .u32 0),(.int .u32 0),(.int .u32 0),(.int .u32 0),(.int .u32 0),(.int .u32 0),(.int .u32 0),(.int .u32 0),(.int .u32 0),(.int .u32 0),(.int .u32 0),(.int .u32 0),(.bool false),(.int .i64 0)])]) (c0_3s)
def f_3s : F := ⟨c_3s, [.ldn 73 0], some []⟩
theorem h_3s : compF Tryz.prog (compAny Tryz.prog) n_3s = some (f_3s.body, f_3s.res) := by kernel_rfl
def c0_24 : C :=
 .seq (.ops [oM 35 7,oA 36 (.nilc (.t 35)),oA 37 (.fa 18 (.t 36)),oA 38 (.fa 4 (.t 37)),oA 39 (.ld (.t 38)),oM 40 2,oA 41 (.cpy 1 (.t 39) (.t 40))]) (.seq (.ops [oM 42 7,oM 6 42]) (.ret))
def c1_24 : C :=
 .seq (.ops [oM 28 7,oM 29 8,oA 30 (.bin .mul (.t 29) (.c (.int .i64 64))),oA 31 (.mks [(.int .u8 0)] 1 (.t 30) (.t 30)),oA 32 (.nilc (.t 28)),oA 33 (.fa 18 (.t 32)),oA 34 (.fa 4 (.t 33)),oS (.st (.t 34) (.t 31))]) (c0_24)
def c2_24 : C :=
 .seq (.ops [oM 22 2,oA 23 (.len 1 (.t 22)),oA 24 (.bin .add (.t 23) (.c (.int .i64 64))),oA 25 (.bin .sub (.t 24) (.c (.int .i64 1))),oA 26 (.bin .quo (.t 25) (.c (.int .i64 64))),oA 27 (.mn (.t 26) (.c (.int .i64 64))),oM 8 27]) (c1_24)
def c3_24 : C :=
 .seq (.ops [oM 13 7,oA 14 (.nilc (.t 13)),oA 15 (.fa 0 (.t 14)),oA 16 (.ld (.t 15)),oA 17 (.nilc (.t 16)),oA 18 (.fa 0 (.t 17)),oA 19 (.ld (.t 18)),oM 20 1,oA 21 (.cpy 1 (.t 19) (.t 20))]) (c2_24)
def c4_24 : C :=
 .seq (.ops [oM 9 0,oA 10 (.call n_2x [(.t 9)]),oA 11 (.build [(.pointer none),(.slice none 0 0),(.int .i64 0),(.int .u32 0),(.int .u32 0),(.int .u32 0),(.int .u32 0),(.int .u32 0),(.int .u32 0),(.slice none 0 0),(.slice none 0 0),(.bool false),(.int .u32 0),(.slice none 0 0),(.int .u32 0),(.int .u32 0),(.int .u32 0),(.int .u32 0),(.int .u32 0),(.int .u32 0),(.int .u32 0),(.int .u32 0),(.slice none 0 0),(.int .u32 0),(.int .u32 0)] [(0,1,(.t 10))]),oA 12 (.box (.t 11)),oM 7 12]) (c3_24)
def c_24 : C :=
 .seq (.ops [oA 6 (.mov (.c (.pointer none)))]) (c4_24)
def f_24 : F := ⟨c_24, [.t 6], some []⟩
theorem h_24 : compF Tryz.prog (compAny Tryz.prog) n_24 = some (f_24.body, f_24.res) := by kernel_rfl
end Go.Proofs.YtmgoleiafiffoaaGreat.Cd

set_option maxRecDepth 100000
set_option linter.defProp false
namespace Go.Proofs.YtmgoleiafiffoaaGreat.Cd
open Go Go.Dx
def c0_2k : C :=
 .seq (.ops [oA 3 (.fa 0 (.t 1)),oA 4 (.ld (.t 3)),oA 5 (.bin .geq (.t 4) (.c (.int .i64 0))),oM 6 5,oT 7 6 (.fa 0 (.t 1)),oT 8 6 (.ld (.t 7)),oT 9 6 (.bin .leq (.t 8) (.c (.int .i64 22))),oA 10 (.pick (.t 6) (.t 9) (.c (.bool false))),oM 11 10,oT 12 11 (.fa 1 (.t 1)),oT 13 11 (.ld (.t 12)),oT 14 11 (.bin .geq (.t 13) (.c (.int .i64 0))),oA 15 (.pick (.t 11) (.t 14) (.c (.bool false))),oM 16 15,oT 17 16 (.fa 1 (.t 1)),oT 18 16 (.ld (.t 17)),oT 19 16 (.bin .lss (.t 18) (.c (.int .i64 40))),oA 20 (.pick (.t 16) (.t 19) (.c (.bool false))),oM 21 20,oT 22 21 (.fa 2 (.t 1)),oT 23 21 (.ld (.t 22)),oT 24 21 (.bin .geq (.t 23) (.c (.int .i64 0))),oA 25 (.pick (.t 21) (.t 24) (.c (.bool false))),oM 26 25,oT 27 26 (.fa 2 (.t 1)),oT 28 26 (.ld (.t 27)),oT 29 26 (.bin .lss (.t 28) (.c (.int .i64 40))),oA 30 (.pick (.t 26) (.t 29) (.c (.bool false))),oM 31 30,oT 32 31 (.fa 3 (.t 1)),oT 33 31 (.ld (.t 32)),oT 34 31 (.bin .geq (.t 33) (.c (.int .i64 0))),oA 35 (.pick (.t 31) (.t 34) (.c (.bool false))),oM 36 35,oT 37 36 (.fa 3 (.t 1)),oT 38 36 (.ld (.t 37)),oT 39 36 (.bin .lss (.t 38) (.c (.int .i64 40))),oA 40 (.pick (.t 36) (.t 39) (.c (.bool false))),oM 2 40]) (.ret)
def c_2k : C :=
 .seq (.ops [oA 1 (.box (.t 0)),oA 2 (.mov (.c (.bool false)))]) (c0_2k)
def f_2k : F := ⟨c_2k, [.t 2], some []⟩
theorem h_2k : compF Tryz.prog (compAny Tryz.prog) n_2k = some (f_2k.body, f_2k.res) := by kernel_rfl
def c0_2j : C :=
 .ops [oM 81 4,oM 82 5,oA 83 (.fa 0 (.t 3)),oA 84 (.ld (.t 83)),oA 85 (.bin .eql (.t 84) (.c (.int .i64 12))),oA 86 (.call n_2q [(.t 81),(.t 82),(.t 85)]),oA 87 (.call n_2m [(.t 86)]),oM 6 87]
def c1_2j : C :=
 .seq (.ops [oM 110 0,oM 111 0,oM 112 4,oM 113 5,oA 114 (.fa 0 (.t 3)),oA 115 (.ld (.t 114)),oA 116 (.bin .eql (.t 115) (.c (.int .i64 17))),oA 117 (.call n_2r [(.t 112),(.t 113),(.t 116)]),oM 109 117,oA 118 (.ext (.t 109) 0),oA 119 (.ext (.t 109) 1),oA 120 (.ia 1 (.t 110) (.c (.int .i64 32))),oS (.st (.t 120) (.t 118)),oA 121 (.ia 1 (.t 111) (.c (.int .i64 33))),oS (.st (.t 121) (.t 119))]) (.ret)
def c2_2j : C :=
 .seq (.ops [oM 126 0,oM 127 0,oM 128 4,oM 129 5,oA 130 (.fa 0 (.t 3)),oA 131 (.ld (.t 130)),oA 132 (.bin .eql (.t 131) (.c (.int .i64 19))),oA 133 (.call n_2p [(.t 128),(.t 129),(.t 132)]),oM 125 133,oA 134 (.ext (.t 125) 0),oA 135 (.ext (.t 125) 1),oA 136 (.ia 1 (.t 126) (.c (.int .i64 33))),oS (.st (.t 136) (.t 134)),oA 137 (.ia 1 (.t 127) (.c (.int .i64 32))),oS (.st (.t 137) (.t 135))]) (.ret)
def c3_2j : C :=
 .seq (.seq (.ops [oM 141 5,oA 142 (.bin .eql (.t 141) (.c (.int .u32 0))),oA 143 (.fa 0 (.t 3)),oA 144 (.ld (.t 143)),oA 145 (.bin .eql (.t 144) (.c (.int .i64 21))),oA 146 (.eqb true (.t 142) (.t 145))]) (.cond (.t 146) (.ret) (.skip))) (.ops [oM 147 4,oM 6 147])
def c4_2j : C :=
 .cond (.t 122) (c2_2j) (.seq (.seq (.ops [oA 139 (.bin .eql (.t 18) (.c (.int .i64 21))),oM 138 139]) (.cond (.t 138) (.skip) (.ops [oA 140 (.bin .eql (.t 18) (.c (.int .i64 22))),oM 138 140]))) (.cond (.t 138) (c3_2j) (.skip)))
def c5_2j : C :=
 .seq (.seq (.ops [oA 107 (.bin .eql (.t 18) (.c (.int .i64 17))),oM 106 107]) (.cond (.t 106) (.skip) (.ops [oA 108 (.bin .eql (.t 18) (.c (.int .i64 18))),oM 106 108]))) (.cond (.t 106) (c1_2j) (.seq (.seq (.ops [oA 123 (.bin .eql (.t 18) (.c (.int .i64 19))),oM 122 123]) (.cond (.t 122) (.skip) (.ops [oA 124 (.bin .eql (.t 18) (.c (.int .i64 20))),oM 122 124]))) (c4_2j)))
def c6_2j : C :=
 .cond (.t 96) (.ops [oM 98 4,oA 99 (.call n_2o [(.t 98)]),oA 100 (.conv .u32 (.t 99)),oM 6 100]) (.seq (.ops [oA 102 (.bin .eql (.t 18) (.c (.int .i64 16))),oM 101 102]) (.cond (.t 101) (.ops [oM 103 4,oA 104 (.call n_2n [(.t 103)]),oA 105 (.conv .u32 (.t 104)),oM 6 105]) (c5_2j)))
def c7_2j : C :=
 .cond (.t 88) (.ops [oM 91 4,oM 92 5,oA 93 (.call n_2r [(.t 91),(.t 92),(.c (.bool true))]),oM 90 93,oA 94 (.ext (.t 90) 0),oA 95 (.ext (.t 90) 1),oM 6 95]) (.seq (.ops [oA 97 (.bin .eql (.t 18) (.c (.int .i64 15))),oM 96 97]) (c6_2j))
def c8_2j : C :=
 .seq (.seq (.ops [oA 79 (.bin .eql (.t 18) (.c (.int .i64 12))),oM 78 79]) (.cond (.t 78) (.skip) (.ops [oA 80 (.bin .eql (.t 18) (.c (.int .i64 13))),oM 78 80]))) (.cond (.t 78) (c0_2j) (.seq (.ops [oA 89 (.bin .eql (.t 18) (.c (.int .i64 14))),oM 88 89]) (c7_2j)))
def c9_2j : C :=
 .seq (.ops [oA 72 (.bin .eql (.t 18) (.c (.int .i64 11))),oM 71 72]) (.cond (.t 71) (.ops [oM 73 4,oM 74 5,oA 75 (.bin .rem (.t 74) (.c (.int .u32 32))),oA 76 (.conv .i64 (.t 75)),oA 77 (.call n_2t [(.t 73),(.t 76)]),oM 6 77]) (c8_2j))
def c10_2j : C :=
 .seq (.ops [oA 66 (.bin .eql (.t 18) (.c (.int .i64 10))),oM 65 66]) (.cond (.t 65) (.ops [oM 67 4,oM 68 5,oA 69 (.bin .rem (.t 68) (.c (.int .u32 32))),oA 70 (.bin .shr (.t 67) (.t 69)),oM 6 70]) (c9_2j))
def c11_2j : C :=
 .seq (.ops [oA 60 (.bin .eql (.t 18) (.c (.int .i64 9))),oM 59 60]) (.cond (.t 59) (.ops [oM 61 4,oM 62 5,oA 63 (.bin .rem (.t 62) (.c (.int .u32 32))),oA 64 (.bin .shl (.t 61) (.t 63)),oM 6 64]) (c10_2j))
def c12_2j : C :=
 .seq (.ops [oA 54 (.bin .eql (.t 18) (.c (.int .i64 8))),oM 53 54]) (.cond (.t 53) (.ops [oM 55 4,oM 56 5,oA 57 (.bin .or (.t 55) (.t 56)),oA 58 (.un .xor (.t 57)),oM 6 58]) (c11_2j))
def c13_2j : C :=
 .cond (.t 43) (.ops [oM 45 4,oM 46 5,oA 47 (.bin .or (.t 45) (.t 46)),oM 6 47]) (.seq (.ops [oA 49 (.bin .eql (.t 18) (.c (.int .i64 7))),oM 48 49]) (.cond (.t 48) (.ops [oM 50 4,oM 51 5,oA 52 (.bin .xor (.t 50) (.t 51)),oM 6 52]) (c12_2j)))
def c14_2j : C :=
 .seq (.ops [oA 39 (.bin .eql (.t 18) (.c (.int .i64 5))),oM 38 39]) (.cond (.t 38) (.ops [oM 40 4,oM 41 5,oA 42 (.bin .and (.t 40) (.t 41)),oM 6 42]) (.seq (.ops [oA 44 (.bin .eql (.t 18) (.c (.int .i64 6))),oM 43 44]) (c13_2j)))
def c15_2j : C :=
 .cond (.t 28) (.ops [oM 30 4,oM 31 5,oA 32 (.bin .add (.t 30) (.t 31)),oM 6 32]) (.seq (.ops [oA 34 (.bin .eql (.t 18) (.c (.int .i64 4))),oM 33 34]) (.cond (.t 33) (.ops [oM 35 4,oM 36 5,oA 37 (.bin .sub (.t 35) (.t 36)),oM 6 37]) (c14_2j)))
def c16_2j : C :=
 .seq (.ops [oA 26 (.bin .eql (.t 18) (.c (.int .i64 2))),oM 25 26]) (.cond (.t 25) (.ops [oM 27 4,oM 6 27]) (.seq (.ops [oA 29 (.bin .eql (.t 18) (.c (.int .i64 3))),oM 28 29]) (c15_2j)))
def c17_2j : C :=
 .block 0 (.seq (.ops [oA 20 (.bin .eql (.t 18) (.c (.int .i64 0))),oM 19 20]) (.cond (.t 19) (.ret) (.seq (.ops [oA 22 (.bin .eql (.t 18) (.c (.int .i64 1))),oM 21 22]) (.cond (.t 21) (.ops [oA 23 (.fa 4 (.t 3)),oA 24 (.ld (.t 23)),oM 6 24]) (c16_2j)))))
def c18_2j : C :=
 .seq (.ops [oA 148 (.fa 1 (.t 3)),oA 149 (.ld (.t 148)),oA 150 (.bin .gtr (.t 149) (.c (.int .i64 0)))]) (.cond (.t 150) (.ops [oM 151 0,oA 152 (.fa 1 (.t 3)),oA 153 (.ld (.t 152)),oM 154 6,oA 155 (.ia 1 (.t 151) (.t 153)),oS (.st (.t 155) (.t 154))]) (.skip))
def c19_2j : C :=
 .seq (.any 0 [.op 0 (oM 7 0),.op 1 (oA 8 (.fa 2 (.t 3))),.op 2 (oA 9 (.ld (.t 8))),.op 3 (oA 10 (.ia 1 (.t 7) (.t 9))),.op 4 (oA 11 (.ld (.t 10))),.op 5 (oM 12 0),.op 6 (oA 13 (.fa 3 (.t 3))),.op 7 (oA 14 (.ld (.t 13))),.op 8 (oA 15 (.ia 1 (.t 12) (.t 14))),.op 9 (oA 16 (.ld (.t 15))),.op 10 (oM 4 11),.op 11 (oM 5 16)]) (.seq (.ops [oA 6 (.mov (.c (.int .u32 0)))]) (.seq (.seq (.ops [oA 17 (.fa 0 (.t 3)),oA 18 (.ld (.t 17))]) (c17_2j)) (c18_2j)))
def c_2j : C :=
 .seq (.ops [oA 3 (.box (.t 1))]) (c19_2j)
def f_2j : F := ⟨c_2j, [], some []⟩
theorem h_2j : compF Tryz.prog (compAny Tryz.prog) n_2j = some (f_2j.body, f_2j.res) := by kernel_rfl
def c0_2e : C :=
 .cond (.t 67) (.seq (.ops [oA 8 (.mov (.c (.int .i64 12)))]) (.ret)) (.seq (.ops [oA 85 (.ldn 6 (.t 5)),oM 86 2,oM 87 3,oA 88 (.call n_3m [(.t 85),(.t 86),(.t 87)]),oM 84 88]) (.cond (.t 84) (.seq (.ops [oA 8 (.mov (.c (.int .i64 13)))]) (.ret)) (.skip)))
def c1_2e : C :=
 .seq (.ops [oA 68 (.ldn 6 (.t 5)),oM 69 2,oM 70 3,oA 71 (.call n_3m [(.t 68),(.t 69),(.t 70)]),oM 72 71,oT 73 72 (.mov (.t 9)),oT 74 72 (.bin .eql (.t 73) (.c (.int .i64 22))),oT 75 72 (.mov (.t 74)),oF 76 75 (.mov (.t 9)),oF 77 75 (.bin .eql (.t 76) (.c (.int .i64 24))),oT 78 72 (.pick (.t 75) (.c (.bool true)) (.t 77)),oT 79 72 (.mov (.t 78)),oF 80 79 (.mov (.t 9)),oF 81 79 (.bin .eql (.t 80) (.c (.int .i64 46))),oT 82 72 (.pick (.t 79) (.c (.bool true)) (.t 81)),oA 83 (.pick (.t 72) (.t 82) (.c (.bool false))),oM 67 83]) (c0_2e)
def c2_2e : C :=
 .seq (.ops [oM 57 10,oA 58 (.bin .eql (.t 57) (.c (.int .i64 6))),oM 59 58,oT 60 59 (.mov (.t 9)),oT 61 59 (.bin .lss (.t 60) (.c (.int .i64 54))),oT 62 59 (.mov (.t 61)),oF 63 62 (.mov (.t 9)),oF 64 62 (.bin .gtr (.t 63) (.c (.int .i64 61))),oT 65 59 (.pick (.t 62) (.c (.bool true)) (.t 64)),oA 66 (.pick (.t 59) (.t 65) (.c (.bool false))),oM 56 66]) (.cond (.t 56) (.seq (.ops [oA 8 (.mov (.c (.int .i64 10)))]) (.ret)) (c1_2e))
def c3_2e : C :=
 .cond (.t 50) (.seq (.ops [oA 8 (.mov (.c (.int .i64 8)))]) (.ret)) (.seq (.ops [oM 54 9,oA 55 (.bin .eql (.t 54) (.c (.int .i64 12))),oM 53 55]) (.cond (.t 53) (.seq (.ops [oA 8 (.mov (.c (.int .i64 9)))]) (.ret)) (c2_2e)))
def c4_2e : C :=
 .seq (.ops [oM 34 9,oA 35 (.bin .geq (.t 34) (.c (.int .i64 54))),oM 36 35,oT 37 36 (.mov (.t 9)),oT 38 36 (.bin .leq (.t 37) (.c (.int .i64 61))),oA 39 (.pick (.t 36) (.t 38) (.c (.bool false))),oM 40 39,oT 41 40 (.mov (.t 0)),oT 42 40 (.nilc (.t 41)),oT 43 40 (.fa 0 (.t 42)),oT 44 40 (.call n_42 [(.t 43)]),oA 45 (.pick (.t 40) (.t 44) (.c (.bool false))),oM 46 45,oF 47 46 (.mov (.t 9)),oF 48 46 (.bin .eql (.t 47) (.c (.int .i64 62))),oA 49 (.pick (.t 46) (.c (.bool true)) (.t 48)),oM 33 49]) (.cond (.t 33) (.seq (.ops [oA 8 (.mov (.c (.int .i64 11)))]) (.ret)) (.seq (.ops [oM 51 9,oA 52 (.bin .eql (.t 51) (.c (.int .i64 11))),oM 50 52]) (c3_2e)))
def c5_2e : C :=
 .seq (.block 0 (.seq (.ops [oM 16 0,oA 17 (.nilc (.t 16)),oA 18 (.fa 0 (.t 17)),oA 19 (.fa 36 (.t 18)),oA 20 (.ld (.t 19)),oM 21 20,oT 22 21 (.mov (.t 10)),oT 23 21 (.bin .eql (.t 22) (.c (.int .i64 3))),oT 24 21 (.mov (.t 23)),oF 25 24 (.mov (.t 9)),oF 26 24 (.bin .eql (.t 25) (.c (.int .i64 60))),oT 27 21 (.pick (.t 24) (.c (.bool true)) (.t 26)),oT 28 21 (.mov (.t 27)),oF 29 28 (.mov (.t 9)),oF 30 28 (.bin .eql (.t 29) (.c (.int .i64 61))),oT 31 21 (.pick (.t 28) (.c (.bool true)) (.t 30)),oA 32 (.pick (.t 21) (.t 31) (.c (.bool false))),oM 15 32]) (.cond (.t 15) (.seq (.ops [oA 8 (.mov (.c (.int .i64 10)))]) (.ret)) (c4_2e)))) (.seq (.ops [oA 8 (.mov (.c (.int .i64 (-1))))]) (.ret))
def c_2e : C :=
 .seq (.ops [oA 5 (.box (.t 1)),oA 8 (.mov (.c (.int .i64 0)))]) (.seq (.ops [oA 11 (.fa 0 (.t 5)),oA 12 (.ld (.t 11)),oM 9 12]) (.seq (.ops [oA 13 (.ldn 6 (.t 5)),oA 14 (.call n_33 [(.t 13)]),oM 10 14]) (c5_2e)))
def f_2e : F := ⟨c_2e, [.t 8], some []⟩
theorem h_2e : compF Tryz.prog (compAny Tryz.prog) n_2e = some (f_2e.body, f_2e.res) := by kernel_rfl
def c0_3u : C :=
 .any 0 [.op 1 (oM 35 0),.op 2 (oA 36 (.nilc (.t 35))),.op 3 (oA 37 (.fa 39 (.t 36))),.op 4 (oA 38 (.iaa 16 1 (.t 37) (.c (.int .i64 13)))),.op 5 (oA 39 (.ld (.t 38))),.op 0 (oM 34 0),.op 6 (oA 40 (.bin .or (.t 39) (.c (.int .u32 32768)))),.op 7 (oA 41 (.nilc (.t 34))),.op 8 (oA 42 (.fa 39 (.t 41))),.op 9 (oA 43 (.iaa 16 1 (.t 42) (.c (.int .i64 13)))),.op 10 (oS (.st (.t 43) (.t 40)))]
def c1_3u : C :=
 .seq (.any 0 [.op 1 (oM 22 0),.op 2 (oA 23 (.nilc (.t 22))),.op 3 (oA 24 (.fa 39 (.t 23))),.op 4 (oA 25 (.iaa 16 1 (.t 24) (.c (.int .i64 9)))),.op 5 (oA 26 (.ld (.t 25))),.op 0 (oM 21 0),.op 6 (oM 27 1),.op 7 (oA 28 (.conv .u32 (.t 27))),.op 8 (oA 29 (.bin .add (.t 26) (.t 28))),.op 9 (oA 30 (.nilc (.t 21))),.op 10 (oA 31 (.fa 39 (.t 30))),.op 11 (oA 32 (.iaa 16 1 (.t 31) (.c (.int .i64 9)))),.op 12 (oS (.st (.t 32) (.t 29)))]) (.seq (.seq (.ops [oM 33 5]) (.cond (.t 33) (c0_3u) (.skip))) (.seq (.ops [oM 44 5,oM 4 44]) (.ret)))
def c2_3u : C :=
 .seq (.ops [oM 12 0,oM 13 0,oA 14 (.nilc (.t 13)),oA 15 (.fa 72 (.t 14)),oA 16 (.ld (.t 15)),oM 17 1,oA 18 (.bin .add (.t 16) (.t 17)),oA 19 (.nilc (.t 12)),oA 20 (.fa 72 (.t 19)),oS (.st (.t 20) (.t 18))]) (c1_3u)
def c3_3u : C :=
 .seq (.seq (.ops [oM 6 1,oA 7 (.bin .lss (.t 6) (.c (.int .i64 1)))]) (.cond (.t 7) (.seq (.ops [oA 4 (.mov (.c (.bool false)))]) (.ret)) (.skip))) (.seq (.ops [oM 8 0,oA 9 (.call n_3x [(.t 8)]),oM 10 1,oA 11 (.bin .leq (.t 9) (.t 10)),oM 5 11]) (c2_3u))
def c_3u : C :=
 .seq (.ops [oA 4 (.mov (.c (.bool false)))]) (c3_3u)
def f_3u : F := ⟨c_3u, [.t 4], some []⟩
theorem h_3u : compF Tryz.prog (compAny Tryz.prog) n_3u = some (f_3u.body, f_3u.res) := by kernel_rfl
def c0_2c : C :=
 .seq (.ops [oM 54 3,oA 55 (.bin .eql (.t 54) (.c (.int .u32 0))),oA 56 (.fa 0 (.t 5)),oA 57 (.ld (.t 56)),oA 58 (.bin .eql (.t 57) (.c (.int .i64 9))),oA 59 (.eqb false (.t 55) (.t 58))]) (.cond (.t 59) (.ops [oM 60 0,oA 61 (.fa 3 (.t 5)),oA 62 (.ld (.t 61)),oM 63 2,oA 64 (.call n_2d [(.t 60),(.t 62),(.t 63)])]) (.skip))
def c1_2c : C :=
 .any 0 [.op 1 (oA 68 (.fa 3 (.t 5))),.op 2 (oA 69 (.ld (.t 68))),.op 3 (oM 70 0),.op 4 (oA 71 (.nilc (.t 70))),.op 5 (oA 72 (.fa 0 (.t 71))),.op 6 (oA 73 (.fa 32 (.t 72))),.op 7 (oA 74 (.ld (.t 73))),.op 0 (oM 67 0),.op 8 (oA 75 (.call n_2d [(.t 67),(.t 69),(.t 74)]))]
def c2_2c : C :=
 .any 0 [.op 1 (oA 79 (.fa 3 (.t 5))),.op 2 (oA 80 (.ld (.t 79))),.op 3 (oM 81 0),.op 4 (oA 82 (.nilc (.t 81))),.op 5 (oA 83 (.fa 0 (.t 82))),.op 6 (oA 84 (.fa 33 (.t 83))),.op 7 (oA 85 (.ld (.t 84))),.op 0 (oM 78 0),.op 8 (oA 86 (.call n_2d [(.t 78),(.t 80),(.t 85)]))]
def c3_2c : C :=
 .block 0 (.seq (.seq (.ops [oA 52 (.bin .eql (.t 50) (.c (.int .i64 9))),oM 51 52]) (.cond (.t 51) (.skip) (.ops [oA 53 (.bin .eql (.t 50) (.c (.int .i64 10))),oM 51 53]))) (.cond (.t 51) (c0_2c) (.seq (.ops [oA 66 (.bin .eql (.t 50) (.c (.int .i64 14))),oM 65 66]) (.cond (.t 65) (c1_2c) (.seq (.ops [oA 77 (.bin .eql (.t 50) (.c (.int .i64 16))),oM 76 77]) (.cond (.t 76) (c2_2c) (.skip)))))))
def c4_2c : C :=
 .seq (.any 0 [.op 2 (oA 26 (.ldn 6 (.t 5))),.op 5 (oM 29 0),.op 6 (oA 30 (.nilc (.t 29))),.op 7 (oA 31 (.fa 0 (.t 30))),.op 8 (oA 32 (.fa 32 (.t 31))),.op 9 (oA 33 (.ld (.t 32))),.op 10 (oM 34 0),.op 11 (oA 35 (.nilc (.t 34))),.op 12 (oA 36 (.fa 0 (.t 35))),.op 13 (oA 37 (.fa 33 (.t 36))),.op 14 (oA 38 (.ld (.t 37))),.op 3 (oM 27 2),.op 4 (oM 28 3),.op 15 (oA 39 (.call n_3g [(.t 26),(.t 27),(.t 28),(.t 33),(.t 38)])),.op 0 (oM 24 0),.op 16 (oM 23 39),.op 17 (oA 40 (.ext (.t 23) 0)),.op 20 (oA 43 (.nilc (.t 24))),.op 21 (oA 44 (.fa 0 (.t 43))),.op 22 (oA 45 (.fa 32 (.t 44))),.op 23 (oS (.st (.t 45) (.t 40))),.op 1 (oM 25 0),.op 18 (oA 41 (.ext (.t 23) 1)),.op 24 (oA 46 (.nilc (.t 25))),.op 25 (oA 47 (.fa 0 (.t 46))),.op 26 (oA 48 (.fa 33 (.t 47))),.op 27 (oS (.st (.t 48) (.t 41))),.op 19 (oA 42 (.ext (.t 23) 2))]) (.seq (.ops [oA 49 (.fa 0 (.t 5)),oA 50 (.ld (.t 49))]) (c3_2c))
def c5_2c : C :=
 .seq (.seq (.ops [oA 11 (.ldn 6 (.t 5)),oM 12 2,oM 13 3,oA 14 (.call n_3f [(.t 11),(.t 12),(.t 13)]),oM 10 14,oA 15 (.ext (.t 10) 0),oA 16 (.ext (.t 10) 1),oM 8 15,oM 9 16]) (.seq (.ops [oM 17 9]) (.cond (.t 17) (.ops [oM 18 0,oA 19 (.ldn 6 (.t 5)),oA 20 (.call n_3h [(.t 19)]),oM 21 8,oA 22 (.call n_2d [(.t 18),(.t 20),(.t 21)])]) (.skip)))) (c4_2c)
def c_2c : C :=
 .seq (.ops [oA 5 (.box (.t 1))]) (c5_2c)
def f_2c : F := ⟨c_2c, [], some []⟩
theorem h_2c : compF Tryz.prog (compAny Tryz.prog) n_2c = some (f_2c.body, f_2c.res) := by kernel_rfl
def c0_2b : C :=
 .ops [oM 46 0,oA 47 (.ldn 6 (.t 5)),oM 48 8,oM 49 2,oA 50 (.call n_3l [(.t 47),(.t 48),(.t 49)]),oA 51 (.nilc (.t 46)),oA 52 (.fa 0 (.t 51)),oA 53 (.fa 35 (.t 52)),oS (.st (.t 53) (.t 50))]
def c1_2b : C :=
 .seq (.ops [oA 55 (.ldn 6 (.t 5)),oA 56 (.call n_3j [(.t 55)]),oM 54 56,oA 57 (.ext (.t 54) 0),oA 58 (.ext (.t 54) 1),oM 9 57,oM 10 58]) (.seq (.ops [oM 59 10]) (.cond (.t 59) (.ops [oM 60 0,oM 61 9,oM 62 8,oA 63 (.bin .add (.t 62) (.c (.int .u32 8))),oA 64 (.call n_2d [(.t 60),(.t 61),(.t 63)])]) (.skip)))
def c2_2b : C :=
 .seq (.ops [oM 35 0,oA 36 (.ldn 6 (.t 5)),oA 37 (.call n_33 [(.t 36)]),oA 38 (.bin .eql (.t 37) (.c (.int .i64 3))),oA 39 (.nilc (.t 35)),oA 40 (.fa 0 (.t 39)),oA 41 (.fa 36 (.t 40)),oS (.st (.t 41) (.t 38))]) (.seq (.seq (.ops [oA 42 (.ldn 6 (.t 5)),oM 43 2,oM 44 3,oA 45 (.call n_3k [(.t 42),(.t 43),(.t 44)])]) (.cond (.t 45) (c0_2b) (.skip))) (c1_2b))
def c3_2b : C :=
 .seq (.ops [oM 25 0,oM 26 0,oA 27 (.nilc (.t 26)),oA 28 (.fa 0 (.t 27)),oA 29 (.fa 34 (.t 28)),oA 30 (.ld (.t 29)),oA 31 (.bin .add (.t 30) (.c (.int .u32 4))),oA 32 (.nilc (.t 25)),oA 33 (.fa 0 (.t 32)),oA 34 (.fa 35 (.t 33)),oS (.st (.t 34) (.t 31))]) (c2_2b)
def c4_2b : C :=
 .seq (.ops [oM 16 0,oM 17 0,oA 18 (.nilc (.t 17)),oA 19 (.fa 0 (.t 18)),oA 20 (.fa 35 (.t 19)),oA 21 (.ld (.t 20)),oA 22 (.nilc (.t 16)),oA 23 (.fa 0 (.t 22)),oA 24 (.fa 34 (.t 23)),oS (.st (.t 24) (.t 21))]) (c3_2b)
def c_2b : C :=
 .seq (.ops [oA 5 (.box (.t 1))]) (.seq (.ops [oM 11 0,oA 12 (.nilc (.t 11)),oA 13 (.fa 0 (.t 12)),oA 14 (.fa 34 (.t 13)),oA 15 (.ld (.t 14)),oM 8 15]) (c4_2b))
def f_2b : F := ⟨c_2b, [], some []⟩
theorem h_2b : compF Tryz.prog (compAny Tryz.prog) n_2b = some (f_2b.body, f_2b.res) := by kernel_rfl
def c0_0k : C :=
 .seq (.ops [oM 51 6,oA 52 (.bin .and (.t 51) (.c (.int .i64 32))),oA 53 (.bin .neq (.t 52) (.c (.int .i64 0))),oM 50 53]) (.cond (.t 50) (.ops [oM 54 1,oA 55 (.bin .and (.t 54) (.c (.int .u32 67108863))),oA 56 (.fa 5 (.t 5)),oS (.st (.t 56) (.t 55))]) (.skip))
def c1_0k : C :=
 .seq (.block 0 (.seq (.ops [oM 44 6,oA 45 (.bin .and (.t 44) (.c (.int .i64 16))),oA 46 (.bin .neq (.t 45) (.c (.int .i64 0))),oM 43 46]) (.cond (.t 43) (.ops [oM 47 1,oA 48 (.bin .and (.t 47) (.c (.int .u32 65535))),oA 49 (.fa 5 (.t 5)),oS (.st (.t 49) (.t 48))]) (c0_0k)))) (.seq (.ops [oA 57 (.ldn 6 (.t 5)),oS (.stn 6 (.t 4) (.t 57))]) (.ret))
def c2_0k : C :=
 .seq (.seq (.ops [oM 35 6,oA 36 (.bin .and (.t 35) (.c (.int .i64 8))),oA 37 (.bin .neq (.t 36) (.c (.int .i64 0)))]) (.cond (.t 37) (.ops [oM 38 1,oA 39 (.bin .shr (.t 38) (.c (.int .u64 6))),oA 40 (.bin .and (.t 39) (.c (.int .u32 31))),oA 41 (.conv .i64 (.t 40)),oA 42 (.fa 4 (.t 5)),oS (.st (.t 42) (.t 41))]) (.skip))) (c1_0k)
def c3_0k : C :=
 .seq (.seq (.ops [oM 27 6,oA 28 (.bin .and (.t 27) (.c (.int .i64 4))),oA 29 (.bin .neq (.t 28) (.c (.int .i64 0)))]) (.cond (.t 29) (.ops [oM 30 1,oA 31 (.bin .shr (.t 30) (.c (.int .u64 11))),oA 32 (.bin .and (.t 31) (.c (.int .u32 31))),oA 33 (.conv .i64 (.t 32)),oA 34 (.fa 3 (.t 5)),oS (.st (.t 34) (.t 33))]) (.skip))) (c2_0k)
def c4_0k : C :=
 .seq (.seq (.ops [oM 19 6,oA 20 (.bin .and (.t 19) (.c (.int .i64 2))),oA 21 (.bin .neq (.t 20) (.c (.int .i64 0)))]) (.cond (.t 21) (.ops [oM 22 1,oA 23 (.bin .shr (.t 22) (.c (.int .u64 16))),oA 24 (.bin .and (.t 23) (.c (.int .u32 31))),oA 25 (.conv .i64 (.t 24)),oA 26 (.fa 2 (.t 5)),oS (.st (.t 26) (.t 25))]) (.skip))) (c3_0k)
def c5_0k : C :=
 .seq (.seq (.ops [oM 11 6,oA 12 (.bin .and (.t 11) (.c (.int .i64 1))),oA 13 (.bin .neq (.t 12) (.c (.int .i64 0)))]) (.cond (.t 13) (.ops [oM 14 1,oA 15 (.bin .shr (.t 14) (.c (.int .u64 21))),oA 16 (.bin .and (.t 15) (.c (.int .u32 31))),oA 17 (.conv .i64 (.t 16)),oA 18 (.fa 1 (.t 5)),oS (.st (.t 18) (.t 17))]) (.skip))) (c4_0k)
def c6_0k : C :=
 .seq (.ops [oM 7 0,oA 8 (.build [(.int .i64 0),(.int .i64 0),(.int .i64 0),(.int .i64 0),(.int .i64 0),(.int .u32 0)] [(0,1,(.t 7))]),oA 5 (.new [(.int .i64 0),(.int .i64 0),(.int .i64 0),(.int .i64 0),(.int .i64 0),(.int .u32 0)]),oS (.stn 6 (.t 5) (.t 8))]) (.seq (.ops [oM 9 0,oA 10 (.call n_0c [(.t 9)]),oM 6 10]) (c5_0k))
def c_0k : C :=
 .seq (.ops [oA 4 (.new [(.int .i64 0),(.int .i64 0),(.int .i64 0),(.int .i64 0),(.int .i64 0),(.int .u32 0)])]) (c6_0k)
def f_0k : F := ⟨c_0k, [.ldn 6 4], some []⟩
theorem h_0k : compF Tryz.prog (compAny Tryz.prog) n_0k = some (f_0k.body, f_0k.res) := by kernel_rfl
def c0_0d : C :=
 .cond (.t 24) (.seq (.ops [oM 26 0,oA 27 (.bin .and (.t 26) (.c (.int .u32 63))),oA 28 (.call n_0i [(.t 27)]),oM 2 28]) (.ret)) (.seq (.ops [oM 7 3,oA 8 (.call n_0e [(.t 7)]),oM 2 8]) (.ret))
def c1_0d : C :=
 .seq (.ops [oA 21 (.bin .eql (.t 6) (.c (.int .u32 16))),oM 20 21]) (.cond (.t 20) (.seq (.ops [oM 22 0,oA 23 (.call n_0b [(.t 22)]),oM 2 23]) (.ret)) (.seq (.ops [oA 25 (.bin .eql (.t 6) (.c (.int .u32 28))),oM 24 25]) (c0_0d)))
def c2_0d : C :=
 .seq (.ops [oA 15 (.bin .eql (.t 6) (.c (.int .u32 1))),oM 14 15]) (.cond (.t 14) (.seq (.ops [oM 16 0,oA 17 (.bin .shr (.t 16) (.c (.int .u64 16))),oA 18 (.bin .and (.t 17) (.c (.int .u32 31))),oA 19 (.call n_0g [(.t 18)]),oM 2 19]) (.ret)) (c1_0d))
def c3_0d : C :=
 .block 0 (.seq (.ops [oA 10 (.bin .eql (.t 6) (.c (.int .u32 0))),oM 9 10]) (.cond (.t 9) (.seq (.ops [oM 11 0,oA 12 (.bin .and (.t 11) (.c (.int .u32 63))),oA 13 (.call n_0h [(.t 12)]),oM 2 13]) (.ret)) (c2_0d)))
def c_0d : C :=
 .seq (.ops [oA 2 (.mov (.c (.int .i64 0)))]) (.seq (.ops [oM 4 0,oA 5 (.bin .shr (.t 4) (.c (.int .u64 26))),oM 3 5]) (.seq (.ops [oM 6 3]) (c3_0d)))
def f_0d : F := ⟨c_0d, [.t 2], some []⟩
theorem h_0d : compF Tryz.prog (compAny Tryz.prog) n_0d = some (f_0d.body, f_0d.res) := by kernel_rfl
def c_14 : C :=
 .seq (.ops [oA 2 (.mov (.c (.slice none 0 0)))]) (.seq (.ops [oM 3 0,oA 4 (.call n_13 [(.t 3)]),oA 5 (.call n_11 [(.t 4)]),oM 2 5]) (.ret))
def f_14 : F := ⟨c_14, [.t 2], some []⟩
theorem h_14 : compF Tryz.prog (compAny Tryz.prog) n_14 = some (f_14.body, f_14.res) := by kernel_rfl
def c0_0u : C :=
 .seq (.ops [oA 25 (.fa 2 (.t 1)),oA 26 (.ld (.t 25)),oA 27 (.fa 5 (.t 1)),oA 28 (.ld (.t 27)),oA 29 (.bin .shl (.t 28) (.c (.int .u64 16))),oA 30 (.build [(.int .i64 0),(.int .i64 0),(.int .i64 0),(.int .i64 0),(.int .u32 0)] [(0,1,(.c (.int .i64 1))),(1,1,(.t 26)),(4,1,(.t 29))]),oA 31 (.bsl 1 [(.int .i64 0),(.int .i64 0),(.int .i64 0),(.int .i64 0),(.int .u32 0)] [(0,5,(.t 30))]),oM 2 31]) (.ret)
def c1_0u : C :=
 .seq (.ops [oA 35 (.fa 3 (.t 1)),oA 36 (.ld (.t 35)),oA 37 (.build [(.int .i64 0),(.int .i64 0),(.int .i64 0),(.int .i64 0),(.int .u32 0)] [(0,1,(.c (.int .i64 2))),(1,1,(.t 36)),(2,1,(.c (.int .i64 32)))]),oA 38 (.bsl 1 [(.int .i64 0),(.int .i64 0),(.int .i64 0),(.int .i64 0),(.int .u32 0)] [(0,5,(.t 37))]),oM 2 38]) (.ret)
def c2_0u : C :=
 .seq (.ops [oA 42 (.fa 3 (.t 1)),oA 43 (.ld (.t 42)),oA 44 (.build [(.int .i64 0),(.int .i64 0),(.int .i64 0),(.int .i64 0),(.int .u32 0)] [(0,1,(.c (.int .i64 2))),(1,1,(.t 43)),(2,1,(.c (.int .i64 33)))]),oA 45 (.bsl 1 [(.int .i64 0),(.int .i64 0),(.int .i64 0),(.int .i64 0),(.int .u32 0)] [(0,5,(.t 44))]),oM 2 45]) (.ret)
def c3_0u : C :=
 .seq (.ops [oA 49 (.fa 1 (.t 1)),oA 50 (.ld (.t 49)),oA 51 (.build [(.int .i64 0),(.int .i64 0),(.int .i64 0),(.int .i64 0),(.int .u32 0)] [(0,1,(.c (.int .i64 2))),(1,1,(.c (.int .i64 32))),(2,1,(.t 50))]),oA 52 (.bsl 1 [(.int .i64 0),(.int .i64 0),(.int .i64 0),(.int .i64 0),(.int .u32 0)] [(0,5,(.t 51))]),oM 2 52]) (.ret)
def c4_0u : C :=
 .seq (.ops [oA 56 (.fa 1 (.t 1)),oA 57 (.ld (.t 56)),oA 58 (.build [(.int .i64 0),(.int .i64 0),(.int .i64 0),(.int .i64 0),(.int .u32 0)] [(0,1,(.c (.int .i64 2))),(1,1,(.c (.int .i64 33))),(2,1,(.t 57))]),oA 59 (.bsl 1 [(.int .i64 0),(.int .i64 0),(.int .i64 0),(.int .i64 0),(.int .u32 0)] [(0,5,(.t 58))]),oM 2 59]) (.ret)
def c5_0u : C :=
 .seq (.any 1 [.op 0 (oA 63 (.fa 4 (.t 1))),.op 1 (oA 64 (.ld (.t 63))),.op 6 (oA 69 (.fa 3 (.t 1))),.op 7 (oA 70 (.ld (.t 69))),.op 8 (oA 71 (.fa 2 (.t 1))),.op 9 (oA 72 (.ld (.t 71))),.op 4 (oM 67 3),.op 5 (oA 68 (.call n_0w [(.t 67)])),.re 1 (oA 64 (.ld (.t 63))),.re 7 (oA 70 (.ld (.t 69))),.re 9 (oA 72 (.ld (.t 71))),.op 2 (oA 65 (.conv .u32 (.t 64))),.op 3 (oA 66 (.build [(.int .i64 0),(.int .i64 0),(.int .i64 0),(.int .i64 0),(.int .u32 0)] [(0,1,(.c (.int .i64 1))),(1,1,(.c (.int .i64 34))),(4,1,(.t 65))])),.op 10 (oA 73 (.build [(.int .i64 0),(.int .i64 0),(.int .i64 0),(.int .i64 0),(.int .u32 0)] [(0,1,(.t 68)),(1,1,(.t 70)),(2,1,(.t 72)),(3,1,(.c (.int .i64 34)))])),.al 11 0 (oA 74 (.bsl 2 [(.int .i64 0),(.int .i64 0),(.int .i64 0),(.int .i64 0),(.int .u32 0),(.int .i64 0),(.int .i64 0),(.int .i64 0),(.int .i64 0),(.int .u32 0)] [(0,5,(.t 66)),(5,5,(.t 73))])),.op 12 (oM 2 74)]) (.ret)
def c6_0u : C :=
 .seq (.any 1 [.op 2 (oA 80 (.fa 3 (.t 1))),.op 3 (oA 81 (.ld (.t 80))),.op 4 (oA 82 (.fa 2 (.t 1))),.op 5 (oA 83 (.ld (.t 82))),.op 6 (oA 84 (.fa 1 (.t 1))),.op 7 (oA 85 (.ld (.t 84))),.op 0 (oM 78 3),.op 1 (oA 79 (.call n_0w [(.t 78)])),.re 3 (oA 81 (.ld (.t 80))),.re 5 (oA 83 (.ld (.t 82))),.re 7 (oA 85 (.ld (.t 84))),.op 8 (oA 86 (.build [(.int .i64 0),(.int .i64 0),(.int .i64 0),(.int .i64 0),(.int .u32 0)] [(0,1,(.t 79)),(1,1,(.t 81)),(2,1,(.t 83)),(3,1,(.t 85))])),.al 9 0 (oA 87 (.bsl 1 [(.int .i64 0),(.int .i64 0),(.int .i64 0),(.int .i64 0),(.int .u32 0)] [(0,5,(.t 86))])),.op 10 (oM 2 87)]) (.ret)
def c7_0u : C :=
 .seq (.any 1 [.op 0 (oA 102 (.ldn 6 (.t 1))),.op 5 (oA 107 (.fa 2 (.t 1))),.op 6 (oA 108 (.ld (.t 107))),.op 7 (oA 109 (.fa 1 (.t 1))),.op 8 (oA 110 (.ld (.t 109))),.op 1 (oA 103 (.call n_0v [(.t 102)])),.re 6 (oA 108 (.ld (.t 107))),.re 8 (oA 110 (.ld (.t 109))),.op 3 (oM 105 3),.op 4 (oA 106 (.call n_0w [(.t 105)])),.re 6 (oA 108 (.ld (.t 107))),.re 8 (oA 110 (.ld (.t 109))),.op 2 (oA 104 (.build [(.int .i64 0),(.int .i64 0),(.int .i64 0),(.int .i64 0),(.int .u32 0)] [(0,1,(.c (.int .i64 1))),(1,1,(.c (.int .i64 34))),(4,1,(.t 103))])),.op 9 (oA 111 (.build [(.int .i64 0),(.int .i64 0),(.int .i64 0),(.int .i64 0),(.int .u32 0)] [(0,1,(.t 106)),(1,1,(.t 108)),(2,1,(.t 110)),(3,1,(.c (.int .i64 34)))])),.al 10 0 (oA 112 (.bsl 2 [(.int .i64 0),(.int .i64 0),(.int .i64 0),(.int .i64 0),(.int .u32 0),(.int .i64 0),(.int .i64 0),(.int .i64 0),(.int .i64 0),(.int .u32 0)] [(0,5,(.t 104)),(5,5,(.t 111))])),.op 11 (oM 2 112)]) (.ret)
def c8_0u : C :=
 .seq (.any 0 [.op 0 (oA 89 (.ldn 6 (.t 1))),.op 2 (oA 91 (.fa 2 (.t 1))),.op 3 (oA 92 (.ld (.t 91))),.op 1 (oA 90 (.call n_00 [(.t 89)])),.re 3 (oA 92 (.ld (.t 91))),.op 4 (oA 93 (.bin .eql (.t 90) (.t 92))),.op 5 (oM 94 93),.op 6 (oT 95 94 (.mov (.t 3))),.op 7 (oT 96 94 (.bin .geq (.t 95) (.c (.int .i64 46)))),.op 8 (oA 97 (.pick (.t 94) (.t 96) (.c (.bool false)))),.op 9 (oM 98 97),.op 10 (oT 99 98 (.mov (.t 3))),.op 11 (oT 100 98 (.bin .leq (.t 99) (.c (.int .i64 52)))),.op 12 (oA 101 (.pick (.t 98) (.t 100) (.c (.bool false)))),.op 13 (oM 88 101)]) (.cond (.t 88) (c7_0u) (.skip))
def c9_0u : C :=
 .seq (.ops [oM 61 3,oA 62 (.bin .leq (.t 61) (.c (.int .i64 3))),oM 60 62]) (.cond (.t 60) (c5_0u) (.seq (.ops [oM 76 3,oA 77 (.bin .leq (.t 76) (.c (.int .i64 6))),oM 75 77]) (.cond (.t 75) (c6_0u) (c8_0u))))
def c10_0u : C :=
 .seq (.ops [oM 47 3,oA 48 (.bin .eql (.t 47) (.c (.int .i64 15))),oM 46 48]) (.cond (.t 46) (c3_0u) (.seq (.ops [oM 54 3,oA 55 (.bin .eql (.t 54) (.c (.int .i64 17))),oM 53 55]) (.cond (.t 53) (c4_0u) (c9_0u))))
def c11_0u : C :=
 .seq (.ops [oM 33 3,oA 34 (.bin .eql (.t 33) (.c (.int .i64 14))),oM 32 34]) (.cond (.t 32) (c1_0u) (.seq (.ops [oM 40 3,oA 41 (.bin .eql (.t 40) (.c (.int .i64 16))),oM 39 41]) (.cond (.t 39) (c2_0u) (c10_0u))))
def c12_0u : C :=
 .seq (.any 1 [.op 2 (oA 115 (.fa 3 (.t 1))),.op 3 (oA 116 (.ld (.t 115))),.op 4 (oA 117 (.fa 1 (.t 1))),.op 5 (oA 118 (.ld (.t 117))),.op 6 (oA 119 (.fa 2 (.t 1))),.op 7 (oA 120 (.ld (.t 119))),.op 0 (oM 113 3),.op 1 (oA 114 (.call n_0w [(.t 113)])),.re 3 (oA 116 (.ld (.t 115))),.re 5 (oA 118 (.ld (.t 117))),.re 7 (oA 120 (.ld (.t 119))),.op 8 (oA 121 (.build [(.int .i64 0),(.int .i64 0),(.int .i64 0),(.int .i64 0),(.int .u32 0)] [(0,1,(.t 114)),(1,1,(.t 116)),(2,1,(.t 118)),(3,1,(.t 120))])),.al 9 0 (oA 122 (.bsl 1 [(.int .i64 0),(.int .i64 0),(.int .i64 0),(.int .i64 0),(.int .u32 0)] [(0,5,(.t 121))])),.op 10 (oM 2 122)]) (.ret)
def c13_0u : C :=
 .seq (.block 0 (.seq (.ops [oA 7 (.ldn 6 (.t 1)),oA 8 (.call n_0t [(.t 7)]),oA 9 (.un .not (.t 8)),oM 10 9,oF 11 10 (.mov (.t 3)),oF 12 10 (.bin .eql (.t 11) (.c (.int .i64 13))),oA 13 (.pick (.t 10) (.c (.bool true)) (.t 12)),oM 14 13,oF 15 14 (.mov (.t 3)),oF 16 14 (.bin .eql (.t 15) (.c (.int .i64 76))),oA 17 (.pick (.t 14) (.c (.bool true)) (.t 16)),oM 18 17,oF 19 18 (.mov (.t 3)),oF 20 18 (.bin .eql (.t 19) (.c (.int .i64 77))),oA 21 (.pick (.t 18) (.c (.bool true)) (.t 20)),oM 6 21]) (.cond (.t 6) (.seq (.ops [oA 2 (.mov (.c (.slice none 0 0)))]) (.ret)) (.seq (.ops [oM 23 3,oA 24 (.bin .eql (.t 23) (.c (.int .i64 53))),oM 22 24]) (.cond (.t 22) (c0_0u) (c11_0u)))))) (c12_0u)
def c_0u : C :=
 .seq (.ops [oA 1 (.box (.t 0)),oA 2 (.mov (.c (.slice none 0 0)))]) (.seq (.ops [oA 4 (.fa 0 (.t 1)),oA 5 (.ld (.t 4)),oM 3 5]) (c13_0u))
def f_0u : F := ⟨c_0u, [.t 2], some []⟩
theorem h_0u : compF Tryz.prog (compAny Tryz.prog) n_0u = some (f_0u.body, f_0u.res) := by kernel_rfl
end Go.Proofs.YtmgoleiafiffoaaGreat.Cd

set_option maxRecDepth 100000
set_option linter.defProp false
namespace Go.Proofs.YtmgoleiafiffoaaGreat.Cd
open Go Go.Dx
def c0_3b : C :=
 .seq (.seq (.ops [oM 6 0,oA 7 (.bin .eql (.t 6) (.c (.int .i64 1))),oM 8 7,oF 9 8 (.mov (.t 0)),oF 10 8 (.bin .eql (.t 9) (.c (.int .i64 16))),oA 11 (.pick (.t 8) (.c (.bool true)) (.t 10)),oM 12 11,oF 13 12 (.mov (.t 0)),oF 14 12 (.bin .eql (.t 13) (.c (.int .i64 28))),oA 15 (.pick (.t 12) (.c (.bool true)) (.t 14))]) (.cond (.t 15) (.seq (.ops [oA 16 (.call n_39 []),oM 2 16]) (.ret)) (.skip))) (.seq (.ops [oA 17 (.call n_3a []),oM 2 17]) (.ret))
def c_3b : C :=
 .seq (.ops [oA 2 (.mov (.c (.slice none 0 0)))]) (.seq (.seq (.ops [oM 3 0,oA 4 (.bin .eql (.t 3) (.c (.int .i64 0)))]) (.cond (.t 4) (.seq (.ops [oA 5 (.call n_3d []),oM 2 5]) (.ret)) (.skip))) (c0_3b))
def f_3b : F := ⟨c_3b, [.t 2], some []⟩
theorem h_3b : compF Tryz.prog (compAny Tryz.prog) n_3b = some (f_3b.body, f_3b.res) := by kernel_rfl
def c0_3e : C :=
 .seq (.seq (.ops [oM 28 5,oA 29 (.bin .eql (.t 28) (.c (.int .i64 16)))]) (.cond (.t 29) (.seq (.ops [oM 30 3,oA 31 (.bin .add (.c (.int .i64 64)) (.t 30)),oM 2 31]) (.ret)) (.skip))) (.seq (.ops [oM 32 5,oM 2 32]) (.ret))
def c1_3e : C :=
 .seq (.ops [oA 24 (.bin .eql (.t 18) (.c (.int .u32 1))),oM 23 24]) (.cond (.t 23) (.seq (.ops [oM 25 4,oM 2 25]) (.ret)) (.seq (.ops [oA 27 (.bin .eql (.t 18) (.c (.int .u32 16))),oM 26 27]) (.cond (.t 26) (c0_3e) (.skip))))
def c2_3e : C :=
 .block 0 (.seq (.seq (.ops [oA 20 (.bin .eql (.t 18) (.c (.int .u32 0))),oM 19 20]) (.cond (.t 19) (.skip) (.ops [oA 21 (.bin .eql (.t 18) (.c (.int .u32 28))),oM 19 21]))) (.cond (.t 19) (.seq (.ops [oM 22 3,oM 2 22]) (.ret)) (c1_3e)))
def c3_3e : C :=
 .seq (.ops [oM 6 0,oA 7 (.bin .and (.t 6) (.c (.int .u32 63))),oA 8 (.conv .i64 (.t 7)),oM 9 0,oA 10 (.bin .shr (.t 9) (.c (.int .u64 16))),oA 11 (.bin .and (.t 10) (.c (.int .u32 31))),oA 12 (.conv .i64 (.t 11)),oM 13 0,oA 14 (.bin .shr (.t 13) (.c (.int .u64 21))),oA 15 (.bin .and (.t 14) (.c (.int .u32 31))),oA 16 (.conv .i64 (.t 15)),oM 3 8,oM 4 12,oM 5 16]) (.seq (.seq (.ops [oM 17 0,oA 18 (.bin .shr (.t 17) (.c (.int .u64 26)))]) (c2_3e)) (.seq (.ops [oA 2 (.mov (.c (.int .i64 0)))]) (.ret)))
def c_3e : C :=
 .seq (.ops [oA 2 (.mov (.c (.int .i64 0)))]) (c3_3e)
def f_3e : F := ⟨c_3e, [.t 2], some []⟩
theorem h_3e : compF Tryz.prog (compAny Tryz.prog) n_3e = some (f_3e.body, f_3e.res) := by kernel_rfl
def c0_38 : C :=
 .seq (.block 1 (.seq (.ops [oM 12 0,oM 13 5,oA 14 (.ixs (.t 12) (.t 13)),oM 15 1,oA 16 (.bin .eql (.t 14) (.t 15))]) (.cond (.t 16) (.seq (.ops [oA 4 (.mov (.c (.bool true)))]) (.ret)) (.skip)))) (.ops [oM 10 5,oA 11 (.bin .add (.t 10) (.c (.int .i64 1))),oM 5 11])
def c1_38 : C :=
 .seq (.seq (.ops [oM 6 5,oM 7 0,oA 8 (.len 0 (.t 7)),oA 9 (.bin .lss (.t 6) (.t 8))]) (.cond (.t 9) (.skip) (.exit 0))) (c0_38)
def c_38 : C :=
 .seq (.ops [oA 4 (.mov (.c (.bool false)))]) (.seq (.seq (.ops [oA 5 (.mov (.c (.int .i64 0)))]) (.block 0 (.loop c1_38))) (.seq (.ops [oA 4 (.mov (.c (.bool false)))]) (.ret)))
def f_38 : F := ⟨c_38, [.t 4], some []⟩
theorem h_38 : compF Tryz.prog (compAny Tryz.prog) n_38 = some (f_38.body, f_38.res) := by kernel_rfl
def c0_2t : C :=
 .seq (.block 1 (.ops [oM 15 0,oA 16 (.bin .shr (.t 15) (.c (.int .u64 1))),oM 17 0,oA 18 (.bin .and (.t 17) (.c (.int .u32 2147483648))),oA 19 (.bin .or (.t 16) (.t 18)),oM 0 19])) (.ops [oM 13 5,oA 14 (.bin .sub (.t 13) (.c (.int .u64 1))),oM 5 14])
def c1_2t : C :=
 .seq (.seq (.ops [oM 11 5,oA 12 (.bin .gtr (.t 11) (.c (.int .u64 0)))]) (.cond (.t 12) (.skip) (.exit 0))) (c0_2t)
def c2_2t : C :=
 .seq (.ops [oM 6 1,oA 7 (.bin .rem (.t 6) (.c (.int .i64 32))),oA 8 (.bin .add (.t 7) (.c (.int .i64 32))),oA 9 (.bin .rem (.t 8) (.c (.int .i64 32))),oA 10 (.conv .u64 (.t 9)),oM 5 10]) (.seq (.block 0 (.loop c1_2t)) (.seq (.ops [oM 20 0,oM 4 20]) (.ret)))
def c_2t : C :=
 .seq (.ops [oA 4 (.mov (.c (.int .u32 0)))]) (c2_2t)
def f_2t : F := ⟨c_2t, [.t 4], some []⟩
theorem h_2t : compF Tryz.prog (compAny Tryz.prog) n_2t = some (f_2t.body, f_2t.res) := by kernel_rfl
def c_2m : C :=
 .seq (.ops [oA 2 (.mov (.c (.int .u32 0)))]) (.seq (.seq (.ops [oM 3 0]) (.cond (.t 3) (.seq (.ops [oA 2 (.mov (.c (.int .u32 1)))]) (.ret)) (.skip))) (.seq (.ops [oA 2 (.mov (.c (.int .u32 0)))]) (.ret)))
def f_2m : F := ⟨c_2m, [.t 2], some []⟩
theorem h_2m : compF Tryz.prog (compAny Tryz.prog) n_2m = some (f_2m.body, f_2m.res) := by kernel_rfl
def c0_2q : C :=
 .seq (.ops [oM 7 0,oM 8 2,oA 9 (.call n_2v [(.t 7),(.t 8)]),oM 10 1,oM 11 2,oA 12 (.call n_2v [(.t 10),(.t 11)]),oA 13 (.bin .lss (.t 9) (.t 12)),oM 6 13]) (.ret)
def c_2q : C :=
 .seq (.ops [oA 6 (.mov (.c (.bool false)))]) (c0_2q)
def f_2q : F := ⟨c_2q, [.t 6], some []⟩
theorem h_2q : compF Tryz.prog (compAny Tryz.prog) n_2q = some (f_2q.body, f_2q.res) := by kernel_rfl
def c0_2r : C :=
 .seq (.seq (.ops [oM 26 2,oM 27 26,oT 28 27 (.mov (.t 1)),oT 29 27 (.bin .geq (.t 28) (.c (.int .u32 2147483648))),oA 30 (.pick (.t 27) (.t 29) (.c (.bool false)))]) (.cond (.t 30) (.ops [oM 31 9,oM 32 0,oA 33 (.bin .sub (.t 31) (.t 32)),oM 9 33]) (.skip))) (.seq (.ops [oM 34 9,oM 35 8,oA 36 (.conv .u32 (.t 35)),oM 6 34,oM 7 36]) (.ret))
def c1_2r : C :=
 .seq (.seq (.ops [oM 18 2,oM 19 18,oT 20 19 (.mov (.t 0)),oT 21 19 (.bin .geq (.t 20) (.c (.int .u32 2147483648))),oA 22 (.pick (.t 19) (.t 21) (.c (.bool false)))]) (.cond (.t 22) (.ops [oM 23 9,oM 24 1,oA 25 (.bin .sub (.t 23) (.t 24)),oM 9 25]) (.skip))) (c0_2r)
def c2_2r : C :=
 .seq (.ops [oM 10 0,oA 11 (.conv .u64 (.t 10)),oM 12 1,oA 13 (.conv .u64 (.t 12)),oA 14 (.bin .mul (.t 11) (.t 13)),oM 8 14]) (.seq (.ops [oM 15 8,oA 16 (.bin .shr (.t 15) (.c (.int .u64 32))),oA 17 (.conv .u32 (.t 16)),oM 9 17]) (c1_2r))
def c_2r : C :=
 .seq (.ops [oA 6 (.mov (.c (.int .u32 0))),oA 7 (.mov (.c (.int .u32 0)))]) (c2_2r)
def f_2r : F := ⟨c_2r, [.t 6, .t 7], some []⟩
theorem h_2r : compF Tryz.prog (compAny Tryz.prog) n_2r = some (f_2r.body, f_2r.res) := by kernel_rfl
def c0_2o : C :=
 .seq (.block 1 (.seq (.seq (.ops [oM 9 0,oM 10 4,oA 11 (.conv .u64 (.t 10)),oA 12 (.bin .shr (.t 9) (.t 11)),oA 13 (.bin .and (.t 12) (.c (.int .u32 1))),oA 14 (.bin .eql (.t 13) (.c (.int .u32 1)))]) (.cond (.t 14) (.seq (.ops [oM 15 3,oM 2 15]) (.ret)) (.skip))) (.ops [oM 16 3,oA 17 (.bin .add (.t 16) (.c (.int .i64 1))),oM 3 17]))) (.ops [oM 7 4,oA 8 (.bin .sub (.t 7) (.c (.int .i64 1))),oM 4 8])
def c1_2o : C :=
 .seq (.seq (.ops [oM 5 4,oA 6 (.bin .geq (.t 5) (.c (.int .i64 0)))]) (.cond (.t 6) (.skip) (.exit 0))) (c0_2o)
def c_2o : C :=
 .seq (.ops [oA 2 (.mov (.c (.int .i64 0)))]) (.seq (.ops [oA 3 (.mov (.c (.int .i64 0)))]) (.seq (.seq (.ops [oA 4 (.mov (.c (.int .i64 31)))]) (.block 0 (.loop c1_2o))) (.seq (.ops [oM 18 3,oM 2 18]) (.ret))))
def f_2o : F := ⟨c_2o, [.t 2], some []⟩
theorem h_2o : compF Tryz.prog (compAny Tryz.prog) n_2o = some (f_2o.body, f_2o.res) := by kernel_rfl
def c_2n : C :=
 .seq (.ops [oA 2 (.mov (.c (.int .i64 0)))]) (.seq (.ops [oM 3 0,oA 4 (.un .xor (.t 3)),oA 5 (.call n_2o [(.t 4)]),oM 2 5]) (.ret))
def f_2n : F := ⟨c_2n, [.t 2], some []⟩
theorem h_2n : compF Tryz.prog (compAny Tryz.prog) n_2n = some (f_2n.body, f_2n.res) := by kernel_rfl
def c0_2p : C :=
 .seq (.any 0 [.op 0 (oM 19 8),.op 1 (oM 20 9),.op 2 (oA 21 (.bin .quo (.t 19) (.t 20))),.op 3 (oA 22 (.conv .u32 (.t 21))),.op 4 (oM 23 8),.op 5 (oM 24 9),.op 6 (oA 25 (.bin .rem (.t 23) (.t 24))),.op 7 (oA 26 (.conv .u32 (.t 25))),.op 8 (oM 6 22),.op 9 (oM 7 26)]) (.ret)
def c1_2p : C :=
 .seq (.ops [oM 13 0,oM 14 2,oA 15 (.call n_2v [(.t 13),(.t 14)]),oM 16 1,oM 17 2,oA 18 (.call n_2v [(.t 16),(.t 17)]),oM 8 15,oM 9 18]) (c0_2p)
def c_2p : C :=
 .seq (.ops [oA 6 (.mov (.c (.int .u32 0))),oA 7 (.mov (.c (.int .u32 0)))]) (.seq (.seq (.ops [oM 10 1,oA 11 (.bin .eql (.t 10) (.c (.int .u32 0)))]) (.cond (.t 11) (.seq (.ops [oM 12 0,oA 6 (.mov (.c (.int .u32 4294967295))),oM 7 12]) (.ret)) (.skip))) (c1_2p))
def f_2p : F := ⟨c_2p, [.t 6, .t 7], some []⟩
theorem h_2p : compF Tryz.prog (compAny Tryz.prog) n_2p = some (f_2p.body, f_2p.res) := by kernel_rfl
def c0_3m : C :=
 .cond (.t 36) (.seq (.ops [oM 38 1,oM 39 2,oA 40 (.bin .eql (.t 38) (.t 39)),oM 6 40]) (.ret)) (.seq (.ops [oA 42 (.bin .eql (.t 8) (.c (.int .i64 35))),oM 41 42]) (.cond (.t 41) (.seq (.ops [oM 43 1,oM 44 2,oA 45 (.bin .neq (.t 43) (.t 44)),oM 6 45]) (.ret)) (.skip)))
def c1_3m : C :=
 .cond (.t 31) (.seq (.ops [oM 33 1,oM 34 2,oA 35 (.call n_2q [(.t 33),(.t 34),(.c (.bool true))]),oM 6 35]) (.ret)) (.seq (.ops [oA 37 (.bin .eql (.t 8) (.c (.int .i64 34))),oM 36 37]) (c0_3m))
def c2_3m : C :=
 .cond (.t 25) (.seq (.ops [oM 27 1,oM 28 2,oA 29 (.call n_2q [(.t 27),(.t 28),(.c (.bool true))]),oA 30 (.un .not (.t 29)),oM 6 30]) (.ret)) (.seq (.ops [oA 32 (.bin .eql (.t 8) (.c (.int .i64 33))),oM 31 32]) (c1_3m))
def c3_3m : C :=
 .cond (.t 18) (.seq (.ops [oM 20 1,oA 21 (.fa 5 (.t 3)),oA 22 (.ld (.t 21)),oA 23 (.call n_2u [(.t 22),(.c (.int .i64 16))]),oA 24 (.call n_2s [(.t 20),(.t 23),(.c (.bool false))]),oM 6 24]) (.ret)) (.seq (.ops [oA 26 (.bin .eql (.t 8) (.c (.int .i64 32))),oM 25 26]) (c2_3m))
def c4_3m : C :=
 .cond (.t 9) (.seq (.ops [oM 12 1,oM 13 2,oA 14 (.fa 0 (.t 3)),oA 15 (.ld (.t 14)),oA 16 (.bin .eql (.t 15) (.c (.int .i64 24))),oA 17 (.call n_2s [(.t 12),(.t 13),(.t 16)]),oM 6 17]) (.ret)) (.seq (.ops [oA 19 (.bin .eql (.t 8) (.c (.int .i64 46))),oM 18 19]) (c3_3m))
def c5_3m : C :=
 .seq (.seq (.ops [oA 7 (.fa 0 (.t 3)),oA 8 (.ld (.t 7))]) (.block 0 (.seq (.seq (.ops [oA 10 (.bin .eql (.t 8) (.c (.int .i64 22))),oM 9 10]) (.cond (.t 9) (.skip) (.ops [oA 11 (.bin .eql (.t 8) (.c (.int .i64 24))),oM 9 11]))) (c4_3m)))) (.seq (.ops [oA 6 (.mov (.c (.bool false)))]) (.ret))
def c_3m : C :=
 .seq (.ops [oA 3 (.box (.t 0)),oA 6 (.mov (.c (.bool false)))]) (c5_3m)
def f_3m : F := ⟨c_3m, [.t 6], some []⟩
theorem h_3m : compF Tryz.prog (compAny Tryz.prog) n_3m = some (f_3m.body, f_3m.res) := by kernel_rfl
def c0_2u : C :=
 .seq (.seq (.ops [oM 17 5,oM 18 1,oA 19 (.bin .sub (.t 18) (.c (.int .i64 1))),oA 20 (.conv .u64 (.t 19)),oA 21 (.bin .shr (.t 17) (.t 20)),oA 22 (.bin .eql (.t 21) (.c (.int .u32 1)))]) (.cond (.t 22) (.seq (.ops [oM 23 5,oM 24 1,oA 25 (.conv .u64 (.t 24)),oA 26 (.bin .shl (.c (.int .u32 1)) (.t 25)),oA 27 (.bin .sub (.t 23) (.t 26)),oM 4 27]) (.ret)) (.skip))) (.seq (.ops [oM 28 5,oM 4 28]) (.ret))
def c1_2u : C :=
 .seq (.ops [oM 11 0,oM 12 1,oA 13 (.conv .u64 (.t 12)),oA 14 (.bin .shl (.c (.int .u32 1)) (.t 13)),oA 15 (.bin .sub (.t 14) (.c (.int .u32 1))),oA 16 (.bin .and (.t 11) (.t 15)),oM 5 16]) (c0_2u)
def c2_2u : C :=
 .seq (.seq (.ops [oM 6 1,oA 7 (.bin .lss (.t 6) (.c (.int .i64 1)))]) (.cond (.t 7) (.seq (.ops [oA 4 (.mov (.c (.int .u32 0)))]) (.ret)) (.skip))) (.seq (.seq (.ops [oM 8 1,oA 9 (.bin .gtr (.t 8) (.c (.int .i64 31)))]) (.cond (.t 9) (.seq (.ops [oM 10 0,oM 4 10]) (.ret)) (.skip))) (c1_2u))
def c_2u : C :=
 .seq (.ops [oA 4 (.mov (.c (.int .u32 0)))]) (c2_2u)
def f_2u : F := ⟨c_2u, [.t 4], some []⟩
theorem h_2u : compF Tryz.prog (compAny Tryz.prog) n_2u = some (f_2u.body, f_2u.res) := by kernel_rfl
def c0_2d : C :=
 .cond (.t 11) (.ops [oM 12 0,oM 13 1,oM 14 2,oA 15 (.nilc (.t 12)),oA 16 (.fa 0 (.t 15)),oA 17 (.fa 0 (.t 16)),oA 18 (.iaa 32 1 (.t 17) (.t 13)),oS (.st (.t 18) (.t 14))]) (.skip)
def c_2d : C :=
 .seq (.ops [oM 6 1,oA 7 (.bin .gtr (.t 6) (.c (.int .i64 0))),oM 8 7,oT 9 8 (.mov (.t 1)),oT 10 8 (.bin .lss (.t 9) (.c (.int .i64 32))),oA 11 (.pick (.t 8) (.t 10) (.c (.bool false)))]) (c0_2d)
def f_2d : F := ⟨c_2d, [], some []⟩
theorem h_2d : compF Tryz.prog (compAny Tryz.prog) n_2d = some (f_2d.body, f_2d.res) := by kernel_rfl
def c0_3x : C :=
 .seq (.any 0 [.op 0 (oM 4 0),.op 1 (oA 5 (.nilc (.t 4))),.op 2 (oA 6 (.fa 39 (.t 5))),.op 3 (oA 7 (.iaa 16 1 (.t 6) (.c (.int .i64 11)))),.op 4 (oA 8 (.ld (.t 7))),.op 5 (oM 9 0),.op 6 (oA 10 (.nilc (.t 9))),.op 7 (oA 11 (.fa 39 (.t 10))),.op 8 (oA 12 (.iaa 16 1 (.t 11) (.c (.int .i64 9)))),.op 9 (oA 13 (.ld (.t 12))),.op 10 (oA 14 (.bin .sub (.t 8) (.t 13))),.op 11 (oA 15 (.conv .i64 (.t 14))),.op 12 (oM 3 15)]) (.seq (.seq (.ops [oM 16 3,oA 17 (.bin .eql (.t 16) (.c (.int .i64 0)))]) (.cond (.t 17) (.seq (.ops [oA 2 (.mov (.c (.int .i64 4294967296)))]) (.ret)) (.skip))) (.seq (.ops [oM 18 3,oM 2 18]) (.ret)))
def c_3x : C :=
 .seq (.ops [oA 2 (.mov (.c (.int .i64 0)))]) (c0_3x)
def f_3x : F := ⟨c_3x, [.t 2], some []⟩
theorem h_3x : compF Tryz.prog (compAny Tryz.prog) n_3x = some (f_3x.body, f_3x.res) := by kernel_rfl
def c0_3f : C :=
 .seq (.ops [oA 24 (.fa 0 (.t 3)),oA 25 (.ld (.t 24)),oA 26 (.bin .sub (.t 25) (.c (.int .i64 1))),oM 27 2,oA 28 (.fa 4 (.t 3)),oA 29 (.ld (.t 28)),oA 30 (.call n_3o [(.t 26),(.t 27),(.t 29)]),oM 6 30,oA 7 (.mov (.c (.bool true)))]) (.ret)
def c1_3f : C :=
 .seq (.ops [oA 35 (.fa 0 (.t 3)),oA 36 (.ld (.t 35)),oA 37 (.bin .sub (.t 36) (.c (.int .i64 4))),oM 38 2,oM 39 1,oA 40 (.bin .rem (.t 39) (.c (.int .u32 32))),oA 41 (.conv .i64 (.t 40)),oA 42 (.call n_3o [(.t 37),(.t 38),(.t 41)]),oM 6 42,oA 7 (.mov (.c (.bool true)))]) (.ret)
def c2_3f : C :=
 .seq (.ops [oM 79 1,oM 80 2,oA 81 (.fa 0 (.t 3)),oA 82 (.ld (.t 81)),oA 83 (.bin .eql (.t 82) (.c (.int .i64 30))),oA 84 (.call n_2q [(.t 79),(.t 80),(.t 83)]),oA 85 (.call n_3n [(.t 84)]),oM 6 85,oA 7 (.mov (.c (.bool true)))]) (.ret)
def c3_3f : C :=
 .seq (.ops [oM 95 1,oM 96 8,oA 97 (.fa 0 (.t 3)),oA 98 (.ld (.t 97)),oA 99 (.bin .eql (.t 98) (.c (.int .i64 48))),oA 100 (.call n_2q [(.t 95),(.t 96),(.t 99)]),oA 101 (.call n_3n [(.t 100)]),oM 6 101,oA 7 (.mov (.c (.bool true)))]) (.ret)
def c4_3f : C :=
 .seq (.ops [oM 124 1,oM 125 2,oA 126 (.call n_2r [(.t 124),(.t 125),(.c (.bool true))]),oM 123 126,oA 127 (.ext (.t 123) 0),oA 128 (.ext (.t 123) 1),oM 10 127,oM 11 128]) (.seq (.ops [oM 129 11,oM 6 129,oA 7 (.mov (.c (.bool true)))]) (.ret))
def c5_3f : C :=
 .seq (.ops [oA 136 (.bin .eql (.t 19) (.c (.int .i64 65))),oM 135 136]) (.cond (.t 135) (.seq (.ops [oM 137 1,oA 138 (.call n_2n [(.t 137)]),oA 139 (.conv .u32 (.t 138)),oM 6 139,oA 7 (.mov (.c (.bool true)))]) (.ret)) (.skip))
def c6_3f : C :=
 .seq (.ops [oA 131 (.bin .eql (.t 19) (.c (.int .i64 64))),oM 130 131]) (.cond (.t 130) (.seq (.ops [oM 132 1,oA 133 (.call n_2o [(.t 132)]),oA 134 (.conv .u32 (.t 133)),oM 6 134,oA 7 (.mov (.c (.bool true)))]) (.ret)) (c5_3f))
def c7_3f : C :=
 .cond (.t 117) (.seq (.ops [oM 119 9,oA 120 (.bin .shl (.t 119) (.c (.int .u64 16))),oM 6 120,oA 7 (.mov (.c (.bool true)))]) (.ret)) (.seq (.ops [oA 122 (.bin .eql (.t 19) (.c (.int .i64 63))),oM 121 122]) (.cond (.t 121) (c4_3f) (c6_3f)))
def c8_3f : C :=
 .cond (.t 112) (.seq (.ops [oM 114 1,oM 115 9,oA 116 (.bin .xor (.t 114) (.t 115)),oM 6 116,oA 7 (.mov (.c (.bool true)))]) (.ret)) (.seq (.ops [oA 118 (.bin .eql (.t 19) (.c (.int .i64 53))),oM 117 118]) (c7_3f))
def c9_3f : C :=
 .cond (.t 107) (.seq (.ops [oM 109 1,oM 110 9,oA 111 (.bin .or (.t 109) (.t 110)),oM 6 111,oA 7 (.mov (.c (.bool true)))]) (.ret)) (.seq (.ops [oA 113 (.bin .eql (.t 19) (.c (.int .i64 52))),oM 112 113]) (c8_3f))
def c10_3f : C :=
 .cond (.t 102) (.seq (.ops [oM 104 1,oM 105 9,oA 106 (.bin .and (.t 104) (.t 105)),oM 6 106,oA 7 (.mov (.c (.bool true)))]) (.ret)) (.seq (.ops [oA 108 (.bin .eql (.t 19) (.c (.int .i64 51))),oM 107 108]) (c9_3f))
def c11_3f : C :=
 .seq (.seq (.ops [oA 93 (.bin .eql (.t 19) (.c (.int .i64 48))),oM 92 93]) (.cond (.t 92) (.skip) (.ops [oA 94 (.bin .eql (.t 19) (.c (.int .i64 49))),oM 92 94]))) (.cond (.t 92) (c3_3f) (.seq (.ops [oA 103 (.bin .eql (.t 19) (.c (.int .i64 50))),oM 102 103]) (c10_3f)))
def c12_3f : C :=
 .seq (.seq (.ops [oA 87 (.bin .eql (.t 19) (.c (.int .i64 46))),oM 86 87]) (.cond (.t 86) (.skip) (.ops [oA 88 (.bin .eql (.t 19) (.c (.int .i64 47))),oM 86 88]))) (.cond (.t 86) (.seq (.ops [oM 89 1,oM 90 8,oA 91 (.bin .add (.t 89) (.t 90)),oM 6 91,oA 7 (.mov (.c (.bool true)))]) (.ret)) (c11_3f))
def c13_3f : C :=
 .cond (.t 70) (.seq (.ops [oM 72 1,oM 73 2,oA 74 (.bin .or (.t 72) (.t 73)),oA 75 (.un .xor (.t 74)),oM 6 75,oA 7 (.mov (.c (.bool true)))]) (.ret)) (.seq (.seq (.ops [oA 77 (.bin .eql (.t 19) (.c (.int .i64 30))),oM 76 77]) (.cond (.t 76) (.skip) (.ops [oA 78 (.bin .eql (.t 19) (.c (.int .i64 31))),oM 76 78]))) (.cond (.t 76) (c2_3f) (c12_3f)))
def c14_3f : C :=
 .cond (.t 65) (.seq (.ops [oM 67 1,oM 68 2,oA 69 (.bin .xor (.t 67) (.t 68)),oM 6 69,oA 7 (.mov (.c (.bool true)))]) (.ret)) (.seq (.ops [oA 71 (.bin .eql (.t 19) (.c (.int .i64 29))),oM 70 71]) (c13_3f))
def c15_3f : C :=
 .cond (.t 60) (.seq (.ops [oM 62 1,oM 63 2,oA 64 (.bin .or (.t 62) (.t 63)),oM 6 64,oA 7 (.mov (.c (.bool true)))]) (.ret)) (.seq (.ops [oA 66 (.bin .eql (.t 19) (.c (.int .i64 28))),oM 65 66]) (c14_3f))
def c16_3f : C :=
 .cond (.t 55) (.seq (.ops [oM 57 1,oM 58 2,oA 59 (.bin .and (.t 57) (.t 58)),oM 6 59,oA 7 (.mov (.c (.bool true)))]) (.ret)) (.seq (.ops [oA 61 (.bin .eql (.t 19) (.c (.int .i64 27))),oM 60 61]) (c15_3f))
def c17_3f : C :=
 .cond (.t 49) (.seq (.ops [oM 52 1,oM 53 2,oA 54 (.bin .sub (.t 52) (.t 53)),oM 6 54,oA 7 (.mov (.c (.bool true)))]) (.ret)) (.seq (.ops [oA 56 (.bin .eql (.t 19) (.c (.int .i64 26))),oM 55 56]) (c16_3f))
def c18_3f : C :=
 .cond (.t 43) (.seq (.ops [oM 46 1,oM 47 2,oA 48 (.bin .add (.t 46) (.t 47)),oM 6 48,oA 7 (.mov (.c (.bool true)))]) (.ret)) (.seq (.seq (.ops [oA 50 (.bin .eql (.t 19) (.c (.int .i64 24))),oM 49 50]) (.cond (.t 49) (.skip) (.ops [oA 51 (.bin .eql (.t 19) (.c (.int .i64 25))),oM 49 51]))) (c17_3f))
def c19_3f : C :=
 .seq (.seq (.ops [oA 32 (.bin .eql (.t 19) (.c (.int .i64 4))),oM 31 32]) (.cond (.t 31) (.skip) (.seq (.ops [oA 33 (.bin .eql (.t 19) (.c (.int .i64 5))),oM 31 33]) (.cond (.t 31) (.skip) (.ops [oA 34 (.bin .eql (.t 19) (.c (.int .i64 6))),oM 31 34]))))) (.cond (.t 31) (c1_3f) (.seq (.seq (.ops [oA 44 (.bin .eql (.t 19) (.c (.int .i64 22))),oM 43 44]) (.cond (.t 43) (.skip) (.ops [oA 45 (.bin .eql (.t 19) (.c (.int .i64 23))),oM 43 45]))) (c18_3f)))
def c20_3f : C :=
 .block 0 (.seq (.seq (.ops [oA 21 (.bin .eql (.t 19) (.c (.int .i64 1))),oM 20 21]) (.cond (.t 20) (.skip) (.seq (.ops [oA 22 (.bin .eql (.t 19) (.c (.int .i64 2))),oM 20 22]) (.cond (.t 20) (.skip) (.ops [oA 23 (.bin .eql (.t 19) (.c (.int .i64 3))),oM 20 23]))))) (.cond (.t 20) (c0_3f) (c19_3f)))
def c21_3f : C :=
 .seq (.ops [oA 15 (.fa 5 (.t 3)),oA 16 (.ld (.t 15)),oA 17 (.bin .and (.t 16) (.c (.int .u32 65535))),oM 9 17]) (.seq (.seq (.ops [oA 18 (.fa 0 (.t 3)),oA 19 (.ld (.t 18))]) (c20_3f)) (.seq (.ops [oA 6 (.mov (.c (.int .u32 0))),oA 7 (.mov (.c (.bool false)))]) (.ret)))
def c_3f : C :=
 .seq (.ops [oA 3 (.box (.t 0)),oA 6 (.mov (.c (.int .u32 0))),oA 7 (.mov (.c (.bool false)))]) (.seq (.ops [oA 12 (.fa 5 (.t 3)),oA 13 (.ld (.t 12)),oA 14 (.call n_2u [(.t 13),(.c (.int .i64 16))]),oM 8 14]) (c21_3f))
def f_3f : F := ⟨c_3f, [.t 6, .t 7], some []⟩
theorem h_3f : compF Tryz.prog (compAny Tryz.prog) n_3f = some (f_3f.body, f_3f.res) := by kernel_rfl
def c0_3h : C :=
 .seq (.seq (.ops [oA 7 (.fa 0 (.t 1)),oA 8 (.ld (.t 7)),oA 9 (.bin .geq (.t 8) (.c (.int .i64 46))),oM 10 9,oT 11 10 (.fa 0 (.t 1)),oT 12 10 (.ld (.t 11)),oT 13 10 (.bin .leq (.t 12) (.c (.int .i64 53))),oA 14 (.pick (.t 10) (.t 13) (.c (.bool false)))]) (.cond (.t 14) (.seq (.ops [oA 15 (.fa 2 (.t 1)),oA 16 (.ld (.t 15)),oM 2 16]) (.ret)) (.skip))) (.seq (.ops [oA 17 (.fa 3 (.t 1)),oA 18 (.ld (.t 17)),oM 2 18]) (.ret))
def c_3h : C :=
 .seq (.ops [oA 1 (.box (.t 0)),oA 2 (.mov (.c (.int .i64 0)))]) (.seq (.seq (.ops [oA 3 (.fa 0 (.t 1)),oA 4 (.ld (.t 3)),oA 5 (.call n_3i [(.t 4)]),oA 6 (.un .not (.t 5))]) (.cond (.t 6) (.seq (.ops [oA 2 (.mov (.c (.int .i64 0)))]) (.ret)) (.skip))) (c0_3h))
def f_3h : F := ⟨c_3h, [.t 2], some []⟩
theorem h_3h : compF Tryz.prog (compAny Tryz.prog) n_3h = some (f_3h.body, f_3h.res) := by kernel_rfl
def c0_3g : C :=
 .seq (.ops [oM 23 1,oM 24 2,oA 25 (.fa 0 (.t 5)),oA 26 (.ld (.t 25)),oA 27 (.bin .eql (.t 26) (.c (.int .i64 18))),oA 28 (.call n_2r [(.t 23),(.t 24),(.t 27)]),oM 22 28,oA 29 (.ext (.t 22) 0),oA 30 (.ext (.t 22) 1),oM 13 29,oM 14 30]) (.seq (.ops [oM 31 13,oM 32 14,oM 10 31,oM 11 32,oA 12 (.mov (.c (.bool true)))]) (.ret))
def c1_3g : C :=
 .seq (.ops [oM 37 1,oM 38 2,oA 39 (.fa 0 (.t 5)),oA 40 (.ld (.t 39)),oA 41 (.bin .eql (.t 40) (.c (.int .i64 20))),oA 42 (.call n_2p [(.t 37),(.t 38),(.t 41)]),oM 36 42,oA 43 (.ext (.t 36) 0),oA 44 (.ext (.t 36) 1),oM 15 43,oM 16 44]) (.seq (.ops [oM 45 16,oM 46 15,oM 10 45,oM 11 46,oA 12 (.mov (.c (.bool true)))]) (.ret))
def c2_3g : C :=
 .seq (.ops [oA 52 (.bin .eql (.t 18) (.c (.int .i64 17))),oM 51 52]) (.cond (.t 51) (.seq (.ops [oM 53 3,oM 54 1,oM 10 53,oM 11 54,oA 12 (.mov (.c (.bool true)))]) (.ret)) (.skip))
def c3_3g : C :=
 .seq (.ops [oA 48 (.bin .eql (.t 18) (.c (.int .i64 15))),oM 47 48]) (.cond (.t 47) (.seq (.ops [oM 49 1,oM 50 4,oM 10 49,oM 11 50,oA 12 (.mov (.c (.bool true)))]) (.ret)) (c2_3g))
def c4_3g : C :=
 .block 0 (.seq (.seq (.ops [oA 20 (.bin .eql (.t 18) (.c (.int .i64 18))),oM 19 20]) (.cond (.t 19) (.skip) (.ops [oA 21 (.bin .eql (.t 18) (.c (.int .i64 19))),oM 19 21]))) (.cond (.t 19) (c0_3g) (.seq (.seq (.ops [oA 34 (.bin .eql (.t 18) (.c (.int .i64 20))),oM 33 34]) (.cond (.t 33) (.skip) (.ops [oA 35 (.bin .eql (.t 18) (.c (.int .i64 21))),oM 33 35]))) (.cond (.t 33) (c1_3g) (c3_3g)))))
def c_3g : C :=
 .seq (.ops [oA 5 (.box (.t 0)),oA 10 (.mov (.c (.int .u32 0))),oA 11 (.mov (.c (.int .u32 0))),oA 12 (.mov (.c (.bool false)))]) (.seq (.seq (.ops [oA 17 (.fa 0 (.t 5)),oA 18 (.ld (.t 17))]) (c4_3g)) (.seq (.ops [oM 55 3,oM 56 4,oM 10 55,oM 11 56,oA 12 (.mov (.c (.bool false)))]) (.ret)))
def f_3g : F := ⟨c_3g, [.t 10, .t 11, .t 12], some []⟩
theorem h_3g : compF Tryz.prog (compAny Tryz.prog) n_3g = some (f_3g.body, f_3g.res) := by kernel_rfl
def c0_3k : C :=
 .seq (.ops [oA 14 (.bin .eql (.t 11) (.c (.int .i64 41))),oM 12 14]) (.cond (.t 12) (.skip) (.seq (.ops [oA 15 (.bin .eql (.t 11) (.c (.int .i64 7))),oM 12 15]) (.cond (.t 12) (.skip) (.ops [oA 16 (.bin .eql (.t 11) (.c (.int .i64 8))),oM 12 16]))))
def c1_3k : C :=
 .seq (.ops [oM 45 7,oA 46 (.un .not (.t 45)),oM 47 46,oT 48 47 (.mov (.t 1)),oT 49 47 (.bin .neq (.t 48) (.c (.int .u32 0))),oA 50 (.pick (.t 47) (.t 49) (.c (.bool false))),oM 6 50]) (.ret)
def c2_3k : C :=
 .cond (.t 36) (.seq (.ops [oM 38 7,oM 39 38,oF 40 39 (.mov (.t 1)),oF 41 39 (.bin .eql (.t 40) (.c (.int .u32 0))),oA 42 (.pick (.t 39) (.c (.bool true)) (.t 41)),oM 6 42]) (.ret)) (.seq (.ops [oA 44 (.bin .eql (.t 11) (.c (.int .i64 45))),oM 43 44]) (.cond (.t 43) (c1_3k) (.skip)))
def c3_3k : C :=
 .seq (.seq (.ops [oA 32 (.bin .eql (.t 11) (.c (.int .i64 37))),oM 31 32]) (.cond (.t 31) (.skip) (.ops [oA 33 (.bin .eql (.t 11) (.c (.int .i64 39))),oM 31 33]))) (.cond (.t 31) (.seq (.ops [oM 34 7,oA 35 (.un .not (.t 34)),oM 6 35]) (.ret)) (.seq (.ops [oA 37 (.bin .eql (.t 11) (.c (.int .i64 44))),oM 36 37]) (c2_3k)))
def c4_3k : C :=
 .seq (.seq (.ops [oA 28 (.bin .eql (.t 11) (.c (.int .i64 36))),oM 27 28]) (.cond (.t 27) (.skip) (.ops [oA 29 (.bin .eql (.t 11) (.c (.int .i64 38))),oM 27 29]))) (.cond (.t 27) (.seq (.ops [oM 30 7,oM 6 30]) (.ret)) (c3_3k))
def c5_3k : C :=
 .cond (.t 17) (.seq (.ops [oM 19 1,oM 20 2,oA 21 (.bin .eql (.t 19) (.t 20)),oM 6 21]) (.ret)) (.seq (.ops [oA 23 (.bin .eql (.t 11) (.c (.int .i64 43))),oM 22 23]) (.cond (.t 22) (.seq (.ops [oM 24 1,oM 25 2,oA 26 (.bin .neq (.t 24) (.t 25)),oM 6 26]) (.ret)) (c4_3k)))
def c6_3k : C :=
 .block 0 (.seq (.seq (.ops [oA 13 (.bin .eql (.t 11) (.c (.int .i64 40))),oM 12 13]) (.cond (.t 12) (.skip) (c0_3k))) (.cond (.t 12) (.seq (.ops [oA 6 (.mov (.c (.bool true)))]) (.ret)) (.seq (.ops [oA 18 (.bin .eql (.t 11) (.c (.int .i64 42))),oM 17 18]) (c5_3k))))
def c_3k : C :=
 .seq (.ops [oA 3 (.box (.t 0)),oA 6 (.mov (.c (.bool false)))]) (.seq (.ops [oM 8 1,oA 9 (.bin .geq (.t 8) (.c (.int .u32 2147483648))),oM 7 9]) (.seq (.seq (.ops [oA 10 (.fa 0 (.t 3)),oA 11 (.ld (.t 10))]) (c6_3k)) (.seq (.ops [oA 6 (.mov (.c (.bool false)))]) (.ret))))
def f_3k : F := ⟨c_3k, [.t 6], some []⟩
theorem h_3k : compF Tryz.prog (compAny Tryz.prog) n_3k = some (f_3k.body, f_3k.res) := by kernel_rfl
end Go.Proofs.YtmgoleiafiffoaaGreat.Cd

set_option maxRecDepth 100000
set_option linter.defProp false
namespace Go.Proofs.YtmgoleiafiffoaaGreat.Cd
open Go Go.Dx
def c0_3l : C :=
 .seq (.ops [oM 12 1,oA 13 (.bin .add (.t 12) (.c (.int .u32 4))),oA 14 (.bin .and (.t 13) (.c (.int .u32 4026531840))),oA 15 (.fa 5 (.t 3)),oA 16 (.ld (.t 15)),oA 17 (.bin .and (.t 16) (.c (.int .u32 67108863))),oA 18 (.bin .shl (.t 17) (.c (.int .u64 2))),oA 19 (.bin .or (.t 14) (.t 18)),oM 6 19]) (.ret)
def c1_3l : C :=
 .seq (.ops [oA 30 (.bin .eql (.t 8) (.c (.int .i64 39))),oM 24 30]) (.cond (.t 24) (.skip) (.seq (.ops [oA 31 (.bin .eql (.t 8) (.c (.int .i64 44))),oM 24 31]) (.cond (.t 24) (.skip) (.ops [oA 32 (.bin .eql (.t 8) (.c (.int .i64 45))),oM 24 32]))))
def c2_3l : C :=
 .seq (.ops [oA 27 (.bin .eql (.t 8) (.c (.int .i64 36))),oM 24 27]) (.cond (.t 24) (.skip) (.seq (.ops [oA 28 (.bin .eql (.t 8) (.c (.int .i64 37))),oM 24 28]) (.cond (.t 24) (.skip) (.seq (.ops [oA 29 (.bin .eql (.t 8) (.c (.int .i64 38))),oM 24 29]) (.cond (.t 24) (.skip) (c1_3l))))))
def c3_3l : C :=
 .seq (.ops [oM 33 1,oA 34 (.bin .add (.t 33) (.c (.int .u32 4))),oA 35 (.fa 5 (.t 3)),oA 36 (.ld (.t 35)),oA 37 (.call n_2u [(.t 36),(.c (.int .i64 16))]),oA 38 (.bin .mul (.c (.int .u32 4)) (.t 37)),oA 39 (.bin .add (.t 34) (.t 38)),oM 6 39]) (.ret)
def c4_3l : C :=
 .seq (.seq (.ops [oA 25 (.bin .eql (.t 8) (.c (.int .i64 42))),oM 24 25]) (.cond (.t 24) (.skip) (.seq (.ops [oA 26 (.bin .eql (.t 8) (.c (.int .i64 43))),oM 24 26]) (.cond (.t 24) (.skip) (c2_3l))))) (.cond (.t 24) (c3_3l) (.skip))
def c5_3l : C :=
 .seq (.seq (.ops [oA 21 (.bin .eql (.t 8) (.c (.int .i64 7))),oM 20 21]) (.cond (.t 20) (.skip) (.ops [oA 22 (.bin .eql (.t 8) (.c (.int .i64 8))),oM 20 22]))) (.cond (.t 20) (.seq (.ops [oM 23 2,oM 6 23]) (.ret)) (c4_3l))
def c6_3l : C :=
 .seq (.seq (.ops [oA 7 (.fa 0 (.t 3)),oA 8 (.ld (.t 7))]) (.block 0 (.seq (.seq (.ops [oA 10 (.bin .eql (.t 8) (.c (.int .i64 40))),oM 9 10]) (.cond (.t 9) (.skip) (.ops [oA 11 (.bin .eql (.t 8) (.c (.int .i64 41))),oM 9 11]))) (.cond (.t 9) (c0_3l) (c5_3l))))) (.seq (.ops [oM 40 1,oA 41 (.bin .add (.t 40) (.c (.int .u32 4))),oM 6 41]) (.ret))
def c_3l : C :=
 .seq (.ops [oA 3 (.box (.t 0)),oA 6 (.mov (.c (.int .u32 0)))]) (c6_3l)
def f_3l : F := ⟨c_3l, [.t 6], some []⟩
theorem h_3l : compF Tryz.prog (compAny Tryz.prog) n_3l = some (f_3l.body, f_3l.res) := by kernel_rfl
def c0_3j : C :=
 .cond (.t 6) (.seq (.ops [oA 2 (.mov (.c (.int .i64 31))),oA 3 (.mov (.c (.bool true)))]) (.ret)) (.seq (.ops [oA 11 (.bin .eql (.t 5) (.c (.int .i64 8))),oM 10 11]) (.cond (.t 10) (.seq (.ops [oA 12 (.fa 3 (.t 1)),oA 13 (.ld (.t 12)),oM 2 13,oA 3 (.mov (.c (.bool true)))]) (.ret)) (.skip)))
def c1_3j : C :=
 .block 0 (.seq (.seq (.ops [oA 7 (.bin .eql (.t 5) (.c (.int .i64 41))),oM 6 7]) (.cond (.t 6) (.skip) (.seq (.ops [oA 8 (.bin .eql (.t 5) (.c (.int .i64 38))),oM 6 8]) (.cond (.t 6) (.skip) (.ops [oA 9 (.bin .eql (.t 5) (.c (.int .i64 39))),oM 6 9]))))) (c0_3j))
def c_3j : C :=
 .seq (.ops [oA 1 (.box (.t 0)),oA 2 (.mov (.c (.int .i64 0))),oA 3 (.mov (.c (.bool false)))]) (.seq (.seq (.ops [oA 4 (.fa 0 (.t 1)),oA 5 (.ld (.t 4))]) (c1_3j)) (.seq (.ops [oA 2 (.mov (.c (.int .i64 0))),oA 3 (.mov (.c (.bool false)))]) (.ret)))
def f_3j : F := ⟨c_3j, [.t 2, .t 3], some []⟩
theorem h_3j : compF Tryz.prog (compAny Tryz.prog) n_3j = some (f_3j.body, f_3j.res) := by kernel_rfl
def c0_0c : C :=
 .seq (.ops [oM 130 0,oA 131 (.bin .eql (.t 130) (.c (.int .i64 54))),oM 132 131,oF 133 132 (.mov (.t 0)),oF 134 132 (.bin .eql (.t 133) (.c (.int .i64 55))),oA 135 (.pick (.t 132) (.c (.bool true)) (.t 134)),oM 129 135]) (.cond (.t 129) (.seq (.ops [oA 2 (.mov (.c (.int .i64 6)))]) (.ret)) (.skip))
def c1_0c : C :=
 .cond (.t 103) (.seq (.ops [oA 2 (.mov (.c (.int .i64 19)))]) (.ret)) (.seq (.ops [oM 127 0,oA 128 (.bin .eql (.t 127) (.c (.int .i64 53))),oM 126 128]) (.cond (.t 126) (.seq (.ops [oA 2 (.mov (.c (.int .i64 18)))]) (.ret)) (c0_0c)))
def c2_0c : C :=
 .seq (.ops [oM 104 0,oA 105 (.bin .eql (.t 104) (.c (.int .i64 42))),oM 106 105,oF 107 106 (.mov (.t 0)),oF 108 106 (.bin .eql (.t 107) (.c (.int .i64 43))),oA 109 (.pick (.t 106) (.c (.bool true)) (.t 108)),oM 110 109,oF 111 110 (.mov (.t 0)),oF 112 110 (.bin .geq (.t 111) (.c (.int .i64 46))),oF 113 110 (.mov (.t 112)),oT 114 113 (.mov (.t 0)),oT 115 113 (.bin .leq (.t 114) (.c (.int .i64 52))),oF 116 110 (.pick (.t 113) (.t 115) (.c (.bool false))),oA 117 (.pick (.t 110) (.c (.bool true)) (.t 116)),oM 118 117,oF 119 118 (.mov (.t 0)),oF 120 118 (.bin .geq (.t 119) (.c (.int .i64 66))),oF 121 118 (.mov (.t 120)),oT 122 121 (.mov (.t 0)),oT 123 121 (.bin .leq (.t 122) (.c (.int .i64 75))),oF 124 118 (.pick (.t 121) (.t 123) (.c (.bool false))),oA 125 (.pick (.t 118) (.c (.bool true)) (.t 124)),oM 103 125]) (c1_0c)
def c3_0c : C :=
 .seq (.ops [oM 97 0,oA 98 (.bin .eql (.t 97) (.c (.int .i64 40))),oM 99 98,oF 100 99 (.mov (.t 0)),oF 101 99 (.bin .eql (.t 100) (.c (.int .i64 41))),oA 102 (.pick (.t 99) (.c (.bool true)) (.t 101)),oM 96 102]) (.cond (.t 96) (.seq (.ops [oA 2 (.mov (.c (.int .i64 32)))]) (.ret)) (c2_0c))
def c4_0c : C :=
 .seq (.ops [oM 82 0,oA 83 (.bin .geq (.t 82) (.c (.int .i64 36))),oM 84 83,oT 85 84 (.mov (.t 0)),oT 86 84 (.bin .leq (.t 85) (.c (.int .i64 39))),oA 87 (.pick (.t 84) (.t 86) (.c (.bool false))),oM 88 87,oF 89 88 (.mov (.t 0)),oF 90 88 (.bin .eql (.t 89) (.c (.int .i64 44))),oA 91 (.pick (.t 88) (.c (.bool true)) (.t 90)),oM 92 91,oF 93 92 (.mov (.t 0)),oF 94 92 (.bin .eql (.t 93) (.c (.int .i64 45))),oA 95 (.pick (.t 92) (.c (.bool true)) (.t 94)),oM 81 95]) (.cond (.t 81) (.seq (.ops [oA 2 (.mov (.c (.int .i64 17)))]) (.ret)) (c3_0c))
def c5_0c : C :=
 .seq (.ops [oM 67 0,oA 68 (.bin .geq (.t 67) (.c (.int .i64 18))),oM 69 68,oT 70 69 (.mov (.t 0)),oT 71 69 (.bin .leq (.t 70) (.c (.int .i64 21))),oA 72 (.pick (.t 69) (.t 71) (.c (.bool false))),oM 73 72,oF 74 73 (.mov (.t 0)),oF 75 73 (.bin .geq (.t 74) (.c (.int .i64 32))),oF 76 73 (.mov (.t 75)),oT 77 76 (.mov (.t 0)),oT 78 76 (.bin .leq (.t 77) (.c (.int .i64 35))),oF 79 73 (.pick (.t 76) (.t 78) (.c (.bool false))),oA 80 (.pick (.t 73) (.c (.bool true)) (.t 79)),oM 66 80]) (.cond (.t 66) (.seq (.ops [oA 2 (.mov (.c (.int .i64 3)))]) (.ret)) (c4_0c))
def c6_0c : C :=
 .seq (.ops [oM 60 0,oA 61 (.bin .eql (.t 60) (.c (.int .i64 14))),oM 62 61,oF 63 62 (.mov (.t 0)),oF 64 62 (.bin .eql (.t 63) (.c (.int .i64 16))),oA 65 (.pick (.t 62) (.c (.bool true)) (.t 64)),oM 59 65]) (.cond (.t 59) (.seq (.ops [oA 2 (.mov (.c (.int .i64 4)))]) (.ret)) (c5_0c))
def c7_0c : C :=
 .seq (.ops [oM 49 0,oA 50 (.bin .eql (.t 49) (.c (.int .i64 8))),oM 51 50,oF 52 51 (.mov (.t 0)),oF 53 51 (.bin .eql (.t 52) (.c (.int .i64 64))),oA 54 (.pick (.t 51) (.c (.bool true)) (.t 53)),oM 55 54,oF 56 55 (.mov (.t 0)),oF 57 55 (.bin .eql (.t 56) (.c (.int .i64 65))),oA 58 (.pick (.t 55) (.c (.bool true)) (.t 57)),oM 48 58]) (.cond (.t 48) (.seq (.ops [oA 2 (.mov (.c (.int .i64 5)))]) (.ret)) (c6_0c))
def c8_0c : C :=
 .seq (.ops [oM 38 0,oA 39 (.bin .eql (.t 38) (.c (.int .i64 7))),oM 40 39,oF 41 40 (.mov (.t 0)),oF 42 40 (.bin .eql (.t 41) (.c (.int .i64 15))),oA 43 (.pick (.t 40) (.c (.bool true)) (.t 42)),oM 44 43,oF 45 44 (.mov (.t 0)),oF 46 44 (.bin .eql (.t 45) (.c (.int .i64 17))),oA 47 (.pick (.t 44) (.c (.bool true)) (.t 46)),oM 37 47]) (.cond (.t 37) (.seq (.ops [oA 2 (.mov (.c (.int .i64 1)))]) (.ret)) (c7_0c))
def c9_0c : C :=
 .seq (.ops [oM 11 0,oA 12 (.bin .geq (.t 11) (.c (.int .i64 4))),oM 13 12,oT 14 13 (.mov (.t 0)),oT 15 13 (.bin .leq (.t 14) (.c (.int .i64 6))),oA 16 (.pick (.t 13) (.t 15) (.c (.bool false))),oM 17 16,oF 18 17 (.mov (.t 0)),oF 19 17 (.bin .eql (.t 18) (.c (.int .i64 9))),oA 20 (.pick (.t 17) (.c (.bool true)) (.t 19)),oM 21 20,oF 22 21 (.mov (.t 0)),oF 23 21 (.bin .eql (.t 22) (.c (.int .i64 10))),oA 24 (.pick (.t 21) (.c (.bool true)) (.t 23)),oM 25 24,oF 26 25 (.mov (.t 0)),oF 27 25 (.bin .geq (.t 26) (.c (.int .i64 22))),oF 28 25 (.mov (.t 27)),oT 29 28 (.mov (.t 0)),oT 30 28 (.bin .leq (.t 29) (.c (.int .i64 31))),oF 31 25 (.pick (.t 28) (.t 30) (.c (.bool false))),oA 32 (.pick (.t 25) (.c (.bool true)) (.t 31)),oM 33 32,oF 34 33 (.mov (.t 0)),oF 35 33 (.bin .eql (.t 34) (.c (.int .i64 63))),oA 36 (.pick (.t 33) (.c (.bool true)) (.t 35)),oM 10 36]) (.cond (.t 10) (.seq (.ops [oA 2 (.mov (.c (.int .i64 7)))]) (.ret)) (c8_0c))
def c10_0c : C :=
 .seq (.block 0 (.seq (.ops [oM 4 0,oA 5 (.bin .geq (.t 4) (.c (.int .i64 1))),oM 6 5,oT 7 6 (.mov (.t 0)),oT 8 6 (.bin .leq (.t 7) (.c (.int .i64 3))),oA 9 (.pick (.t 6) (.t 8) (.c (.bool false))),oM 3 9]) (.cond (.t 3) (.seq (.ops [oA 2 (.mov (.c (.int .i64 14)))]) (.ret)) (c9_0c)))) (.seq (.ops [oA 2 (.mov (.c (.int .i64 0)))]) (.ret))
def c_0c : C :=
 .seq (.ops [oA 2 (.mov (.c (.int .i64 0)))]) (c10_0c)
def f_0c : F := ⟨c_0c, [.t 2], some []⟩
theorem h_0c : compF Tryz.prog (compAny Tryz.prog) n_0c = some (f_0c.body, f_0c.res) := by kernel_rfl
def c0_0h : C :=
 .seq (.ops [oM 86 3,oA 87 (.bin .geq (.t 86) (.c (.int .i64 48))),oM 88 87,oT 89 88 (.mov (.t 3)),oT 90 88 (.bin .leq (.t 89) (.c (.int .i64 54))),oA 91 (.pick (.t 88) (.t 90) (.c (.bool false))),oM 92 91,oT 93 92 (.mov (.t 3)),oT 94 92 (.bin .rem (.t 93) (.c (.int .i64 2))),oT 95 92 (.bin .eql (.t 94) (.c (.int .i64 0))),oA 96 (.pick (.t 92) (.t 95) (.c (.bool false))),oM 85 96]) (.cond (.t 85) (.seq (.ops [oM 97 3,oA 98 (.bin .sub (.t 97) (.c (.int .i64 48))),oA 99 (.bin .quo (.t 98) (.c (.int .i64 2))),oA 100 (.bin .add (.c (.int .i64 32)) (.t 99)),oM 2 100]) (.ret)) (.skip))
def c1_0h : C :=
 .seq (.ops [oM 76 3,oA 77 (.bin .eql (.t 76) (.c (.int .i64 42))),oM 78 77,oF 79 78 (.mov (.t 3)),oF 80 78 (.bin .eql (.t 79) (.c (.int .i64 43))),oA 81 (.pick (.t 78) (.c (.bool true)) (.t 80)),oM 75 81]) (.cond (.t 75) (.seq (.ops [oM 82 3,oA 83 (.bin .add (.c (.int .i64 30)) (.t 82)),oA 84 (.bin .sub (.t 83) (.c (.int .i64 42))),oM 2 84]) (.ret)) (c0_0h))
def c2_0h : C :=
 .seq (.ops [oM 66 3,oA 67 (.bin .geq (.t 66) (.c (.int .i64 32))),oM 68 67,oT 69 68 (.mov (.t 3)),oT 70 68 (.bin .leq (.t 69) (.c (.int .i64 39))),oA 71 (.pick (.t 68) (.t 70) (.c (.bool false))),oM 65 71]) (.cond (.t 65) (.seq (.ops [oM 72 3,oA 73 (.bin .add (.c (.int .i64 22)) (.t 72)),oA 74 (.bin .sub (.t 73) (.c (.int .i64 32))),oM 2 74]) (.ret)) (c1_0h))
def c3_0h : C :=
 .seq (.ops [oM 56 3,oA 57 (.bin .geq (.t 56) (.c (.int .i64 24))),oM 58 57,oT 59 58 (.mov (.t 3)),oT 60 58 (.bin .leq (.t 59) (.c (.int .i64 27))),oA 61 (.pick (.t 58) (.t 60) (.c (.bool false))),oM 55 61]) (.cond (.t 55) (.seq (.ops [oM 62 3,oA 63 (.bin .add (.c (.int .i64 18)) (.t 62)),oA 64 (.bin .sub (.t 63) (.c (.int .i64 24))),oM 2 64]) (.ret)) (c2_0h))
def c4_0h : C :=
 .seq (.ops [oM 46 3,oA 47 (.bin .geq (.t 46) (.c (.int .i64 16))),oM 48 47,oT 49 48 (.mov (.t 3)),oT 50 48 (.bin .leq (.t 49) (.c (.int .i64 19))),oA 51 (.pick (.t 48) (.t 50) (.c (.bool false))),oM 45 51]) (.cond (.t 45) (.seq (.ops [oM 52 3,oA 53 (.bin .add (.c (.int .i64 14)) (.t 52)),oA 54 (.bin .sub (.t 53) (.c (.int .i64 16))),oM 2 54]) (.ret)) (c3_0h))
def c5_0h : C :=
 .cond (.t 32) (.seq (.ops [oM 39 3,oA 40 (.bin .add (.c (.int .i64 7)) (.t 39)),oA 41 (.bin .sub (.t 40) (.c (.int .i64 8))),oM 2 41]) (.ret)) (.seq (.ops [oM 43 3,oA 44 (.bin .eql (.t 43) (.c (.int .i64 15))),oM 42 44]) (.cond (.t 42) (.seq (.ops [oA 2 (.mov (.c (.int .i64 13)))]) (.ret)) (c4_0h)))
def c6_0h : C :=
 .seq (.ops [oM 33 3,oA 34 (.bin .geq (.t 33) (.c (.int .i64 8))),oM 35 34,oT 36 35 (.mov (.t 3)),oT 37 35 (.bin .leq (.t 36) (.c (.int .i64 13))),oA 38 (.pick (.t 35) (.t 37) (.c (.bool false))),oM 32 38]) (c5_0h)
def c7_0h : C :=
 .seq (.ops [oM 23 3,oA 24 (.bin .eql (.t 23) (.c (.int .i64 6))),oM 25 24,oF 26 25 (.mov (.t 3)),oF 27 25 (.bin .eql (.t 26) (.c (.int .i64 7))),oA 28 (.pick (.t 25) (.c (.bool true)) (.t 27)),oM 22 28]) (.cond (.t 22) (.seq (.ops [oM 29 3,oA 30 (.bin .add (.c (.int .i64 5)) (.t 29)),oA 31 (.bin .sub (.t 30) (.c (.int .i64 6))),oM 2 31]) (.ret)) (c6_0h))
def c8_0h : C :=
 .cond (.t 9) (.seq (.ops [oM 16 3,oA 17 (.bin .add (.c (.int .i64 2)) (.t 16)),oA 18 (.bin .sub (.t 17) (.c (.int .i64 2))),oM 2 18]) (.ret)) (.seq (.ops [oM 20 3,oA 21 (.bin .eql (.t 20) (.c (.int .i64 4))),oM 19 21]) (.cond (.t 19) (.seq (.ops [oA 2 (.mov (.c (.int .i64 4)))]) (.ret)) (c7_0h)))
def c9_0h : C :=
 .seq (.ops [oM 10 3,oA 11 (.bin .eql (.t 10) (.c (.int .i64 2))),oM 12 11,oF 13 12 (.mov (.t 3)),oF 14 12 (.bin .eql (.t 13) (.c (.int .i64 3))),oA 15 (.pick (.t 12) (.c (.bool true)) (.t 14)),oM 9 15]) (c8_0h)
def c10_0h : C :=
 .seq (.block 0 (.seq (.ops [oM 7 3,oA 8 (.bin .eql (.t 7) (.c (.int .i64 0))),oM 6 8]) (.cond (.t 6) (.seq (.ops [oA 2 (.mov (.c (.int .i64 1)))]) (.ret)) (c9_0h)))) (.seq (.ops [oA 2 (.mov (.c (.int .i64 0)))]) (.ret))
def c_0h : C :=
 .seq (.ops [oA 2 (.mov (.c (.int .i64 0)))]) (.seq (.ops [oM 4 0,oA 5 (.conv .i64 (.t 4)),oM 3 5]) (c10_0h))
def f_0h : F := ⟨c_0h, [.t 2], some []⟩
theorem h_0h : compF Tryz.prog (compAny Tryz.prog) n_0h = some (f_0h.body, f_0h.res) := by kernel_rfl
def c0_0g : C :=
 .seq (.seq (.ops [oA 11 (.bin .eql (.t 3) (.c (.int .u32 16))),oM 10 11]) (.cond (.t 10) (.skip) (.ops [oA 12 (.bin .eql (.t 3) (.c (.int .u32 17))),oM 10 12]))) (.cond (.t 10) (.seq (.ops [oM 13 0,oA 14 (.conv .i64 (.t 13)),oA 15 (.bin .add (.c (.int .i64 38)) (.t 14)),oA 16 (.bin .sub (.t 15) (.c (.int .i64 16))),oM 2 16]) (.ret)) (.skip))
def c1_0g : C :=
 .block 0 (.seq (.seq (.ops [oA 5 (.bin .eql (.t 3) (.c (.int .u32 0))),oM 4 5]) (.cond (.t 4) (.skip) (.ops [oA 6 (.bin .eql (.t 3) (.c (.int .u32 1))),oM 4 6]))) (.cond (.t 4) (.seq (.ops [oM 7 0,oA 8 (.conv .i64 (.t 7)),oA 9 (.bin .add (.c (.int .i64 36)) (.t 8)),oM 2 9]) (.ret)) (c0_0g)))
def c_0g : C :=
 .seq (.ops [oA 2 (.mov (.c (.int .i64 0)))]) (.seq (.seq (.ops [oM 3 0]) (c1_0g)) (.seq (.ops [oA 2 (.mov (.c (.int .i64 0)))]) (.ret)))
def f_0g : F := ⟨c_0g, [.t 2], some []⟩
theorem h_0g : compF Tryz.prog (compAny Tryz.prog) n_0g = some (f_0g.body, f_0g.res) := by kernel_rfl
def c0_0b : C :=
 .seq (.ops [oA 11 (.bin .eql (.t 5) (.c (.int .u32 16))),oM 10 11]) (.cond (.t 10) (.seq (.ops [oM 12 0,oA 13 (.bin .and (.t 12) (.c (.int .u32 63))),oA 14 (.call n_0j [(.t 13)]),oM 2 14]) (.ret)) (.skip))
def c1_0b : C :=
 .block 0 (.seq (.ops [oA 7 (.bin .eql (.t 5) (.c (.int .u32 0))),oM 6 7]) (.cond (.t 6) (.seq (.ops [oA 2 (.mov (.c (.int .i64 54)))]) (.ret)) (.seq (.ops [oA 9 (.bin .eql (.t 5) (.c (.int .u32 4))),oM 8 9]) (.cond (.t 8) (.seq (.ops [oA 2 (.mov (.c (.int .i64 55)))]) (.ret)) (c0_0b)))))
def c_0b : C :=
 .seq (.ops [oA 2 (.mov (.c (.int .i64 0)))]) (.seq (.seq (.ops [oM 3 0,oA 4 (.bin .shr (.t 3) (.c (.int .u64 21))),oA 5 (.bin .and (.t 4) (.c (.int .u32 31)))]) (c1_0b)) (.seq (.ops [oA 2 (.mov (.c (.int .i64 0)))]) (.ret)))
def f_0b : F := ⟨c_0b, [.t 2], some []⟩
theorem h_0b : compF Tryz.prog (compAny Tryz.prog) n_0b = some (f_0b.body, f_0b.res) := by kernel_rfl
def c0_0i : C :=
 .seq (.seq (.ops [oA 7 (.bin .eql (.t 3) (.c (.int .u32 32))),oM 6 7]) (.cond (.t 6) (.skip) (.ops [oA 8 (.bin .eql (.t 3) (.c (.int .u32 33))),oM 6 8]))) (.cond (.t 6) (.seq (.ops [oM 9 0,oA 10 (.conv .i64 (.t 9)),oA 11 (.bin .add (.c (.int .i64 64)) (.t 10)),oA 12 (.bin .sub (.t 11) (.c (.int .i64 32))),oM 2 12]) (.ret)) (.skip))
def c1_0i : C :=
 .seq (.seq (.ops [oM 3 0]) (.block 0 (.seq (.ops [oA 5 (.bin .eql (.t 3) (.c (.int .u32 2))),oM 4 5]) (.cond (.t 4) (.seq (.ops [oA 2 (.mov (.c (.int .i64 63)))]) (.ret)) (c0_0i))))) (.seq (.ops [oA 2 (.mov (.c (.int .i64 0)))]) (.ret))
def c_0i : C :=
 .seq (.ops [oA 2 (.mov (.c (.int .i64 0)))]) (c1_0i)
def f_0i : F := ⟨c_0i, [.t 2], some []⟩
theorem h_0i : compF Tryz.prog (compAny Tryz.prog) n_0i = some (f_0i.body, f_0i.res) := by kernel_rfl
def c0_0e : C :=
 .cond (.t 68) (.seq (.ops [oA 2 (.mov (.c (.int .i64 77)))]) (.ret)) (.seq (.ops [oM 72 3,oA 73 (.bin .eql (.t 72) (.c (.int .i64 56))),oM 71 73]) (.cond (.t 71) (.seq (.ops [oA 2 (.mov (.c (.int .i64 75)))]) (.ret)) (.skip)))
def c1_0e : C :=
 .seq (.ops [oM 66 3,oA 67 (.bin .eql (.t 66) (.c (.int .i64 48))),oM 65 67]) (.cond (.t 65) (.seq (.ops [oA 2 (.mov (.c (.int .i64 74)))]) (.ret)) (.seq (.ops [oM 69 3,oA 70 (.bin .eql (.t 69) (.c (.int .i64 51))),oM 68 70]) (c0_0e)))
def c2_0e : C :=
 .cond (.t 59) (.seq (.ops [oA 2 (.mov (.c (.int .i64 73)))]) (.ret)) (.seq (.ops [oM 63 3,oA 64 (.bin .eql (.t 63) (.c (.int .i64 47))),oM 62 64]) (.cond (.t 62) (.seq (.ops [oA 2 (.mov (.c (.int .i64 76)))]) (.ret)) (c1_0e)))
def c3_0e : C :=
 .cond (.t 49) (.seq (.ops [oM 56 3,oA 57 (.bin .add (.c (.int .i64 71)) (.t 56)),oA 58 (.bin .sub (.t 57) (.c (.int .i64 40))),oM 2 58]) (.ret)) (.seq (.ops [oM 60 3,oA 61 (.bin .eql (.t 60) (.c (.int .i64 43))),oM 59 61]) (c2_0e))
def c4_0e : C :=
 .seq (.ops [oM 50 3,oA 51 (.bin .eql (.t 50) (.c (.int .i64 40))),oM 52 51,oF 53 52 (.mov (.t 3)),oF 54 52 (.bin .eql (.t 53) (.c (.int .i64 41))),oA 55 (.pick (.t 52) (.c (.bool true)) (.t 54)),oM 49 55]) (c3_0e)
def c5_0e : C :=
 .seq (.ops [oM 40 3,oA 41 (.bin .geq (.t 40) (.c (.int .i64 35))),oM 42 41,oT 43 42 (.mov (.t 3)),oT 44 42 (.bin .leq (.t 43) (.c (.int .i64 37))),oA 45 (.pick (.t 42) (.t 44) (.c (.bool false))),oM 39 45]) (.cond (.t 39) (.seq (.ops [oM 46 3,oA 47 (.bin .add (.c (.int .i64 68)) (.t 46)),oA 48 (.bin .sub (.t 47) (.c (.int .i64 35))),oM 2 48]) (.ret)) (c4_0e))
def c6_0e : C :=
 .seq (.ops [oM 30 3,oA 31 (.bin .eql (.t 30) (.c (.int .i64 32))),oM 32 31,oF 33 32 (.mov (.t 3)),oF 34 32 (.bin .eql (.t 33) (.c (.int .i64 33))),oA 35 (.pick (.t 32) (.c (.bool true)) (.t 34)),oM 29 35]) (.cond (.t 29) (.seq (.ops [oM 36 3,oA 37 (.bin .add (.c (.int .i64 66)) (.t 36)),oA 38 (.bin .sub (.t 37) (.c (.int .i64 32))),oM 2 38]) (.ret)) (c5_0e))
def c7_0e : C :=
 .cond (.t 16) (.seq (.ops [oM 23 3,oA 24 (.bin .add (.c (.int .i64 46)) (.t 23)),oA 25 (.bin .sub (.t 24) (.c (.int .i64 8))),oM 2 25]) (.ret)) (.seq (.ops [oM 27 3,oA 28 (.bin .eql (.t 27) (.c (.int .i64 17))),oM 26 28]) (.cond (.t 26) (.seq (.ops [oA 2 (.mov (.c (.int .i64 62)))]) (.ret)) (c6_0e)))
def c8_0e : C :=
 .seq (.ops [oM 17 3,oA 18 (.bin .geq (.t 17) (.c (.int .i64 8))),oM 19 18,oT 20 19 (.mov (.t 3)),oT 21 19 (.bin .leq (.t 20) (.c (.int .i64 15))),oA 22 (.pick (.t 19) (.t 21) (.c (.bool false))),oM 16 22]) (c7_0e)
def c9_0e : C :=
 .seq (.block 0 (.seq (.ops [oM 7 3,oA 8 (.bin .geq (.t 7) (.c (.int .i64 2))),oM 9 8,oT 10 9 (.mov (.t 3)),oT 11 9 (.bin .leq (.t 10) (.c (.int .i64 7))),oA 12 (.pick (.t 9) (.t 11) (.c (.bool false))),oM 6 12]) (.cond (.t 6) (.seq (.ops [oM 13 3,oA 14 (.bin .add (.c (.int .i64 40)) (.t 13)),oA 15 (.bin .sub (.t 14) (.c (.int .i64 2))),oM 2 15]) (.ret)) (c8_0e)))) (.seq (.ops [oA 2 (.mov (.c (.int .i64 0)))]) (.ret))
def c_0e : C :=
 .seq (.ops [oA 2 (.mov (.c (.int .i64 0)))]) (.seq (.ops [oM 4 0,oA 5 (.conv .i64 (.t 4)),oM 3 5]) (c9_0e))
def f_0e : F := ⟨c_0e, [.t 2], some []⟩
theorem h_0e : compF Tryz.prog (compAny Tryz.prog) n_0e = some (f_0e.body, f_0e.res) := by kernel_rfl
def c0_11 : C :=
 .seq (.block 1 (.seq (.ops [oM 18 16,oM 4 18]) (.ops [oM 19 4,oA 20 (.iaa 40 1 (.t 3) (.t 19)),oS (.st (.t 20) (.c (.bool true)))]))) (.ops [oA 21 (.bin .add (.t 16) (.c (.int .i64 1))),oM 16 21])
def c1_11 : C :=
 .seq (.ops [oA 17 (.bin .lss (.t 16) (.c (.int .i64 34)))]) (.seq (.cond (.t 17) (.skip) (.exit 0)) (c0_11))
def c2_11 : C :=
 .ops [oM 45 10,oM 46 10,oA 47 (.iaa 40 1 (.t 3) (.t 46)),oA 48 (.ld (.t 47)),oM 49 48,oT 50 49 (.ldn 5 (.t 7)),oT 51 49 (.call n_19 [(.t 50)]),oT 52 49 (.un .not (.t 51)),oA 53 (.pick (.t 49) (.t 52) (.c (.bool false))),oA 54 (.iaa 40 1 (.t 3) (.t 45)),oS (.st (.t 54) (.t 53))]
def c3_11 : C :=
 .seq (.ops [oA 42 (.bin .lss (.t 41) (.t 40))]) (.seq (.cond (.t 42) (.skip) (.exit 4)) (.seq (.block 5 (.seq (.ops [oA 43 (.ia 1 (.t 39) (.t 41)),oA 44 (.ld (.t 43)),oM 10 44]) (c2_11))) (.ops [oA 55 (.bin .add (.t 41) (.c (.int .i64 1))),oM 41 55])))
def c4_11 : C :=
 .seq (.block 7 (.seq (.ops [oA 61 (.ia 1 (.t 57) (.t 59)),oA 62 (.ld (.t 61)),oM 12 62]) (.ops [oM 63 12,oA 64 (.iaa 40 1 (.t 3) (.t 63)),oS (.st (.t 64) (.c (.bool true)))]))) (.ops [oA 65 (.bin .add (.t 59) (.c (.int .i64 1))),oM 59 65])
def c5_11 : C :=
 .seq (.ops [oA 60 (.bin .lss (.t 59) (.t 58))]) (.seq (.cond (.t 60) (.skip) (.exit 6)) (c4_11))
def c6_11 : C :=
 .seq (.seq (.ops [oA 56 (.ldn 5 (.t 7)),oA 57 (.call n_0l [(.t 56)]),oA 58 (.len 1 (.t 57)),oA 59 (.mov (.c (.int .i64 0)))]) (.block 6 (.loop c5_11))) (.ops [oM 66 5,oA 67 (.ldn 5 (.t 7)),oA 68 (.bsl 1 [(.int .i64 0),(.int .i64 0),(.int .i64 0),(.int .i64 0),(.int .u32 0)] [(0,5,(.t 67))]),oA 69 (.app 5 40 (.t 66) (.t 68)),oM 5 69])
def c7_11 : C :=
 .seq (.seq (.ops [oM 35 8,oA 36 (.mkf n_12 [(.t 3)]),oA 37 (.call n_4g [(.t 35),(.t 36)]),oA 38 (.un .not (.t 37))]) (.cond (.t 38) (.exit 3) (.skip))) (.seq (.seq (.ops [oM 39 8,oA 40 (.len 1 (.t 39)),oA 41 (.mov (.c (.int .i64 0)))]) (.block 4 (.loop c3_11))) (c6_11))
def c8_11 : C :=
 .seq (.block 3 (.seq (.ops [oM 29 0,oM 30 6,oA 31 (.ia 5 (.t 29) (.t 30)),oA 32 (.ldn 5 (.t 31)),oA 7 (.new [(.int .i64 0),(.int .i64 0),(.int .i64 0),(.int .i64 0),(.int .u32 0)]),oS (.stn 5 (.t 7) (.t 32))]) (.seq (.ops [oA 33 (.ldn 5 (.t 7)),oA 34 (.call n_0q [(.t 33)]),oM 8 34]) (c7_11)))) (.ops [oM 27 6,oA 28 (.bin .sub (.t 27) (.c (.int .i64 1))),oM 6 28])
def c9_11 : C :=
 .seq (.seq (.ops [oM 25 6,oA 26 (.bin .geq (.t 25) (.c (.int .i64 0)))]) (.cond (.t 26) (.skip) (.exit 2))) (c8_11)
def c10_11 : C :=
 .seq (.seq (.ops [oM 22 0,oA 23 (.len 1 (.t 22)),oA 24 (.bin .sub (.t 23) (.c (.int .i64 1))),oM 6 24]) (.block 2 (.loop c9_11))) (.seq (.ops [oM 70 5,oA 71 (.call n_4k [(.t 70)])]) (.seq (.ops [oM 72 5,oM 2 72]) (.ret)))
def c11_11 : C :=
 .seq (.seq (.ops [oM 13 0,oA 14 (.call n_18 [(.t 13)]),oA 15 (.un .not (.t 14))]) (.cond (.t 15) (.seq (.ops [oA 2 (.mov (.c (.slice none 0 0)))]) (.ret)) (.skip))) (.seq (.ops [oA 3 (.new (List.replicate 40 (.bool false)))]) (.seq (.seq (.ops [oA 16 (.mov (.c (.int .i64 0)))]) (.block 0 (.loop c1_11))) (.seq (.ops [oA 5 (.mov (.c (.slice none 0 0)))]) (c10_11))))
def c_11 : C :=
 .seq (.ops [oA 2 (.mov (.c (.slice none 0 0)))]) (c11_11)
def f_11 : F := ⟨c_11, [.t 2], some []⟩
theorem h_11 : compF Tryz.prog (compAny Tryz.prog) n_11 = some (f_11.body, f_11.res) := by kernel_rfl
def c0_13 : C :=
 .seq (.ops [oM 31 4,oA 32 (.ldn 5 (.t 7)),oA 33 (.bsl 1 [(.int .i64 0),(.int .i64 0),(.int .i64 0),(.int .i64 0),(.int .u32 0)] [(0,5,(.t 32))]),oA 34 (.app 5 40 (.t 31) (.t 33)),oM 4 34]) (.ops [oM 35 3,oA 36 (.ldn 5 (.t 7)),oA 37 (.call n_15 [(.t 35),(.t 36)])])
def c1_13 : C :=
 .seq (.ops [oM 25 3,oA 26 (.ldn 5 (.t 6)),oA 27 (.call n_16 [(.t 25),(.t 26)]),oM 24 27,oA 28 (.ext (.t 24) 0),oA 29 (.ext (.t 24) 1),oA 7 (.new [(.int .i64 0),(.int .i64 0),(.int .i64 0),(.int .i64 0),(.int .u32 0)]),oS (.stn 5 (.t 7) (.t 28)),oM 8 29]) (.seq (.ops [oM 30 8]) (.cond (.t 30) (c0_13) (.skip)))
def c2_13 : C :=
 .seq (.block 1 (.seq (.ops [oA 22 (.ia 5 (.t 18) (.t 20)),oA 23 (.ldn 5 (.t 22)),oA 6 (.new [(.int .i64 0),(.int .i64 0),(.int .i64 0),(.int .i64 0),(.int .u32 0)]),oS (.stn 5 (.t 6) (.t 23))]) (c1_13))) (.ops [oA 38 (.bin .add (.t 20) (.c (.int .i64 1))),oM 20 38])
def c3_13 : C :=
 .seq (.ops [oA 21 (.bin .lss (.t 20) (.t 19))]) (.seq (.cond (.t 21) (.skip) (.exit 0)) (c2_13))
def c4_13 : C :=
 .seq (.ops [oA 4 (.mov (.c (.slice none 0 0)))]) (.seq (.seq (.ops [oM 18 0,oA 19 (.len 1 (.t 18)),oA 20 (.mov (.c (.int .i64 0)))]) (.block 0 (.loop c3_13))) (.seq (.ops [oM 39 4,oM 2 39]) (.ret)))
def c5_13 : C :=
 .seq (.ops [oA 12 (.build [(.bool false),(.bool false),(.bool false),(.bool false),(.bool false),(.bool false),(.bool false),(.bool false),(.bool false),(.bool false),(.bool false),(.bool false),(.bool false),(.bool false),(.bool false),(.bool false),(.bool false),(.bool false),(.bool false),(.bool false),(.bool false),(.bool false),(.bool false),(.bool false),(.bool false),(.bool false),(.bool false),(.bool false),(.bool false),(.bool false),(.bool false),(.bool false),(.bool false),(.bool false),(.bool false),(.bool false),(.bool false),(.bool false),(.bool false),(.bool false),(.int .u32 0),(.int .u32 0),(.int .u32 0),(.int .u32 0),(.int .u32 0),(.int .u32 0),(.int .u32 0),(.int .u32 0),(.int .u32 0),(.int .u32 0),(.int .u32 0),(.int .u32 0),(.int .u32 0),(.int .u32 0),(.int .u32 0),(.int .u32 0),(.int .u32 0),(.int .u32 0),(.int .u32 0),(.int .u32 0),(.int .u32 0),(.int .u32 0),(.int .u32 0),(.int .u32 0),(.int .u32 0),(.int .u32 0),(.int .u32 0),(.int .u32 0),(.int .u32 0),(.int .u32 0),(.int .u32 0),(.int .u32 0),(.int .u32 0),(.int .u32 0),(.int .u32 0),(.int .u32 0),(.int .u32 0),(.int .u32 0),(.int .u32 0),(.int .u32 0)] []),oA 13 (.box (.t 12)),oM 3 13]) (.seq (.ops [oM 14 3,oA 15 (.nilc (.t 14)),oA 16 (.fa 0 (.t 15)),oA 17 (.iaa 40 1 (.t 16) (.c (.int .i64 0))),oS (.st (.t 17) (.c (.bool true)))]) (c4_13))
def c_13 : C :=
 .seq (.ops [oA 2 (.mov (.c (.slice none 0 0)))]) (.seq (.seq (.ops [oM 9 0,oA 10 (.call n_18 [(.t 9)]),oA 11 (.un .not (.t 10))]) (.cond (.t 11) (.seq (.ops [oA 2 (.mov (.c (.slice none 0 0)))]) (.ret)) (.skip))) (c5_13))
def f_13 : F := ⟨c_13, [.t 2], some []⟩
theorem h_13 : compF Tryz.prog (compAny Tryz.prog) n_13 = some (f_13.body, f_13.res) := by kernel_rfl
def c0_0t : C :=
 .seq (.ops [oA 3 (.ldn 6 (.t 1)),oA 4 (.call n_0a [(.t 3)]),oM 5 4,oT 6 5 (.ldn 6 (.t 1)),oT 7 5 (.call n_08 [(.t 6)]),oT 8 5 (.bin .eql (.t 7) (.c (.int .i64 1))),oA 9 (.pick (.t 5) (.t 8) (.c (.bool false))),oM 2 9]) (.ret)
def c_0t : C :=
 .seq (.ops [oA 1 (.box (.t 0)),oA 2 (.mov (.c (.bool false)))]) (c0_0t)
def f_0t : F := ⟨c_0t, [.t 2], some []⟩
theorem h_0t : compF Tryz.prog (compAny Tryz.prog) n_0t = some (f_0t.body, f_0t.res) := by kernel_rfl
def c0_0w : C :=
 .seq (.ops [oA 50 (.bin .eql (.t 3) (.c (.int .i64 9))),oM 49 50]) (.cond (.t 49) (.seq (.ops [oA 2 (.mov (.c (.int .i64 21)))]) (.ret)) (.seq (.ops [oA 52 (.bin .eql (.t 3) (.c (.int .i64 10))),oM 51 52]) (.cond (.t 51) (.seq (.ops [oA 2 (.mov (.c (.int .i64 22)))]) (.ret)) (.skip))))
def c1_0w : C :=
 .seq (.ops [oA 46 (.bin .eql (.t 3) (.c (.int .i64 20))),oM 45 46]) (.cond (.t 45) (.seq (.ops [oA 2 (.mov (.c (.int .i64 19)))]) (.ret)) (.seq (.ops [oA 48 (.bin .eql (.t 3) (.c (.int .i64 21))),oM 47 48]) (.cond (.t 47) (.seq (.ops [oA 2 (.mov (.c (.int .i64 20)))]) (.ret)) (c0_0w))))
def c2_0w : C :=
 .seq (.ops [oA 42 (.bin .eql (.t 3) (.c (.int .i64 18))),oM 41 42]) (.cond (.t 41) (.seq (.ops [oA 2 (.mov (.c (.int .i64 17)))]) (.ret)) (.seq (.ops [oA 44 (.bin .eql (.t 3) (.c (.int .i64 19))),oM 43 44]) (.cond (.t 43) (.seq (.ops [oA 2 (.mov (.c (.int .i64 18)))]) (.ret)) (c1_0w))))
def c3_0w : C :=
 .seq (.ops [oA 38 (.bin .eql (.t 3) (.c (.int .i64 64))),oM 37 38]) (.cond (.t 37) (.seq (.ops [oA 2 (.mov (.c (.int .i64 15)))]) (.ret)) (.seq (.ops [oA 40 (.bin .eql (.t 3) (.c (.int .i64 65))),oM 39 40]) (.cond (.t 39) (.seq (.ops [oA 2 (.mov (.c (.int .i64 16)))]) (.ret)) (c2_0w))))
def c4_0w : C :=
 .seq (.seq (.ops [oA 33 (.bin .eql (.t 3) (.c (.int .i64 31))),oM 32 33]) (.cond (.t 32) (.skip) (.ops [oA 34 (.bin .eql (.t 3) (.c (.int .i64 49))),oM 32 34]))) (.cond (.t 32) (.seq (.ops [oA 2 (.mov (.c (.int .i64 13)))]) (.ret)) (.seq (.ops [oA 36 (.bin .eql (.t 3) (.c (.int .i64 63))),oM 35 36]) (.cond (.t 35) (.seq (.ops [oA 2 (.mov (.c (.int .i64 14)))]) (.ret)) (c3_0w))))
def c5_0w : C :=
 .seq (.seq (.ops [oA 30 (.bin .eql (.t 3) (.c (.int .i64 30))),oM 29 30]) (.cond (.t 29) (.skip) (.ops [oA 31 (.bin .eql (.t 3) (.c (.int .i64 48))),oM 29 31]))) (.cond (.t 29) (.seq (.ops [oA 2 (.mov (.c (.int .i64 12)))]) (.ret)) (c4_0w))
def c6_0w : C :=
 .seq (.seq (.ops [oA 25 (.bin .eql (.t 3) (.c (.int .i64 28))),oM 24 25]) (.cond (.t 24) (.skip) (.ops [oA 26 (.bin .eql (.t 3) (.c (.int .i64 52))),oM 24 26]))) (.cond (.t 24) (.seq (.ops [oA 2 (.mov (.c (.int .i64 7)))]) (.ret)) (.seq (.ops [oA 28 (.bin .eql (.t 3) (.c (.int .i64 29))),oM 27 28]) (.cond (.t 27) (.seq (.ops [oA 2 (.mov (.c (.int .i64 8)))]) (.ret)) (c5_0w))))
def c7_0w : C :=
 .seq (.seq (.ops [oA 22 (.bin .eql (.t 3) (.c (.int .i64 27))),oM 21 22]) (.cond (.t 21) (.skip) (.ops [oA 23 (.bin .eql (.t 3) (.c (.int .i64 51))),oM 21 23]))) (.cond (.t 21) (.seq (.ops [oA 2 (.mov (.c (.int .i64 6)))]) (.ret)) (c6_0w))
def c8_0w : C :=
 .seq (.seq (.ops [oA 19 (.bin .eql (.t 3) (.c (.int .i64 26))),oM 18 19]) (.cond (.t 18) (.skip) (.ops [oA 20 (.bin .eql (.t 3) (.c (.int .i64 50))),oM 18 20]))) (.cond (.t 18) (.seq (.ops [oA 2 (.mov (.c (.int .i64 5)))]) (.ret)) (c7_0w))
def c9_0w : C :=
 .seq (.seq (.ops [oA 14 (.bin .eql (.t 3) (.c (.int .i64 23))),oM 13 14]) (.cond (.t 13) (.skip) (.ops [oA 15 (.bin .eql (.t 3) (.c (.int .i64 47))),oM 13 15]))) (.cond (.t 13) (.seq (.ops [oA 2 (.mov (.c (.int .i64 3)))]) (.ret)) (.seq (.ops [oA 17 (.bin .eql (.t 3) (.c (.int .i64 25))),oM 16 17]) (.cond (.t 16) (.seq (.ops [oA 2 (.mov (.c (.int .i64 4)))]) (.ret)) (c8_0w))))
def c10_0w : C :=
 .seq (.seq (.ops [oA 11 (.bin .eql (.t 3) (.c (.int .i64 3))),oM 10 11]) (.cond (.t 10) (.skip) (.ops [oA 12 (.bin .eql (.t 3) (.c (.int .i64 6))),oM 10 12]))) (.cond (.t 10) (.seq (.ops [oA 2 (.mov (.c (.int .i64 11)))]) (.ret)) (c9_0w))
def c11_0w : C :=
 .seq (.seq (.ops [oA 8 (.bin .eql (.t 3) (.c (.int .i64 2))),oM 7 8]) (.cond (.t 7) (.skip) (.ops [oA 9 (.bin .eql (.t 3) (.c (.int .i64 5))),oM 7 9]))) (.cond (.t 7) (.seq (.ops [oA 2 (.mov (.c (.int .i64 10)))]) (.ret)) (c10_0w))
def c12_0w : C :=
 .block 0 (.seq (.seq (.ops [oA 5 (.bin .eql (.t 3) (.c (.int .i64 1))),oM 4 5]) (.cond (.t 4) (.skip) (.ops [oA 6 (.bin .eql (.t 3) (.c (.int .i64 4))),oM 4 6]))) (.cond (.t 4) (.seq (.ops [oA 2 (.mov (.c (.int .i64 9)))]) (.ret)) (c11_0w)))
def c_0w : C :=
 .seq (.ops [oA 2 (.mov (.c (.int .i64 0)))]) (.seq (.seq (.ops [oM 3 0]) (c12_0w)) (.seq (.ops [oA 2 (.mov (.c (.int .i64 0)))]) (.ret)))
def f_0w : F := ⟨c_0w, [.t 2], some []⟩
theorem h_0w : compF Tryz.prog (compAny Tryz.prog) n_0w = some (f_0w.body, f_0w.res) := by kernel_rfl
def c0_00 : C :=
 .seq (.ops [oA 9 (.fa 0 (.t 1)),oA 10 (.ld (.t 9)),oA 11 (.bin .geq (.t 10) (.c (.int .i64 46))),oM 12 11,oT 13 12 (.fa 0 (.t 1)),oT 14 12 (.ld (.t 13)),oT 15 12 (.bin .leq (.t 14) (.c (.int .i64 53))),oA 16 (.pick (.t 12) (.t 15) (.c (.bool false))),oM 8 16]) (.cond (.t 8) (.seq (.ops [oA 17 (.fa 2 (.t 1)),oA 18 (.ld (.t 17)),oM 2 18]) (.ret)) (.skip))
def c1_00 : C :=
 .seq (.block 0 (.seq (.ops [oA 4 (.fa 0 (.t 1)),oA 5 (.ld (.t 4)),oA 6 (.call n_01 [(.t 5)]),oA 7 (.un .not (.t 6)),oM 3 7]) (.cond (.t 3) (.seq (.ops [oA 2 (.mov (.c (.int .i64 0)))]) (.ret)) (c0_00)))) (.seq (.ops [oA 19 (.fa 3 (.t 1)),oA 20 (.ld (.t 19)),oM 2 20]) (.ret))
def c_00 : C :=
 .seq (.ops [oA 1 (.box (.t 0)),oA 2 (.mov (.c (.int .i64 0)))]) (c1_00)
def f_00 : F := ⟨c_00, [.t 2], some []⟩
theorem h_00 : compF Tryz.prog (compAny Tryz.prog) n_00 = some (f_00.body, f_00.res) := by kernel_rfl
def c0_0v : C :=
 .seq (.seq (.ops [oA 3 (.fa 0 (.t 1)),oA 4 (.ld (.t 3)),oA 5 (.bin .eql (.t 4) (.c (.int .i64 50))),oM 6 5,oF 7 6 (.fa 0 (.t 1)),oF 8 6 (.ld (.t 7)),oF 9 6 (.bin .eql (.t 8) (.c (.int .i64 51))),oA 10 (.pick (.t 6) (.c (.bool true)) (.t 9)),oM 11 10,oF 12 11 (.fa 0 (.t 1)),oF 13 11 (.ld (.t 12)),oF 14 11 (.bin .eql (.t 13) (.c (.int .i64 52))),oA 15 (.pick (.t 11) (.c (.bool true)) (.t 14))]) (.cond (.t 15) (.seq (.ops [oA 16 (.fa 5 (.t 1)),oA 17 (.ld (.t 16)),oM 2 17]) (.ret)) (.skip))) (.seq (.ops [oA 18 (.fa 5 (.t 1)),oA 19 (.ld (.t 18)),oA 20 (.call n_57 [(.t 19),(.c (.int .i64 16))]),oM 2 20]) (.ret))
def c_0v : C :=
 .seq (.ops [oA 1 (.box (.t 0)),oA 2 (.mov (.c (.int .u32 0)))]) (c0_0v)
def f_0v : F := ⟨c_0v, [.t 2], some []⟩
theorem h_0v : compF Tryz.prog (compAny Tryz.prog) n_0v = some (f_0v.body, f_0v.res) := by kernel_rfl
def c0_3d : C :=
 .seq (.ops [⟨some 1,none,.build [(.int .i64 0),(.int .i64 0),(.int .i64 0),(.string .empty)] [(0,1,(.c (.int .i64 0))),(1,1,(.c (.int .i64 0))),(2,1,(.c (.int .i64 1))),(3,1,(.c (.string ⟨#[116,100,104]⟩)))]⟩,⟨some 2,none,.build [(.int .i64 0),(.int .i64 0),(.int .i64 0),(.string .empty)] [(0,1,(.c (.int .i64 0))),(1,1,(.c (.int .i64 2))),(2,1,(.c (.int .i64 2))),(3,1,(.c (.string ⟨#[116,100,104]⟩)))]⟩,⟨some 3,none,.build [(.int .i64 0),(.int .i64 0),(.int .i64 0),(.string .empty)] [(0,1,(.c (.int .i64 0))),(1,1,(.c (.int .i64 3))),(2,1,(.c (.int .i64 3))),(3,1,(.c (.string ⟨#[116,100,104]⟩)))]⟩,⟨some 4,none,.build [(.int .i64 0),(.int .i64 0),(.int .i64 0),(.string .empty)] [(0,1,(.c (.int .i64 0))),(1,1,(.c (.int .i64 4))),(2,1,(.c (.int .i64 4))),(3,1,(.c (.string ⟨#[115,116,100]⟩)))]⟩,⟨some 5,none,.build [(.int .i64 0),(.int .i64 0),(.int .i64 0),(.string .empty)] [(0,1,(.c (.int .i64 0))),(1,1,(.c (.int .i64 6))),(2,1,(.c (.int .i64 5))),(3,1,(.c (.string ⟨#[115,116,100]⟩)))]⟩,⟨some 6,none,.build [(.int .i64 0),(.int .i64 0),(.int .i64 0),(.string .empty)] [(0,1,(.c (.int .i64 0))),(1,1,(.c (.int .i64 7))),(2,1,(.c (.int .i64 6))),(3,1,(.c (.string ⟨#[115,116,100]⟩)))]⟩,⟨some 7,none,.build [(.int .i64 0),(.int .i64 0),(.int .i64 0),(.string .empty)] [(0,1,(.c (.int .i64 0))),(1,1,(.c (.int .i64 8))),(2,1,(.c (.int .i64 7))),(3,1,(.c (.string ⟨#[115]⟩)))]⟩,⟨some 8,none,.build [(.int .i64 0),(.int .i64 0),(.int .i64 0),(.string .empty)] [(0,1,(.c (.int .i64 0))),(1,1,(.c (.int .i64 9))),(2,1,(.c (.int .i64 8))),(3,1,(.c (.string ⟨#[115,100]⟩)))]⟩,⟨some 9,none,.build [(.int .i64 0),(.int .i64 0),(.int .i64 0),(.string .empty)] [(0,1,(.c (.int .i64 0))),(1,1,(.c (.int .i64 10))),(2,1,(.c (.int .i64 9))),(3,1,(.c (.string ⟨#[115,116,100]⟩)))]⟩,⟨some 10,none,.build [(.int .i64 0),(.int .i64 0),(.int .i64 0),(.string .empty)] [(0,1,(.c (.int .i64 0))),(1,1,(.c (.int .i64 11))),(2,1,(.c (.int .i64 10))),(3,1,(.c (.string ⟨#[115,116,100]⟩)))]⟩,oA 11 (.build [(.int .i64 0),(.int .i64 0),(.int .i64 0),(.string .empty)] [(0,1,(.c (.int .i64 0))),(1,1,(.c (.int .i64 12))),(2,1,(.c (.int .i64 11))),(3,1,(.c (.string .empty)))]),oA 12 (.build [(.int .i64 0),(.int .i64 0),(.int .i64 0),(.string .empty)] [(0,1,(.c (.int .i64 0))),(1,1,(.c (.int .i64 13))),(2,1,(.c (.int .i64 12))),(3,1,(.c (.string .empty)))]),oA 13 (.build [(.int .i64 0),(.int .i64 0),(.int .i64 0),(.string .empty)] [(0,1,(.c (.int .i64 0))),(1,1,(.c (.int .i64 15))),(2,1,(.c (.int .i64 13))),(3,1,(.c (.string .empty)))]),⟨some 14,none,.build [(.int .i64 0),(.int .i64 0),(.int .i64 0),(.string .empty)] [(0,1,(.c (.int .i64 0))),(1,1,(.c (.int .i64 16))),(2,1,(.c (.int .i64 14))),(3,1,(.c (.string ⟨#[100]⟩)))]⟩,⟨some 15,none,.build [(.int .i64 0),(.int .i64 0),(.int .i64 0),(.string .empty)] [(0,1,(.c (.int .i64 0))),(1,1,(.c (.int .i64 17))),(2,1,(.c (.int .i64 15))),(3,1,(.c (.string ⟨#[115]⟩)))]⟩,⟨some 16,none,.build [(.int .i64 0),(.int .i64 0),(.int .i64 0),(.string .empty)] [(0,1,(.c (.int .i64 0))),(1,1,(.c (.int .i64 18))),(2,1,(.c (.int .i64 16))),(3,1,(.c (.string ⟨#[100]⟩)))]⟩,⟨some 17,none,.build [(.int .i64 0),(.int .i64 0),(.int .i64 0),(.string .empty)] [(0,1,(.c (.int .i64 0))),(1,1,(.c (.int .i64 19))),(2,1,(.c (.int .i64 17))),(3,1,(.c (.string ⟨#[115]⟩)))]⟩,⟨some 18,none,.build [(.int .i64 0),(.int .i64 0),(.int .i64 0),(.string .empty)] [(0,1,(.c (.int .i64 0))),(1,1,(.c (.int .i64 24))),(2,1,(.c (.int .i64 18))),(3,1,(.c (.string ⟨#[115,116]⟩)))]⟩,⟨some 19,none,.build [(.int .i64 0),(.int .i64 0),(.int .i64 0),(.string .empty)] [(0,1,(.c (.int .i64 0))),(1,1,(.c (.int .i64 25))),(2,1,(.c (.int .i64 19))),(3,1,(.c (.string ⟨#[115,116]⟩)))]⟩,⟨some 20,none,.build [(.int .i64 0),(.int .i64 0),(.int .i64 0),(.string .empty)] [(0,1,(.c (.int .i64 0))),(1,1,(.c (.int .i64 26))),(2,1,(.c (.int .i64 20))),(3,1,(.c (.string ⟨#[115,116]⟩)))]⟩,⟨some 21,none,.build [(.int .i64 0),(.int .i64 0),(.int .i64 0),(.string .empty)] [(0,1,(.c (.int .i64 0))),(1,1,(.c (.int .i64 27))),(2,1,(.c (.int .i64 21))),(3,1,(.c (.string ⟨#[115,116]⟩)))]⟩,⟨some 22,none,.build [(.int .i64 0),(.int .i64 0),(.int .i64 0),(.string .empty)] [(0,1,(.c (.int .i64 0))),(1,1,(.c (.int .i64 32))),(2,1,(.c (.int .i64 22))),(3,1,(.c (.string ⟨#[115,116,100]⟩)))]⟩,⟨some 23,none,.build [(.int .i64 0),(.int .i64 0),(.int .i64 0),(.string .empty)] [(0,1,(.c (.int .i64 0))),(1,1,(.c (.int .i64 33))),(2,1,(.c (.int .i64 23))),(3,1,(.c (.string ⟨#[115,116,100]⟩)))]⟩,⟨some 24,none,.build [(.int .i64 0),(.int .i64 0),(.int .i64 0),(.string .empty)] [(0,1,(.c (.int .i64 0))),(1,1,(.c (.int .i64 34))),(2,1,(.c (.int .i64 24))),(3,1,(.c (.string ⟨#[115,116,100]⟩)))]⟩,⟨some 25,none,.build [(.int .i64 0),(.int .i64 0),(.int .i64 0),(.string .empty)] [(0,1,(.c (.int .i64 0))),(1,1,(.c (.int .i64 35))),(2,1,(.c (.int .i64 25))),(3,1,(.c (.string ⟨#[115,116,100]⟩)))]⟩,⟨some 26,none,.build [(.int .i64 0),(.int .i64 0),(.int .i64 0),(.string .empty)] [(0,1,(.c (.int .i64 0))),(1,1,(.c (.int .i64 36))),(2,1,(.c (.int .i64 26))),(3,1,(.c (.string ⟨#[115,116,100]⟩)))]⟩,⟨some 27,none,.build [(.int .i64 0),(.int .i64 0),(.int .i64 0),(.string .empty)] [(0,1,(.c (.int .i64 0))),(1,1,(.c (.int .i64 37))),(2,1,(.c (.int .i64 27))),(3,1,(.c (.string ⟨#[115,116,100]⟩)))]⟩,⟨some 28,none,.build [(.int .i64 0),(.int .i64 0),(.int .i64 0),(.string .empty)] [(0,1,(.c (.int .i64 0))),(1,1,(.c (.int .i64 38))),(2,1,(.c (.int .i64 28))),(3,1,(.c (.string ⟨#[115,116,100]⟩)))]⟩,⟨some 29,none,.build [(.int .i64 0),(.int .i64 0),(.int .i64 0),(.string .empty)] [(0,1,(.c (.int .i64 0))),(1,1,(.c (.int .i64 39))),(2,1,(.c (.int .i64 29))),(3,1,(.c (.string ⟨#[115,116,100]⟩)))]⟩,⟨some 30,none,.build [(.int .i64 0),(.int .i64 0),(.int .i64 0),(.string .empty)] [(0,1,(.c (.int .i64 0))),(1,1,(.c (.int .i64 42))),(2,1,(.c (.int .i64 30))),(3,1,(.c (.string ⟨#[115,116,100]⟩)))]⟩,⟨some 31,none,.build [(.int .i64 0),(.int .i64 0),(.int .i64 0),(.string .empty)] [(0,1,(.c (.int .i64 0))),(1,1,(.c (.int .i64 43))),(2,1,(.c (.int .i64 31))),(3,1,(.c (.string ⟨#[115,116,100]⟩)))]⟩,⟨some 32,none,.build [(.int .i64 0),(.int .i64 0),(.int .i64 0),(.string .empty)] [(0,1,(.c (.int .i64 0))),(1,1,(.c (.int .i64 48))),(2,1,(.c (.int .i64 32))),(3,1,(.c (.string ⟨#[115,116]⟩)))]⟩,⟨some 33,none,.build [(.int .i64 0),(.int .i64 0),(.int .i64 0),(.string .empty)] [(0,1,(.c (.int .i64 0))),(1,1,(.c (.int .i64 50))),(2,1,(.c (.int .i64 33))),(3,1,(.c (.string ⟨#[115,116]⟩)))]⟩,⟨some 34,none,.build [(.int .i64 0),(.int .i64 0),(.int .i64 0),(.string .empty)] [(0,1,(.c (.int .i64 0))),(1,1,(.c (.int .i64 52))),(2,1,(.c (.int .i64 34))),(3,1,(.c (.string ⟨#[115,116]⟩)))]⟩,⟨some 35,none,.build [(.int .i64 0),(.int .i64 0),(.int .i64 0),(.string .empty)] [(0,1,(.c (.int .i64 0))),(1,1,(.c (.int .i64 54))),(2,1,(.c (.int .i64 35))),(3,1,(.c (.string ⟨#[115,116]⟩)))]⟩,oA 36 (.bsl 35 [(.int .i64 0),(.int .i64 0),(.int .i64 0),(.string .empty),(.int .i64 0),(.int .i64 0),(.int .i64 0),(.string .empty),(.int .i64 0),(.int .i64 0),(.int .i64 0),(.string .empty),(.int .i64 0),(.int .i64 0),(.int .i64 0),(.string .empty),(.int .i64 0),(.int .i64 0),(.int .i64 0),(.string .empty),(.int .i64 0),(.int .i64 0),(.int .i64 0),(.string .empty),(.int .i64 0),(.int .i64 0),(.int .i64 0),(.string .empty),(.int .i64 0),(.int .i64 0),(.int .i64 0),(.string .empty),(.int .i64 0),(.int .i64 0),(.int .i64 0),(.string .empty),(.int .i64 0),(.int .i64 0),(.int .i64 0),(.string .empty),(.int .i64 0),(.int .i64 0),(.int .i64 0),(.string .empty),(.int .i64 0),(.int .i64 0),(.int .i64 0),(.string .empty),(.int .i64 0),(.int .i64 0),(.int .i64 0),(.string .empty),(.int .i64 0),(.int .i64 0),(.int .i64 0),(.string .empty),(.int .i64 0),(.int .i64 0),(.int .i64 0),(.string .empty),(.int .i64 0),(.int .i64 0),(.int .i64 0),(.string .empty),(.int .i64 0),(.int .i64 0),(.int .i64 0),(.string .empty),(.int .i64 0),(.int .i64 0),(.int .i64 0),(.string .empty),(.int .i64 0),(.int .i64 0),(.int .i64 0),(.string .empty),(.int .i64 0),(.int .i64 0),(.int .i64 0),(.string .empty),(.int .i64 0),(.int .i64 0),(.int .i64 0),(.string .empty),(.int .i64 0),(.int .i64 0),(.int .i64 0),(.string .empty),(.int .i64 0),(.int .i64 0),(.int .i64 0),(.string .empty),(.int .i64 0),(.int .i64 0),(.int .i64 0),(.string .empty),(.int .i64 0),(.int .i64 0),(.int .i64 0),(.string .empty),(.int .i64 0),(.int .i64 0),(.int .i64 0),(.string .empty),(.int .i64 0),(.int .i64 0),(.int .i64 0),(.string .empty),(.int .i64 0),(.int .i64 0),(.int .i64 0),(.string .empty),(.int .i64 0),(.int .i64 0),(.int .i64 0),(.string .empty),(.int .i64 0),(.int .i64 0),(.int .i64 0),(.string .empty),(.int .i64 0),(.int .i64 0),(.int .i64 0),(.string .empty),(.int .i64 0),(.int .i64 0),(.int .i64 0),(.string .empty),(.int .i64 0),(.int .i64 0),(.int .i64 0),(.string .empty),(.int .i64 0),(.int .i64 0),(.int .i64 0),(.string .empty),(.int .i64 0),(.int .i64 0),(.int .i64 0),(.string .empty)] [(0,4,(.t 1)),(4,4,(.t 2)),(8,4,(.t 3)),(12,4,(.t 4)),(16,4,(.t 5)),(20,4,(.t 6)),(24,4,(.t 7)),(28,4,(.t 8)),(32,4,(.t 9)),(36,4,(.t 10)),(40,4,(.t 11)),(44,4,(.t 12)),(48,4,(.t 13)),(52,4,(.t 14)),(56,4,(.t 15)),(60,4,(.t 16)),(64,4,(.t 17)),(68,4,(.t 18)),(72,4,(.t 19)),(76,4,(.t 20)),(80,4,(.t 21)),(84,4,(.t 22)),(88,4,(.t 23)),(92,4,(.t 24)),(96,4,(.t 25)),(100,4,(.t 26)),(104,4,(.t 27)),(108,4,(.t 28)),(112,4,(.t 29)),(116,4,(.t 30)),(120,4,(.t 31)),(124,4,(.t 32)),(128,4,(.t 33)),(132,4,(.t 34)),(136,4,(.t 35))]),oM 0 36]) (.ret)
def c_3d : C :=
 .seq (.ops [oA 0 (.mov (.c (.slice none 0 0)))]) (c0_3d)
def f_3d : F := ⟨c_3d, [.t 0], some []⟩
theorem h_3d : compF Tryz.prog (compAny Tryz.prog) n_3d = some (f_3d.body, f_3d.res) := by kernel_rfl
end Go.Proofs.YtmgoleiafiffoaaGreat.Cd
