/- Texts of one kind, one behind the other. -/
import Derived.Test.YtoiiphcbkejliaaGreatMd1
import Derived.Test.YtoiiphcbkejliaaGreatProg
import Derived.Test.YtoiiphcbkejliaaGreatMb0
import Derived.Conc.LoneSelect
import Derived.KernelRfl
set_option maxRecDepth 100000
set_option linter.defProp false
namespace Go.Proofs.YtoiiphcbkejliaaGreat.Cd
open Go Go.Dx
def c0_9x : C :=
 .seq (.ops [oM 3 0,oA 4 (.nilc (.t 3)),oA 5 (.fa 5 (.t 4)),oA 6 (.ld (.t 5)),oA 7 (.bin .and (.t 6) (.c (.int .u32 1))),oA 8 (.bin .neq (.t 7) (.c (.int .u32 0))),oM 9 8,oT 10 9 (.mov (.t 0)),oT 11 9 (.nilc (.t 10)),oT 12 9 (.fa 2 (.t 11)),oT 13 9 (.ld (.t 12)),oT 14 9 (.len 3 (.t 13)),oT 15 9 (.bin .gtr (.t 14) (.c (.int .i64 0))),oA 16 (.pick (.t 9) (.t 15) (.c (.bool false))),oM 17 16,oF 18 17 (.mov (.t 0)),oF 19 17 (.nilc (.t 18)),oF 20 17 (.fa 5 (.t 19)),oF 21 17 (.ld (.t 20)),oF 22 17 (.bin .and (.t 21) (.c (.int .u32 2))),oF 23 17 (.bin .neq (.t 22) (.c (.int .u32 0))),oF 24 17 (.mov (.t 23)),oT 25 24 (.mov (.t 0)),oT 26 24 (.nilc (.t 25)),oT 27 24 (.fa 3 (.t 26)),oT 28 24 (.ld (.t 27)),oT 29 24 (.len 3 (.t 28)),oT 30 24 (.bin .eql (.t 29) (.c (.int .i64 0))),oF 31 17 (.pick (.t 24) (.t 30) (.c (.bool false))),oA 32 (.pick (.t 17) (.c (.bool true)) (.t 31)),oM 2 32]) (.ret)
def c_9x : C :=
 .seq (.ops [oA 2 (.mov (.c (.bool false)))]) (c0_9x)
def f_9x : F := ⟨c_9x, [.t 2], some []⟩
theorem h_9x : compF Tryz.prog (compAny Tryz.prog) n_9x = some (f_9x.body, f_9x.res) := by kernel_rfl
def c_2m : C :=
 .seq (.ops [oA 2 (.mov (.c (.bool false)))]) (.seq (.ops [oM 3 0,oA 4 (.nilc (.t 3)),oA 5 (.fa 6 (.t 4)),oA 6 (.ld (.t 5)),oA 7 (.bin .and (.t 6) (.c (.int .u32 6))),oA 8 (.bin .neq (.t 7) (.c (.int .u32 0))),oM 2 8]) (.ret))
def f_2m : F := ⟨c_2m, [.t 2], some []⟩
theorem h_2m : compF Tryz.prog (compAny Tryz.prog) n_2m = some (f_2m.body, f_2m.res) := by kernel_rfl
def c_2e : C :=
 .seq (.ops [oA 2 (.mov (.c (.bool false)))]) (.seq (.ops [oM 3 0,oA 4 (.nilc (.t 3)),oA 5 (.fa 7 (.t 4)),oA 6 (.ld (.t 5)),oA 7 (.bin .and (.t 6) (.c (.int .u32 6))),oA 8 (.bin .neq (.t 7) (.c (.int .u32 0))),oM 2 8]) (.ret))
def f_2e : F := ⟨c_2e, [.t 2], some []⟩
theorem h_2e : compF Tryz.prog (compAny Tryz.prog) n_2e = some (f_2e.body, f_2e.res) := by kernel_rfl
def c_9j : C :=
 .any 0 [.op 0 (oM 4 0),.op 1 (oA 5 (.nilc (.t 4))),.op 2 (oA 6 (.fa 1 (.t 5))),.op 3 (oA 7 (.ld (.t 6))),.op 4 (oM 8 0),.op 5 (oA 9 (.nilc (.t 8))),.op 6 (oA 10 (.fa 0 (.t 9))),.op 7 (oA 11 (.ld (.t 10))),.op 9 (oM 13 0),.op 10 (oA 14 (.nilc (.t 13))),.op 11 (oA 15 (.fa 3 (.t 14))),.op 12 (oA 16 (.ld (.t 15))),.op 8 (oM 12 1),.op 13 (oA 17 (.mx (.c (.int .u32 1)) (.t 16))),.op 14 (oA 18 (.conv .i64 (.t 17))),.op 15 (oA 19 (.bin .add (.t 12) (.t 18))),.op 16 (oA 20 (.call n_081 [(.t 7),(.t 11),(.t 19)]))]
def f_9j : F := ⟨c_9j, [], some []⟩
theorem h_9j : compF Tryz.prog (compAny Tryz.prog) n_9j = some (f_9j.body, f_9j.res) := by kernel_rfl
def c_021 : C :=
 .any 0 [.op 0 (oM 4 0),.op 1 (oA 5 (.nilc (.t 4))),.op 2 (oA 6 (.fa 1 (.t 5))),.op 3 (oA 7 (.ld (.t 6))),.op 4 (oM 8 0),.op 5 (oA 9 (.nilc (.t 8))),.op 6 (oA 10 (.fa 0 (.t 9))),.op 7 (oA 11 (.ld (.t 10))),.op 8 (oM 12 1),.op 9 (oA 13 (.bin .add (.t 12) (.c (.int .i64 8)))),.op 10 (oA 14 (.call n_081 [(.t 7),(.t 11),(.t 13)]))]
def f_021 : F := ⟨c_021, [], some []⟩
theorem h_021 : compF Tryz.prog (compAny Tryz.prog) n_021 = some (f_021.body, f_021.res) := by kernel_rfl
def c0_2q : C :=
 .seq (.any 0 [.op 0 (oM 27 4),.op 1 (oM 28 27),.op 2 (oT 29 28 (.mov (.t 0))),.op 3 (oT 30 28 (.nilc (.t 29))),.op 4 (oT 31 28 (.fa 2 (.t 30))),.op 5 (oT 32 28 (.ld (.t 31))),.op 6 (oT 33 28 (.mov (.t 0))),.op 7 (oT 34 28 (.nilc (.t 33))),.op 8 (oT 35 28 (.fa 4 (.t 34))),.op 9 (oT 36 28 (.ld (.t 35))),.op 10 (oT 37 28 (.mov (.t 3))),.op 11 (oT 38 28 (.call n_7t [(.t 32),(.t 36),(.t 37)])),.op 12 (oA 39 (.pick (.t 28) (.t 38) (.c (.bool false)))),.op 13 (oM 2 39)]) (.ret)
def c1_2q : C :=
 .seq (.any 0 [.op 0 (oM 11 0),.op 1 (oA 12 (.nilc (.t 11))),.op 2 (oA 13 (.fa 2 (.t 12))),.op 3 (oA 14 (.ld (.t 13))),.op 4 (oM 15 0),.op 5 (oA 16 (.nilc (.t 15))),.op 6 (oA 17 (.fa 3 (.t 16))),.op 7 (oA 18 (.ld (.t 17))),.op 8 (oM 19 0),.op 9 (oA 20 (.nilc (.t 19))),.op 10 (oA 21 (.fa 5 (.t 20))),.op 11 (oA 22 (.ld (.t 21))),.op 12 (oA 23 (.conv .i64 (.t 22))),.op 13 (oA 24 (.call n_7q [(.t 14),(.t 18),(.t 23)])),.op 14 (oM 10 24),.op 15 (oA 25 (.ext (.t 10) 0)),.op 16 (oA 26 (.ext (.t 10) 1)),.op 17 (oM 3 25),.op 18 (oM 4 26)]) (c0_2q)
def c_2q : C :=
 .seq (.ops [oA 2 (.mov (.c (.bool false)))]) (.seq (.seq (.ops [oM 5 0,oA 6 (.nilc (.t 5)),oA 7 (.fa 5 (.t 6)),oA 8 (.ld (.t 7)),oA 9 (.bin .gtr (.t 8) (.c (.int .u32 4096)))]) (.cond (.t 9) (.seq (.ops [oA 2 (.mov (.c (.bool false)))]) (.ret)) (.skip))) (c1_2q))
def f_2q : F := ⟨c_2q, [.t 2], some []⟩
theorem h_2q : compF Tryz.prog (compAny Tryz.prog) n_2q = some (f_2q.body, f_2q.res) := by kernel_rfl
def c0_2j : C :=
 .seq (.any 0 [.op 0 (oM 32 0),.op 1 (oA 33 (.nilc (.t 32))),.op 2 (oA 34 (.fa 2 (.t 33))),.op 3 (oA 35 (.ld (.t 34))),.op 4 (oM 36 0),.op 5 (oA 37 (.nilc (.t 36))),.op 6 (oA 38 (.fa 5 (.t 37))),.op 7 (oA 39 (.ld (.t 38))),.op 8 (oM 40 3),.op 9 (oA 41 (.call n_7t [(.t 35),(.t 39),(.t 40)])),.op 10 (oM 2 41)]) (.ret)
def c1_2j : C :=
 .seq (.any 0 [.op 0 (oM 45 0),.op 1 (oA 46 (.nilc (.t 45))),.op 2 (oA 47 (.fa 2 (.t 46))),.op 3 (oA 48 (.ld (.t 47))),.op 4 (oM 49 0),.op 5 (oA 50 (.nilc (.t 49))),.op 6 (oA 51 (.fa 5 (.t 50))),.op 7 (oA 52 (.ld (.t 51))),.op 8 (oA 53 (.call n_7q [(.t 48),(.t 52),(.c (.int .i64 64))])),.op 9 (oM 44 53),.op 10 (oA 54 (.ext (.t 44) 0)),.op 11 (oA 55 (.ext (.t 44) 1)),.op 12 (oM 4 54),.op 13 (oM 5 55)]) (.seq (.ops [oM 56 3,oM 57 4,oA 58 (.cpy 1 (.t 56) (.t 57))]) (.seq (.ops [oM 59 5,oM 2 59]) (.ret)))
def c2_2j : C :=
 .seq (.seq (.ops [oM 26 0,oA 27 (.nilc (.t 26)),oA 28 (.fa 6 (.t 27)),oA 29 (.ld (.t 28))]) (.block 0 (.seq (.ops [oA 31 (.bin .eql (.t 29) (.c (.int .u32 1))),oM 30 31]) (.cond (.t 30) (c0_2j) (.seq (.ops [oA 43 (.bin .eql (.t 29) (.c (.int .u32 2))),oM 42 43]) (.cond (.t 42) (c1_2j) (.skip))))))) (.seq (.ops [oA 2 (.mov (.c (.bool false)))]) (.ret))
def c3_2j : C :=
 .seq (.any 0 [.op 0 (oM 14 0),.op 1 (oA 15 (.nilc (.t 14))),.op 2 (oA 16 (.fa 3 (.t 15))),.op 3 (oA 17 (.ld (.t 16))),.op 4 (oM 18 0),.op 5 (oA 19 (.nilc (.t 18))),.op 6 (oA 20 (.fa 4 (.t 19))),.op 7 (oA 21 (.ld (.t 20))),.op 8 (oA 22 (.conv .i64 (.t 21))),.op 9 (oA 23 (.bin .mul (.t 22) (.c (.int .i64 64)))),.op 10 (oA 24 (.sl 1 (.t 17) (some (.t 23)) none none)),.op 11 (oA 25 (.sl 1 (.t 24) none (some (.c (.int .i64 64))) none)),.op 12 (oM 3 25)]) (c2_2j)
def c4_2j : C :=
 .seq (.seq (.any 0 [.op 0 (oM 6 0),.op 1 (oA 7 (.nilc (.t 6))),.op 2 (oA 8 (.fa 4 (.t 7))),.op 3 (oA 9 (.ld (.t 8))),.op 4 (oM 10 0),.op 5 (oA 11 (.call n_2g [(.t 10)])),.re 3 (oA 9 (.ld (.t 8))),.op 6 (oA 12 (.conv .u32 (.t 11))),.op 7 (oA 13 (.bin .geq (.t 9) (.t 12)))]) (.cond (.t 13) (.seq (.ops [oA 2 (.mov (.c (.bool false)))]) (.ret)) (.skip))) (c3_2j)
def c_2j : C :=
 .seq (.ops [oA 2 (.mov (.c (.bool false)))]) (c4_2j)
def f_2j : F := ⟨c_2j, [.t 2], some []⟩
theorem h_2j : compF Tryz.prog (compAny Tryz.prog) n_2j = some (f_2j.body, f_2j.res) := by kernel_rfl
def c0_3j : C :=
 .seq (.ops [oA 26 (.bin .eql (.t 8) (.c (.int .u32 12))),oM 25 26]) (.cond (.t 25) (.seq (.ops [oM 27 2,oA 28 (.bin .shr (.t 27) (.c (.int .u64 32))),oA 29 (.conv .u32 (.t 28)),oM 6 29,oA 7 (.mov (.c (.bool true)))]) (.ret)) (.skip))
def c1_3j : C :=
 .cond (.t 15) (.seq (.ops [oM 17 0,oA 18 (.nilc (.t 17)),oA 19 (.fa 1 (.t 18)),oA 20 (.ld (.t 19)),oM 6 20,oA 7 (.mov (.c (.bool true)))]) (.ret)) (.seq (.ops [oA 22 (.bin .eql (.t 8) (.c (.int .u32 8))),oM 21 22]) (.cond (.t 21) (.seq (.ops [oM 23 2,oA 24 (.conv .u32 (.t 23)),oM 6 24,oA 7 (.mov (.c (.bool true)))]) (.ret)) (c0_3j)))
def c2_3j : C :=
 .cond (.t 9) (.seq (.ops [oM 11 0,oA 12 (.nilc (.t 11)),oA 13 (.fa 0 (.t 12)),oA 14 (.ld (.t 13)),oM 6 14,oA 7 (.mov (.c (.bool true)))]) (.ret)) (.seq (.ops [oA 16 (.bin .eql (.t 8) (.c (.int .u32 4))),oM 15 16]) (c1_3j))
def c_3j : C :=
 .seq (.ops [oA 6 (.mov (.c (.int .u32 0))),oA 7 (.mov (.c (.bool false)))]) (.seq (.seq (.ops [oM 8 1]) (.block 0 (.seq (.ops [oA 10 (.bin .eql (.t 8) (.c (.int .u32 0))),oM 9 10]) (c2_3j)))) (.seq (.ops [oA 6 (.mov (.c (.int .u32 0))),oA 7 (.mov (.c (.bool false)))]) (.ret)))
def f_3j : F := ⟨c_3j, [.t 6, .t 7], some []⟩
theorem h_3j : compF Tryz.prog (compAny Tryz.prog) n_3j = some (f_3j.body, f_3j.res) := by kernel_rfl
def c0_9h : C :=
 .seq (.ops [oA 20 (.bin .eql (.t 6) (.c (.int .u32 8))),oM 19 20]) (.cond (.t 19) (.seq (.ops [oM 21 0,oA 22 (.nilc (.t 21)),oA 23 (.fa 4 (.t 22)),oA 24 (.ld (.t 23)),oM 4 24,oA 5 (.mov (.c (.bool true)))]) (.ret)) (.skip))
def c1_9h : C :=
 .seq (.ops [oA 14 (.bin .eql (.t 6) (.c (.int .u32 4))),oM 13 14]) (.cond (.t 13) (.seq (.ops [oM 15 0,oA 16 (.nilc (.t 15)),oA 17 (.fa 3 (.t 16)),oA 18 (.ld (.t 17)),oM 4 18,oA 5 (.mov (.c (.bool true)))]) (.ret)) (c0_9h))
def c2_9h : C :=
 .block 0 (.seq (.ops [oA 8 (.bin .eql (.t 6) (.c (.int .u32 0))),oM 7 8]) (.cond (.t 7) (.seq (.ops [oM 9 0,oA 10 (.nilc (.t 9)),oA 11 (.fa 2 (.t 10)),oA 12 (.ld (.t 11)),oM 4 12,oA 5 (.mov (.c (.bool true)))]) (.ret)) (c1_9h)))
def c_9h : C :=
 .seq (.ops [oA 4 (.mov (.c (.int .u32 0))),oA 5 (.mov (.c (.bool false)))]) (.seq (.seq (.ops [oM 6 1]) (c2_9h)) (.seq (.ops [oA 4 (.mov (.c (.int .u32 0))),oA 5 (.mov (.c (.bool false)))]) (.ret)))
def f_9h : F := ⟨c_9h, [.t 4, .t 5], some []⟩
theorem h_9h : compF Tryz.prog (compAny Tryz.prog) n_9h = some (f_9h.body, f_9h.res) := by kernel_rfl
def c0_9z : C :=
 .seq (.seq (.ops [oM 12 0,oA 13 (.nilc (.t 12)),oA 14 (.fa 2 (.t 13)),oA 15 (.ld (.t 14)),oA 16 (.call n_051 [(.t 15)]),oM 11 16,oA 17 (.ext (.t 11) 0),oA 18 (.ext (.t 11) 1),oM 6 17,oM 7 18]) (.seq (.ops [oM 19 7]) (.cond (.t 19) (.seq (.ops [oM 20 6,oA 21 (.conv .u32 (.t 20)),oM 4 21,oA 5 (.mov (.c (.bool true)))]) (.ret)) (.skip)))) (.seq (.ops [oA 4 (.mov (.c (.int .u32 256))),oA 5 (.mov (.c (.bool true)))]) (.ret))
def c1_9z : C :=
 .seq (.any 0 [.op 0 (oM 24 0),.op 1 (oA 25 (.nilc (.t 24))),.op 2 (oA 26 (.fa 2 (.t 25))),.op 3 (oA 27 (.ld (.t 26))),.op 4 (oA 28 (.len 3 (.t 27))),.op 7 (oM 31 0),.op 8 (oA 32 (.nilc (.t 31))),.op 9 (oA 33 (.fa 3 (.t 32))),.op 10 (oA 34 (.ld (.t 33))),.op 15 (oM 39 0),.op 16 (oA 40 (.nilc (.t 39))),.op 17 (oA 41 (.fa 4 (.t 40))),.op 18 (oA 42 (.ld (.t 41))),.op 21 (oM 45 0),.op 22 (oA 46 (.nilc (.t 45))),.op 23 (oA 47 (.fa 3 (.t 46))),.op 24 (oA 48 (.ld (.t 47))),.op 5 (oA 29 (.bin .gtr (.t 28) (.c (.int .i64 0)))),.op 6 (oA 30 (.call n_031 [(.t 29),(.c (.int .u32 1))])),.re 10 (oA 34 (.ld (.t 33))),.re 18 (oA 42 (.ld (.t 41))),.re 24 (oA 48 (.ld (.t 47))),.op 11 (oA 35 (.len 3 (.t 34))),.op 12 (oA 36 (.bin .eql (.t 35) (.c (.int .i64 16)))),.op 13 (oA 37 (.call n_031 [(.t 36),(.c (.int .u32 2))])),.re 18 (oA 42 (.ld (.t 41))),.re 24 (oA 48 (.ld (.t 47))),.op 19 (oA 43 (.call n_031 [(.t 42),(.c (.int .u32 4))])),.re 24 (oA 48 (.ld (.t 47))),.op 25 (oA 49 (.len 3 (.t 48))),.op 26 (oA 50 (.bin .eql (.t 49) (.c (.int .i64 0)))),.op 27 (oA 51 (.call n_031 [(.t 50),(.c (.int .u32 8))])),.op 14 (oA 38 (.bin .or (.t 30) (.t 37))),.op 20 (oA 44 (.bin .or (.t 38) (.t 43))),.op 28 (oA 52 (.bin .or (.t 44) (.t 51))),.op 29 (oM 4 52),.op 30 (oA 5 (.mov (.c (.bool true))))]) (.ret)
def c2_9z : C :=
 .seq (.ops [oA 54 (.bin .eql (.t 8) (.c (.int .u32 8))),oM 53 54]) (.cond (.t 53) (.seq (.ops [oM 55 0,oA 56 (.nilc (.t 55)),oA 57 (.fa 5 (.t 56)),oA 58 (.ld (.t 57)),oM 4 58,oA 5 (.mov (.c (.bool true)))]) (.ret)) (.skip))
def c3_9z : C :=
 .seq (.seq (.ops [oM 8 1]) (.block 0 (.seq (.ops [oA 10 (.bin .eql (.t 8) (.c (.int .u32 0))),oM 9 10]) (.cond (.t 9) (c0_9z) (.seq (.ops [oA 23 (.bin .eql (.t 8) (.c (.int .u32 4))),oM 22 23]) (.cond (.t 22) (c1_9z) (c2_9z))))))) (.seq (.ops [oA 4 (.mov (.c (.int .u32 0))),oA 5 (.mov (.c (.bool false)))]) (.ret))
def c_9z : C :=
 .seq (.ops [oA 4 (.mov (.c (.int .u32 0))),oA 5 (.mov (.c (.bool false)))]) (c3_9z)
def f_9z : F := ⟨c_9z, [.t 4, .t 5], some []⟩
theorem h_9z : compF Tryz.prog (compAny Tryz.prog) n_9z = some (f_9z.body, f_9z.res) := by kernel_rfl
def c0_2n : C :=
 .seq (.ops [oA 28 (.bin .eql (.t 6) (.c (.int .u32 16))),oM 27 28]) (.cond (.t 27) (.seq (.ops [oM 29 0,oA 30 (.nilc (.t 29)),oA 31 (.fa 6 (.t 30)),oA 32 (.ld (.t 31)),oM 4 32,oA 5 (.mov (.c (.bool true)))]) (.ret)) (.skip))
def c1_2n : C :=
 .cond (.t 19) (.seq (.ops [oM 21 0,oA 22 (.nilc (.t 21)),oA 23 (.fa 5 (.t 22)),oA 24 (.ld (.t 23)),oM 4 24,oA 5 (.mov (.c (.bool true)))]) (.ret)) (.seq (.ops [oA 26 (.bin .eql (.t 6) (.c (.int .u32 12))),oM 25 26]) (.cond (.t 25) (.seq (.ops [oA 4 (.mov (.c (.int .u32 0))),oA 5 (.mov (.c (.bool true)))]) (.ret)) (c0_2n)))
def c2_2n : C :=
 .cond (.t 13) (.seq (.ops [oM 15 0,oA 16 (.nilc (.t 15)),oA 17 (.fa 4 (.t 16)),oA 18 (.ld (.t 17)),oM 4 18,oA 5 (.mov (.c (.bool true)))]) (.ret)) (.seq (.ops [oA 20 (.bin .eql (.t 6) (.c (.int .u32 8))),oM 19 20]) (c1_2n))
def c3_2n : C :=
 .cond (.t 7) (.seq (.ops [oM 9 0,oA 10 (.nilc (.t 9)),oA 11 (.fa 3 (.t 10)),oA 12 (.ld (.t 11)),oM 4 12,oA 5 (.mov (.c (.bool true)))]) (.ret)) (.seq (.ops [oA 14 (.bin .eql (.t 6) (.c (.int .u32 4))),oM 13 14]) (c2_2n))
def c_2n : C :=
 .seq (.ops [oA 4 (.mov (.c (.int .u32 0))),oA 5 (.mov (.c (.bool false)))]) (.seq (.seq (.ops [oM 6 1]) (.block 0 (.seq (.ops [oA 8 (.bin .eql (.t 6) (.c (.int .u32 0))),oM 7 8]) (c3_2n)))) (.seq (.ops [oA 4 (.mov (.c (.int .u32 0))),oA 5 (.mov (.c (.bool false)))]) (.ret)))
def f_2n : F := ⟨c_2n, [.t 4, .t 5], some []⟩
theorem h_2n : compF Tryz.prog (compAny Tryz.prog) n_2n = some (f_2n.body, f_2n.res) := by kernel_rfl
def c0_2f : C :=
 .seq (.ops [oA 26 (.bin .eql (.t 6) (.c (.int .u32 12))),oM 25 26]) (.cond (.t 25) (.seq (.ops [oM 27 0,oA 28 (.nilc (.t 27)),oA 29 (.fa 7 (.t 28)),oA 30 (.ld (.t 29)),oM 4 30,oA 5 (.mov (.c (.bool true)))]) (.ret)) (.skip))
def c1_2f : C :=
 .seq (.ops [oA 20 (.bin .eql (.t 6) (.c (.int .u32 8))),oM 19 20]) (.cond (.t 19) (.seq (.ops [oM 21 0,oA 22 (.nilc (.t 21)),oA 23 (.fa 6 (.t 22)),oA 24 (.ld (.t 23)),oM 4 24,oA 5 (.mov (.c (.bool true)))]) (.ret)) (c0_2f))
def c2_2f : C :=
 .seq (.ops [oA 14 (.bin .eql (.t 6) (.c (.int .u32 4))),oM 13 14]) (.cond (.t 13) (.seq (.ops [oM 15 0,oA 16 (.nilc (.t 15)),oA 17 (.fa 5 (.t 16)),oA 18 (.ld (.t 17)),oM 4 18,oA 5 (.mov (.c (.bool true)))]) (.ret)) (c1_2f))
def c3_2f : C :=
 .block 0 (.seq (.ops [oA 8 (.bin .eql (.t 6) (.c (.int .u32 0))),oM 7 8]) (.cond (.t 7) (.seq (.ops [oM 9 0,oA 10 (.nilc (.t 9)),oA 11 (.fa 4 (.t 10)),oA 12 (.ld (.t 11)),oM 4 12,oA 5 (.mov (.c (.bool true)))]) (.ret)) (c2_2f)))
def c_2f : C :=
 .seq (.ops [oA 4 (.mov (.c (.int .u32 0))),oA 5 (.mov (.c (.bool false)))]) (.seq (.seq (.ops [oM 6 1]) (c3_2f)) (.seq (.ops [oA 4 (.mov (.c (.int .u32 0))),oA 5 (.mov (.c (.bool false)))]) (.ret)))
def f_2f : F := ⟨c_2f, [.t 4, .t 5], some []⟩
theorem h_2f : compF Tryz.prog (compAny Tryz.prog) n_2f = some (f_2f.body, f_2f.res) := by kernel_rfl
def c0_23 : C :=
 .seq (.ops [oM 130 0,oA 131 (.bin .eql (.t 130) (.c (.int .i64 54))),oM 132 131,oF 133 132 (.mov (.t 0)),oF 134 132 (.bin .eql (.t 133) (.c (.int .i64 55))),oA 135 (.pick (.t 132) (.c (.bool true)) (.t 134)),oM 129 135]) (.cond (.t 129) (.seq (.ops [oA 2 (.mov (.c (.int .i64 6)))]) (.ret)) (.skip))
def c1_23 : C :=
 .cond (.t 103) (.seq (.ops [oA 2 (.mov (.c (.int .i64 19)))]) (.ret)) (.seq (.ops [oM 127 0,oA 128 (.bin .eql (.t 127) (.c (.int .i64 53))),oM 126 128]) (.cond (.t 126) (.seq (.ops [oA 2 (.mov (.c (.int .i64 18)))]) (.ret)) (c0_23)))
def c2_23 : C :=
 .seq (.ops [oM 104 0,oA 105 (.bin .eql (.t 104) (.c (.int .i64 42))),oM 106 105,oF 107 106 (.mov (.t 0)),oF 108 106 (.bin .eql (.t 107) (.c (.int .i64 43))),oA 109 (.pick (.t 106) (.c (.bool true)) (.t 108)),oM 110 109,oF 111 110 (.mov (.t 0)),oF 112 110 (.bin .geq (.t 111) (.c (.int .i64 46))),oF 113 110 (.mov (.t 112)),oT 114 113 (.mov (.t 0)),oT 115 113 (.bin .leq (.t 114) (.c (.int .i64 52))),oF 116 110 (.pick (.t 113) (.t 115) (.c (.bool false))),oA 117 (.pick (.t 110) (.c (.bool true)) (.t 116)),oM 118 117,oF 119 118 (.mov (.t 0)),oF 120 118 (.bin .geq (.t 119) (.c (.int .i64 66))),oF 121 118 (.mov (.t 120)),oT 122 121 (.mov (.t 0)),oT 123 121 (.bin .leq (.t 122) (.c (.int .i64 75))),oF 124 118 (.pick (.t 121) (.t 123) (.c (.bool false))),oA 125 (.pick (.t 118) (.c (.bool true)) (.t 124)),oM 103 125]) (c1_23)
def c3_23 : C :=
 .seq (.ops [oM 97 0,oA 98 (.bin .eql (.t 97) (.c (.int .i64 40))),oM 99 98,oF 100 99 (.mov (.t 0)),oF 101 99 (.bin .eql (.t 100) (.c (.int .i64 41))),oA 102 (.pick (.t 99) (.c (.bool true)) (.t 101)),oM 96 102]) (.cond (.t 96) (.seq (.ops [oA 2 (.mov (.c (.int .i64 32)))]) (.ret)) (c2_23))
def c4_23 : C :=
 .seq (.ops [oM 82 0,oA 83 (.bin .geq (.t 82) (.c (.int .i64 36))),oM 84 83,oT 85 84 (.mov (.t 0)),oT 86 84 (.bin .leq (.t 85) (.c (.int .i64 39))),oA 87 (.pick (.t 84) (.t 86) (.c (.bool false))),oM 88 87,oF 89 88 (.mov (.t 0)),oF 90 88 (.bin .eql (.t 89) (.c (.int .i64 44))),oA 91 (.pick (.t 88) (.c (.bool true)) (.t 90)),oM 92 91,oF 93 92 (.mov (.t 0)),oF 94 92 (.bin .eql (.t 93) (.c (.int .i64 45))),oA 95 (.pick (.t 92) (.c (.bool true)) (.t 94)),oM 81 95]) (.cond (.t 81) (.seq (.ops [oA 2 (.mov (.c (.int .i64 17)))]) (.ret)) (c3_23))
def c5_23 : C :=
 .seq (.ops [oM 67 0,oA 68 (.bin .geq (.t 67) (.c (.int .i64 18))),oM 69 68,oT 70 69 (.mov (.t 0)),oT 71 69 (.bin .leq (.t 70) (.c (.int .i64 21))),oA 72 (.pick (.t 69) (.t 71) (.c (.bool false))),oM 73 72,oF 74 73 (.mov (.t 0)),oF 75 73 (.bin .geq (.t 74) (.c (.int .i64 32))),oF 76 73 (.mov (.t 75)),oT 77 76 (.mov (.t 0)),oT 78 76 (.bin .leq (.t 77) (.c (.int .i64 35))),oF 79 73 (.pick (.t 76) (.t 78) (.c (.bool false))),oA 80 (.pick (.t 73) (.c (.bool true)) (.t 79)),oM 66 80]) (.cond (.t 66) (.seq (.ops [oA 2 (.mov (.c (.int .i64 3)))]) (.ret)) (c4_23))
def c6_23 : C :=
 .seq (.ops [oM 60 0,oA 61 (.bin .eql (.t 60) (.c (.int .i64 14))),oM 62 61,oF 63 62 (.mov (.t 0)),oF 64 62 (.bin .eql (.t 63) (.c (.int .i64 16))),oA 65 (.pick (.t 62) (.c (.bool true)) (.t 64)),oM 59 65]) (.cond (.t 59) (.seq (.ops [oA 2 (.mov (.c (.int .i64 4)))]) (.ret)) (c5_23))
def c7_23 : C :=
 .seq (.ops [oM 49 0,oA 50 (.bin .eql (.t 49) (.c (.int .i64 8))),oM 51 50,oF 52 51 (.mov (.t 0)),oF 53 51 (.bin .eql (.t 52) (.c (.int .i64 64))),oA 54 (.pick (.t 51) (.c (.bool true)) (.t 53)),oM 55 54,oF 56 55 (.mov (.t 0)),oF 57 55 (.bin .eql (.t 56) (.c (.int .i64 65))),oA 58 (.pick (.t 55) (.c (.bool true)) (.t 57)),oM 48 58]) (.cond (.t 48) (.seq (.ops [oA 2 (.mov (.c (.int .i64 5)))]) (.ret)) (c6_23))
def c8_23 : C :=
 .seq (.ops [oM 38 0,oA 39 (.bin .eql (.t 38) (.c (.int .i64 7))),oM 40 39,oF 41 40 (.mov (.t 0)),oF 42 40 (.bin .eql (.t 41) (.c (.int .i64 15))),oA 43 (.pick (.t 40) (.c (.bool true)) (.t 42)),oM 44 43,oF 45 44 (.mov (.t 0)),oF 46 44 (.bin .eql (.t 45) (.c (.int .i64 17))),oA 47 (.pick (.t 44) (.c (.bool true)) (.t 46)),oM 37 47]) (.cond (.t 37) (.seq (.ops [oA 2 (.mov (.c (.int .i64 1)))]) (.ret)) (c7_23))
def c9_23 : C :=
 .seq (.ops [oM 11 0,oA 12 (.bin .geq (.t 11) (.c (.int .i64 4))),oM 13 12,oT 14 13 (.mov (.t 0)),oT 15 13 (.bin .leq (.t 14) (.c (.int .i64 6))),oA 16 (.pick (.t 13) (.t 15) (.c (.bool false))),oM 17 16,oF 18 17 (.mov (.t 0)),oF 19 17 (.bin .eql (.t 18) (.c (.int .i64 9))),oA 20 (.pick (.t 17) (.c (.bool true)) (.t 19)),oM 21 20,oF 22 21 (.mov (.t 0)),oF 23 21 (.bin .eql (.t 22) (.c (.int .i64 10))),oA 24 (.pick (.t 21) (.c (.bool true)) (.t 23)),oM 25 24,oF 26 25 (.mov (.t 0)),oF 27 25 (.bin .geq (.t 26) (.c (.int .i64 22))),oF 28 25 (.mov (.t 27)),oT 29 28 (.mov (.t 0)),oT 30 28 (.bin .leq (.t 29) (.c (.int .i64 31))),oF 31 25 (.pick (.t 28) (.t 30) (.c (.bool false))),oA 32 (.pick (.t 25) (.c (.bool true)) (.t 31)),oM 33 32,oF 34 33 (.mov (.t 0)),oF 35 33 (.bin .eql (.t 34) (.c (.int .i64 63))),oA 36 (.pick (.t 33) (.c (.bool true)) (.t 35)),oM 10 36]) (.cond (.t 10) (.seq (.ops [oA 2 (.mov (.c (.int .i64 7)))]) (.ret)) (c8_23))
def c10_23 : C :=
 .seq (.block 0 (.seq (.ops [oM 4 0,oA 5 (.bin .geq (.t 4) (.c (.int .i64 1))),oM 6 5,oT 7 6 (.mov (.t 0)),oT 8 6 (.bin .leq (.t 7) (.c (.int .i64 3))),oA 9 (.pick (.t 6) (.t 8) (.c (.bool false))),oM 3 9]) (.cond (.t 3) (.seq (.ops [oA 2 (.mov (.c (.int .i64 14)))]) (.ret)) (c9_23)))) (.seq (.ops [oA 2 (.mov (.c (.int .i64 0)))]) (.ret))
def c_23 : C :=
 .seq (.ops [oA 2 (.mov (.c (.int .i64 0)))]) (c10_23)
def f_23 : F := ⟨c_23, [.t 2], some []⟩
theorem h_23 : compF Tryz.prog (compAny Tryz.prog) n_23 = some (f_23.body, f_23.res) := by kernel_rfl
def c0_28 : C :=
 .seq (.ops [oM 86 3,oA 87 (.bin .geq (.t 86) (.c (.int .i64 48))),oM 88 87,oT 89 88 (.mov (.t 3)),oT 90 88 (.bin .leq (.t 89) (.c (.int .i64 54))),oA 91 (.pick (.t 88) (.t 90) (.c (.bool false))),oM 92 91,oT 93 92 (.mov (.t 3)),oT 94 92 (.bin .rem (.t 93) (.c (.int .i64 2))),oT 95 92 (.bin .eql (.t 94) (.c (.int .i64 0))),oA 96 (.pick (.t 92) (.t 95) (.c (.bool false))),oM 85 96]) (.cond (.t 85) (.seq (.ops [oM 97 3,oA 98 (.bin .sub (.t 97) (.c (.int .i64 48))),oA 99 (.bin .quo (.t 98) (.c (.int .i64 2))),oA 100 (.bin .add (.c (.int .i64 32)) (.t 99)),oM 2 100]) (.ret)) (.skip))
def c1_28 : C :=
 .seq (.ops [oM 76 3,oA 77 (.bin .eql (.t 76) (.c (.int .i64 42))),oM 78 77,oF 79 78 (.mov (.t 3)),oF 80 78 (.bin .eql (.t 79) (.c (.int .i64 43))),oA 81 (.pick (.t 78) (.c (.bool true)) (.t 80)),oM 75 81]) (.cond (.t 75) (.seq (.ops [oM 82 3,oA 83 (.bin .add (.c (.int .i64 30)) (.t 82)),oA 84 (.bin .sub (.t 83) (.c (.int .i64 42))),oM 2 84]) (.ret)) (c0_28))
def c2_28 : C :=
 .seq (.ops [oM 66 3,oA 67 (.bin .geq (.t 66) (.c (.int .i64 32))),oM 68 67,oT 69 68 (.mov (.t 3)),oT 70 68 (.bin .leq (.t 69) (.c (.int .i64 39))),oA 71 (.pick (.t 68) (.t 70) (.c (.bool false))),oM 65 71]) (.cond (.t 65) (.seq (.ops [oM 72 3,oA 73 (.bin .add (.c (.int .i64 22)) (.t 72)),oA 74 (.bin .sub (.t 73) (.c (.int .i64 32))),oM 2 74]) (.ret)) (c1_28))
def c3_28 : C :=
 .seq (.ops [oM 56 3,oA 57 (.bin .geq (.t 56) (.c (.int .i64 24))),oM 58 57,oT 59 58 (.mov (.t 3)),oT 60 58 (.bin .leq (.t 59) (.c (.int .i64 27))),oA 61 (.pick (.t 58) (.t 60) (.c (.bool false))),oM 55 61]) (.cond (.t 55) (.seq (.ops [oM 62 3,oA 63 (.bin .add (.c (.int .i64 18)) (.t 62)),oA 64 (.bin .sub (.t 63) (.c (.int .i64 24))),oM 2 64]) (.ret)) (c2_28))
def c4_28 : C :=
 .seq (.ops [oM 46 3,oA 47 (.bin .geq (.t 46) (.c (.int .i64 16))),oM 48 47,oT 49 48 (.mov (.t 3)),oT 50 48 (.bin .leq (.t 49) (.c (.int .i64 19))),oA 51 (.pick (.t 48) (.t 50) (.c (.bool false))),oM 45 51]) (.cond (.t 45) (.seq (.ops [oM 52 3,oA 53 (.bin .add (.c (.int .i64 14)) (.t 52)),oA 54 (.bin .sub (.t 53) (.c (.int .i64 16))),oM 2 54]) (.ret)) (c3_28))
def c5_28 : C :=
 .cond (.t 32) (.seq (.ops [oM 39 3,oA 40 (.bin .add (.c (.int .i64 7)) (.t 39)),oA 41 (.bin .sub (.t 40) (.c (.int .i64 8))),oM 2 41]) (.ret)) (.seq (.ops [oM 43 3,oA 44 (.bin .eql (.t 43) (.c (.int .i64 15))),oM 42 44]) (.cond (.t 42) (.seq (.ops [oA 2 (.mov (.c (.int .i64 13)))]) (.ret)) (c4_28)))
def c6_28 : C :=
 .seq (.ops [oM 33 3,oA 34 (.bin .geq (.t 33) (.c (.int .i64 8))),oM 35 34,oT 36 35 (.mov (.t 3)),oT 37 35 (.bin .leq (.t 36) (.c (.int .i64 13))),oA 38 (.pick (.t 35) (.t 37) (.c (.bool false))),oM 32 38]) (c5_28)
def c7_28 : C :=
 .seq (.ops [oM 23 3,oA 24 (.bin .eql (.t 23) (.c (.int .i64 6))),oM 25 24,oF 26 25 (.mov (.t 3)),oF 27 25 (.bin .eql (.t 26) (.c (.int .i64 7))),oA 28 (.pick (.t 25) (.c (.bool true)) (.t 27)),oM 22 28]) (.cond (.t 22) (.seq (.ops [oM 29 3,oA 30 (.bin .add (.c (.int .i64 5)) (.t 29)),oA 31 (.bin .sub (.t 30) (.c (.int .i64 6))),oM 2 31]) (.ret)) (c6_28))
def c8_28 : C :=
 .cond (.t 9) (.seq (.ops [oM 16 3,oA 17 (.bin .add (.c (.int .i64 2)) (.t 16)),oA 18 (.bin .sub (.t 17) (.c (.int .i64 2))),oM 2 18]) (.ret)) (.seq (.ops [oM 20 3,oA 21 (.bin .eql (.t 20) (.c (.int .i64 4))),oM 19 21]) (.cond (.t 19) (.seq (.ops [oA 2 (.mov (.c (.int .i64 4)))]) (.ret)) (c7_28)))
def c9_28 : C :=
 .seq (.ops [oM 10 3,oA 11 (.bin .eql (.t 10) (.c (.int .i64 2))),oM 12 11,oF 13 12 (.mov (.t 3)),oF 14 12 (.bin .eql (.t 13) (.c (.int .i64 3))),oA 15 (.pick (.t 12) (.c (.bool true)) (.t 14)),oM 9 15]) (c8_28)
def c10_28 : C :=
 .seq (.block 0 (.seq (.ops [oM 7 3,oA 8 (.bin .eql (.t 7) (.c (.int .i64 0))),oM 6 8]) (.cond (.t 6) (.seq (.ops [oA 2 (.mov (.c (.int .i64 1)))]) (.ret)) (c9_28)))) (.seq (.ops [oA 2 (.mov (.c (.int .i64 0)))]) (.ret))
def c_28 : C :=
 .seq (.ops [oA 2 (.mov (.c (.int .i64 0)))]) (.seq (.ops [oM 4 0,oA 5 (.conv .i64 (.t 4)),oM 3 5]) (c10_28))
def f_28 : F := ⟨c_28, [.t 2], some []⟩
theorem h_28 : compF Tryz.prog (compAny Tryz.prog) n_28 = some (f_28.body, f_28.res) := by kernel_rfl
def c0_27 : C :=
 .seq (.seq (.ops [oA 11 (.bin .eql (.t 3) (.c (.int .u32 16))),oM 10 11]) (.cond (.t 10) (.skip) (.ops [oA 12 (.bin .eql (.t 3) (.c (.int .u32 17))),oM 10 12]))) (.cond (.t 10) (.seq (.ops [oM 13 0,oA 14 (.conv .i64 (.t 13)),oA 15 (.bin .add (.c (.int .i64 38)) (.t 14)),oA 16 (.bin .sub (.t 15) (.c (.int .i64 16))),oM 2 16]) (.ret)) (.skip))
def c1_27 : C :=
 .block 0 (.seq (.seq (.ops [oA 5 (.bin .eql (.t 3) (.c (.int .u32 0))),oM 4 5]) (.cond (.t 4) (.skip) (.ops [oA 6 (.bin .eql (.t 3) (.c (.int .u32 1))),oM 4 6]))) (.cond (.t 4) (.seq (.ops [oM 7 0,oA 8 (.conv .i64 (.t 7)),oA 9 (.bin .add (.c (.int .i64 36)) (.t 8)),oM 2 9]) (.ret)) (c0_27)))
def c_27 : C :=
 .seq (.ops [oA 2 (.mov (.c (.int .i64 0)))]) (.seq (.seq (.ops [oM 3 0]) (c1_27)) (.seq (.ops [oA 2 (.mov (.c (.int .i64 0)))]) (.ret)))
def f_27 : F := ⟨c_27, [.t 2], some []⟩
theorem h_27 : compF Tryz.prog (compAny Tryz.prog) n_27 = some (f_27.body, f_27.res) := by kernel_rfl
def c0_22 : C :=
 .seq (.ops [oA 11 (.bin .eql (.t 5) (.c (.int .u32 16))),oM 10 11]) (.cond (.t 10) (.seq (.ops [oM 12 0,oA 13 (.bin .and (.t 12) (.c (.int .u32 63))),oA 14 (.call n_2a [(.t 13)]),oM 2 14]) (.ret)) (.skip))
def c1_22 : C :=
 .block 0 (.seq (.ops [oA 7 (.bin .eql (.t 5) (.c (.int .u32 0))),oM 6 7]) (.cond (.t 6) (.seq (.ops [oA 2 (.mov (.c (.int .i64 54)))]) (.ret)) (.seq (.ops [oA 9 (.bin .eql (.t 5) (.c (.int .u32 4))),oM 8 9]) (.cond (.t 8) (.seq (.ops [oA 2 (.mov (.c (.int .i64 55)))]) (.ret)) (c0_22)))))
def c_22 : C :=
 .seq (.ops [oA 2 (.mov (.c (.int .i64 0)))]) (.seq (.seq (.ops [oM 3 0,oA 4 (.bin .shr (.t 3) (.c (.int .u64 21))),oA 5 (.bin .and (.t 4) (.c (.int .u32 31)))]) (c1_22)) (.seq (.ops [oA 2 (.mov (.c (.int .i64 0)))]) (.ret)))
def f_22 : F := ⟨c_22, [.t 2], some []⟩
theorem h_22 : compF Tryz.prog (compAny Tryz.prog) n_22 = some (f_22.body, f_22.res) := by kernel_rfl
def c0_29 : C :=
 .seq (.seq (.ops [oA 7 (.bin .eql (.t 3) (.c (.int .u32 32))),oM 6 7]) (.cond (.t 6) (.skip) (.ops [oA 8 (.bin .eql (.t 3) (.c (.int .u32 33))),oM 6 8]))) (.cond (.t 6) (.seq (.ops [oM 9 0,oA 10 (.conv .i64 (.t 9)),oA 11 (.bin .add (.c (.int .i64 64)) (.t 10)),oA 12 (.bin .sub (.t 11) (.c (.int .i64 32))),oM 2 12]) (.ret)) (.skip))
def c1_29 : C :=
 .seq (.seq (.ops [oM 3 0]) (.block 0 (.seq (.ops [oA 5 (.bin .eql (.t 3) (.c (.int .u32 2))),oM 4 5]) (.cond (.t 4) (.seq (.ops [oA 2 (.mov (.c (.int .i64 63)))]) (.ret)) (c0_29))))) (.seq (.ops [oA 2 (.mov (.c (.int .i64 0)))]) (.ret))
def c_29 : C :=
 .seq (.ops [oA 2 (.mov (.c (.int .i64 0)))]) (c1_29)
def f_29 : F := ⟨c_29, [.t 2], some []⟩
theorem h_29 : compF Tryz.prog (compAny Tryz.prog) n_29 = some (f_29.body, f_29.res) := by kernel_rfl
def c0_25 : C :=
 .cond (.t 68) (.seq (.ops [oA 2 (.mov (.c (.int .i64 77)))]) (.ret)) (.seq (.ops [oM 72 3,oA 73 (.bin .eql (.t 72) (.c (.int .i64 56))),oM 71 73]) (.cond (.t 71) (.seq (.ops [oA 2 (.mov (.c (.int .i64 75)))]) (.ret)) (.skip)))
def c1_25 : C :=
 .seq (.ops [oM 66 3,oA 67 (.bin .eql (.t 66) (.c (.int .i64 48))),oM 65 67]) (.cond (.t 65) (.seq (.ops [oA 2 (.mov (.c (.int .i64 74)))]) (.ret)) (.seq (.ops [oM 69 3,oA 70 (.bin .eql (.t 69) (.c (.int .i64 51))),oM 68 70]) (c0_25)))
def c2_25 : C :=
 .cond (.t 59) (.seq (.ops [oA 2 (.mov (.c (.int .i64 73)))]) (.ret)) (.seq (.ops [oM 63 3,oA 64 (.bin .eql (.t 63) (.c (.int .i64 47))),oM 62 64]) (.cond (.t 62) (.seq (.ops [oA 2 (.mov (.c (.int .i64 76)))]) (.ret)) (c1_25)))
def c3_25 : C :=
 .cond (.t 49) (.seq (.ops [oM 56 3,oA 57 (.bin .add (.c (.int .i64 71)) (.t 56)),oA 58 (.bin .sub (.t 57) (.c (.int .i64 40))),oM 2 58]) (.ret)) (.seq (.ops [oM 60 3,oA 61 (.bin .eql (.t 60) (.c (.int .i64 43))),oM 59 61]) (c2_25))
def c4_25 : C :=
 .seq (.ops [oM 50 3,oA 51 (.bin .eql (.t 50) (.c (.int .i64 40))),oM 52 51,oF 53 52 (.mov (.t 3)),oF 54 52 (.bin .eql (.t 53) (.c (.int .i64 41))),oA 55 (.pick (.t 52) (.c (.bool true)) (.t 54)),oM 49 55]) (c3_25)
def c5_25 : C :=
 .seq (.ops [oM 40 3,oA 41 (.bin .geq (.t 40) (.c (.int .i64 35))),oM 42 41,oT 43 42 (.mov (.t 3)),oT 44 42 (.bin .leq (.t 43) (.c (.int .i64 37))),oA 45 (.pick (.t 42) (.t 44) (.c (.bool false))),oM 39 45]) (.cond (.t 39) (.seq (.ops [oM 46 3,oA 47 (.bin .add (.c (.int .i64 68)) (.t 46)),oA 48 (.bin .sub (.t 47) (.c (.int .i64 35))),oM 2 48]) (.ret)) (c4_25))
def c6_25 : C :=
 .seq (.ops [oM 30 3,oA 31 (.bin .eql (.t 30) (.c (.int .i64 32))),oM 32 31,oF 33 32 (.mov (.t 3)),oF 34 32 (.bin .eql (.t 33) (.c (.int .i64 33))),oA 35 (.pick (.t 32) (.c (.bool true)) (.t 34)),oM 29 35]) (.cond (.t 29) (.seq (.ops [oM 36 3,oA 37 (.bin .add (.c (.int .i64 66)) (.t 36)),oA 38 (.bin .sub (.t 37) (.c (.int .i64 32))),oM 2 38]) (.ret)) (c5_25))
def c7_25 : C :=
 .cond (.t 16) (.seq (.ops [oM 23 3,oA 24 (.bin .add (.c (.int .i64 46)) (.t 23)),oA 25 (.bin .sub (.t 24) (.c (.int .i64 8))),oM 2 25]) (.ret)) (.seq (.ops [oM 27 3,oA 28 (.bin .eql (.t 27) (.c (.int .i64 17))),oM 26 28]) (.cond (.t 26) (.seq (.ops [oA 2 (.mov (.c (.int .i64 62)))]) (.ret)) (c6_25)))
def c8_25 : C :=
 .seq (.ops [oM 17 3,oA 18 (.bin .geq (.t 17) (.c (.int .i64 8))),oM 19 18,oT 20 19 (.mov (.t 3)),oT 21 19 (.bin .leq (.t 20) (.c (.int .i64 15))),oA 22 (.pick (.t 19) (.t 21) (.c (.bool false))),oM 16 22]) (c7_25)
def c9_25 : C :=
 .seq (.block 0 (.seq (.ops [oM 7 3,oA 8 (.bin .geq (.t 7) (.c (.int .i64 2))),oM 9 8,oT 10 9 (.mov (.t 3)),oT 11 9 (.bin .leq (.t 10) (.c (.int .i64 7))),oA 12 (.pick (.t 9) (.t 11) (.c (.bool false))),oM 6 12]) (.cond (.t 6) (.seq (.ops [oM 13 3,oA 14 (.bin .add (.c (.int .i64 40)) (.t 13)),oA 15 (.bin .sub (.t 14) (.c (.int .i64 2))),oM 2 15]) (.ret)) (c8_25)))) (.seq (.ops [oA 2 (.mov (.c (.int .i64 0)))]) (.ret))
def c_25 : C :=
 .seq (.ops [oA 2 (.mov (.c (.int .i64 0)))]) (.seq (.ops [oM 4 0,oA 5 (.conv .i64 (.t 4)),oM 3 5]) (c9_25))
def f_25 : F := ⟨c_25, [.t 2], some []⟩
theorem h_25 : compF Tryz.prog (compAny Tryz.prog) n_25 = some (f_25.body, f_25.res) := by kernel_rfl
def c0_26 : C :=
 .seq (.ops [oA 3 (.fa 1 (.t 1)),oA 4 (.ld (.t 3)),oA 5 (.conv .u32 (.t 4)),oA 6 (.bin .shl (.t 5) (.c (.int .u64 21))),oA 7 (.fa 2 (.t 1)),oA 8 (.ld (.t 7)),oA 9 (.conv .u32 (.t 8)),oA 10 (.bin .shl (.t 9) (.c (.int .u64 16))),oA 11 (.bin .or (.t 6) (.t 10)),oA 12 (.fa 3 (.t 1)),oA 13 (.ld (.t 12)),oA 14 (.conv .u32 (.t 13)),oA 15 (.bin .shl (.t 14) (.c (.int .u64 11))),oA 16 (.bin .or (.t 11) (.t 15)),oA 17 (.fa 4 (.t 1)),oA 18 (.ld (.t 17)),oA 19 (.conv .u32 (.t 18)),oA 20 (.bin .shl (.t 19) (.c (.int .u64 6))),oA 21 (.bin .or (.t 16) (.t 20)),oA 22 (.fa 5 (.t 1)),oA 23 (.ld (.t 22)),oA 24 (.bin .or (.t 21) (.t 23)),oM 2 24]) (.ret)
def c_26 : C :=
 .seq (.ops [oA 1 (.box (.t 0)),oA 2 (.mov (.c (.int .u32 0)))]) (c0_26)
def f_26 : F := ⟨c_26, [.t 2], some []⟩
theorem h_26 : compF Tryz.prog (compAny Tryz.prog) n_26 = some (f_26.body, f_26.res) := by kernel_rfl
def c0_0k1 : C :=
 .cond (.t 15) (.ops [oM 16 0,oA 17 (.conv .i32 (.t 16)),oA 18 (.conv .i64 (.t 17)),oM 19 1,oA 20 (.conv .i32 (.t 19)),oA 21 (.conv .i64 (.t 20)),oA 22 (.bin .sub (.t 18) (.t 21)),oM 7 22]) (.skip)
def c1_0k1 : C :=
 .seq (.ops [oM 8 0,oA 9 (.conv .i32 (.t 8)),oA 10 (.conv .i64 (.t 9)),oM 11 1,oA 12 (.conv .i32 (.t 11)),oA 13 (.conv .i64 (.t 12)),oA 14 (.bin .add (.t 10) (.t 13)),oM 7 14]) (.seq (.seq (.ops [oM 15 2]) (c0_0k1)) (.seq (.ops [oM 23 7,oM 24 7,oA 25 (.conv .i32 (.t 24)),oA 26 (.conv .i64 (.t 25)),oA 27 (.bin .neq (.t 23) (.t 26)),oM 6 27]) (.ret)))
def c_0k1 : C :=
 .seq (.ops [oA 6 (.mov (.c (.bool false)))]) (c1_0k1)
def f_0k1 : F := ⟨c_0k1, [.t 6], some []⟩
theorem h_0k1 : compF Tryz.prog (compAny Tryz.prog) n_0k1 = some (f_0k1.body, f_0k1.res) := by kernel_rfl
def c0_0i1 : C :=
 .seq (.seq (.ops [oM 7 2]) (.cond (.t 7) (.seq (.ops [oM 8 0,oA 9 (.conv .i32 (.t 8)),oM 10 1,oA 11 (.conv .i32 (.t 10)),oA 12 (.bin .lss (.t 9) (.t 11)),oM 6 12]) (.ret)) (.skip))) (.seq (.ops [oM 13 0,oM 14 1,oA 15 (.bin .lss (.t 13) (.t 14)),oM 6 15]) (.ret))
def c_0i1 : C :=
 .seq (.ops [oA 6 (.mov (.c (.bool false)))]) (c0_0i1)
def f_0i1 : F := ⟨c_0i1, [.t 6], some []⟩
theorem h_0i1 : compF Tryz.prog (compAny Tryz.prog) n_0i1 = some (f_0i1.body, f_0i1.res) := by kernel_rfl
def c_0l1 : C :=
 .seq (.ops [oA 4 (.mov (.c (.int .u32 0)))]) (.seq (.ops [oM 5 0,oA 6 (.conv .i32 (.t 5)),oM 7 1,oA 8 (.bin .and (.t 7) (.c (.int .i64 31))),oA 9 (.bin .shr (.t 6) (.t 8)),oA 10 (.conv .u32 (.t 9)),oM 4 10]) (.ret))
def f_0l1 : F := ⟨c_0l1, [.t 4], some []⟩
theorem h_0l1 : compF Tryz.prog (compAny Tryz.prog) n_0l1 = some (f_0l1.body, f_0l1.res) := by kernel_rfl
def c0_7v : C :=
 .any 0 [.op 0 (oM 19 0),.op 1 (oA 20 (.nilc (.t 19))),.op 2 (oA 21 (.fa 0 (.t 20))),.op 3 (oA 22 (.ld (.t 21))),.op 4 (oM 23 1),.op 5 (oA 24 (.conv .i64 (.t 23))),.op 6 (oM 25 2),.op 7 (oA 26 (.bin .add (.t 24) (.t 25))),.op 8 (oA 27 (.bin .sub (.t 26) (.c (.int .i64 1)))),.op 9 (oM 28 9),.op 10 (oA 29 (.bin .sub (.t 27) (.t 28))),.op 11 (oM 30 3),.op 12 (oM 31 9),.op 13 (oA 32 (.bin .mul (.c (.int .i64 8)) (.t 31))),.op 14 (oA 33 (.bin .shr (.t 30) (.t 32))),.op 15 (oA 34 (.conv .u8 (.t 33))),.op 16 (oA 35 (.ia 1 (.t 22) (.t 29))),.op 17 (oS (.st (.t 35) (.t 34)))]
def c1_7v : C :=
 .seq (.ops [oA 17 (.bin .lss (.t 16) (.t 15))]) (.seq (.cond (.t 17) (.skip) (.exit 0)) (.seq (.block 1 (.seq (.ops [oM 18 16,oM 9 18]) (c0_7v))) (.ops [oA 36 (.bin .add (.t 16) (.c (.int .i64 1))),oM 16 36])))
def c2_7v : C :=
 .seq (.seq (.ops [oM 15 2,oA 16 (.mov (.c (.int .i64 0)))]) (.block 0 (.loop c1_7v))) (.seq (.ops [oM 37 0,oM 38 1,oM 39 2,oA 40 (.call n_81 [(.t 37),(.t 38),(.t 39)])]) (.seq (.ops [oA 8 (.mov (.c (.bool true)))]) (.ret)))
def c3_7v : C :=
 .seq (.seq (.ops [oM 10 0,oM 11 1,oM 12 2,oA 13 (.call n_7y [(.t 10),(.t 11),(.t 12)]),oA 14 (.un .not (.t 13))]) (.cond (.t 14) (.seq (.ops [oA 8 (.mov (.c (.bool false)))]) (.ret)) (.skip))) (c2_7v)
def c_7v : C :=
 .seq (.ops [oA 8 (.mov (.c (.bool false)))]) (c3_7v)
def f_7v : F := ⟨c_7v, [.t 8], some []⟩
theorem h_7v : compF Tryz.prog (compAny Tryz.prog) n_7v = some (f_7v.body, f_7v.res) := by kernel_rfl
def c0_0u : C :=
 .seq (.ops [oM 23 0,oA 24 (.nilc (.t 23)),oA 25 (.fa 3 (.t 24)),oA 26 (.ld (.t 25)),oM 27 2,oM 28 3,oM 29 4,oA 30 (.call n_9i [(.t 26),(.t 27),(.t 28),(.t 29)]),oM 10 30]) (.ret)
def c1_0u : C :=
 .seq (.ops [oM 33 0,oA 34 (.nilc (.t 33)),oA 35 (.fa 4 (.t 34)),oA 36 (.ld (.t 35)),oM 37 2,oM 38 3,oM 39 4,oA 40 (.call n_9i [(.t 36),(.t 37),(.t 38),(.t 39)]),oM 10 40]) (.ret)
def c2_0u : C :=
 .seq (.ops [oM 43 0,oA 44 (.nilc (.t 43)),oA 45 (.fa 5 (.t 44)),oA 46 (.ld (.t 45)),oM 47 2,oM 48 3,oM 49 4,oA 50 (.call n_011 [(.t 46),(.t 47),(.t 48),(.t 49)]),oM 10 50]) (.ret)
def c3_0u : C :=
 .seq (.ops [oM 53 0,oA 54 (.nilc (.t 53)),oA 55 (.fa 6 (.t 54)),oA 56 (.ld (.t 55)),oM 57 2,oM 58 3,oM 59 4,oA 60 (.call n_2o [(.t 56),(.t 57),(.t 58),(.t 59)]),oM 10 60]) (.ret)
def c4_0u : C :=
 .seq (.ops [oA 32 (.bin .eql (.t 11) (.c (.int .i64 2))),oM 31 32]) (.cond (.t 31) (c1_0u) (.seq (.ops [oA 42 (.bin .eql (.t 11) (.c (.int .i64 3))),oM 41 42]) (.cond (.t 41) (c2_0u) (.seq (.ops [oA 52 (.bin .eql (.t 11) (.c (.int .i64 4))),oM 51 52]) (.cond (.t 51) (c3_0u) (.skip))))))
def c5_0u : C :=
 .cond (.t 12) (.seq (.ops [oM 14 0,oA 15 (.nilc (.t 14)),oA 16 (.fa 2 (.t 15)),oA 17 (.ld (.t 16)),oM 18 2,oM 19 3,oA 20 (.call n_3l [(.t 17),(.t 18),(.t 19)]),oM 10 20]) (.ret)) (.seq (.ops [oA 22 (.bin .eql (.t 11) (.c (.int .i64 1))),oM 21 22]) (.cond (.t 21) (c0_0u) (c4_0u)))
def c6_0u : C :=
 .seq (.ops [oM 61 0,oA 62 (.nilc (.t 61)),oA 63 (.fa 7 (.t 62)),oA 64 (.ld (.t 63)),oM 65 2,oM 66 3,oM 67 4,oA 68 (.call n_2h [(.t 64),(.t 65),(.t 66),(.t 67)]),oM 10 68]) (.ret)
def c_0u : C :=
 .seq (.ops [oA 10 (.mov (.c (.bool false)))]) (.seq (.seq (.ops [oM 11 1]) (.block 0 (.seq (.ops [oA 13 (.bin .eql (.t 11) (.c (.int .i64 0))),oM 12 13]) (c5_0u)))) (c6_0u))
def f_0u : F := ⟨c_0u, [.t 10], some []⟩
theorem h_0u : compF Tryz.prog (compAny Tryz.prog) n_0u = some (f_0u.body, f_0u.res) := by kernel_rfl
def c0_1j : C :=
 .seq (.ops [oA 13 (.bin .eql (.t 3) (.c (.int .i64 13))),oM 4 13]) (.cond (.t 4) (.skip) (.seq (.ops [oA 14 (.bin .eql (.t 3) (.c (.int .i64 14))),oM 4 14]) (.cond (.t 4) (.skip) (.ops [oA 15 (.bin .eql (.t 3) (.c (.int .i64 15))),oM 4 15]))))
def c1_1j : C :=
 .seq (.ops [oA 10 (.bin .eql (.t 3) (.c (.int .i64 10))),oM 4 10]) (.cond (.t 4) (.skip) (.seq (.ops [oA 11 (.bin .eql (.t 3) (.c (.int .i64 11))),oM 4 11]) (.cond (.t 4) (.skip) (.seq (.ops [oA 12 (.bin .eql (.t 3) (.c (.int .i64 12))),oM 4 12]) (.cond (.t 4) (.skip) (c0_1j))))))
def c2_1j : C :=
 .seq (.ops [oA 7 (.bin .eql (.t 3) (.c (.int .i64 2))),oM 4 7]) (.cond (.t 4) (.skip) (.seq (.ops [oA 8 (.bin .eql (.t 3) (.c (.int .i64 8))),oM 4 8]) (.cond (.t 4) (.skip) (.seq (.ops [oA 9 (.bin .eql (.t 3) (.c (.int .i64 9))),oM 4 9]) (.cond (.t 4) (.skip) (c1_1j))))))
def c3_1j : C :=
 .block 0 (.seq (.seq (.ops [oA 5 (.bin .eql (.t 3) (.c (.int .i64 0))),oM 4 5]) (.cond (.t 4) (.skip) (.seq (.ops [oA 6 (.bin .eql (.t 3) (.c (.int .i64 1))),oM 4 6]) (.cond (.t 4) (.skip) (c2_1j))))) (.cond (.t 4) (.seq (.ops [oA 2 (.mov (.c (.bool true)))]) (.ret)) (.skip)))
def c_1j : C :=
 .seq (.ops [oA 2 (.mov (.c (.bool false)))]) (.seq (.seq (.ops [oM 3 0]) (c3_1j)) (.seq (.ops [oA 2 (.mov (.c (.bool false)))]) (.ret)))
def f_1j : F := ⟨c_1j, [.t 2], some []⟩
theorem h_1j : compF Tryz.prog (compAny Tryz.prog) n_1j = some (f_1j.body, f_1j.res) := by kernel_rfl
def c0_03 : C :=
 .seq (.ops [oM 3 0,oA 4 (.bin .geq (.t 3) (.c (.int .i64 1))),oM 5 4,oT 6 5 (.mov (.t 0)),oT 7 5 (.bin .leq (.t 6) (.c (.int .i64 6))),oA 8 (.pick (.t 5) (.t 7) (.c (.bool false))),oM 9 8,oF 10 9 (.mov (.t 0)),oF 11 9 (.bin .geq (.t 10) (.c (.int .i64 22))),oF 12 9 (.mov (.t 11)),oT 13 12 (.mov (.t 0)),oT 14 12 (.bin .leq (.t 13) (.c (.int .i64 31))),oF 15 9 (.pick (.t 12) (.t 14) (.c (.bool false))),oA 16 (.pick (.t 9) (.c (.bool true)) (.t 15)),oM 17 16,oF 18 17 (.mov (.t 0)),oF 19 17 (.bin .geq (.t 18) (.c (.int .i64 46))),oF 20 17 (.mov (.t 19)),oT 21 20 (.mov (.t 0)),oT 22 20 (.bin .leq (.t 21) (.c (.int .i64 53))),oF 23 17 (.pick (.t 20) (.t 22) (.c (.bool false))),oA 24 (.pick (.t 17) (.c (.bool true)) (.t 23)),oM 25 24,oF 26 25 (.mov (.t 0)),oF 27 25 (.bin .geq (.t 26) (.c (.int .i64 63))),oF 28 25 (.mov (.t 27)),oT 29 28 (.mov (.t 0)),oT 30 28 (.bin .leq (.t 29) (.c (.int .i64 65))),oF 31 25 (.pick (.t 28) (.t 30) (.c (.bool false))),oA 32 (.pick (.t 25) (.c (.bool true)) (.t 31)),oM 2 32]) (.ret)
def c_03 : C :=
 .seq (.ops [oA 2 (.mov (.c (.bool false)))]) (c0_03)
def f_03 : F := ⟨c_03, [.t 2], some []⟩
theorem h_03 : compF Tryz.prog (compAny Tryz.prog) n_03 = some (f_03.body, f_03.res) := by kernel_rfl
def c0_07 : C :=
 .seq (.seq (.ops [oA 15 (.bin .eql (.t 7) (.c (.int .i64 2))),oM 14 15]) (.cond (.t 14) (.skip) (.ops [oA 16 (.bin .eql (.t 7) (.c (.int .i64 5))),oM 14 16]))) (.cond (.t 14) (.seq (.ops [oM 17 1,oM 18 2,oA 19 (.bin .shr (.t 17) (.t 18)),oM 6 19]) (.ret)) (.skip))
def c1_07 : C :=
 .block 0 (.seq (.seq (.ops [oA 9 (.bin .eql (.t 7) (.c (.int .i64 1))),oM 8 9]) (.cond (.t 8) (.skip) (.ops [oA 10 (.bin .eql (.t 7) (.c (.int .i64 4))),oM 8 10]))) (.cond (.t 8) (.seq (.ops [oM 11 1,oM 12 2,oA 13 (.bin .shl (.t 11) (.t 12)),oM 6 13]) (.ret)) (c0_07)))
def c_07 : C :=
 .seq (.ops [oA 6 (.mov (.c (.int .u32 0)))]) (.seq (.seq (.ops [oM 7 0]) (c1_07)) (.seq (.ops [oM 20 1,oM 21 2,oA 22 (.call n_0l1 [(.t 20),(.t 21)]),oM 6 22]) (.ret)))
def f_07 : F := ⟨c_07, [.t 6], some []⟩
theorem h_07 : compF Tryz.prog (compAny Tryz.prog) n_07 = some (f_07.body, f_07.res) := by kernel_rfl
def c0_08 : C :=
 .seq (.ops [oM 24 1,oM 25 6,oA 26 (.fa 0 (.t 2)),oA 27 (.ld (.t 26)),oA 28 (.bin .eql (.t 27) (.c (.int .i64 48))),oA 29 (.call n_0i1 [(.t 24),(.t 25),(.t 28)]),oA 30 (.call n_06 [(.t 29)]),oM 4 30]) (.ret)
def c1_08 : C :=
 .cond (.t 36) (.seq (.ops [oM 38 1,oM 39 5,oA 40 (.bin .or (.t 38) (.t 39)),oM 4 40]) (.ret)) (.seq (.ops [oA 42 (.bin .eql (.t 14) (.c (.int .i64 52))),oM 41 42]) (.cond (.t 41) (.seq (.ops [oM 43 1,oM 44 5,oA 45 (.bin .xor (.t 43) (.t 44)),oM 4 45]) (.ret)) (.skip)))
def c2_08 : C :=
 .seq (.ops [oA 32 (.bin .eql (.t 14) (.c (.int .i64 50))),oM 31 32]) (.cond (.t 31) (.seq (.ops [oM 33 1,oM 34 5,oA 35 (.bin .and (.t 33) (.t 34)),oM 4 35]) (.ret)) (.seq (.ops [oA 37 (.bin .eql (.t 14) (.c (.int .i64 51))),oM 36 37]) (c1_08)))
def c3_08 : C :=
 .cond (.t 15) (.seq (.ops [oM 18 1,oM 19 6,oA 20 (.bin .add (.t 18) (.t 19)),oM 4 20]) (.ret)) (.seq (.seq (.ops [oA 22 (.bin .eql (.t 14) (.c (.int .i64 48))),oM 21 22]) (.cond (.t 21) (.skip) (.ops [oA 23 (.bin .eql (.t 14) (.c (.int .i64 49))),oM 21 23]))) (.cond (.t 21) (c0_08) (c2_08)))
def c4_08 : C :=
 .seq (.seq (.ops [oA 13 (.fa 0 (.t 2)),oA 14 (.ld (.t 13))]) (.block 0 (.seq (.seq (.ops [oA 16 (.bin .eql (.t 14) (.c (.int .i64 46))),oM 15 16]) (.cond (.t 15) (.skip) (.ops [oA 17 (.bin .eql (.t 14) (.c (.int .i64 47))),oM 15 17]))) (c3_08)))) (.seq (.ops [oM 46 5,oA 47 (.bin .shl (.t 46) (.c (.int .u64 16))),oM 4 47]) (.ret))
def c5_08 : C :=
 .seq (.any 0 [.op 0 (oA 7 (.fa 5 (.t 2))),.op 1 (oA 8 (.ld (.t 7))),.op 3 (oA 10 (.fa 5 (.t 2))),.op 4 (oA 11 (.ld (.t 10))),.op 5 (oA 12 (.call n_0m1 [(.t 11),(.c (.int .i64 16))])),.re 1 (oA 8 (.ld (.t 7))),.op 2 (oA 9 (.bin .and (.t 8) (.c (.int .u32 65535)))),.op 6 (oM 5 9),.op 7 (oM 6 12)]) (c4_08)
def c_08 : C :=
 .seq (.ops [oA 2 (.box (.t 0)),oA 4 (.mov (.c (.int .u32 0)))]) (c5_08)
def f_08 : F := ⟨c_08, [.t 4], some []⟩
theorem h_08 : compF Tryz.prog (compAny Tryz.prog) n_08 = some (f_08.body, f_08.res) := by kernel_rfl
end Go.Proofs.YtoiiphcbkejliaaGreat.Cd

set_option maxRecDepth 100000
set_option linter.defProp false
namespace Go.Proofs.YtoiiphcbkejliaaGreat.Cd
open Go Go.Dx
def c0_05 : C :=
 .cond (.t 52) (.seq (.ops [oM 54 1,oA 55 (.call n_0g1 [(.t 54)]),oA 56 (.conv .u32 (.t 55)),oM 6 56]) (.ret)) (.seq (.ops [oA 58 (.bin .eql (.t 9) (.c (.int .i64 65))),oM 57 58]) (.cond (.t 57) (.seq (.ops [oM 59 1,oA 60 (.call n_0f1 [(.t 59)]),oA 61 (.conv .u32 (.t 60)),oM 6 61]) (.ret)) (.skip)))
def c1_05 : C :=
 .cond (.t 43) (.seq (.ops [oM 46 1,oM 47 2,oM 48 0,oA 49 (.bin .eql (.t 48) (.c (.int .i64 30))),oA 50 (.call n_0i1 [(.t 46),(.t 47),(.t 49)]),oA 51 (.call n_06 [(.t 50)]),oM 6 51]) (.ret)) (.seq (.ops [oA 53 (.bin .eql (.t 9) (.c (.int .i64 64))),oM 52 53]) (c0_05))
def c2_05 : C :=
 .cond (.t 37) (.seq (.ops [oM 39 1,oM 40 2,oA 41 (.bin .or (.t 39) (.t 40)),oA 42 (.un .xor (.t 41)),oM 6 42]) (.ret)) (.seq (.seq (.ops [oA 44 (.bin .eql (.t 9) (.c (.int .i64 30))),oM 43 44]) (.cond (.t 43) (.skip) (.ops [oA 45 (.bin .eql (.t 9) (.c (.int .i64 31))),oM 43 45]))) (c1_05))
def c3_05 : C :=
 .seq (.ops [oA 33 (.bin .eql (.t 9) (.c (.int .i64 28))),oM 32 33]) (.cond (.t 32) (.seq (.ops [oM 34 1,oM 35 2,oA 36 (.bin .xor (.t 34) (.t 35)),oM 6 36]) (.ret)) (.seq (.ops [oA 38 (.bin .eql (.t 9) (.c (.int .i64 29))),oM 37 38]) (c2_05)))
def c4_05 : C :=
 .cond (.t 22) (.seq (.ops [oM 24 1,oM 25 2,oA 26 (.bin .and (.t 24) (.t 25)),oM 6 26]) (.ret)) (.seq (.ops [oA 28 (.bin .eql (.t 9) (.c (.int .i64 27))),oM 27 28]) (.cond (.t 27) (.seq (.ops [oM 29 1,oM 30 2,oA 31 (.bin .or (.t 29) (.t 30)),oM 6 31]) (.ret)) (c3_05)))
def c5_05 : C :=
 .seq (.seq (.ops [oA 17 (.bin .eql (.t 9) (.c (.int .i64 24))),oM 16 17]) (.cond (.t 16) (.skip) (.ops [oA 18 (.bin .eql (.t 9) (.c (.int .i64 25))),oM 16 18]))) (.cond (.t 16) (.seq (.ops [oM 19 1,oM 20 2,oA 21 (.bin .sub (.t 19) (.t 20)),oM 6 21]) (.ret)) (.seq (.ops [oA 23 (.bin .eql (.t 9) (.c (.int .i64 26))),oM 22 23]) (c4_05)))
def c6_05 : C :=
 .block 0 (.seq (.seq (.ops [oA 11 (.bin .eql (.t 9) (.c (.int .i64 22))),oM 10 11]) (.cond (.t 10) (.skip) (.ops [oA 12 (.bin .eql (.t 9) (.c (.int .i64 23))),oM 10 12]))) (.cond (.t 10) (.seq (.ops [oM 13 1,oM 14 2,oA 15 (.bin .add (.t 13) (.t 14)),oM 6 15]) (.ret)) (c5_05)))
def c7_05 : C :=
 .seq (.ops [oM 63 1,oM 64 2,oA 65 (.call n_0j1 [(.t 63),(.t 64),(.c (.bool true))]),oM 62 65,oA 66 (.ext (.t 62) 0),oA 67 (.ext (.t 62) 1),oM 7 66,oM 8 67]) (.seq (.ops [oM 68 8,oM 6 68]) (.ret))
def c_05 : C :=
 .seq (.ops [oA 6 (.mov (.c (.int .u32 0)))]) (.seq (.seq (.ops [oM 9 0]) (c6_05)) (c7_05))
def f_05 : F := ⟨c_05, [.t 6], some []⟩
theorem h_05 : compF Tryz.prog (compAny Tryz.prog) n_05 = some (f_05.body, f_05.res) := by kernel_rfl
def c0_0j1 : C :=
 .ops [oM 15 0,oA 16 (.conv .i32 (.t 15)),oA 17 (.conv .i64 (.t 16)),oM 18 1,oA 19 (.conv .i32 (.t 18)),oA 20 (.conv .i64 (.t 19)),oA 21 (.bin .mul (.t 17) (.t 20)),oA 22 (.conv .u64 (.t 21)),oM 8 22]
def c1_0j1 : C :=
 .seq (.seq (.ops [oM 14 2]) (.cond (.t 14) (c0_0j1) (.skip))) (.seq (.ops [oM 23 8,oA 24 (.bin .shr (.t 23) (.c (.int .u64 32))),oA 25 (.conv .u32 (.t 24)),oM 26 8,oA 27 (.conv .u32 (.t 26)),oM 6 25,oM 7 27]) (.ret))
def c_0j1 : C :=
 .seq (.ops [oA 6 (.mov (.c (.int .u32 0))),oA 7 (.mov (.c (.int .u32 0)))]) (.seq (.ops [oM 9 0,oA 10 (.conv .u64 (.t 9)),oM 11 1,oA 12 (.conv .u64 (.t 11)),oA 13 (.bin .mul (.t 10) (.t 12)),oM 8 13]) (c1_0j1))
def f_0j1 : F := ⟨c_0j1, [.t 6, .t 7], some []⟩
theorem h_0j1 : compF Tryz.prog (compAny Tryz.prog) n_0j1 = some (f_0j1.body, f_0j1.res) := by kernel_rfl
def c0_0h1 : C :=
 .seq (.any 0 [.op 0 (oM 17 0),.op 1 (oM 18 1),.op 2 (oA 19 (.bin .quo (.t 17) (.t 18))),.op 3 (oM 20 0),.op 4 (oM 21 1),.op 5 (oA 22 (.bin .rem (.t 20) (.t 21))),.op 6 (oM 6 19),.op 7 (oM 7 22)]) (.ret)
def c1_0h1 : C :=
 .cond (.t 10) (.seq (.ops [oM 13 0,oA 6 (.mov (.c (.int .u32 4294967295))),oM 7 13]) (.ret)) (.seq (.ops [oM 15 2,oA 16 (.un .not (.t 15)),oM 14 16]) (.cond (.t 14) (c0_0h1) (.skip)))
def c2_0h1 : C :=
 .seq (.any 0 [.op 0 (oM 29 8),.op 1 (oM 30 9),.op 2 (oA 31 (.bin .quo (.t 29) (.t 30))),.op 3 (oA 32 (.conv .u32 (.t 31))),.op 4 (oM 33 8),.op 5 (oM 34 9),.op 6 (oA 35 (.bin .rem (.t 33) (.t 34))),.op 7 (oA 36 (.conv .u32 (.t 35))),.op 8 (oM 6 32),.op 9 (oM 7 36)]) (.ret)
def c3_0h1 : C :=
 .seq (.block 0 (.seq (.ops [oM 11 1,oA 12 (.bin .eql (.t 11) (.c (.int .u32 0))),oM 10 12]) (c1_0h1))) (.seq (.ops [oM 23 0,oA 24 (.conv .i32 (.t 23)),oA 25 (.conv .i64 (.t 24)),oM 26 1,oA 27 (.conv .i32 (.t 26)),oA 28 (.conv .i64 (.t 27)),oM 8 25,oM 9 28]) (c2_0h1))
def c_0h1 : C :=
 .seq (.ops [oA 6 (.mov (.c (.int .u32 0))),oA 7 (.mov (.c (.int .u32 0)))]) (c3_0h1)
def f_0h1 : F := ⟨c_0h1, [.t 6, .t 7], some []⟩
theorem h_0h1 : compF Tryz.prog (compAny Tryz.prog) n_0h1 = some (f_0h1.body, f_0h1.res) := by kernel_rfl
def c0_3x : C :=
 .seq (.block 1 (.seq (.ops [oM 18 16,oM 4 18]) (.ops [oM 19 4,oA 20 (.iaa 40 1 (.t 3) (.t 19)),oS (.st (.t 20) (.c (.bool true)))]))) (.ops [oA 21 (.bin .add (.t 16) (.c (.int .i64 1))),oM 16 21])
def c1_3x : C :=
 .seq (.ops [oA 17 (.bin .lss (.t 16) (.c (.int .i64 34)))]) (.seq (.cond (.t 17) (.skip) (.exit 0)) (c0_3x))
def c2_3x : C :=
 .ops [oM 45 10,oM 46 10,oA 47 (.iaa 40 1 (.t 3) (.t 46)),oA 48 (.ld (.t 47)),oM 49 48,oT 50 49 (.ldn 5 (.t 7)),oT 51 49 (.call n_45 [(.t 50)]),oT 52 49 (.un .not (.t 51)),oA 53 (.pick (.t 49) (.t 52) (.c (.bool false))),oA 54 (.iaa 40 1 (.t 3) (.t 45)),oS (.st (.t 54) (.t 53))]
def c3_3x : C :=
 .seq (.ops [oA 42 (.bin .lss (.t 41) (.t 40))]) (.seq (.cond (.t 42) (.skip) (.exit 4)) (.seq (.block 5 (.seq (.ops [oA 43 (.ia 1 (.t 39) (.t 41)),oA 44 (.ld (.t 43)),oM 10 44]) (c2_3x))) (.ops [oA 55 (.bin .add (.t 41) (.c (.int .i64 1))),oM 41 55])))
def c4_3x : C :=
 .seq (.block 7 (.seq (.ops [oA 61 (.ia 1 (.t 57) (.t 59)),oA 62 (.ld (.t 61)),oM 12 62]) (.ops [oM 63 12,oA 64 (.iaa 40 1 (.t 3) (.t 63)),oS (.st (.t 64) (.c (.bool true)))]))) (.ops [oA 65 (.bin .add (.t 59) (.c (.int .i64 1))),oM 59 65])
def c5_3x : C :=
 .seq (.ops [oA 60 (.bin .lss (.t 59) (.t 58))]) (.seq (.cond (.t 60) (.skip) (.exit 6)) (c4_3x))
def c6_3x : C :=
 .seq (.seq (.ops [oA 56 (.ldn 5 (.t 7)),oA 57 (.call n_36 [(.t 56)]),oA 58 (.len 1 (.t 57)),oA 59 (.mov (.c (.int .i64 0)))]) (.block 6 (.loop c5_3x))) (.ops [oM 66 5,oA 67 (.ldn 5 (.t 7)),oA 68 (.bsl 1 [(.int .i64 0),(.int .i64 0),(.int .i64 0),(.int .i64 0),(.int .u32 0)] [(0,5,(.t 67))]),oA 69 (.app 5 40 (.t 66) (.t 68)),oM 5 69])
def c7_3x : C :=
 .seq (.seq (.ops [oM 35 8,oA 36 (.mkf n_3y [(.t 3)]),oA 37 (.call n_8h [(.t 35),(.t 36)]),oA 38 (.un .not (.t 37))]) (.cond (.t 38) (.exit 3) (.skip))) (.seq (.seq (.ops [oM 39 8,oA 40 (.len 1 (.t 39)),oA 41 (.mov (.c (.int .i64 0)))]) (.block 4 (.loop c3_3x))) (c6_3x))
def c8_3x : C :=
 .seq (.block 3 (.seq (.ops [oM 29 0,oM 30 6,oA 31 (.ia 5 (.t 29) (.t 30)),oA 32 (.ldn 5 (.t 31)),oA 7 (.new [(.int .i64 0),(.int .i64 0),(.int .i64 0),(.int .i64 0),(.int .u32 0)]),oS (.stn 5 (.t 7) (.t 32))]) (.seq (.ops [oA 33 (.ldn 5 (.t 7)),oA 34 (.call n_3b [(.t 33)]),oM 8 34]) (c7_3x)))) (.ops [oM 27 6,oA 28 (.bin .sub (.t 27) (.c (.int .i64 1))),oM 6 28])
def c9_3x : C :=
 .seq (.seq (.ops [oM 25 6,oA 26 (.bin .geq (.t 25) (.c (.int .i64 0)))]) (.cond (.t 26) (.skip) (.exit 2))) (c8_3x)
def c10_3x : C :=
 .seq (.seq (.ops [oM 22 0,oA 23 (.len 1 (.t 22)),oA 24 (.bin .sub (.t 23) (.c (.int .i64 1))),oM 6 24]) (.block 2 (.loop c9_3x))) (.seq (.ops [oM 70 5,oA 71 (.call n_8r [(.t 70)])]) (.seq (.ops [oM 72 5,oM 2 72]) (.ret)))
def c11_3x : C :=
 .seq (.seq (.ops [oM 13 0,oA 14 (.call n_44 [(.t 13)]),oA 15 (.un .not (.t 14))]) (.cond (.t 15) (.seq (.ops [oA 2 (.mov (.c (.slice none 0 0)))]) (.ret)) (.skip))) (.seq (.ops [oA 3 (.new (List.replicate 40 (.bool false)))]) (.seq (.seq (.ops [oA 16 (.mov (.c (.int .i64 0)))]) (.block 0 (.loop c1_3x))) (.seq (.ops [oA 5 (.mov (.c (.slice none 0 0)))]) (c10_3x))))
def c_3x : C :=
 .seq (.ops [oA 2 (.mov (.c (.slice none 0 0)))]) (c11_3x)
def f_3x : F := ⟨c_3x, [.t 2], some []⟩
theorem h_3x : compF Tryz.prog (compAny Tryz.prog) n_3x = some (f_3x.body, f_3x.res) := by kernel_rfl
def c0_3z : C :=
 .seq (.ops [oM 31 4,oA 32 (.ldn 5 (.t 7)),oA 33 (.bsl 1 [(.int .i64 0),(.int .i64 0),(.int .i64 0),(.int .i64 0),(.int .u32 0)] [(0,5,(.t 32))]),oA 34 (.app 5 40 (.t 31) (.t 33)),oM 4 34]) (.ops [oM 35 3,oA 36 (.ldn 5 (.t 7)),oA 37 (.call n_41 [(.t 35),(.t 36)])])
def c1_3z : C :=
 .seq (.ops [oM 25 3,oA 26 (.ldn 5 (.t 6)),oA 27 (.call n_42 [(.t 25),(.t 26)]),oM 24 27,oA 28 (.ext (.t 24) 0),oA 29 (.ext (.t 24) 1),oA 7 (.new [(.int .i64 0),(.int .i64 0),(.int .i64 0),(.int .i64 0),(.int .u32 0)]),oS (.stn 5 (.t 7) (.t 28)),oM 8 29]) (.seq (.ops [oM 30 8]) (.cond (.t 30) (c0_3z) (.skip)))
def c2_3z : C :=
 .seq (.block 1 (.seq (.ops [oA 22 (.ia 5 (.t 18) (.t 20)),oA 23 (.ldn 5 (.t 22)),oA 6 (.new [(.int .i64 0),(.int .i64 0),(.int .i64 0),(.int .i64 0),(.int .u32 0)]),oS (.stn 5 (.t 6) (.t 23))]) (c1_3z))) (.ops [oA 38 (.bin .add (.t 20) (.c (.int .i64 1))),oM 20 38])
def c3_3z : C :=
 .seq (.ops [oA 21 (.bin .lss (.t 20) (.t 19))]) (.seq (.cond (.t 21) (.skip) (.exit 0)) (c2_3z))
def c4_3z : C :=
 .seq (.ops [oA 4 (.mov (.c (.slice none 0 0)))]) (.seq (.seq (.ops [oM 18 0,oA 19 (.len 1 (.t 18)),oA 20 (.mov (.c (.int .i64 0)))]) (.block 0 (.loop c3_3z))) (.seq (.ops [oM 39 4,oM 2 39]) (.ret)))
def c5_3z : C :=
 .seq (.ops [oA 12 (.build [(.bool false),(.bool false),(.bool false),(.bool false),(.bool false),(.bool false),(.bool false),(.bool false),(.bool false),(.bool false),(.bool false),(.bool false),(.bool false),(.bool false),(.bool false),(.bool false),(.bool false),(.bool false),(.bool false),(.bool false),(.bool false),(.bool false),(.bool false),(.bool false),(.bool false),(.bool false),(.bool false),(.bool false),(.bool false),(.bool false),(.bool false),(.bool false),(.bool false),(.bool false),(.bool false),(.bool false),(.bool false),(.bool false),(.bool false),(.bool false),(.int .u32 0),(.int .u32 0),(.int .u32 0),(.int .u32 0),(.int .u32 0),(.int .u32 0),(.int .u32 0),(.int .u32 0),(.int .u32 0),(.int .u32 0),(.int .u32 0),(.int .u32 0),(.int .u32 0),(.int .u32 0),(.int .u32 0),(.int .u32 0),(.int .u32 0),(.int .u32 0),(.int .u32 0),(.int .u32 0),(.int .u32 0),(.int .u32 0),(.int .u32 0),(.int .u32 0),(.int .u32 0),(.int .u32 0),(.int .u32 0),(.int .u32 0),(.int .u32 0),(.int .u32 0),(.int .u32 0),(.int .u32 0),(.int .u32 0),(.int .u32 0),(.int .u32 0),(.int .u32 0),(.int .u32 0),(.int .u32 0),(.int .u32 0),(.int .u32 0)] []),oA 13 (.box (.t 12)),oM 3 13]) (.seq (.ops [oM 14 3,oA 15 (.nilc (.t 14)),oA 16 (.fa 0 (.t 15)),oA 17 (.iaa 40 1 (.t 16) (.c (.int .i64 0))),oS (.st (.t 17) (.c (.bool true)))]) (c4_3z))
def c_3z : C :=
 .seq (.ops [oA 2 (.mov (.c (.slice none 0 0)))]) (.seq (.seq (.ops [oM 9 0,oA 10 (.call n_44 [(.t 9)]),oA 11 (.un .not (.t 10))]) (.cond (.t 11) (.seq (.ops [oA 2 (.mov (.c (.slice none 0 0)))]) (.ret)) (.skip))) (c5_3z))
def f_3z : F := ⟨c_3z, [.t 2], some []⟩
theorem h_3z : compF Tryz.prog (compAny Tryz.prog) n_3z = some (f_3z.body, f_3z.res) := by kernel_rfl
def c0_3h : C :=
 .seq (.ops [oA 50 (.bin .eql (.t 3) (.c (.int .i64 9))),oM 49 50]) (.cond (.t 49) (.seq (.ops [oA 2 (.mov (.c (.int .i64 21)))]) (.ret)) (.seq (.ops [oA 52 (.bin .eql (.t 3) (.c (.int .i64 10))),oM 51 52]) (.cond (.t 51) (.seq (.ops [oA 2 (.mov (.c (.int .i64 22)))]) (.ret)) (.skip))))
def c1_3h : C :=
 .seq (.ops [oA 46 (.bin .eql (.t 3) (.c (.int .i64 20))),oM 45 46]) (.cond (.t 45) (.seq (.ops [oA 2 (.mov (.c (.int .i64 19)))]) (.ret)) (.seq (.ops [oA 48 (.bin .eql (.t 3) (.c (.int .i64 21))),oM 47 48]) (.cond (.t 47) (.seq (.ops [oA 2 (.mov (.c (.int .i64 20)))]) (.ret)) (c0_3h))))
def c2_3h : C :=
 .seq (.ops [oA 42 (.bin .eql (.t 3) (.c (.int .i64 18))),oM 41 42]) (.cond (.t 41) (.seq (.ops [oA 2 (.mov (.c (.int .i64 17)))]) (.ret)) (.seq (.ops [oA 44 (.bin .eql (.t 3) (.c (.int .i64 19))),oM 43 44]) (.cond (.t 43) (.seq (.ops [oA 2 (.mov (.c (.int .i64 18)))]) (.ret)) (c1_3h))))
def c3_3h : C :=
 .seq (.ops [oA 38 (.bin .eql (.t 3) (.c (.int .i64 64))),oM 37 38]) (.cond (.t 37) (.seq (.ops [oA 2 (.mov (.c (.int .i64 15)))]) (.ret)) (.seq (.ops [oA 40 (.bin .eql (.t 3) (.c (.int .i64 65))),oM 39 40]) (.cond (.t 39) (.seq (.ops [oA 2 (.mov (.c (.int .i64 16)))]) (.ret)) (c2_3h))))
def c4_3h : C :=
 .seq (.seq (.ops [oA 33 (.bin .eql (.t 3) (.c (.int .i64 31))),oM 32 33]) (.cond (.t 32) (.skip) (.ops [oA 34 (.bin .eql (.t 3) (.c (.int .i64 49))),oM 32 34]))) (.cond (.t 32) (.seq (.ops [oA 2 (.mov (.c (.int .i64 13)))]) (.ret)) (.seq (.ops [oA 36 (.bin .eql (.t 3) (.c (.int .i64 63))),oM 35 36]) (.cond (.t 35) (.seq (.ops [oA 2 (.mov (.c (.int .i64 14)))]) (.ret)) (c3_3h))))
def c5_3h : C :=
 .seq (.seq (.ops [oA 30 (.bin .eql (.t 3) (.c (.int .i64 30))),oM 29 30]) (.cond (.t 29) (.skip) (.ops [oA 31 (.bin .eql (.t 3) (.c (.int .i64 48))),oM 29 31]))) (.cond (.t 29) (.seq (.ops [oA 2 (.mov (.c (.int .i64 12)))]) (.ret)) (c4_3h))
def c6_3h : C :=
 .seq (.seq (.ops [oA 25 (.bin .eql (.t 3) (.c (.int .i64 28))),oM 24 25]) (.cond (.t 24) (.skip) (.ops [oA 26 (.bin .eql (.t 3) (.c (.int .i64 52))),oM 24 26]))) (.cond (.t 24) (.seq (.ops [oA 2 (.mov (.c (.int .i64 7)))]) (.ret)) (.seq (.ops [oA 28 (.bin .eql (.t 3) (.c (.int .i64 29))),oM 27 28]) (.cond (.t 27) (.seq (.ops [oA 2 (.mov (.c (.int .i64 8)))]) (.ret)) (c5_3h))))
def c7_3h : C :=
 .seq (.seq (.ops [oA 22 (.bin .eql (.t 3) (.c (.int .i64 27))),oM 21 22]) (.cond (.t 21) (.skip) (.ops [oA 23 (.bin .eql (.t 3) (.c (.int .i64 51))),oM 21 23]))) (.cond (.t 21) (.seq (.ops [oA 2 (.mov (.c (.int .i64 6)))]) (.ret)) (c6_3h))
def c8_3h : C :=
 .seq (.seq (.ops [oA 19 (.bin .eql (.t 3) (.c (.int .i64 26))),oM 18 19]) (.cond (.t 18) (.skip) (.ops [oA 20 (.bin .eql (.t 3) (.c (.int .i64 50))),oM 18 20]))) (.cond (.t 18) (.seq (.ops [oA 2 (.mov (.c (.int .i64 5)))]) (.ret)) (c7_3h))
def c9_3h : C :=
 .seq (.seq (.ops [oA 14 (.bin .eql (.t 3) (.c (.int .i64 23))),oM 13 14]) (.cond (.t 13) (.skip) (.ops [oA 15 (.bin .eql (.t 3) (.c (.int .i64 47))),oM 13 15]))) (.cond (.t 13) (.seq (.ops [oA 2 (.mov (.c (.int .i64 3)))]) (.ret)) (.seq (.ops [oA 17 (.bin .eql (.t 3) (.c (.int .i64 25))),oM 16 17]) (.cond (.t 16) (.seq (.ops [oA 2 (.mov (.c (.int .i64 4)))]) (.ret)) (c8_3h))))
def c10_3h : C :=
 .seq (.seq (.ops [oA 11 (.bin .eql (.t 3) (.c (.int .i64 3))),oM 10 11]) (.cond (.t 10) (.skip) (.ops [oA 12 (.bin .eql (.t 3) (.c (.int .i64 6))),oM 10 12]))) (.cond (.t 10) (.seq (.ops [oA 2 (.mov (.c (.int .i64 11)))]) (.ret)) (c9_3h))
def c11_3h : C :=
 .seq (.seq (.ops [oA 8 (.bin .eql (.t 3) (.c (.int .i64 2))),oM 7 8]) (.cond (.t 7) (.skip) (.ops [oA 9 (.bin .eql (.t 3) (.c (.int .i64 5))),oM 7 9]))) (.cond (.t 7) (.seq (.ops [oA 2 (.mov (.c (.int .i64 10)))]) (.ret)) (c10_3h))
def c12_3h : C :=
 .block 0 (.seq (.seq (.ops [oA 5 (.bin .eql (.t 3) (.c (.int .i64 1))),oM 4 5]) (.cond (.t 4) (.skip) (.ops [oA 6 (.bin .eql (.t 3) (.c (.int .i64 4))),oM 4 6]))) (.cond (.t 4) (.seq (.ops [oA 2 (.mov (.c (.int .i64 9)))]) (.ret)) (c11_3h)))
def c_3h : C :=
 .seq (.ops [oA 2 (.mov (.c (.int .i64 0)))]) (.seq (.seq (.ops [oM 3 0]) (c12_3h)) (.seq (.ops [oA 2 (.mov (.c (.int .i64 0)))]) (.ret)))
def f_3h : F := ⟨c_3h, [.t 2], some []⟩
theorem h_3h : compF Tryz.prog (compAny Tryz.prog) n_3h = some (f_3h.body, f_3h.res) := by kernel_rfl
def c0_3g : C :=
 .seq (.seq (.ops [oA 3 (.fa 0 (.t 1)),oA 4 (.ld (.t 3)),oA 5 (.bin .eql (.t 4) (.c (.int .i64 50))),oM 6 5,oF 7 6 (.fa 0 (.t 1)),oF 8 6 (.ld (.t 7)),oF 9 6 (.bin .eql (.t 8) (.c (.int .i64 51))),oA 10 (.pick (.t 6) (.c (.bool true)) (.t 9)),oM 11 10,oF 12 11 (.fa 0 (.t 1)),oF 13 11 (.ld (.t 12)),oF 14 11 (.bin .eql (.t 13) (.c (.int .i64 52))),oA 15 (.pick (.t 11) (.c (.bool true)) (.t 14))]) (.cond (.t 15) (.seq (.ops [oA 16 (.fa 5 (.t 1)),oA 17 (.ld (.t 16)),oM 2 17]) (.ret)) (.skip))) (.seq (.ops [oA 18 (.fa 5 (.t 1)),oA 19 (.ld (.t 18)),oA 20 (.call n_0m1 [(.t 19),(.c (.int .i64 16))]),oM 2 20]) (.ret))
def c_3g : C :=
 .seq (.ops [oA 1 (.box (.t 0)),oA 2 (.mov (.c (.int .u32 0)))]) (c0_3g)
def f_3g : F := ⟨c_3g, [.t 2], some []⟩
theorem h_3g : compF Tryz.prog (compAny Tryz.prog) n_3g = some (f_3g.body, f_3g.res) := by kernel_rfl
def c_8i : C :=
 .seq (.ops [oA 4 (.mov (.c (.bool false)))]) (.seq (.ops [oM 5 0,oM 6 1,oA 7 (.call n_8p [(.t 5),(.t 6)]),oA 8 (.bin .geq (.t 7) (.c (.int .i64 0))),oM 4 8]) (.ret))
def f_8i : F := ⟨c_8i, [.t 4], some []⟩
theorem h_8i : compF Tryz.prog (compAny Tryz.prog) n_8i = some (f_8i.body, f_8i.res) := by kernel_rfl
def c_3a : C :=
 .seq (.ops [oA 1 (.box (.t 0)),oA 2 (.mov (.c (.bool false)))]) (.seq (.ops [oA 3 (.ldn 5 (.t 1)),oA 4 (.call n_38 [(.t 3)]),oA 5 (.un .not (.t 4)),oM 2 5]) (.ret))
def f_3a : F := ⟨c_3a, [.t 2], some []⟩
theorem h_3a : compF Tryz.prog (compAny Tryz.prog) n_3a = some (f_3a.body, f_3a.res) := by kernel_rfl
def c0_38 : C :=
 .seq (.ops [oM 17 4,oA 18 (.bin .lss (.t 17) (.c (.int .i64 0))),oM 19 18,oF 20 19 (.mov (.t 4)),oF 21 19 (.bin .geq (.t 20) (.c (.int .i64 40))),oA 22 (.pick (.t 19) (.c (.bool true)) (.t 21))]) (.cond (.t 22) (.seq (.ops [oA 2 (.mov (.c (.bool false)))]) (.ret)) (.skip))
def c1_38 : C :=
 .seq (.ops [oA 14 (.bin .lss (.t 13) (.t 12))]) (.seq (.cond (.t 14) (.skip) (.exit 0)) (.seq (.block 1 (.seq (.ops [oA 15 (.ia 1 (.t 11) (.t 13)),oA 16 (.ld (.t 15)),oM 4 16]) (c0_38))) (.ops [oA 23 (.bin .add (.t 13) (.c (.int .i64 1))),oM 13 23])))
def c2_38 : C :=
 .seq (.ops [oA 24 (.fa 0 (.t 1)),oA 25 (.ld (.t 24)),oA 26 (.bin .geq (.t 25) (.c (.int .i64 0))),oM 27 26,oT 28 27 (.fa 0 (.t 1)),oT 29 27 (.ld (.t 28)),oT 30 27 (.bin .leq (.t 29) (.c (.int .i64 22))),oA 31 (.pick (.t 27) (.t 30) (.c (.bool false))),oM 2 31]) (.ret)
def c3_38 : C :=
 .seq (.seq (.ops [oA 5 (.fa 1 (.t 1)),oA 6 (.ld (.t 5)),oA 7 (.fa 2 (.t 1)),oA 8 (.ld (.t 7)),oA 9 (.fa 3 (.t 1)),oA 10 (.ld (.t 9)),oA 11 (.bsl 3 [(.int .i64 0),(.int .i64 0),(.int .i64 0)] [(0,1,(.t 6)),(1,1,(.t 8)),(2,1,(.t 10))]),oA 12 (.len 1 (.t 11)),oA 13 (.mov (.c (.int .i64 0)))]) (.block 0 (.loop c1_38))) (c2_38)
def c_38 : C :=
 .seq (.ops [oA 1 (.box (.t 0)),oA 2 (.mov (.c (.bool false)))]) (c3_38)
def f_38 : F := ⟨c_38, [.t 2], some []⟩
theorem h_38 : compF Tryz.prog (compAny Tryz.prog) n_38 = some (f_38.body, f_38.res) := by kernel_rfl
def c0_37 : C :=
 .any 0 [.op 2 (oM 40 4),.op 3 (oM 41 5),.op 4 (oM 42 6),.op 5 (oA 43 (.bin .eql (.t 42) (.c (.int .i64 17)))),.op 6 (oA 44 (.call n_0j1 [(.t 40),(.t 41),(.t 43)])),.op 0 (oM 38 0),.op 7 (oM 37 44),.op 8 (oA 45 (.ext (.t 37) 0)),.op 10 (oA 47 (.nilc (.t 38))),.op 11 (oA 48 (.iaa 40 1 (.t 47) (.c (.int .i64 32)))),.op 12 (oS (.st (.t 48) (.t 45))),.op 1 (oM 39 0),.op 9 (oA 46 (.ext (.t 37) 1)),.op 13 (oA 49 (.nilc (.t 39))),.op 14 (oA 50 (.iaa 40 1 (.t 49) (.c (.int .i64 33)))),.op 15 (oS (.st (.t 50) (.t 46)))]
def c1_37 : C :=
 .any 0 [.op 2 (oM 61 4),.op 3 (oM 62 5),.op 4 (oM 63 6),.op 5 (oA 64 (.bin .eql (.t 63) (.c (.int .i64 19)))),.op 6 (oA 65 (.call n_0h1 [(.t 61),(.t 62),(.t 64)])),.op 0 (oM 59 0),.op 7 (oM 58 65),.op 8 (oA 66 (.ext (.t 58) 0)),.op 10 (oA 68 (.nilc (.t 59))),.op 11 (oA 69 (.iaa 40 1 (.t 68) (.c (.int .i64 33)))),.op 12 (oS (.st (.t 69) (.t 66))),.op 1 (oM 60 0),.op 9 (oA 67 (.ext (.t 58) 1)),.op 13 (oA 70 (.nilc (.t 60))),.op 14 (oA 71 (.iaa 40 1 (.t 70) (.c (.int .i64 32)))),.op 15 (oS (.st (.t 71) (.t 67)))]
def c2_37 : C :=
 .any 0 [.op 1 (oA 22 (.fa 1 (.t 3))),.op 2 (oA 23 (.ld (.t 22))),.op 3 (oA 24 (.ldn 5 (.t 3))),.op 4 (oM 25 4),.op 5 (oM 26 5),.op 6 (oA 27 (.call n_3c [(.t 24),(.t 25),(.t 26)])),.re 2 (oA 23 (.ld (.t 22))),.op 0 (oM 21 0),.op 7 (oA 28 (.nilc (.t 21))),.op 8 (oA 29 (.iaa 40 1 (.t 28) (.t 23))),.op 9 (oS (.st (.t 29) (.t 27)))]
def c3_37 : C :=
 .seq (.ops [oM 73 6,oA 74 (.bin .eql (.t 73) (.c (.int .i64 0))),oM 75 74,oF 76 75 (.fa 1 (.t 3)),oF 77 75 (.ld (.t 76)),oF 78 75 (.bin .eql (.t 77) (.c (.int .i64 0))),oA 79 (.pick (.t 75) (.c (.bool true)) (.t 78)),oM 80 79,oF 81 80 (.mov (.t 6)),oF 82 80 (.bin .eql (.t 81) (.c (.int .i64 21))),oF 83 80 (.mov (.t 82)),oF 84 83 (.mov (.t 6)),oF 85 83 (.bin .eql (.t 84) (.c (.int .i64 22))),oF 86 80 (.pick (.t 83) (.c (.bool true)) (.t 85)),oF 87 80 (.mov (.t 86)),oT 88 87 (.mov (.t 5)),oT 89 87 (.bin .eql (.t 88) (.c (.int .u32 0))),oT 90 87 (.mov (.t 6)),oT 91 87 (.bin .eql (.t 90) (.c (.int .i64 21))),oT 92 87 (.eqb true (.t 89) (.t 91)),oF 93 80 (.pick (.t 87) (.t 92) (.c (.bool false))),oA 94 (.pick (.t 80) (.c (.bool true)) (.t 93)),oM 72 94]) (.cond (.t 72) (.skip) (c2_37))
def c4_37 : C :=
 .seq (.ops [oM 52 6,oA 53 (.bin .eql (.t 52) (.c (.int .i64 19))),oM 54 53,oF 55 54 (.mov (.t 6)),oF 56 54 (.bin .eql (.t 55) (.c (.int .i64 20))),oA 57 (.pick (.t 54) (.c (.bool true)) (.t 56)),oM 51 57]) (.cond (.t 51) (c1_37) (c3_37))
def c5_37 : C :=
 .block 0 (.seq (.ops [oM 31 6,oA 32 (.bin .eql (.t 31) (.c (.int .i64 17))),oM 33 32,oF 34 33 (.mov (.t 6)),oF 35 33 (.bin .eql (.t 34) (.c (.int .i64 18))),oA 36 (.pick (.t 33) (.c (.bool true)) (.t 35)),oM 30 36]) (.cond (.t 30) (c0_37) (c4_37)))
def c6_37 : C :=
 .seq (.any 0 [.op 0 (oM 7 0),.op 1 (oA 8 (.fa 2 (.t 3))),.op 2 (oA 9 (.ld (.t 8))),.op 3 (oA 10 (.nilc (.t 7))),.op 4 (oA 11 (.iaa 40 1 (.t 10) (.t 9))),.op 5 (oA 12 (.ld (.t 11))),.op 6 (oM 13 0),.op 7 (oA 14 (.fa 3 (.t 3))),.op 8 (oA 15 (.ld (.t 14))),.op 9 (oA 16 (.nilc (.t 13))),.op 10 (oA 17 (.iaa 40 1 (.t 16) (.t 15))),.op 11 (oA 18 (.ld (.t 17))),.op 12 (oM 4 12),.op 13 (oM 5 18)]) (.seq (.ops [oA 19 (.fa 0 (.t 3)),oA 20 (.ld (.t 19)),oM 6 20]) (c5_37))
def c_37 : C :=
 .seq (.ops [oA 3 (.box (.t 1))]) (c6_37)
def f_37 : F := ⟨c_37, [], some []⟩
theorem h_37 : compF Tryz.prog (compAny Tryz.prog) n_37 = some (f_37.body, f_37.res) := by kernel_rfl
def c0_081 : C :=
 .seq (.ops [oM 36 0,oA 37 (.nilc (.t 36)),oA 38 (.fa 1 (.t 37)),oA 39 (.ld (.t 38)),oA 40 (.bin .add (.t 39) (.c (.int .i64 1))),oA 41 (.nilc (.t 36)),oA 42 (.fa 1 (.t 41)),oS (.st (.t 42) (.t 40))]) (.seq (.ops [oM 43 0,oA 44 (.nilc (.t 43)),oA 45 (.fa 0 (.t 44)),oA 46 (.ld (.t 45)),oA 47 (.call n_8s [(.t 46),(.f n_091)])]) (.seq (.ops [oA 6 (.mov (.c (.bool true)))]) (.ret)))
def c1_081 : C :=
 .seq (.any 1 [.op 1 (oM 21 0),.op 2 (oA 22 (.nilc (.t 21))),.op 3 (oA 23 (.fa 0 (.t 22))),.op 4 (oA 24 (.ld (.t 23))),.op 7 (oM 27 0),.op 8 (oA 28 (.nilc (.t 27))),.op 9 (oA 29 (.fa 1 (.t 28))),.op 10 (oA 30 (.ld (.t 29))),.op 5 (oM 25 2),.op 6 (oM 26 1),.op 11 (oA 31 (.build [(.int .i64 0),(.int .i64 0),(.int .i64 0)] [(0,1,(.t 25)),(1,1,(.t 26)),(2,1,(.t 30))])),.al 12 0 (oA 32 (.bsl 1 [(.int .i64 0),(.int .i64 0),(.int .i64 0)] [(0,3,(.t 31))])),.op 13 (oA 33 (.app 3 24 (.t 24) (.t 32))),.op 0 (oM 20 0),.op 14 (oA 34 (.nilc (.t 20))),.op 15 (oA 35 (.fa 0 (.t 34))),.op 16 (oS (.st (.t 35) (.t 33)))]) (c0_081)
def c2_081 : C :=
 .seq (.seq (.ops [oM 7 1,oA 8 (.bin .lss (.t 7) (.c (.int .i64 0))),oM 9 8,oF 10 9 (.mov (.t 1)),oF 11 9 (.bin .geq (.t 10) (.c (.int .i64 16))),oA 12 (.pick (.t 9) (.c (.bool true)) (.t 11)),oM 13 12,oF 14 13 (.mov (.t 2)),oF 15 13 (.bin .lss (.t 14) (.c (.int .i64 0))),oA 16 (.pick (.t 13) (.c (.bool true)) (.t 15))]) (.cond (.t 16) (.seq (.ops [oA 6 (.mov (.c (.bool false)))]) (.ret)) (.skip))) (.seq (.ops [oM 17 0,oM 18 1,oA 19 (.call n_0a1 [(.t 17),(.t 18)])]) (c1_081))
def c_081 : C :=
 .seq (.ops [oA 6 (.mov (.c (.bool false)))]) (c2_081)
def f_081 : F := ⟨c_081, [.t 6], some []⟩
theorem h_081 : compF Tryz.prog (compAny Tryz.prog) n_081 = some (f_081.body, f_081.res) := by kernel_rfl
def c_2g : C :=
 .seq (.ops [oA 2 (.mov (.c (.int .i64 0)))]) (.seq (.ops [oM 3 0,oA 4 (.nilc (.t 3)),oA 5 (.fa 3 (.t 4)),oA 6 (.ld (.t 5)),oA 7 (.len 1 (.t 6)),oA 8 (.bin .quo (.t 7) (.c (.int .i64 64))),oM 2 8]) (.ret))
def f_2g : F := ⟨c_2g, [.t 2], some []⟩
theorem h_2g : compF Tryz.prog (compAny Tryz.prog) n_2g = some (f_2g.body, f_2g.res) := by kernel_rfl
def c_031 : C :=
 .seq (.ops [oA 4 (.mov (.c (.int .u32 0)))]) (.seq (.seq (.ops [oM 5 0]) (.cond (.t 5) (.seq (.ops [oM 6 1,oM 4 6]) (.ret)) (.skip))) (.seq (.ops [oA 4 (.mov (.c (.int .u32 0)))]) (.ret)))
def f_031 : F := ⟨c_031, [.t 4], some []⟩
theorem h_031 : compF Tryz.prog (compAny Tryz.prog) n_031 = some (f_031.body, f_031.res) := by kernel_rfl
def c0_2a : C :=
 .seq (.ops [oA 13 (.bin .eql (.t 3) (.c (.int .u32 24))),oM 12 13]) (.cond (.t 12) (.seq (.ops [oA 2 (.mov (.c (.int .i64 60)))]) (.ret)) (.seq (.ops [oA 15 (.bin .eql (.t 3) (.c (.int .u32 32))),oM 14 15]) (.cond (.t 14) (.seq (.ops [oA 2 (.mov (.c (.int .i64 61)))]) (.ret)) (.skip))))
def c1_2a : C :=
 .seq (.ops [oA 9 (.bin .eql (.t 3) (.c (.int .u32 6))),oM 8 9]) (.cond (.t 8) (.seq (.ops [oA 2 (.mov (.c (.int .i64 58)))]) (.ret)) (.seq (.ops [oA 11 (.bin .eql (.t 3) (.c (.int .u32 8))),oM 10 11]) (.cond (.t 10) (.seq (.ops [oA 2 (.mov (.c (.int .i64 59)))]) (.ret)) (c0_2a))))
def c2_2a : C :=
 .block 0 (.seq (.ops [oA 5 (.bin .eql (.t 3) (.c (.int .u32 1))),oM 4 5]) (.cond (.t 4) (.seq (.ops [oA 2 (.mov (.c (.int .i64 56)))]) (.ret)) (.seq (.ops [oA 7 (.bin .eql (.t 3) (.c (.int .u32 2))),oM 6 7]) (.cond (.t 6) (.seq (.ops [oA 2 (.mov (.c (.int .i64 57)))]) (.ret)) (c1_2a)))))
def c_2a : C :=
 .seq (.ops [oA 2 (.mov (.c (.int .i64 0)))]) (.seq (.seq (.ops [oM 3 0]) (c2_2a)) (.seq (.ops [oA 2 (.mov (.c (.int .i64 0)))]) (.ret)))
def f_2a : F := ⟨c_2a, [.t 2], some []⟩
theorem h_2a : compF Tryz.prog (compAny Tryz.prog) n_2a = some (f_2a.body, f_2a.res) := by kernel_rfl
def c0_3l : C :=
 .seq (.seq (.ops [oA 16 (.bin .eql (.t 7) (.c (.int .u32 0))),oM 15 16]) (.cond (.t 15) (.skip) (.seq (.ops [oA 17 (.bin .eql (.t 7) (.c (.int .u32 8))),oM 15 17]) (.cond (.t 15) (.skip) (.ops [oA 18 (.bin .eql (.t 7) (.c (.int .u32 12))),oM 15 18]))))) (.cond (.t 15) (.skip) (.seq (.ops [oA 6 (.mov (.c (.bool false)))]) (.ret)))
def c1_3l : C :=
 .block 0 (.seq (.ops [oA 9 (.bin .eql (.t 7) (.c (.int .u32 4))),oM 8 9]) (.cond (.t 8) (.ops [oM 10 0,oM 11 2,oA 12 (.bin .and (.t 11) (.c (.int .u32 62))),oA 13 (.nilc (.t 10)),oA 14 (.fa 1 (.t 13)),oS (.st (.t 14) (.t 12))]) (c0_3l)))
def c_3l : C :=
 .seq (.ops [oA 6 (.mov (.c (.bool false)))]) (.seq (.seq (.ops [oM 7 1]) (c1_3l)) (.seq (.ops [oA 6 (.mov (.c (.bool true)))]) (.ret)))
def f_3l : F := ⟨c_3l, [.t 6], some []⟩
theorem h_3l : compF Tryz.prog (compAny Tryz.prog) n_3l = some (f_3l.body, f_3l.res) := by kernel_rfl
def c0_9i : C :=
 .any 0 [.op 0 (oM 23 0),.op 1 (oA 24 (.nilc (.t 23))),.op 2 (oA 25 (.fa 1 (.t 24))),.op 3 (oA 26 (.ld (.t 25))),.op 4 (oM 27 0),.op 5 (oA 28 (.nilc (.t 27))),.op 6 (oA 29 (.fa 0 (.t 28))),.op 7 (oA 30 (.ld (.t 29))),.op 8 (oA 31 (.call n_0a1 [(.t 26),(.t 30)]))]
def c1_9i : C :=
 .seq (.ops [oM 17 2,oA 18 (.bin .and (.t 17) (.c (.int .u32 1))),oA 19 (.bin .neq (.t 18) (.c (.int .u32 0)))]) (.cond (.t 19) (.ops [oM 20 0,oM 21 3,oA 22 (.call n_9j [(.t 20),(.t 21)])]) (c0_9i))
def c2_9i : C :=
 .seq (.ops [oM 40 2,oA 41 (.bin .and (.t 40) (.c (.int .u32 1))),oA 42 (.bin .neq (.t 41) (.c (.int .u32 0)))]) (.cond (.t 42) (.ops [oM 43 0,oA 44 (.nilc (.t 43)),oA 45 (.fa 4 (.t 44)),oS (.st (.t 45) (.c (.int .u32 0)))]) (.skip))
def c3_9i : C :=
 .cond (.t 32) (.ops [oM 34 0,oM 35 2,oA 36 (.nilc (.t 34)),oA 37 (.fa 3 (.t 36)),oS (.st (.t 37) (.t 35))]) (.seq (.ops [oA 39 (.bin .eql (.t 9) (.c (.int .u32 8))),oM 38 39]) (.cond (.t 38) (c2_9i) (.seq (.ops [oA 8 (.mov (.c (.bool false)))]) (.ret))))
def c4_9i : C :=
 .cond (.t 10) (.seq (.ops [oM 12 0,oM 13 2,oA 14 (.bin .and (.t 13) (.c (.int .u32 3))),oA 15 (.nilc (.t 12)),oA 16 (.fa 2 (.t 15)),oS (.st (.t 16) (.t 14))]) (c1_9i)) (.seq (.ops [oA 33 (.bin .eql (.t 9) (.c (.int .u32 4))),oM 32 33]) (c3_9i))
def c_9i : C :=
 .seq (.ops [oA 8 (.mov (.c (.bool false)))]) (.seq (.seq (.ops [oM 9 1]) (.block 0 (.seq (.ops [oA 11 (.bin .eql (.t 9) (.c (.int .u32 0))),oM 10 11]) (c4_9i)))) (.seq (.ops [oA 8 (.mov (.c (.bool true)))]) (.ret)))
def f_9i : F := ⟨c_9i, [.t 8], some []⟩
theorem h_9i : compF Tryz.prog (compAny Tryz.prog) n_9i = some (f_9i.body, f_9i.res) := by kernel_rfl
def c0_011 : C :=
 .seq (.ops [oM 19 0,oA 20 (.nilc (.t 19)),oA 21 (.fa 3 (.t 20)),oA 22 (.ld (.t 21)),oM 23 2,oA 24 (.conv .u8 (.t 23)),oA 25 (.call n_041 [(.t 22),(.t 24)]),oM 26 25,oT 27 26 (.mov (.t 9)),oA 28 (.pick (.t 26) (.t 27) (.c (.bool false)))]) (.cond (.t 28) (.ops [oM 29 0,oM 30 3,oA 31 (.call n_021 [(.t 29),(.t 30)])]) (.skip))
def c1_011 : C :=
 .ops [oM 34 0,oM 35 0,oA 36 (.nilc (.t 35)),oA 37 (.fa 4 (.t 36)),oA 38 (.ld (.t 37)),oM 39 38,oT 40 39 (.mov (.t 2)),oT 41 39 (.bin .and (.t 40) (.c (.int .u32 4))),oT 42 39 (.bin .eql (.t 41) (.c (.int .u32 0))),oA 43 (.pick (.t 39) (.t 42) (.c (.bool false))),oA 44 (.nilc (.t 34)),oA 45 (.fa 4 (.t 44)),oS (.st (.t 45) (.t 43))]
def c2_011 : C :=
 .cond (.t 46) (.ops [oM 48 0,oM 49 2,oA 50 (.bin .and (.t 49) (.c (.int .u32 3))),oA 51 (.nilc (.t 48)),oA 52 (.fa 5 (.t 51)),oS (.st (.t 52) (.t 50))]) (.seq (.ops [oA 8 (.mov (.c (.bool false)))]) (.ret))
def c3_011 : C :=
 .cond (.t 11) (.seq (.ops [oM 13 0,oA 14 (.nilc (.t 13)),oA 15 (.fa 3 (.t 14)),oA 16 (.ld (.t 15)),oA 17 (.len 3 (.t 16)),oA 18 (.bin .eql (.t 17) (.c (.int .i64 0))),oM 9 18]) (c0_011)) (.seq (.ops [oA 33 (.bin .eql (.t 10) (.c (.int .u32 4))),oM 32 33]) (.cond (.t 32) (c1_011) (.seq (.ops [oA 47 (.bin .eql (.t 10) (.c (.int .u32 8))),oM 46 47]) (c2_011))))
def c_011 : C :=
 .seq (.ops [oA 8 (.mov (.c (.bool false)))]) (.seq (.seq (.ops [oM 10 1]) (.block 0 (.seq (.ops [oA 12 (.bin .eql (.t 10) (.c (.int .u32 0))),oM 11 12]) (c3_011)))) (.seq (.ops [oA 8 (.mov (.c (.bool true)))]) (.ret)))
def f_011 : F := ⟨c_011, [.t 8], some []⟩
theorem h_011 : compF Tryz.prog (compAny Tryz.prog) n_011 = some (f_011.body, f_011.res) := by kernel_rfl
def c0_2o : C :=
 .ops [oM 38 0,oA 39 (.nilc (.t 38)),oA 40 (.fa 6 (.t 39)),oA 41 (.ld (.t 40)),oM 42 2,oA 43 (.bin .and (.t 42) (.c (.int .u32 6))),oA 44 (.bin .andNot (.t 41) (.t 43)),oA 45 (.nilc (.t 38)),oA 46 (.fa 6 (.t 45)),oS (.st (.t 46) (.t 44))]
def c1_2o : C :=
 .cond (.t 28) (.seq (.ops [oM 30 2,oA 31 (.bin .and (.t 30) (.c (.int .u32 1))),oA 32 (.bin .neq (.t 31) (.c (.int .u32 0)))]) (.cond (.t 32) (.ops [oM 33 0,oM 34 3,oA 35 (.call n_2p [(.t 33),(.t 34)])]) (.skip))) (.seq (.ops [oA 37 (.bin .eql (.t 9) (.c (.int .u32 16))),oM 36 37]) (.cond (.t 36) (c0_2o) (.seq (.ops [oA 8 (.mov (.c (.bool false)))]) (.ret))))
def c2_2o : C :=
 .seq (.ops [oA 23 (.bin .eql (.t 9) (.c (.int .u32 8))),oM 22 23]) (.cond (.t 22) (.ops [oM 24 0,oM 25 2,oA 26 (.nilc (.t 24)),oA 27 (.fa 5 (.t 26)),oS (.st (.t 27) (.t 25))]) (.seq (.ops [oA 29 (.bin .eql (.t 9) (.c (.int .u32 12))),oM 28 29]) (c1_2o)))
def c3_2o : C :=
 .cond (.t 10) (.ops [oM 12 0,oM 13 2,oA 14 (.nilc (.t 12)),oA 15 (.fa 3 (.t 14)),oS (.st (.t 15) (.t 13))]) (.seq (.ops [oA 17 (.bin .eql (.t 9) (.c (.int .u32 4))),oM 16 17]) (.cond (.t 16) (.ops [oM 18 0,oM 19 2,oA 20 (.nilc (.t 18)),oA 21 (.fa 4 (.t 20)),oS (.st (.t 21) (.t 19))]) (c2_2o)))
def c_2o : C :=
 .seq (.ops [oA 8 (.mov (.c (.bool false)))]) (.seq (.seq (.ops [oM 9 1]) (.block 0 (.seq (.ops [oA 11 (.bin .eql (.t 9) (.c (.int .u32 0))),oM 10 11]) (c3_2o)))) (.seq (.ops [oA 8 (.mov (.c (.bool true)))]) (.ret)))
def f_2o : F := ⟨c_2o, [.t 8], some []⟩
theorem h_2o : compF Tryz.prog (compAny Tryz.prog) n_2o = some (f_2o.body, f_2o.res) := by kernel_rfl
def c0_2h : C :=
 .ops [oM 30 0,oA 31 (.nilc (.t 30)),oA 32 (.fa 7 (.t 31)),oA 33 (.ld (.t 32)),oM 34 2,oA 35 (.bin .and (.t 34) (.c (.int .u32 6))),oA 36 (.bin .andNot (.t 33) (.t 35)),oA 37 (.nilc (.t 30)),oA 38 (.fa 7 (.t 37)),oS (.st (.t 38) (.t 36))]
def c1_2h : C :=
 .cond (.t 22) (.ops [oM 24 0,oM 25 2,oM 26 3,oA 27 (.call n_2i [(.t 24),(.t 25),(.t 26)])]) (.seq (.ops [oA 29 (.bin .eql (.t 9) (.c (.int .u32 12))),oM 28 29]) (.cond (.t 28) (c0_2h) (.seq (.ops [oA 8 (.mov (.c (.bool false)))]) (.ret))))
def c2_2h : C :=
 .seq (.ops [oA 17 (.bin .eql (.t 9) (.c (.int .u32 4))),oM 16 17]) (.cond (.t 16) (.ops [oM 18 0,oM 19 2,oA 20 (.nilc (.t 18)),oA 21 (.fa 5 (.t 20)),oS (.st (.t 21) (.t 19))]) (.seq (.ops [oA 23 (.bin .eql (.t 9) (.c (.int .u32 8))),oM 22 23]) (c1_2h)))
def c3_2h : C :=
 .block 0 (.seq (.ops [oA 11 (.bin .eql (.t 9) (.c (.int .u32 0))),oM 10 11]) (.cond (.t 10) (.ops [oM 12 0,oM 13 2,oA 14 (.nilc (.t 12)),oA 15 (.fa 4 (.t 14)),oS (.st (.t 15) (.t 13))]) (c2_2h)))
def c_2h : C :=
 .seq (.ops [oA 8 (.mov (.c (.bool false)))]) (.seq (.seq (.ops [oM 9 1]) (c3_2h)) (.seq (.ops [oA 8 (.mov (.c (.bool true)))]) (.ret)))
def f_2h : F := ⟨c_2h, [.t 8], some []⟩
theorem h_2h : compF Tryz.prog (compAny Tryz.prog) n_2h = some (f_2h.body, f_2h.res) := by kernel_rfl
def c_06 : C :=
 .seq (.ops [oA 2 (.mov (.c (.int .u32 0)))]) (.seq (.seq (.ops [oM 3 0]) (.cond (.t 3) (.seq (.ops [oA 2 (.mov (.c (.int .u32 1)))]) (.ret)) (.skip))) (.seq (.ops [oA 2 (.mov (.c (.int .u32 0)))]) (.ret)))
def f_06 : F := ⟨c_06, [.t 2], some []⟩
theorem h_06 : compF Tryz.prog (compAny Tryz.prog) n_06 = some (f_06.body, f_06.res) := by kernel_rfl
def c_0g1 : C :=
 .seq (.ops [oA 2 (.mov (.c (.int .i64 0)))]) (.seq (.ops [oM 3 0,oA 4 (.call n_3n [(.t 3)]),oM 2 4]) (.ret))
def f_0g1 : F := ⟨c_0g1, [.t 2], some []⟩
theorem h_0g1 : compF Tryz.prog (compAny Tryz.prog) n_0g1 = some (f_0g1.body, f_0g1.res) := by kernel_rfl
def c_0f1 : C :=
 .seq (.ops [oA 2 (.mov (.c (.int .i64 0)))]) (.seq (.ops [oM 3 0,oA 4 (.un .xor (.t 3)),oA 5 (.call n_3n [(.t 4)]),oM 2 5]) (.ret))
def f_0f1 : F := ⟨c_0f1, [.t 2], some []⟩
theorem h_0f1 : compF Tryz.prog (compAny Tryz.prog) n_0f1 = some (f_0f1.body, f_0f1.res) := by kernel_rfl
def c0_44 : C :=
 .seq (.block 1 (.seq (.ops [oA 9 (.ia 5 (.t 5) (.t 7)),oA 10 (.ldn 5 (.t 9)),oA 4 (.new [(.int .i64 0),(.int .i64 0),(.int .i64 0),(.int .i64 0),(.int .u32 0)]),oS (.stn 5 (.t 4) (.t 10))]) (.seq (.ops [oA 11 (.ldn 5 (.t 4)),oA 12 (.call n_38 [(.t 11)]),oA 13 (.un .not (.t 12))]) (.cond (.t 13) (.seq (.ops [oA 2 (.mov (.c (.bool false)))]) (.ret)) (.skip))))) (.ops [oA 14 (.bin .add (.t 7) (.c (.int .i64 1))),oM 7 14])
def c1_44 : C :=
 .seq (.ops [oA 8 (.bin .lss (.t 7) (.t 6))]) (.seq (.cond (.t 8) (.skip) (.exit 0)) (c0_44))
def c_44 : C :=
 .seq (.ops [oA 2 (.mov (.c (.bool false)))]) (.seq (.seq (.ops [oM 5 0,oA 6 (.len 1 (.t 5)),oA 7 (.mov (.c (.int .i64 0)))]) (.block 0 (.loop c1_44))) (.seq (.ops [oA 2 (.mov (.c (.bool true)))]) (.ret)))
def f_44 : F := ⟨c_44, [.t 2], some []⟩
theorem h_44 : compF Tryz.prog (compAny Tryz.prog) n_44 = some (f_44.body, f_44.res) := by kernel_rfl
def c0_3b : C :=
 .cond (.t 14) (.seq (.ops [oA 21 (.bsl 2 [(.int .i64 0),(.int .i64 0)] [(0,1,(.c (.int .i64 32))),(1,1,(.c (.int .i64 33)))]),oM 2 21]) (.ret)) (.seq (.ops [oA 23 (.fa 1 (.t 1)),oA 24 (.ld (.t 23)),oA 25 (.bin .eql (.t 24) (.c (.int .i64 0))),oM 22 25]) (.cond (.t 22) (.seq (.ops [oA 2 (.mov (.c (.slice none 0 0)))]) (.ret)) (.skip)))
def c1_3b : C :=
 .seq (.ops [oM 15 3,oA 16 (.bin .geq (.t 15) (.c (.int .i64 17))),oM 17 16,oT 18 17 (.mov (.t 3)),oT 19 17 (.bin .leq (.t 18) (.c (.int .i64 20))),oA 20 (.pick (.t 17) (.t 19) (.c (.bool false))),oM 14 20]) (c0_3b)
def c2_3b : C :=
 .block 0 (.seq (.ops [oA 7 (.ldn 5 (.t 1)),oA 8 (.call n_38 [(.t 7)]),oA 9 (.un .not (.t 8)),oM 10 9,oF 11 10 (.mov (.t 3)),oF 12 10 (.bin .eql (.t 11) (.c (.int .i64 0))),oA 13 (.pick (.t 10) (.c (.bool true)) (.t 12)),oM 6 13]) (.cond (.t 6) (.seq (.ops [oA 2 (.mov (.c (.slice none 0 0)))]) (.ret)) (c1_3b)))
def c_3b : C :=
 .seq (.ops [oA 1 (.box (.t 0)),oA 2 (.mov (.c (.slice none 0 0)))]) (.seq (.seq (.ops [oA 4 (.fa 0 (.t 1)),oA 5 (.ld (.t 4)),oM 3 5]) (c2_3b)) (.seq (.ops [oA 26 (.fa 1 (.t 1)),oA 27 (.ld (.t 26)),oA 28 (.bsl 1 [(.int .i64 0)] [(0,1,(.t 27))]),oM 2 28]) (.ret)))
def f_3b : F := ⟨c_3b, [.t 2], some []⟩
theorem h_3b : compF Tryz.prog (compAny Tryz.prog) n_3b = some (f_3b.body, f_3b.res) := by kernel_rfl
def c_8h : C :=
 .seq (.ops [oA 4 (.mov (.c (.bool false)))]) (.seq (.ops [oM 5 0,oM 6 1,oA 7 (.call n_8o [(.t 5),(.t 6)]),oA 8 (.bin .geq (.t 7) (.c (.int .i64 0))),oM 4 8]) (.ret))
def f_8h : F := ⟨c_8h, [.t 4], some []⟩
theorem h_8h : compF Tryz.prog (compAny Tryz.prog) n_8h = some (f_8h.body, f_8h.res) := by kernel_rfl
def c_3y : C :=
 .seq (.ops [oA 3 (.mov (.c (.bool false)))]) (.seq (.ops [oM 4 0,oA 5 (.iaa 40 1 (.t 1) (.t 4)),oA 6 (.ld (.t 5)),oM 3 6]) (.ret))
def f_3y : F := ⟨c_3y, [.t 3], some []⟩
theorem h_3y : compF Tryz.prog (compAny Tryz.prog) n_3y = some (f_3y.body, f_3y.res) := by kernel_rfl
def c0_45 : C :=
 .seq (.ops [oA 3 (.fa 0 (.t 1)),oA 4 (.ld (.t 3)),oA 5 (.bin .neq (.t 4) (.c (.int .i64 21))),oM 6 5,oT 7 6 (.fa 0 (.t 1)),oT 8 6 (.ld (.t 7)),oT 9 6 (.bin .neq (.t 8) (.c (.int .i64 22))),oA 10 (.pick (.t 6) (.t 9) (.c (.bool false))),oM 2 10]) (.ret)
def c_45 : C :=
 .seq (.ops [oA 1 (.box (.t 0)),oA 2 (.mov (.c (.bool false)))]) (c0_45)
def f_45 : F := ⟨c_45, [.t 2], some []⟩
theorem h_45 : compF Tryz.prog (compAny Tryz.prog) n_45 = some (f_45.body, f_45.res) := by kernel_rfl
def c0_36 : C :=
 .ops [oA 45 (.fa 2 (.t 1)),oA 46 (.ld (.t 45)),oA 47 (.fa 3 (.t 1)),oA 48 (.ld (.t 47)),oA 49 (.fa 1 (.t 1)),oA 50 (.ld (.t 49)),oA 51 (.bsl 3 [(.int .i64 0),(.int .i64 0),(.int .i64 0)] [(0,1,(.t 46)),(1,1,(.t 48)),(2,1,(.t 50))]),oM 3 51]
def c1_36 : C :=
 .seq (.ops [oM 39 4,oA 40 (.bin .eql (.t 39) (.c (.int .i64 21))),oM 41 40,oF 42 41 (.mov (.t 4)),oF 43 41 (.bin .eql (.t 42) (.c (.int .i64 22))),oA 44 (.pick (.t 41) (.c (.bool true)) (.t 43)),oM 38 44]) (.cond (.t 38) (c0_36) (.ops [oA 7 (.fa 2 (.t 1)),oA 8 (.ld (.t 7)),oA 9 (.fa 3 (.t 1)),oA 10 (.ld (.t 9)),oA 11 (.bsl 2 [(.int .i64 0),(.int .i64 0)] [(0,1,(.t 8)),(1,1,(.t 10))]),oM 3 11]))
def c2_36 : C :=
 .seq (.ops [oM 25 4,oA 26 (.bin .eql (.t 25) (.c (.int .i64 2))),oM 27 26,oF 28 27 (.mov (.t 4)),oF 29 27 (.bin .eql (.t 28) (.c (.int .i64 15))),oA 30 (.pick (.t 27) (.c (.bool true)) (.t 29)),oM 31 30,oF 32 31 (.mov (.t 4)),oF 33 31 (.bin .eql (.t 32) (.c (.int .i64 16))),oA 34 (.pick (.t 31) (.c (.bool true)) (.t 33)),oM 24 34]) (.cond (.t 24) (.ops [oA 35 (.fa 2 (.t 1)),oA 36 (.ld (.t 35)),oA 37 (.bsl 1 [(.int .i64 0)] [(0,1,(.t 36))]),oM 3 37]) (c1_36))
def c3_36 : C :=
 .block 0 (.seq (.ops [oA 13 (.ldn 5 (.t 1)),oA 14 (.call n_38 [(.t 13)]),oA 15 (.un .not (.t 14)),oM 16 15,oF 17 16 (.mov (.t 4)),oF 18 16 (.bin .eql (.t 17) (.c (.int .i64 0))),oA 19 (.pick (.t 16) (.c (.bool true)) (.t 18)),oM 20 19,oF 21 20 (.mov (.t 4)),oF 22 20 (.bin .eql (.t 21) (.c (.int .i64 1))),oA 23 (.pick (.t 20) (.c (.bool true)) (.t 22)),oM 12 23]) (.cond (.t 12) (.skip) (c2_36)))
def c4_36 : C :=
 .seq (.seq (.ops [oA 5 (.fa 0 (.t 1)),oA 6 (.ld (.t 5)),oM 4 6]) (c3_36)) (.seq (.ops [oM 52 3,oA 53 (.call n_8t [(.t 52)])]) (.seq (.ops [oM 54 3,oA 55 (.call n_8g [(.t 54)]),oM 2 55]) (.ret)))
def c_36 : C :=
 .seq (.ops [oA 1 (.box (.t 0)),oA 2 (.mov (.c (.slice none 0 0)))]) (.seq (.ops [oA 3 (.mov (.c (.slice none 0 0)))]) (c4_36))
def f_36 : F := ⟨c_36, [.t 2], some []⟩
theorem h_36 : compF Tryz.prog (compAny Tryz.prog) n_36 = some (f_36.body, f_36.res) := by kernel_rfl
def c0_8r : C :=
 .seq (.block 1 (.any 0 [.op 4 (oM 18 0),.op 5 (oM 19 3),.op 6 (oA 20 (.ia 5 (.t 18) (.t 19))),.op 7 (oA 21 (.ldn 5 (.t 20))),.op 8 (oM 22 0),.op 9 (oM 23 2),.op 10 (oA 24 (.ia 5 (.t 22) (.t 23))),.op 11 (oA 25 (.ldn 5 (.t 24))),.op 0 (oM 14 0),.op 1 (oM 15 2),.op 12 (oA 26 (.ia 5 (.t 14) (.t 15))),.op 13 (oS (.stn 5 (.t 26) (.t 21))),.op 2 (oM 16 0),.op 3 (oM 17 3),.op 14 (oA 27 (.ia 5 (.t 16) (.t 17))),.op 15 (oS (.stn 5 (.t 27) (.t 25)))])) (.ops [oM 10 2,oA 11 (.bin .add (.t 10) (.c (.int .i64 1))),oM 12 3,oA 13 (.bin .sub (.t 12) (.c (.int .i64 1))),oM 2 11,oM 3 13])
def c1_8r : C :=
 .seq (.seq (.ops [oM 7 2,oM 8 3,oA 9 (.bin .lss (.t 7) (.t 8))]) (.cond (.t 9) (.skip) (.exit 0))) (c0_8r)
def c_8r : C :=
 .seq (.ops [oM 4 0,oA 5 (.len 1 (.t 4)),oA 6 (.bin .sub (.t 5) (.c (.int .i64 1))),oA 2 (.mov (.c (.int .i64 0))),oM 3 6]) (.block 0 (.loop c1_8r))
def f_8r : F := ⟨c_8r, [], some []⟩
theorem h_8r : compF Tryz.prog (compAny Tryz.prog) n_8r = some (f_8r.body, f_8r.res) := by kernel_rfl
def c0_42 : C :=
 .seq (.any 0 [.op 0 (oA 23 (.fa 1 (.t 3))),.op 1 (oA 24 (.ld (.t 23))),.op 2 (oA 25 (.fa 2 (.t 3))),.op 3 (oA 26 (.ld (.t 25))),.op 5 (oM 28 0),.op 6 (oA 29 (.fa 3 (.t 3))),.op 7 (oA 30 (.ld (.t 29))),.op 8 (oA 31 (.nilc (.t 28))),.op 9 (oA 32 (.fa 40 (.t 31))),.op 10 (oA 33 (.iaa 40 1 (.t 32) (.t 30))),.op 11 (oA 34 (.ld (.t 33))),.op 13 (oA 36 (.fa 0 (.t 3))),.op 14 (oA 37 (.ld (.t 36))),.op 4 (oA 27 (.build [(.int .i64 0),(.int .i64 0),(.int .i64 0),(.int .i64 0),(.int .u32 0)] [(0,1,(.c (.int .i64 2))),(1,1,(.t 24)),(2,1,(.t 26))])),.op 17 (oS (.stn 5 (.t 4) (.t 27))),.re 7 (oA 30 (.ld (.t 29))),.re 11 (oA 34 (.ld (.t 33))),.re 14 (oA 37 (.ld (.t 36))),.op 12 (oA 35 (.bin .eql (.t 34) (.c (.int .u32 0)))),.op 15 (oA 38 (.bin .eql (.t 37) (.c (.int .i64 21)))),.op 16 (oA 39 (.eqb false (.t 35) (.t 38))),.op 18 (oM 5 39)]) (.ret)
def c1_42 : C :=
 .seq (.ops [oA 41 (.ldn 5 (.t 3)),oA 42 (.call n_45 [(.t 41)]),oA 43 (.un .not (.t 42)),oM 44 43,oF 45 44 (.mov (.t 6)),oF 46 44 (.len 1 (.t 45)),oF 47 44 (.bin .neq (.t 46) (.c (.int .i64 1))),oA 48 (.pick (.t 44) (.c (.bool true)) (.t 47)),oM 49 48,oF 50 49 (.mov (.t 0)),oF 51 49 (.ldn 5 (.t 3)),oF 52 49 (.call n_36 [(.t 51)]),oF 53 49 (.call n_43 [(.t 50),(.t 52)]),oF 54 49 (.un .not (.t 53)),oA 55 (.pick (.t 49) (.c (.bool true)) (.t 54)),oM 40 55]) (.cond (.t 40) (.seq (.ops [oA 56 (.ldn 5 (.t 3)),oS (.stn 5 (.t 4) (.t 56)),oA 5 (.mov (.c (.bool true)))]) (.ret)) (.skip))
def c2_42 : C :=
 .seq (.any 0 [.op 0 (oA 64 (.fa 1 (.t 3))),.op 1 (oA 65 (.ld (.t 64))),.op 2 (oA 66 (.fa 1 (.t 3))),.op 3 (oA 67 (.ld (.t 66))),.op 4 (oA 68 (.iaa 40 1 (.t 7) (.t 67))),.op 5 (oA 69 (.ld (.t 68))),.op 6 (oA 70 (.build [(.int .i64 0),(.int .i64 0),(.int .i64 0),(.int .i64 0),(.int .u32 0)] [(0,1,(.c (.int .i64 1))),(1,1,(.t 65)),(4,1,(.t 69))])),.op 7 (oS (.stn 5 (.t 4) (.t 70))),.op 8 (oA 5 (.mov (.c (.bool true))))]) (.ret)
def c3_42 : C :=
 .seq (.ops [oM 57 0,oA 58 (.nilc (.t 57)),oA 59 (.fa 40 (.t 58)),oA 60 (.ldn 40 (.t 59)),oA 7 (.new (List.replicate 40 (.int .u32 0))),oS (.stn 40 (.t 7) (.t 60))]) (.seq (.ops [oA 61 (.ldn 5 (.t 3)),oA 62 (.bsl 1 [(.int .i64 0),(.int .i64 0),(.int .i64 0),(.int .i64 0),(.int .u32 0)] [(0,5,(.t 61))]),oA 63 (.call n_39 [(.t 7),(.t 62)])]) (c2_42))
def c4_42 : C :=
 .seq (.block 0 (.seq (.any 0 [.op 0 (oA 11 (.ldn 5 (.t 3))),.op 1 (oA 12 (.call n_45 [(.t 11)])),.op 2 (oA 13 (.un .not (.t 12))),.op 3 (oM 14 13),.op 4 (oT 15 14 (.mov (.t 0))),.op 5 (oT 16 14 (.fa 3 (.t 3))),.op 6 (oT 17 14 (.ld (.t 16))),.op 7 (oT 18 14 (.nilc (.t 15))),.op 8 (oT 19 14 (.fa 0 (.t 18))),.op 9 (oT 20 14 (.iaa 40 1 (.t 19) (.t 17))),.op 10 (oT 21 14 (.ld (.t 20))),.op 11 (oA 22 (.pick (.t 14) (.t 21) (.c (.bool false)))),.op 12 (oM 10 22)]) (.cond (.t 10) (c0_42) (c1_42)))) (c3_42)
def c_42 : C :=
 .seq (.ops [oA 3 (.box (.t 1)),oA 4 (.new [(.int .i64 0),(.int .i64 0),(.int .i64 0),(.int .i64 0),(.int .u32 0)]),oA 5 (.mov (.c (.bool false)))]) (.seq (.ops [oA 8 (.ldn 5 (.t 3)),oA 9 (.call n_3b [(.t 8)]),oM 6 9]) (c4_42))
def f_42 : F := ⟨c_42, [.ldn 5 4, .t 5], some []⟩
theorem h_42 : compF Tryz.prog (compAny Tryz.prog) n_42 = some (f_42.body, f_42.res) := by kernel_rfl
def c0_41 : C :=
 .any 1 [.op 3 (oA 15 (.ldn 5 (.t 3))),.op 0 (oM 12 0),.op 1 (oA 13 (.nilc (.t 12))),.op 2 (oA 14 (.fa 40 (.t 13))),.al 4 0 (oA 16 (.bsl 1 [(.int .i64 0),(.int .i64 0),(.int .i64 0),(.int .i64 0),(.int .u32 0)] [(0,5,(.t 15))])),.op 5 (oA 17 (.call n_39 [(.t 14),(.t 16)]))]
def c1_41 : C :=
 .seq (.block 1 (.seq (.ops [oA 23 (.ia 1 (.t 19) (.t 21)),oA 24 (.ld (.t 23)),oM 6 24]) (.ops [oM 25 0,oM 26 6,oM 27 4,oA 28 (.nilc (.t 25)),oA 29 (.fa 0 (.t 28)),oA 30 (.iaa 40 1 (.t 29) (.t 26)),oS (.st (.t 30) (.t 27))]))) (.ops [oA 31 (.bin .add (.t 21) (.c (.int .i64 1))),oM 21 31])
def c2_41 : C :=
 .seq (.ops [oA 22 (.bin .lss (.t 21) (.t 20))]) (.seq (.cond (.t 22) (.skip) (.exit 0)) (c1_41))
def c3_41 : C :=
 .seq (.ops [oM 7 0,oA 8 (.ldn 5 (.t 3)),oA 9 (.call n_36 [(.t 8)]),oA 10 (.call n_43 [(.t 7),(.t 9)]),oM 4 10]) (.seq (.seq (.ops [oM 11 4]) (.cond (.t 11) (c0_41) (.skip))) (.seq (.ops [oA 18 (.ldn 5 (.t 3)),oA 19 (.call n_3b [(.t 18)]),oA 20 (.len 1 (.t 19)),oA 21 (.mov (.c (.int .i64 0)))]) (.block 0 (.loop c2_41))))
def c_41 : C :=
 .seq (.ops [oA 3 (.box (.t 1))]) (c3_41)
def f_41 : F := ⟨c_41, [], some []⟩
theorem h_41 : compF Tryz.prog (compAny Tryz.prog) n_41 = some (f_41.body, f_41.res) := by kernel_rfl
end Go.Proofs.YtoiiphcbkejliaaGreat.Cd

set_option maxRecDepth 100000
set_option linter.defProp false
namespace Go.Proofs.YtoiiphcbkejliaaGreat.Cd
open Go Go.Dx
def c0_8p : C :=
 .seq (.ops [oM 11 1,oM 12 0,oM 13 5,oA 14 (.ia 5 (.t 12) (.t 13)),oA 15 (.ldn 5 (.t 14)),oA 16 (.callv (.t 11) [(.t 15)])]) (.cond (.t 16) (.seq (.ops [oM 17 5,oM 4 17]) (.ret)) (.skip))
def c1_8p : C :=
 .seq (.ops [oA 9 (.bin .lss (.t 8) (.t 7))]) (.seq (.cond (.t 9) (.skip) (.exit 0)) (.seq (.block 1 (.seq (.ops [oM 10 8,oM 5 10]) (c0_8p))) (.ops [oA 18 (.bin .add (.t 8) (.c (.int .i64 1))),oM 8 18])))
def c_8p : C :=
 .seq (.ops [oA 4 (.mov (.c (.int .i64 0)))]) (.seq (.seq (.ops [oM 6 0,oA 7 (.len 1 (.t 6)),oA 8 (.mov (.c (.int .i64 0)))]) (.block 0 (.loop c1_8p))) (.seq (.ops [oA 4 (.mov (.c (.int .i64 (-1))))]) (.ret)))
def f_8p : F := ⟨c_8p, [.t 4], some []⟩
theorem h_8p : compF Tryz.prog (compAny Tryz.prog) n_8p = some (f_8p.body, f_8p.res) := by kernel_rfl
def c0_3c : C :=
 .seq (.ops [oM 66 1,oM 67 2,oA 68 (.fa 0 (.t 3)),oA 69 (.ld (.t 68)),oA 70 (.bin .eql (.t 69) (.c (.int .i64 12))),oA 71 (.call n_0i1 [(.t 66),(.t 67),(.t 70)]),oA 72 (.call n_3d [(.t 71)]),oM 6 72]) (.ret)
def c1_3c : C :=
 .cond (.t 78) (.seq (.ops [oM 80 1,oA 81 (.call n_0g1 [(.t 80)]),oA 82 (.conv .u32 (.t 81)),oM 6 82]) (.ret)) (.seq (.ops [oA 84 (.bin .eql (.t 8) (.c (.int .i64 16))),oM 83 84]) (.cond (.t 83) (.seq (.ops [oM 85 1,oA 86 (.call n_0f1 [(.t 85)]),oA 87 (.conv .u32 (.t 86)),oM 6 87]) (.ret)) (.skip)))
def c2_3c : C :=
 .seq (.ops [oA 74 (.bin .eql (.t 8) (.c (.int .i64 14))),oM 73 74]) (.cond (.t 73) (.seq (.ops [oM 75 1,oM 76 2,oA 77 (.bin .mul (.t 75) (.t 76)),oM 6 77]) (.ret)) (.seq (.ops [oA 79 (.bin .eql (.t 8) (.c (.int .i64 15))),oM 78 79]) (c1_3c)))
def c3_3c : C :=
 .cond (.t 56) (.seq (.ops [oM 58 1,oM 59 2,oA 60 (.bin .and (.t 59) (.c (.int .u32 31))),oA 61 (.conv .i64 (.t 60)),oA 62 (.call n_0l1 [(.t 58),(.t 61)]),oM 6 62]) (.ret)) (.seq (.seq (.ops [oA 64 (.bin .eql (.t 8) (.c (.int .i64 12))),oM 63 64]) (.cond (.t 63) (.skip) (.ops [oA 65 (.bin .eql (.t 8) (.c (.int .i64 13))),oM 63 65]))) (.cond (.t 63) (c0_3c) (c2_3c)))
def c4_3c : C :=
 .cond (.t 50) (.seq (.ops [oM 52 1,oM 53 2,oA 54 (.bin .and (.t 53) (.c (.int .u32 31))),oA 55 (.bin .shr (.t 52) (.t 54)),oM 6 55]) (.ret)) (.seq (.ops [oA 57 (.bin .eql (.t 8) (.c (.int .i64 11))),oM 56 57]) (c3_3c))
def c5_3c : C :=
 .cond (.t 44) (.seq (.ops [oM 46 1,oM 47 2,oA 48 (.bin .and (.t 47) (.c (.int .u32 31))),oA 49 (.bin .shl (.t 46) (.t 48)),oM 6 49]) (.ret)) (.seq (.ops [oA 51 (.bin .eql (.t 8) (.c (.int .i64 10))),oM 50 51]) (c4_3c))
def c6_3c : C :=
 .cond (.t 38) (.seq (.ops [oM 40 1,oM 41 2,oA 42 (.bin .or (.t 40) (.t 41)),oA 43 (.un .xor (.t 42)),oM 6 43]) (.ret)) (.seq (.ops [oA 45 (.bin .eql (.t 8) (.c (.int .i64 9))),oM 44 45]) (c5_3c))
def c7_3c : C :=
 .seq (.ops [oA 34 (.bin .eql (.t 8) (.c (.int .i64 7))),oM 33 34]) (.cond (.t 33) (.seq (.ops [oM 35 1,oM 36 2,oA 37 (.bin .xor (.t 35) (.t 36)),oM 6 37]) (.ret)) (.seq (.ops [oA 39 (.bin .eql (.t 8) (.c (.int .i64 8))),oM 38 39]) (c6_3c)))
def c8_3c : C :=
 .cond (.t 23) (.seq (.ops [oM 25 1,oM 26 2,oA 27 (.bin .and (.t 25) (.t 26)),oM 6 27]) (.ret)) (.seq (.ops [oA 29 (.bin .eql (.t 8) (.c (.int .i64 6))),oM 28 29]) (.cond (.t 28) (.seq (.ops [oM 30 1,oM 31 2,oA 32 (.bin .or (.t 30) (.t 31)),oM 6 32]) (.ret)) (c7_3c)))
def c9_3c : C :=
 .seq (.ops [oA 19 (.bin .eql (.t 8) (.c (.int .i64 4))),oM 18 19]) (.cond (.t 18) (.seq (.ops [oM 20 1,oM 21 2,oA 22 (.bin .sub (.t 20) (.t 21)),oM 6 22]) (.ret)) (.seq (.ops [oA 24 (.bin .eql (.t 8) (.c (.int .i64 5))),oM 23 24]) (c8_3c)))
def c10_3c : C :=
 .cond (.t 9) (.seq (.ops [oA 11 (.fa 4 (.t 3)),oA 12 (.ld (.t 11)),oM 6 12]) (.ret)) (.seq (.ops [oA 14 (.bin .eql (.t 8) (.c (.int .i64 3))),oM 13 14]) (.cond (.t 13) (.seq (.ops [oM 15 1,oM 16 2,oA 17 (.bin .add (.t 15) (.t 16)),oM 6 17]) (.ret)) (c9_3c)))
def c_3c : C :=
 .seq (.ops [oA 3 (.box (.t 0)),oA 6 (.mov (.c (.int .u32 0)))]) (.seq (.seq (.ops [oA 7 (.fa 0 (.t 3)),oA 8 (.ld (.t 7))]) (.block 0 (.seq (.ops [oA 10 (.bin .eql (.t 8) (.c (.int .i64 1))),oM 9 10]) (c10_3c)))) (.seq (.ops [oM 88 1,oM 6 88]) (.ret)))
def f_3c : F := ⟨c_3c, [.t 6], some []⟩
theorem h_3c : compF Tryz.prog (compAny Tryz.prog) n_3c = some (f_3c.body, f_3c.res) := by kernel_rfl
def c0_0a1 : C :=
 .seq (.ops [oM 11 0,oM 12 0,oA 13 (.nilc (.t 12)),oA 14 (.fa 0 (.t 13)),oA 15 (.ld (.t 14)),oM 16 5,oM 17 5,oA 18 (.bin .add (.t 17) (.c (.int .i64 1))),oA 19 (.call n_8j [(.t 15),(.t 16),(.t 18)]),oA 20 (.nilc (.t 11)),oA 21 (.fa 0 (.t 20)),oS (.st (.t 21) (.t 19))]) (.seq (.ops [oA 4 (.mov (.c (.bool true)))]) (.ret))
def c1_0a1 : C :=
 .seq (.ops [oM 6 0,oM 7 1,oA 8 (.call n_0d1 [(.t 6),(.t 7)]),oM 5 8]) (.seq (.seq (.ops [oM 9 5,oA 10 (.bin .lss (.t 9) (.c (.int .i64 0)))]) (.cond (.t 10) (.seq (.ops [oA 4 (.mov (.c (.bool false)))]) (.ret)) (.skip))) (c0_0a1))
def c_0a1 : C :=
 .seq (.ops [oA 4 (.mov (.c (.bool false)))]) (c1_0a1)
def f_0a1 : F := ⟨c_0a1, [.t 4], some []⟩
theorem h_0a1 : compF Tryz.prog (compAny Tryz.prog) n_0a1 = some (f_0a1.body, f_0a1.res) := by kernel_rfl
def c_8s : C :=
 .ops [oM 4 0,oM 5 0,oA 6 (.len 1 (.t 5)),oM 7 1,oA 8 (.call n_9a [(.t 4),(.t 6),(.t 7)])]
def f_8s : F := ⟨c_8s, [], some []⟩
theorem h_8s : compF Tryz.prog (compAny Tryz.prog) n_8s = some (f_8s.body, f_8s.res) := by kernel_rfl
def c_091 : C :=
 .seq (.ops [oA 2 (.box (.t 0)),oA 3 (.box (.t 1)),oA 4 (.mov (.c (.int .i64 0)))]) (.seq (.ops [oA 5 (.fa 0 (.t 2)),oA 6 (.ld (.t 5)),oA 7 (.fa 0 (.t 3)),oA 8 (.ld (.t 7)),oA 9 (.call n_14 [(.t 6),(.t 8)]),oM 4 9]) (.ret))
def f_091 : F := ⟨c_091, [.t 4], some []⟩
theorem h_091 : compF Tryz.prog (compAny Tryz.prog) n_091 = some (f_091.body, f_091.res) := by kernel_rfl
def c0_14 : C :=
 .seq (.seq (.ops [oM 14 0,oM 15 1,oA 16 (.bin .lss (.t 14) (.t 15))]) (.cond (.t 16) (.seq (.ops [oA 4 (.mov (.c (.int .i64 (-1))))]) (.ret)) (.skip))) (.seq (.seq (.ops [oM 17 0,oM 18 1,oA 19 (.bin .gtr (.t 17) (.t 18))]) (.cond (.t 19) (.seq (.ops [oA 4 (.mov (.c (.int .i64 1)))]) (.ret)) (.skip))) (.seq (.ops [oA 4 (.mov (.c (.int .i64 0)))]) (.ret)))
def c1_14 : C :=
 .seq (.seq (.ops [oM 11 5]) (.cond (.t 11) (.seq (.seq (.ops [oM 12 6]) (.cond (.t 12) (.seq (.ops [oA 4 (.mov (.c (.int .i64 0)))]) (.ret)) (.skip))) (.seq (.ops [oA 4 (.mov (.c (.int .i64 (-1))))]) (.ret))) (.skip))) (.seq (.seq (.ops [oM 13 6]) (.cond (.t 13) (.seq (.ops [oA 4 (.mov (.c (.int .i64 1)))]) (.ret)) (.skip))) (c0_14))
def c_14 : C :=
 .seq (.ops [oA 4 (.mov (.c (.int .i64 0)))]) (.seq (.ops [oM 7 0,oA 8 (.call n_17 [(.t 7)]),oM 5 8]) (.seq (.ops [oM 9 1,oA 10 (.call n_17 [(.t 9)]),oM 6 10]) (c1_14)))
def f_14 : F := ⟨c_14, [.t 4], some []⟩
theorem h_14 : compF Tryz.prog (compAny Tryz.prog) n_14 = some (f_14.body, f_14.res) := by kernel_rfl
def c0_2p : C :=
 .any 0 [.op 0 (oM 17 0),.op 1 (oA 18 (.nilc (.t 17))),.op 2 (oA 19 (.fa 1 (.t 18))),.op 3 (oA 20 (.ld (.t 19))),.op 4 (oM 21 0),.op 5 (oA 22 (.nilc (.t 21))),.op 6 (oA 23 (.fa 0 (.t 22))),.op 7 (oA 24 (.ld (.t 23))),.op 9 (oM 26 0),.op 10 (oA 27 (.nilc (.t 26))),.op 11 (oA 28 (.fa 5 (.t 27))),.op 12 (oA 29 (.ld (.t 28))),.op 8 (oM 25 1),.op 13 (oA 30 (.mn (.t 29) (.c (.int .u32 4096)))),.op 14 (oA 31 (.bin .quo (.t 30) (.c (.int .u32 4)))),.op 15 (oA 32 (.conv .i64 (.t 31))),.op 16 (oA 33 (.bin .add (.t 25) (.t 32))),.op 17 (oA 34 (.bin .add (.t 33) (.c (.int .i64 1)))),.op 18 (oA 35 (.call n_081 [(.t 20),(.t 24),(.t 34)]))]
def c1_2p : C :=
 .seq (.ops [oM 10 0,oA 11 (.nilc (.t 10)),oA 12 (.fa 6 (.t 11)),oA 13 (.ld (.t 12)),oA 14 (.bin .or (.t 13) (.c (.int .u32 1))),oA 15 (.nilc (.t 10)),oA 16 (.fa 6 (.t 15)),oS (.st (.t 16) (.t 14))]) (c0_2p)
def c_2p : C :=
 .seq (.seq (.ops [oM 4 0,oA 5 (.nilc (.t 4)),oA 6 (.fa 6 (.t 5)),oA 7 (.ld (.t 6)),oA 8 (.bin .and (.t 7) (.c (.int .u32 1))),oA 9 (.bin .neq (.t 8) (.c (.int .u32 0)))]) (.cond (.t 9) (.ret) (.skip))) (c1_2p)
def f_2p : F := ⟨c_2p, [], some []⟩
theorem h_2p : compF Tryz.prog (compAny Tryz.prog) n_2p = some (f_2p.body, f_2p.res) := by kernel_rfl
def c0_2i : C :=
 .any 0 [.op 0 (oM 23 0),.op 1 (oA 24 (.nilc (.t 23))),.op 2 (oA 25 (.fa 1 (.t 24))),.op 3 (oA 26 (.ld (.t 25))),.op 4 (oM 27 0),.op 5 (oA 28 (.nilc (.t 27))),.op 6 (oA 29 (.fa 0 (.t 28))),.op 7 (oA 30 (.ld (.t 29))),.op 8 (oM 31 2),.op 9 (oA 32 (.bin .add (.t 31) (.c (.int .i64 32)))),.op 10 (oA 33 (.call n_081 [(.t 26),(.t 30),(.t 32)]))]
def c1_2i : C :=
 .seq (.ops [oM 16 0,oA 17 (.nilc (.t 16)),oA 18 (.fa 7 (.t 17)),oA 19 (.ld (.t 18)),oA 20 (.bin .or (.t 19) (.c (.int .u32 1))),oA 21 (.nilc (.t 16)),oA 22 (.fa 7 (.t 21)),oS (.st (.t 22) (.t 20))]) (c0_2i)
def c_2i : C :=
 .seq (.seq (.ops [oM 6 0,oA 7 (.nilc (.t 6)),oA 8 (.fa 7 (.t 7)),oA 9 (.ld (.t 8)),oA 10 (.bin .and (.t 9) (.c (.int .u32 1))),oA 11 (.bin .neq (.t 10) (.c (.int .u32 0)))]) (.cond (.t 11) (.ret) (.skip))) (.seq (.ops [oM 12 0,oM 13 1,oA 14 (.nilc (.t 12)),oA 15 (.fa 6 (.t 14)),oS (.st (.t 15) (.t 13))]) (c1_2i))
def f_2i : F := ⟨c_2i, [], some []⟩
theorem h_2i : compF Tryz.prog (compAny Tryz.prog) n_2i = some (f_2i.body, f_2i.res) := by kernel_rfl
def c_3n : C :=
 .seq (.ops [oA 2 (.mov (.c (.int .i64 0)))]) (.seq (.ops [oM 3 0,oA 4 (.call n_3p [(.t 3)]),oA 5 (.bin .sub (.c (.int .i64 32)) (.t 4)),oM 2 5]) (.ret))
def f_3n : F := ⟨c_3n, [.t 2], some []⟩
theorem h_3n : compF Tryz.prog (compAny Tryz.prog) n_3n = some (f_3n.body, f_3n.res) := by kernel_rfl
def c0_8o : C :=
 .seq (.ops [oM 11 1,oM 12 0,oM 13 5,oA 14 (.ia 1 (.t 12) (.t 13)),oA 15 (.ld (.t 14)),oA 16 (.callv (.t 11) [(.t 15)])]) (.cond (.t 16) (.seq (.ops [oM 17 5,oM 4 17]) (.ret)) (.skip))
def c1_8o : C :=
 .seq (.ops [oA 9 (.bin .lss (.t 8) (.t 7))]) (.seq (.cond (.t 9) (.skip) (.exit 0)) (.seq (.block 1 (.seq (.ops [oM 10 8,oM 5 10]) (c0_8o))) (.ops [oA 18 (.bin .add (.t 8) (.c (.int .i64 1))),oM 8 18])))
def c_8o : C :=
 .seq (.ops [oA 4 (.mov (.c (.int .i64 0)))]) (.seq (.seq (.ops [oM 6 0,oA 7 (.len 1 (.t 6)),oA 8 (.mov (.c (.int .i64 0)))]) (.block 0 (.loop c1_8o))) (.seq (.ops [oA 4 (.mov (.c (.int .i64 (-1))))]) (.ret)))
def f_8o : F := ⟨c_8o, [.t 4], some []⟩
theorem h_8o : compF Tryz.prog (compAny Tryz.prog) n_8o = some (f_8o.body, f_8o.res) := by kernel_rfl
def c_8t : C :=
 .seq (.ops [oM 3 0,oA 4 (.len 1 (.t 3)),oM 2 4]) (.ops [oM 5 0,oM 6 2,oM 7 2,oA 8 (.conv .u64 (.t 7)),oA 9 (.call n_3o [(.t 8)]),oA 10 (.call n_96 [(.t 5),(.c (.int .i64 0)),(.t 6),(.t 9)])])
def f_8t : F := ⟨c_8t, [], some []⟩
theorem h_8t : compF Tryz.prog (compAny Tryz.prog) n_8t = some (f_8t.body, f_8t.res) := by kernel_rfl
def c0_8g : C :=
 .seq (.ops [oM 45 0,oM 46 3,oM 47 4,oM 48 5,oA 49 (.ia 1 (.t 47) (.t 48)),oA 50 (.ld (.t 49)),oA 51 (.ia 1 (.t 45) (.t 46)),oS (.st (.t 51) (.t 50))]) (.ops [oM 52 3,oA 53 (.bin .add (.t 52) (.c (.int .i64 1))),oM 3 53])
def c1_8g : C :=
 .seq (.block 3 (.seq (.any 0 [.op 0 (oM 35 4),.op 1 (oM 36 5),.op 2 (oA 37 (.ia 1 (.t 35) (.t 36))),.op 3 (oA 38 (.ld (.t 37))),.op 4 (oM 39 4),.op 5 (oM 40 5),.op 6 (oA 41 (.bin .sub (.t 40) (.c (.int .i64 1)))),.op 7 (oA 42 (.ia 1 (.t 39) (.t 41))),.op 8 (oA 43 (.ld (.t 42))),.op 9 (oA 44 (.bin .neq (.t 38) (.t 43)))]) (.cond (.t 44) (c0_8g) (.skip)))) (.ops [oM 33 5,oA 34 (.bin .add (.t 33) (.c (.int .i64 1))),oM 5 34])
def c2_8g : C :=
 .seq (.seq (.ops [oM 29 5,oM 30 4,oA 31 (.len 1 (.t 30)),oA 32 (.bin .lss (.t 29) (.t 31))]) (.cond (.t 32) (.skip) (.exit 2))) (c1_8g)
def c3_8g : C :=
 .seq (.ops [oM 54 0,oM 55 3,oA 56 (.sl 1 (.t 54) (some (.t 55)) none none),oS (.clr [(.int .i64 0)] (.t 56))]) (.seq (.ops [oM 57 0,oM 58 3,oA 59 (.sl 1 (.t 57) none (some (.t 58)) none),oM 2 59]) (.ret))
def c4_8g : C :=
 .seq (.block 1 (.seq (.any 0 [.op 0 (oM 16 0),.op 1 (oM 17 3),.op 2 (oA 18 (.ia 1 (.t 16) (.t 17))),.op 3 (oA 19 (.ld (.t 18))),.op 4 (oM 20 0),.op 5 (oM 21 3),.op 6 (oA 22 (.bin .sub (.t 21) (.c (.int .i64 1)))),.op 7 (oA 23 (.ia 1 (.t 20) (.t 22))),.op 8 (oA 24 (.ld (.t 23))),.op 9 (oA 25 (.bin .eql (.t 19) (.t 24)))]) (.cond (.t 25) (.seq (.ops [oM 26 0,oM 27 3,oA 28 (.sl 1 (.t 26) (some (.t 27)) none none),oM 4 28]) (.seq (.seq (.ops [oA 5 (.mov (.c (.int .i64 1)))]) (.block 2 (.loop c2_8g))) (c3_8g))) (.skip)))) (.ops [oM 14 3,oA 15 (.bin .add (.t 14) (.c (.int .i64 1))),oM 3 15])
def c5_8g : C :=
 .seq (.seq (.ops [oM 10 3,oM 11 0,oA 12 (.len 1 (.t 11)),oA 13 (.bin .lss (.t 10) (.t 12))]) (.cond (.t 13) (.skip) (.exit 0))) (c4_8g)
def c6_8g : C :=
 .seq (.seq (.ops [oM 6 0,oA 7 (.len 1 (.t 6)),oA 8 (.bin .lss (.t 7) (.c (.int .i64 2)))]) (.cond (.t 8) (.seq (.ops [oM 9 0,oM 2 9]) (.ret)) (.skip))) (.seq (.seq (.ops [oA 3 (.mov (.c (.int .i64 1)))]) (.block 0 (.loop c5_8g))) (.seq (.ops [oM 60 0,oM 2 60]) (.ret)))
def c_8g : C :=
 .seq (.ops [oA 2 (.mov (.c (.slice none 0 0)))]) (c6_8g)
def f_8g : F := ⟨c_8g, [.t 2], some []⟩
theorem h_8g : compF Tryz.prog (compAny Tryz.prog) n_8g = some (f_8g.body, f_8g.res) := by kernel_rfl
def c0_43 : C :=
 .seq (.ops [oM 13 0,oM 14 6,oA 15 (.nilc (.t 13)),oA 16 (.fa 0 (.t 15)),oA 17 (.iaa 40 1 (.t 16) (.t 14)),oA 18 (.ld (.t 17)),oA 19 (.un .not (.t 18))]) (.cond (.t 19) (.seq (.ops [oA 4 (.mov (.c (.bool false)))]) (.ret)) (.skip))
def c1_43 : C :=
 .seq (.ops [oA 10 (.bin .lss (.t 9) (.t 8))]) (.seq (.cond (.t 10) (.skip) (.exit 0)) (.seq (.block 1 (.seq (.ops [oA 11 (.ia 1 (.t 7) (.t 9)),oA 12 (.ld (.t 11)),oM 6 12]) (c0_43))) (.ops [oA 20 (.bin .add (.t 9) (.c (.int .i64 1))),oM 9 20])))
def c_43 : C :=
 .seq (.ops [oA 4 (.mov (.c (.bool false)))]) (.seq (.seq (.ops [oM 7 1,oA 8 (.len 1 (.t 7)),oA 9 (.mov (.c (.int .i64 0)))]) (.block 0 (.loop c1_43))) (.seq (.ops [oA 4 (.mov (.c (.bool true)))]) (.ret)))
def f_43 : F := ⟨c_43, [.t 4], some []⟩
theorem h_43 : compF Tryz.prog (compAny Tryz.prog) n_43 = some (f_43.body, f_43.res) := by kernel_rfl
def c_3d : C :=
 .seq (.ops [oA 2 (.mov (.c (.int .u32 0)))]) (.seq (.seq (.ops [oM 3 0]) (.cond (.t 3) (.seq (.ops [oA 2 (.mov (.c (.int .u32 1)))]) (.ret)) (.skip))) (.seq (.ops [oA 2 (.mov (.c (.int .u32 0)))]) (.ret)))
def f_3d : F := ⟨c_3d, [.t 2], some []⟩
theorem h_3d : compF Tryz.prog (compAny Tryz.prog) n_3d = some (f_3d.body, f_3d.res) := by kernel_rfl
def c_0d1 : C :=
 .seq (.ops [oA 3 (.box (.t 1)),oA 4 (.mov (.c (.int .i64 0)))]) (.seq (.ops [oM 5 0,oA 6 (.nilc (.t 5)),oA 7 (.fa 0 (.t 6)),oA 8 (.ld (.t 7)),oA 9 (.mkf n_0e1 [(.t 3)]),oA 10 (.call n_8n [(.t 8),(.t 9)]),oM 4 10]) (.ret))
def f_0d1 : F := ⟨c_0d1, [.t 4], some []⟩
theorem h_0d1 : compF Tryz.prog (compAny Tryz.prog) n_0d1 = some (f_0d1.body, f_0d1.res) := by kernel_rfl
def c0_9a : C :=
 .block 1 (.seq (.ops [oM 14 0,oM 15 7,oM 16 8,oM 17 2,oA 18 (.call n_8x [(.t 14),(.t 15),(.t 16),(.t 17)])]) (.seq (.ops [oM 19 8,oM 7 19]) (.ops [oM 20 8,oM 21 6,oA 22 (.bin .add (.t 20) (.t 21)),oM 8 22])))
def c1_9a : C :=
 .seq (.seq (.ops [oM 11 8,oM 12 1,oA 13 (.bin .leq (.t 11) (.t 12))]) (.cond (.t 13) (.skip) (.exit 0))) (c0_9a)
def c2_9a : C :=
 .block 5 (.seq (.ops [oM 36 0,oM 37 7,oM 38 7,oM 39 6,oA 40 (.bin .add (.t 38) (.t 39)),oM 41 8,oM 42 2,oA 43 (.call n_9c [(.t 36),(.t 37),(.t 40),(.t 41),(.t 42)])]) (.seq (.ops [oM 44 8,oM 7 44]) (.ops [oM 45 8,oM 46 6,oA 47 (.bin .mul (.c (.int .i64 2)) (.t 46)),oA 48 (.bin .add (.t 45) (.t 47)),oM 8 48])))
def c3_9a : C :=
 .seq (.seq (.ops [oM 33 8,oM 34 1,oA 35 (.bin .leq (.t 33) (.t 34))]) (.cond (.t 35) (.skip) (.exit 4))) (c2_9a)
def c4_9a : C :=
 .seq (.ops [oM 52 9,oM 53 1,oA 54 (.bin .lss (.t 52) (.t 53))]) (.cond (.t 54) (.ops [oM 55 0,oM 56 7,oM 57 9,oM 58 1,oM 59 2,oA 60 (.call n_9c [(.t 55),(.t 56),(.t 57),(.t 58),(.t 59)])]) (.skip))
def c5_9a : C :=
 .seq (.block 4 (.loop c3_9a)) (.seq (.seq (.ops [oM 49 7,oM 50 6,oA 51 (.bin .add (.t 49) (.t 50)),oM 9 51]) (c4_9a)) (.ops [oM 61 6,oA 62 (.bin .mul (.t 61) (.c (.int .i64 2))),oM 6 62]))
def c6_9a : C :=
 .seq (.seq (.ops [oM 28 6,oM 29 1,oA 30 (.bin .lss (.t 28) (.t 29))]) (.cond (.t 30) (.skip) (.exit 2))) (.block 3 (.seq (.ops [oM 31 6,oA 32 (.bin .mul (.c (.int .i64 2)) (.t 31)),oA 7 (.mov (.c (.int .i64 0))),oM 8 32]) (c5_9a)))
def c7_9a : C :=
 .seq (.ops [oM 10 6,oA 7 (.mov (.c (.int .i64 0))),oM 8 10]) (.seq (.block 0 (.loop c1_9a)) (.seq (.ops [oM 23 0,oM 24 7,oM 25 1,oM 26 2,oA 27 (.call n_8x [(.t 23),(.t 24),(.t 25),(.t 26)])]) (.block 2 (.loop c6_9a))))
def c_9a : C :=
 .seq (.ops [oA 6 (.mov (.c (.int .i64 20)))]) (c7_9a)
def f_9a : F := ⟨c_9a, [], some []⟩
theorem h_9a : compF Tryz.prog (compAny Tryz.prog) n_9a = some (f_9a.body, f_9a.res) := by kernel_rfl
def c_17 : C :=
 .seq (.ops [oA 2 (.mov (.c (.bool false)))]) (.seq (.ops [oM 3 0,oM 4 0,oA 5 (.bin .neq (.t 3) (.t 4)),oM 2 5]) (.ret))
def f_17 : F := ⟨c_17, [.t 2], some []⟩
theorem h_17 : compF Tryz.prog (compAny Tryz.prog) n_17 = some (f_17.body, f_17.res) := by kernel_rfl
def c0_3p : C :=
 .seq (.ops [oM 13 2,oM 14 0,oA 15 (.conv .u8 (.t 14)),⟨some 16,none,.ixs (.c (.string ⟨#[0,1,2,2,3,3,3,3,4,4,4,4,4,4,4,4,5,5,5,5,5,5,5,5,5,5,5,5,5,5,5,5,6,6,6,6,6,6,6,6,6,6,6,6,6,6,6,6,6,6,6,6,6,6,6,6,6,6,6,6,6,6,6,6,7,7,7,7,7,7,7,7,7,7,7,7,7,7,7,7,7,7,7,7,7,7,7,7,7,7,7,7,7,7,7,7,7,7,7,7,7,7,7,7,7,7,7,7,7,7,7,7,7,7,7,7,7,7,7,7,7,7,7,7,7,7,7,7,8,8,8,8,8,8,8,8,8,8,8,8,8,8,8,8,8,8,8,8,8,8,8,8,8,8,8,8,8,8,8,8,8,8,8,8,8,8,8,8,8,8,8,8,8,8,8,8,8,8,8,8,8,8,8,8,8,8,8,8,8,8,8,8,8,8,8,8,8,8,8,8,8,8,8,8,8,8,8,8,8,8,8,8,8,8,8,8,8,8,8,8,8,8,8,8,8,8,8,8,8,8,8,8,8,8,8,8,8,8,8,8,8,8,8,8,8,8,8,8,8,8,8,8,8,8,8,8]⟩)) (.t 15)⟩,oA 17 (.conv .i64 (.t 16)),oA 18 (.bin .add (.t 13) (.t 17)),oM 2 18]) (.ret)
def c1_3p : C :=
 .seq (.seq (.ops [oM 7 0,oA 8 (.bin .geq (.t 7) (.c (.int .u32 256)))]) (.cond (.t 8) (.seq (.ops [oM 9 0,oA 10 (.bin .shr (.t 9) (.c (.int .u64 8))),oM 0 10]) (.ops [oM 11 2,oA 12 (.bin .add (.t 11) (.c (.int .i64 8))),oM 2 12])) (.skip))) (c0_3p)
def c2_3p : C :=
 .seq (.seq (.ops [oM 3 0,oA 4 (.bin .geq (.t 3) (.c (.int .u32 65536)))]) (.cond (.t 4) (.seq (.ops [oM 5 0,oA 6 (.bin .shr (.t 5) (.c (.int .u64 16))),oM 0 6]) (.ops [oA 2 (.mov (.c (.int .i64 16)))])) (.skip))) (c1_3p)
def c_3p : C :=
 .seq (.ops [oA 2 (.mov (.c (.int .i64 0)))]) (c2_3p)
def f_3p : F := ⟨c_3p, [.t 2], some []⟩
theorem h_3p : compF Tryz.prog (compAny Tryz.prog) n_3p = some (f_3p.body, f_3p.res) := by kernel_rfl
def c0_96 : C :=
 .cond (.t 35) (.seq (.ops [oM 36 0,oM 37 1,oM 38 2,oA 39 (.call n_8u [(.t 36),(.t 37),(.t 38)])]) (.ops [oM 40 3,oA 41 (.bin .sub (.t 40) (.c (.int .i64 1))),oM 3 41])) (.skip)
def c1_96 : C :=
 .seq (.ops [oM 55 2,oA 56 (.bin .sub (.t 55) (.c (.int .i64 1))),oM 57 11,oM 58 1,oA 59 (.bin .sub (.t 57) (.t 58)),oA 60 (.bin .sub (.t 56) (.t 59)),oM 11 60]) (.ops [oA 12 (.mov (.c (.int .i64 1)))])
def c2_96 : C :=
 .seq (.ops [oM 88 0,oM 89 1,oM 90 2,oM 91 11,oA 92 (.call n_94 [(.t 88),(.t 89),(.t 90),(.t 91)]),oM 13 92]) (.seq (.ops [oM 93 13,oM 1 93]) (.exit 1))
def c3_96 : C :=
 .seq (.ops [oM 117 0,oM 118 1,oM 119 14,oM 120 3,oA 121 (.call n_96 [(.t 117),(.t 118),(.t 119),(.t 120)])]) (.ops [oM 122 14,oA 123 (.bin .add (.t 122) (.c (.int .i64 1))),oM 1 123])
def c4_96 : C :=
 .seq (.ops [oM 127 0,oM 128 14,oA 129 (.bin .add (.t 128) (.c (.int .i64 1))),oM 130 2,oM 131 3,oA 132 (.call n_96 [(.t 127),(.t 129),(.t 130),(.t 131)])]) (.ops [oM 133 14,oM 2 133])
def c5_96 : C :=
 .cond (.t 113) (.seq (.ops [oM 114 16,oM 115 18,oA 116 (.bin .geq (.t 114) (.t 115)),oM 8 116]) (c3_96)) (.seq (.ops [oM 124 17,oM 125 18,oA 126 (.bin .geq (.t 124) (.t 125)),oM 8 126]) (c4_96))
def c6_96 : C :=
 .seq (.ops [oM 103 14,oM 104 1,oA 105 (.bin .sub (.t 103) (.t 104)),oM 106 2,oM 107 14,oA 108 (.bin .sub (.t 106) (.t 107)),oM 16 105,oM 17 108]) (.seq (.ops [oM 109 10,oA 110 (.bin .quo (.t 109) (.c (.int .i64 8))),oM 18 110]) (.seq (.ops [oM 111 16,oM 112 17,oA 113 (.bin .lss (.t 111) (.t 112))]) (c5_96)))
def c7_96 : C :=
 .seq (.ops [oM 95 0,oM 96 1,oM 97 2,oM 98 11,oA 99 (.call n_95 [(.t 95),(.t 96),(.t 97),(.t 98)]),oM 94 99,oA 100 (.ext (.t 94) 0),oA 101 (.ext (.t 94) 1),oM 14 100,oM 15 101]) (.seq (.ops [oM 102 15,oM 9 102]) (c6_96))
def c8_96 : C :=
 .seq (.seq (.any 0 [.op 0 (oM 73 1),.op 1 (oA 74 (.bin .gtr (.t 73) (.c (.int .i64 0)))),.op 2 (oM 75 74),.op 3 (oT 76 75 (.mov (.t 0))),.op 4 (oT 77 75 (.mov (.t 1))),.op 5 (oT 78 75 (.bin .sub (.t 77) (.c (.int .i64 1)))),.op 6 (oT 79 75 (.ia 1 (.t 76) (.t 78))),.op 7 (oT 80 75 (.ld (.t 79))),.op 8 (oT 81 75 (.mov (.t 0))),.op 9 (oT 82 75 (.mov (.t 11))),.op 10 (oT 83 75 (.ia 1 (.t 81) (.t 82))),.op 11 (oT 84 75 (.ld (.t 83))),.op 12 (oT 85 75 (.call n_15 [(.t 80),(.t 84)])),.op 13 (oT 86 75 (.un .not (.t 85))),.op 14 (oA 87 (.pick (.t 75) (.t 86) (.c (.bool false))))]) (.cond (.t 87) (c2_96) (.skip))) (c7_96)
def c9_96 : C :=
 .seq (.seq (.ops [oM 61 8,oM 62 61,oT 63 62 (.mov (.t 9)),oA 64 (.pick (.t 62) (.t 63) (.c (.bool false))),oM 65 64,oT 66 65 (.mov (.t 12)),oT 67 65 (.bin .eql (.t 66) (.c (.int .i64 1))),oA 68 (.pick (.t 65) (.t 67) (.c (.bool false)))]) (.cond (.t 68) (.seq (.ops [oM 69 0,oM 70 1,oM 71 2,oA 72 (.call n_93 [(.t 69),(.t 70),(.t 71)])]) (.cond (.t 72) (.ret) (.skip))) (.skip))) (c8_96)
def c10_96 : C :=
 .seq (.seq (.ops [oM 49 12,oA 50 (.bin .eql (.t 49) (.c (.int .i64 2)))]) (.cond (.t 50) (.seq (.ops [oM 51 0,oM 52 1,oM 53 2,oA 54 (.call n_97 [(.t 51),(.t 52),(.t 53)])]) (c1_96)) (.skip))) (c9_96)
def c11_96 : C :=
 .seq (.ops [oM 43 0,oM 44 1,oM 45 2,oA 46 (.call n_8v [(.t 43),(.t 44),(.t 45)]),oM 42 46,oA 47 (.ext (.t 42) 0),oA 48 (.ext (.t 42) 1),oM 11 47,oM 12 48]) (c10_96)
def c12_96 : C :=
 .seq (.seq (.ops [oM 28 3,oA 29 (.bin .eql (.t 28) (.c (.int .i64 0)))]) (.cond (.t 29) (.seq (.ops [oM 30 0,oM 31 1,oM 32 2,oA 33 (.call n_8w [(.t 30),(.t 31),(.t 32)])]) (.ret)) (.skip))) (.seq (.seq (.ops [oM 34 8,oA 35 (.un .not (.t 34))]) (c0_96)) (c11_96))
def c13_96 : C :=
 .seq (.seq (.ops [oM 22 10,oA 23 (.bin .leq (.t 22) (.c (.int .i64 12)))]) (.cond (.t 23) (.seq (.ops [oM 24 0,oM 25 1,oM 26 2,oA 27 (.call n_8y [(.t 24),(.t 25),(.t 26)])]) (.ret)) (.skip))) (c12_96)
def c14_96 : C :=
 .block 1 (.seq (.ops [oM 19 2,oM 20 1,oA 21 (.bin .sub (.t 19) (.t 20)),oM 10 21]) (c13_96))
def c_96 : C :=
 .seq (.ops [oA 8 (.mov (.c (.bool true)))]) (.seq (.ops [oA 9 (.mov (.c (.bool true)))]) (.block 0 (.loop c14_96)))
def f_96 : F := ⟨c_96, [], some []⟩
theorem h_96 : compF Tryz.prog (compAny Tryz.prog) n_96 = some (f_96.body, f_96.res) := by kernel_rfl
def c0_3o : C :=
 .seq (.cond (.c (.bool false)) (.seq (.ops [oM 3 0,oA 4 (.conv .u32 (.t 3)),oA 5 (.call n_3p [(.t 4)]),oM 2 5]) (.ret)) (.skip)) (.seq (.ops [oM 6 0,oA 7 (.call n_3q [(.t 6)]),oM 2 7]) (.ret))
def c_3o : C :=
 .seq (.ops [oA 2 (.mov (.c (.int .i64 0)))]) (c0_3o)
def f_3o : F := ⟨c_3o, [.t 2], some []⟩
theorem h_3o : compF Tryz.prog (compAny Tryz.prog) n_3o = some (f_3o.body, f_3o.res) := by kernel_rfl
def c0_8n : C :=
 .seq (.ops [oM 11 1,oM 12 0,oM 13 5,oA 14 (.ia 3 (.t 12) (.t 13)),oA 15 (.ldn 3 (.t 14)),oA 16 (.callv (.t 11) [(.t 15)])]) (.cond (.t 16) (.seq (.ops [oM 17 5,oM 4 17]) (.ret)) (.skip))
def c1_8n : C :=
 .seq (.ops [oA 9 (.bin .lss (.t 8) (.t 7))]) (.seq (.cond (.t 9) (.skip) (.exit 0)) (.seq (.block 1 (.seq (.ops [oM 10 8,oM 5 10]) (c0_8n))) (.ops [oA 18 (.bin .add (.t 8) (.c (.int .i64 1))),oM 8 18])))
def c_8n : C :=
 .seq (.ops [oA 4 (.mov (.c (.int .i64 0)))]) (.seq (.seq (.ops [oM 6 0,oA 7 (.len 1 (.t 6)),oA 8 (.mov (.c (.int .i64 0)))]) (.block 0 (.loop c1_8n))) (.seq (.ops [oA 4 (.mov (.c (.int .i64 (-1))))]) (.ret)))
def f_8n : F := ⟨c_8n, [.t 4], some []⟩
theorem h_8n : compF Tryz.prog (compAny Tryz.prog) n_8n = some (f_8n.body, f_8n.res) := by kernel_rfl
def c_0e1 : C :=
 .seq (.ops [oA 2 (.box (.t 0)),oA 3 (.mov (.c (.bool false)))]) (.seq (.ops [oA 4 (.fa 1 (.t 2)),oA 5 (.ld (.t 4)),oA 6 (.ld (.t 1)),oA 7 (.bin .eql (.t 5) (.t 6)),oM 3 7]) (.ret))
def f_0e1 : F := ⟨c_0e1, [.t 3], some []⟩
theorem h_0e1 : compF Tryz.prog (compAny Tryz.prog) n_0e1 = some (f_0e1.body, f_0e1.res) := by kernel_rfl
def c0_8x : C :=
 .seq (.block 3 (.any 0 [.op 5 (oM 42 0),.op 6 (oM 43 9),.op 7 (oA 44 (.bin .sub (.t 43) (.c (.int .i64 1)))),.op 8 (oA 45 (.ia 3 (.t 42) (.t 44))),.op 9 (oA 46 (.ldn 3 (.t 45))),.op 10 (oM 47 0),.op 11 (oM 48 9),.op 12 (oA 49 (.ia 3 (.t 47) (.t 48))),.op 13 (oA 50 (.ldn 3 (.t 49))),.op 0 (oM 37 0),.op 1 (oM 38 9),.op 14 (oA 51 (.ia 3 (.t 37) (.t 38))),.op 15 (oS (.stn 3 (.t 51) (.t 46))),.op 2 (oM 39 0),.op 3 (oM 40 9),.op 4 (oA 41 (.bin .sub (.t 40) (.c (.int .i64 1)))),.op 16 (oA 52 (.ia 3 (.t 39) (.t 41))),.op 17 (oS (.stn 3 (.t 52) (.t 50)))])) (.ops [oM 35 9,oA 36 (.bin .sub (.t 35) (.c (.int .i64 1))),oM 9 36])
def c1_8x : C :=
 .seq (.seq (.any 0 [.op 0 (oM 18 9),.op 1 (oM 19 1),.op 2 (oA 20 (.bin .gtr (.t 18) (.t 19))),.op 3 (oM 21 20),.op 5 (oT 23 21 (.mov (.t 0))),.op 6 (oT 24 21 (.mov (.t 9))),.op 7 (oT 25 21 (.ia 3 (.t 23) (.t 24))),.op 8 (oT 26 21 (.ldn 3 (.t 25))),.op 9 (oT 27 21 (.mov (.t 0))),.op 10 (oT 28 21 (.mov (.t 9))),.op 11 (oT 29 21 (.bin .sub (.t 28) (.c (.int .i64 1)))),.op 12 (oT 30 21 (.ia 3 (.t 27) (.t 29))),.op 13 (oT 31 21 (.ldn 3 (.t 30))),.op 4 (oT 22 21 (.mov (.t 3))),.op 14 (oT 32 21 (.callv (.t 22) [(.t 26),(.t 31)])),.op 15 (oT 33 21 (.bin .lss (.t 32) (.c (.int .i64 0)))),.op 16 (oA 34 (.pick (.t 21) (.t 33) (.c (.bool false))))]) (.cond (.t 34) (.skip) (.exit 2))) (c0_8x)
def c2_8x : C :=
 .seq (.seq (.ops [oM 12 8,oM 13 2,oA 14 (.bin .lss (.t 12) (.t 13))]) (.cond (.t 14) (.skip) (.exit 0))) (.seq (.block 1 (.seq (.ops [oM 17 8,oM 9 17]) (.block 2 (.loop c1_8x)))) (.ops [oM 15 8,oA 16 (.bin .add (.t 15) (.c (.int .i64 1))),oM 8 16]))
def c_8x : C :=
 .seq (.ops [oM 10 1,oA 11 (.bin .add (.t 10) (.c (.int .i64 1))),oM 8 11]) (.block 0 (.loop c2_8x))
def f_8x : F := ⟨c_8x, [], some []⟩
theorem h_8x : compF Tryz.prog (compAny Tryz.prog) n_8x = some (f_8x.body, f_8x.res) := by kernel_rfl
def c0_9c : C :=
 .seq (.any 0 [.op 1 (oM 41 0),.op 2 (oM 42 12),.op 3 (oA 43 (.ia 3 (.t 41) (.t 42))),.op 4 (oA 44 (.ldn 3 (.t 43))),.op 5 (oM 45 0),.op 6 (oM 46 1),.op 7 (oA 47 (.ia 3 (.t 45) (.t 46))),.op 8 (oA 48 (.ldn 3 (.t 47))),.op 0 (oM 40 4),.op 9 (oA 49 (.callv (.t 40) [(.t 44),(.t 48)])),.op 10 (oA 50 (.bin .lss (.t 49) (.c (.int .i64 0))))]) (.cond (.t 50) (.ops [oM 51 12,oA 52 (.bin .add (.t 51) (.c (.int .i64 1))),oM 10 52]) (.ops [oM 53 12,oM 11 53]))
def c1_9c : C :=
 .block 1 (.seq (.ops [oM 34 10,oM 35 11,oA 36 (.bin .add (.t 34) (.t 35)),oA 37 (.conv .u64 (.t 36)),oA 38 (.bin .shr (.t 37) (.c (.int .u64 1))),oA 39 (.conv .i64 (.t 38)),oM 12 39]) (c0_9c))
def c2_9c : C :=
 .seq (.seq (.ops [oM 31 10,oM 32 11,oA 33 (.bin .lss (.t 31) (.t 32))]) (.cond (.t 33) (.skip) (.exit 0))) (c1_9c)
def c3_9c : C :=
 .seq (.block 3 (.any 0 [.op 5 (oM 66 0),.op 6 (oM 67 13),.op 7 (oA 68 (.bin .add (.t 67) (.c (.int .i64 1)))),.op 8 (oA 69 (.ia 3 (.t 66) (.t 68))),.op 9 (oA 70 (.ldn 3 (.t 69))),.op 10 (oM 71 0),.op 11 (oM 72 13),.op 12 (oA 73 (.ia 3 (.t 71) (.t 72))),.op 13 (oA 74 (.ldn 3 (.t 73))),.op 0 (oM 61 0),.op 1 (oM 62 13),.op 14 (oA 75 (.ia 3 (.t 61) (.t 62))),.op 15 (oS (.stn 3 (.t 75) (.t 70))),.op 2 (oM 63 0),.op 3 (oM 64 13),.op 4 (oA 65 (.bin .add (.t 64) (.c (.int .i64 1)))),.op 16 (oA 76 (.ia 3 (.t 63) (.t 65))),.op 17 (oS (.stn 3 (.t 76) (.t 74)))])) (.ops [oM 59 13,oA 60 (.bin .add (.t 59) (.c (.int .i64 1))),oM 13 60])
def c4_9c : C :=
 .seq (.seq (.ops [oM 55 13,oM 56 10,oA 57 (.bin .sub (.t 56) (.c (.int .i64 1))),oA 58 (.bin .lss (.t 55) (.t 57))]) (.cond (.t 58) (.skip) (.exit 2))) (c3_9c)
def c5_9c : C :=
 .seq (.ops [oM 29 2,oM 10 29]) (.seq (.ops [oM 30 3,oM 11 30]) (.seq (.block 0 (.loop c2_9c)) (.seq (.seq (.ops [oM 54 1,oM 13 54]) (.block 2 (.loop c4_9c))) (.ret))))
def c6_9c : C :=
 .seq (.any 0 [.op 1 (oM 93 0),.op 2 (oM 94 2),.op 3 (oA 95 (.ia 3 (.t 93) (.t 94))),.op 4 (oA 96 (.ldn 3 (.t 95))),.op 5 (oM 97 0),.op 6 (oM 98 16),.op 7 (oA 99 (.ia 3 (.t 97) (.t 98))),.op 8 (oA 100 (.ldn 3 (.t 99))),.op 0 (oM 92 4),.op 9 (oA 101 (.callv (.t 92) [(.t 96),(.t 100)])),.op 10 (oA 102 (.bin .lss (.t 101) (.c (.int .i64 0)))),.op 11 (oA 103 (.un .not (.t 102)))]) (.cond (.t 103) (.ops [oM 104 16,oA 105 (.bin .add (.t 104) (.c (.int .i64 1))),oM 14 105]) (.ops [oM 106 16,oM 15 106]))
def c7_9c : C :=
 .block 5 (.seq (.ops [oM 86 14,oM 87 15,oA 88 (.bin .add (.t 86) (.t 87)),oA 89 (.conv .u64 (.t 88)),oA 90 (.bin .shr (.t 89) (.c (.int .u64 1))),oA 91 (.conv .i64 (.t 90)),oM 16 91]) (c6_9c))
def c8_9c : C :=
 .seq (.seq (.ops [oM 83 14,oM 84 15,oA 85 (.bin .lss (.t 83) (.t 84))]) (.cond (.t 85) (.skip) (.exit 4))) (c7_9c)
def c9_9c : C :=
 .seq (.block 7 (.any 0 [.op 5 (oM 118 0),.op 6 (oM 119 17),.op 7 (oA 120 (.bin .sub (.t 119) (.c (.int .i64 1)))),.op 8 (oA 121 (.ia 3 (.t 118) (.t 120))),.op 9 (oA 122 (.ldn 3 (.t 121))),.op 10 (oM 123 0),.op 11 (oM 124 17),.op 12 (oA 125 (.ia 3 (.t 123) (.t 124))),.op 13 (oA 126 (.ldn 3 (.t 125))),.op 0 (oM 113 0),.op 1 (oM 114 17),.op 14 (oA 127 (.ia 3 (.t 113) (.t 114))),.op 15 (oS (.stn 3 (.t 127) (.t 122))),.op 2 (oM 115 0),.op 3 (oM 116 17),.op 4 (oA 117 (.bin .sub (.t 116) (.c (.int .i64 1)))),.op 16 (oA 128 (.ia 3 (.t 115) (.t 117))),.op 17 (oS (.stn 3 (.t 128) (.t 126)))])) (.ops [oM 111 17,oA 112 (.bin .sub (.t 111) (.c (.int .i64 1))),oM 17 112])
def c10_9c : C :=
 .seq (.seq (.ops [oM 108 17,oM 109 14,oA 110 (.bin .gtr (.t 108) (.t 109))]) (.cond (.t 110) (.skip) (.exit 6))) (c9_9c)
def c11_9c : C :=
 .seq (.ops [oM 81 1,oM 14 81]) (.seq (.ops [oM 82 2,oM 15 82]) (.seq (.block 4 (.loop c8_9c)) (.seq (.seq (.ops [oM 107 2,oM 17 107]) (.block 6 (.loop c10_9c))) (.ret))))
def c12_9c : C :=
 .cond (.t 140) (.seq (.ops [oM 141 19,oM 142 3,oA 143 (.bin .sub (.t 141) (.t 142)),oM 20 143]) (.ops [oM 144 18,oM 21 144])) (.seq (.ops [oM 145 1,oM 20 145]) (.ops [oM 146 2,oM 21 146]))
def c13_9c : C :=
 .seq (.any 0 [.op 1 (oM 159 0),.op 2 (oM 160 22),.op 3 (oM 161 23),.op 4 (oA 162 (.bin .sub (.t 160) (.t 161))),.op 5 (oA 163 (.ia 3 (.t 159) (.t 162))),.op 6 (oA 164 (.ldn 3 (.t 163))),.op 7 (oM 165 0),.op 8 (oM 166 23),.op 9 (oA 167 (.ia 3 (.t 165) (.t 166))),.op 10 (oA 168 (.ldn 3 (.t 167))),.op 0 (oM 158 4),.op 11 (oA 169 (.callv (.t 158) [(.t 164),(.t 168)])),.op 12 (oA 170 (.bin .lss (.t 169) (.c (.int .i64 0)))),.op 13 (oA 171 (.un .not (.t 170)))]) (.cond (.t 171) (.ops [oM 172 23,oA 173 (.bin .add (.t 172) (.c (.int .i64 1))),oM 20 173]) (.ops [oM 174 23,oM 21 174]))
def c14_9c : C :=
 .block 9 (.seq (.ops [oM 152 20,oM 153 21,oA 154 (.bin .add (.t 152) (.t 153)),oA 155 (.conv .u64 (.t 154)),oA 156 (.bin .shr (.t 155) (.c (.int .u64 1))),oA 157 (.conv .i64 (.t 156)),oM 23 157]) (c13_9c))
def c15_9c : C :=
 .seq (.seq (.ops [oM 149 20,oM 150 21,oA 151 (.bin .lss (.t 149) (.t 150))]) (.cond (.t 151) (.skip) (.exit 8))) (c14_9c)
def c16_9c : C :=
 .seq (.ops [oM 206 18,oM 207 24,oA 208 (.bin .lss (.t 206) (.t 207)),oM 209 208,oT 210 209 (.mov (.t 24)),oT 211 209 (.mov (.t 3)),oT 212 209 (.bin .lss (.t 210) (.t 211)),oA 213 (.pick (.t 209) (.t 212) (.c (.bool false)))]) (.cond (.t 213) (.ops [oM 214 0,oM 215 18,oM 216 24,oM 217 3,oM 218 4,oA 219 (.call n_9c [(.t 214),(.t 215),(.t 216),(.t 217),(.t 218)])]) (.skip))
def c17_9c : C :=
 .seq (.seq (.ops [oM 192 1,oM 193 20,oA 194 (.bin .lss (.t 192) (.t 193)),oM 195 194,oT 196 195 (.mov (.t 20)),oT 197 195 (.mov (.t 18)),oT 198 195 (.bin .lss (.t 196) (.t 197)),oA 199 (.pick (.t 195) (.t 198) (.c (.bool false)))]) (.cond (.t 199) (.ops [oM 200 0,oM 201 1,oM 202 20,oM 203 18,oM 204 4,oA 205 (.call n_9c [(.t 200),(.t 201),(.t 202),(.t 203),(.t 204)])]) (.skip))) (c16_9c)
def c18_9c : C :=
 .seq (.seq (.ops [oM 178 20,oM 179 2,oA 180 (.bin .lss (.t 178) (.t 179)),oM 181 180,oT 182 181 (.mov (.t 2)),oT 183 181 (.mov (.t 24)),oT 184 181 (.bin .lss (.t 182) (.t 183)),oA 185 (.pick (.t 181) (.t 184) (.c (.bool false)))]) (.cond (.t 185) (.ops [oM 186 0,oM 187 20,oM 188 2,oM 189 24,oM 190 4,oA 191 (.call n_98 [(.t 186),(.t 187),(.t 188),(.t 189),(.t 190)])]) (.skip))) (c17_9c)
def c19_9c : C :=
 .seq (.ops [oM 147 19,oA 148 (.bin .sub (.t 147) (.c (.int .i64 1))),oM 22 148]) (.seq (.block 8 (.loop c15_9c)) (.seq (.ops [oM 175 19,oM 176 20,oA 177 (.bin .sub (.t 175) (.t 176)),oM 24 177]) (c18_9c)))
def c20_9c : C :=
 .seq (.ops [oM 135 18,oM 136 2,oA 137 (.bin .add (.t 135) (.t 136)),oM 19 137]) (.seq (.ops [oA 20 (.mov (.c (.int .i64 0))),oA 21 (.mov (.c (.int .i64 0)))]) (.seq (.seq (.ops [oM 138 2,oM 139 18,oA 140 (.bin .gtr (.t 138) (.t 139))]) (c12_9c)) (c19_9c)))
def c21_9c : C :=
 .seq (.ops [oM 129 1,oM 130 3,oA 131 (.bin .add (.t 129) (.t 130)),oA 132 (.conv .u64 (.t 131)),oA 133 (.bin .shr (.t 132) (.c (.int .u64 1))),oA 134 (.conv .i64 (.t 133)),oM 18 134]) (c20_9c)
def c_9c : C :=
 .seq (.seq (.ops [oM 25 2,oM 26 1,oA 27 (.bin .sub (.t 25) (.t 26)),oA 28 (.bin .eql (.t 27) (.c (.int .i64 1)))]) (.cond (.t 28) (c5_9c) (.skip))) (.seq (.seq (.ops [oM 77 3,oM 78 2,oA 79 (.bin .sub (.t 77) (.t 78)),oA 80 (.bin .eql (.t 79) (.c (.int .i64 1)))]) (.cond (.t 80) (c11_9c) (.skip))) (c21_9c))
def f_9c : F := ⟨c_9c, [], some []⟩
theorem h_9c : compF Tryz.prog (compAny Tryz.prog) n_9c = some (f_9c.body, f_9c.res) := by kernel_rfl
def c0_8y : C :=
 .seq (.block 3 (.any 0 [.op 5 (oM 38 0),.op 6 (oM 39 7),.op 7 (oA 40 (.bin .sub (.t 39) (.c (.int .i64 1)))),.op 8 (oA 41 (.ia 1 (.t 38) (.t 40))),.op 9 (oA 42 (.ld (.t 41))),.op 10 (oM 43 0),.op 11 (oM 44 7),.op 12 (oA 45 (.ia 1 (.t 43) (.t 44))),.op 13 (oA 46 (.ld (.t 45))),.op 0 (oM 33 0),.op 1 (oM 34 7),.op 14 (oA 47 (.ia 1 (.t 33) (.t 34))),.op 15 (oS (.st (.t 47) (.t 42))),.op 2 (oM 35 0),.op 3 (oM 36 7),.op 4 (oA 37 (.bin .sub (.t 36) (.c (.int .i64 1)))),.op 16 (oA 48 (.ia 1 (.t 35) (.t 37))),.op 17 (oS (.st (.t 48) (.t 46)))])) (.ops [oM 31 7,oA 32 (.bin .sub (.t 31) (.c (.int .i64 1))),oM 7 32])
def c1_8y : C :=
 .seq (.seq (.any 0 [.op 0 (oM 16 7),.op 1 (oM 17 1),.op 2 (oA 18 (.bin .gtr (.t 16) (.t 17))),.op 3 (oM 19 18),.op 4 (oT 20 19 (.mov (.t 0))),.op 5 (oT 21 19 (.mov (.t 7))),.op 6 (oT 22 19 (.ia 1 (.t 20) (.t 21))),.op 7 (oT 23 19 (.ld (.t 22))),.op 8 (oT 24 19 (.mov (.t 0))),.op 9 (oT 25 19 (.mov (.t 7))),.op 10 (oT 26 19 (.bin .sub (.t 25) (.c (.int .i64 1)))),.op 11 (oT 27 19 (.ia 1 (.t 24) (.t 26))),.op 12 (oT 28 19 (.ld (.t 27))),.op 13 (oT 29 19 (.call n_15 [(.t 23),(.t 28)])),.op 14 (oA 30 (.pick (.t 19) (.t 29) (.c (.bool false))))]) (.cond (.t 30) (.skip) (.exit 2))) (c0_8y)
def c2_8y : C :=
 .seq (.seq (.ops [oM 10 6,oM 11 2,oA 12 (.bin .lss (.t 10) (.t 11))]) (.cond (.t 12) (.skip) (.exit 0))) (.seq (.block 1 (.seq (.ops [oM 15 6,oM 7 15]) (.block 2 (.loop c1_8y)))) (.ops [oM 13 6,oA 14 (.bin .add (.t 13) (.c (.int .i64 1))),oM 6 14]))
def c_8y : C :=
 .seq (.ops [oM 8 1,oA 9 (.bin .add (.t 8) (.c (.int .i64 1))),oM 6 9]) (.block 0 (.loop c2_8y))
def f_8y : F := ⟨c_8y, [], some []⟩
theorem h_8y : compF Tryz.prog (compAny Tryz.prog) n_8y = some (f_8y.body, f_8y.res) := by kernel_rfl
def c0_8w : C :=
 .seq (.block 1 (.ops [oM 22 0,oM 23 9,oM 24 8,oM 25 6,oA 26 (.call n_99 [(.t 22),(.t 23),(.t 24),(.t 25)])])) (.ops [oM 20 9,oA 21 (.bin .sub (.t 20) (.c (.int .i64 1))),oM 9 21])
def c1_8w : C :=
 .seq (.seq (.ops [oM 18 9,oA 19 (.bin .geq (.t 18) (.c (.int .i64 0)))]) (.cond (.t 19) (.skip) (.exit 0))) (c0_8w)
def c2_8w : C :=
 .seq (.block 3 (.seq (.any 0 [.op 6 (oM 39 0),.op 7 (oM 40 6),.op 8 (oM 41 10),.op 9 (oA 42 (.bin .add (.t 40) (.t 41))),.op 10 (oA 43 (.ia 1 (.t 39) (.t 42))),.op 11 (oA 44 (.ld (.t 43))),.op 12 (oM 45 0),.op 13 (oM 46 6),.op 14 (oA 47 (.ia 1 (.t 45) (.t 46))),.op 15 (oA 48 (.ld (.t 47))),.op 0 (oM 33 0),.op 1 (oM 34 6),.op 16 (oA 49 (.ia 1 (.t 33) (.t 34))),.op 17 (oS (.st (.t 49) (.t 44))),.op 2 (oM 35 0),.op 3 (oM 36 6),.op 4 (oM 37 10),.op 5 (oA 38 (.bin .add (.t 36) (.t 37))),.op 18 (oA 50 (.ia 1 (.t 35) (.t 38))),.op 19 (oS (.st (.t 50) (.t 48)))]) (.ops [oM 51 0,oM 52 7,oM 53 10,oM 54 6,oA 55 (.call n_99 [(.t 51),(.t 52),(.t 53),(.t 54)])]))) (.ops [oM 31 10,oA 32 (.bin .sub (.t 31) (.c (.int .i64 1))),oM 10 32])
def c3_8w : C :=
 .seq (.seq (.ops [oM 29 10,oA 30 (.bin .geq (.t 29) (.c (.int .i64 0)))]) (.cond (.t 30) (.skip) (.exit 2))) (c2_8w)
def c4_8w : C :=
 .seq (.seq (.ops [oM 15 8,oA 16 (.bin .sub (.t 15) (.c (.int .i64 1))),oA 17 (.bin .quo (.t 16) (.c (.int .i64 2))),oM 9 17]) (.block 0 (.loop c1_8w))) (.seq (.ops [oM 27 8,oA 28 (.bin .sub (.t 27) (.c (.int .i64 1))),oM 10 28]) (.block 2 (.loop c3_8w)))
def c_8w : C :=
 .seq (.ops [oM 11 1,oM 6 11]) (.seq (.ops [oA 7 (.mov (.c (.int .i64 0)))]) (.seq (.ops [oM 12 2,oM 13 1,oA 14 (.bin .sub (.t 12) (.t 13)),oM 8 14]) (c4_8w)))
def f_8w : F := ⟨c_8w, [], some []⟩
theorem h_8w : compF Tryz.prog (compAny Tryz.prog) n_8w = some (f_8w.body, f_8w.res) := by kernel_rfl
def c0_8u : C :=
 .any 0 [.op 6 (oM 53 0),.op 7 (oM 54 1),.op 8 (oM 55 10),.op 9 (oA 56 (.bin .add (.t 54) (.t 55))),.op 10 (oA 57 (.ia 1 (.t 53) (.t 56))),.op 11 (oA 58 (.ld (.t 57))),.op 12 (oM 59 0),.op 13 (oM 60 9),.op 14 (oA 61 (.ia 1 (.t 59) (.t 60))),.op 15 (oA 62 (.ld (.t 61))),.op 0 (oM 47 0),.op 1 (oM 48 9),.op 16 (oA 63 (.ia 1 (.t 47) (.t 48))),.op 17 (oS (.st (.t 63) (.t 58))),.op 2 (oM 49 0),.op 3 (oM 50 1),.op 4 (oM 51 10),.op 5 (oA 52 (.bin .add (.t 50) (.t 51))),.op 18 (oA 64 (.ia 1 (.t 49) (.t 52))),.op 19 (oS (.st (.t 64) (.t 62)))]
def c1_8u : C :=
 .seq (.seq (.ops [oM 41 10,oM 42 6,oA 43 (.bin .geq (.t 41) (.t 42))]) (.cond (.t 43) (.ops [oM 44 10,oM 45 6,oA 46 (.bin .sub (.t 44) (.t 45)),oM 10 46]) (.skip))) (c0_8u)
def c2_8u : C :=
 .seq (.block 1 (.seq (.ops [oA 36 (.call n_9d [(.t 7)]),oM 37 8,oA 38 (.bin .sub (.t 37) (.c (.int .u64 1))),oA 39 (.bin .and (.t 36) (.t 38)),oA 40 (.conv .i64 (.t 39)),oM 10 40]) (c1_8u))) (.ops [oM 34 9,oA 35 (.bin .add (.t 34) (.c (.int .i64 1))),oM 9 35])
def c3_8u : C :=
 .seq (.seq (.ops [oM 26 9,oM 27 1,oM 28 6,oA 29 (.bin .quo (.t 28) (.c (.int .i64 4))),oA 30 (.bin .mul (.t 29) (.c (.int .i64 2))),oA 31 (.bin .add (.t 27) (.t 30)),oA 32 (.bin .add (.t 31) (.c (.int .i64 1))),oA 33 (.bin .leq (.t 26) (.t 32))]) (.cond (.t 33) (.skip) (.exit 0))) (c2_8u)
def c4_8u : C :=
 .seq (.ops [oM 20 1,oM 21 6,oA 22 (.bin .quo (.t 21) (.c (.int .i64 4))),oA 23 (.bin .mul (.t 22) (.c (.int .i64 2))),oA 24 (.bin .add (.t 20) (.t 23)),oA 25 (.bin .sub (.t 24) (.c (.int .i64 1))),oM 9 25]) (.block 0 (.loop c3_8u))
def c5_8u : C :=
 .cond (.t 15) (.seq (.ops [oM 16 6,oA 17 (.conv .u64 (.t 16)),oA 7 (.new [(.int .u64 0)]),oS (.st (.t 7) (.t 17))]) (.seq (.ops [oM 18 6,oA 19 (.call n_91 [(.t 18)]),oM 8 19]) (c4_8u))) (.skip)
def c_8u : C :=
 .seq (.ops [oM 11 2,oM 12 1,oA 13 (.bin .sub (.t 11) (.t 12)),oM 6 13]) (.seq (.ops [oM 14 6,oA 15 (.bin .geq (.t 14) (.c (.int .i64 8)))]) (c5_8u))
def f_8u : F := ⟨c_8u, [], some []⟩
theorem h_8u : compF Tryz.prog (compAny Tryz.prog) n_8u = some (f_8u.body, f_8u.res) := by kernel_rfl
end Go.Proofs.YtoiiphcbkejliaaGreat.Cd

set_option maxRecDepth 100000
set_option linter.defProp false
namespace Go.Proofs.YtoiiphcbkejliaaGreat.Cd
open Go Go.Dx
def c0_8v : C :=
 .seq (.ops [oM 38 0,oM 39 11,oA 40 (.call n_8z [(.t 38),(.t 39),(.t 9)]),oM 11 40]) (.ops [oM 41 0,oM 42 12,oA 43 (.call n_8z [(.t 41),(.t 42),(.t 9)]),oM 12 43])
def c1_8v : C :=
 .seq (.seq (.ops [oM 33 8,oA 34 (.bin .geq (.t 33) (.c (.int .i64 50)))]) (.cond (.t 34) (.seq (.ops [oM 35 0,oM 36 10,oA 37 (.call n_8z [(.t 35),(.t 36),(.t 9)]),oM 10 37]) (c0_8v)) (.skip))) (.ops [oM 44 0,oM 45 10,oM 46 11,oM 47 12,oA 48 (.call n_90 [(.t 44),(.t 45),(.t 46),(.t 47),(.t 9)]),oM 11 48])
def c2_8v : C :=
 .seq (.ops [oA 55 (.bin .eql (.t 49) (.c (.int .i64 12))),oM 54 55]) (.cond (.t 54) (.seq (.ops [oM 56 11,oM 6 56,oA 7 (.mov (.c (.int .i64 2)))]) (.ret)) (.seq (.ops [oM 50 11,oM 6 50,oA 7 (.mov (.c (.int .i64 0)))]) (.ret)))
def c3_8v : C :=
 .seq (.ops [oA 49 (.ld (.t 9))]) (.block 0 (.seq (.ops [oA 52 (.bin .eql (.t 49) (.c (.int .i64 0))),oM 51 52]) (.cond (.t 51) (.seq (.ops [oM 53 11,oM 6 53,oA 7 (.mov (.c (.int .i64 1)))]) (.ret)) (c2_8v))))
def c4_8v : C :=
 .seq (.ops [oM 26 1,oM 27 8,oA 28 (.bin .quo (.t 27) (.c (.int .i64 4))),oA 29 (.bin .mul (.t 28) (.c (.int .i64 3))),oA 30 (.bin .add (.t 26) (.t 29)),oM 12 30]) (.seq (.seq (.ops [oM 31 8,oA 32 (.bin .geq (.t 31) (.c (.int .i64 8)))]) (.cond (.t 32) (c1_8v) (.skip))) (c3_8v))
def c5_8v : C :=
 .seq (.ops [oM 16 1,oM 17 8,oA 18 (.bin .quo (.t 17) (.c (.int .i64 4))),oA 19 (.bin .mul (.t 18) (.c (.int .i64 1))),oA 20 (.bin .add (.t 16) (.t 19)),oM 10 20]) (.seq (.ops [oM 21 1,oM 22 8,oA 23 (.bin .quo (.t 22) (.c (.int .i64 4))),oA 24 (.bin .mul (.t 23) (.c (.int .i64 2))),oA 25 (.bin .add (.t 21) (.t 24)),oM 11 25]) (c4_8v))
def c_8v : C :=
 .seq (.ops [oA 6 (.mov (.c (.int .i64 0))),oA 7 (.mov (.c (.int .i64 0)))]) (.seq (.ops [oM 13 2,oM 14 1,oA 15 (.bin .sub (.t 13) (.t 14)),oM 8 15]) (.seq (.ops [oA 9 (.new [(.int .i64 0)])]) (c5_8v)))
def f_8v : F := ⟨c_8v, [.t 6, .t 7], some []⟩
theorem h_8v : compF Tryz.prog (compAny Tryz.prog) n_8v = some (f_8v.body, f_8v.res) := by kernel_rfl
def c0_97 : C :=
 .block 1 (.seq (.any 0 [.op 4 (oM 18 0),.op 5 (oM 19 7),.op 6 (oA 20 (.ia 1 (.t 18) (.t 19))),.op 7 (oA 21 (.ld (.t 20))),.op 8 (oM 22 0),.op 9 (oM 23 6),.op 10 (oA 24 (.ia 1 (.t 22) (.t 23))),.op 11 (oA 25 (.ld (.t 24))),.op 0 (oM 14 0),.op 1 (oM 15 6),.op 12 (oA 26 (.ia 1 (.t 14) (.t 15))),.op 13 (oS (.st (.t 26) (.t 21))),.op 2 (oM 16 0),.op 3 (oM 17 7),.op 14 (oA 27 (.ia 1 (.t 16) (.t 17))),.op 15 (oS (.st (.t 27) (.t 25)))]) (.seq (.ops [oM 28 6,oA 29 (.bin .add (.t 28) (.c (.int .i64 1))),oM 6 29]) (.ops [oM 30 7,oA 31 (.bin .sub (.t 30) (.c (.int .i64 1))),oM 7 31])))
def c1_97 : C :=
 .seq (.seq (.ops [oM 11 6,oM 12 7,oA 13 (.bin .lss (.t 11) (.t 12))]) (.cond (.t 13) (.skip) (.exit 0))) (c0_97)
def c_97 : C :=
 .seq (.ops [oM 8 1,oM 6 8]) (.seq (.ops [oM 9 2,oA 10 (.bin .sub (.t 9) (.c (.int .i64 1))),oM 7 10]) (.block 0 (.loop c1_97)))
def f_97 : F := ⟨c_97, [], some []⟩
theorem h_97 : compF Tryz.prog (compAny Tryz.prog) n_97 = some (f_97.body, f_97.res) := by kernel_rfl
def c0_93 : C :=
 .seq (.seq (.any 0 [.op 0 (oM 17 7),.op 1 (oM 18 2),.op 2 (oA 19 (.bin .lss (.t 17) (.t 18))),.op 3 (oM 20 19),.op 4 (oT 21 20 (.mov (.t 0))),.op 5 (oT 22 20 (.mov (.t 7))),.op 6 (oT 23 20 (.ia 1 (.t 21) (.t 22))),.op 7 (oT 24 20 (.ld (.t 23))),.op 8 (oT 25 20 (.mov (.t 0))),.op 9 (oT 26 20 (.mov (.t 7))),.op 10 (oT 27 20 (.bin .sub (.t 26) (.c (.int .i64 1)))),.op 11 (oT 28 20 (.ia 1 (.t 25) (.t 27))),.op 12 (oT 29 20 (.ld (.t 28))),.op 13 (oT 30 20 (.call n_15 [(.t 24),(.t 29)])),.op 14 (oT 31 20 (.un .not (.t 30))),.op 15 (oA 32 (.pick (.t 20) (.t 31) (.c (.bool false))))]) (.cond (.t 32) (.skip) (.exit 2))) (.block 3 (.ops [oM 33 7,oA 34 (.bin .add (.t 33) (.c (.int .i64 1))),oM 7 34]))
def c1_93 : C :=
 .any 0 [.op 5 (oM 84 0),.op 6 (oM 85 9),.op 7 (oA 86 (.bin .sub (.t 85) (.c (.int .i64 1)))),.op 8 (oA 87 (.ia 1 (.t 84) (.t 86))),.op 9 (oA 88 (.ld (.t 87))),.op 10 (oM 89 0),.op 11 (oM 90 9),.op 12 (oA 91 (.ia 1 (.t 89) (.t 90))),.op 13 (oA 92 (.ld (.t 91))),.op 0 (oM 79 0),.op 1 (oM 80 9),.op 14 (oA 93 (.ia 1 (.t 79) (.t 80))),.op 15 (oS (.st (.t 93) (.t 88))),.op 2 (oM 81 0),.op 3 (oM 82 9),.op 4 (oA 83 (.bin .sub (.t 82) (.c (.int .i64 1)))),.op 16 (oA 94 (.ia 1 (.t 81) (.t 83))),.op 17 (oS (.st (.t 94) (.t 92)))]
def c2_93 : C :=
 .seq (.block 5 (.seq (.seq (.any 0 [.op 0 (oM 68 0),.op 1 (oM 69 9),.op 2 (oA 70 (.ia 1 (.t 68) (.t 69))),.op 3 (oA 71 (.ld (.t 70))),.op 4 (oM 72 0),.op 5 (oM 73 9),.op 6 (oA 74 (.bin .sub (.t 73) (.c (.int .i64 1)))),.op 7 (oA 75 (.ia 1 (.t 72) (.t 74))),.op 8 (oA 76 (.ld (.t 75))),.op 9 (oA 77 (.call n_15 [(.t 71),(.t 76)])),.op 10 (oA 78 (.un .not (.t 77)))]) (.cond (.t 78) (.exit 4) (.skip))) (c1_93))) (.ops [oM 66 9,oA 67 (.bin .sub (.t 66) (.c (.int .i64 1))),oM 9 67])
def c3_93 : C :=
 .seq (.seq (.ops [oM 64 9,oA 65 (.bin .geq (.t 64) (.c (.int .i64 1)))]) (.cond (.t 65) (.skip) (.exit 4))) (c2_93)
def c4_93 : C :=
 .any 0 [.op 5 (oM 122 0),.op 6 (oM 123 10),.op 7 (oA 124 (.bin .sub (.t 123) (.c (.int .i64 1)))),.op 8 (oA 125 (.ia 1 (.t 122) (.t 124))),.op 9 (oA 126 (.ld (.t 125))),.op 10 (oM 127 0),.op 11 (oM 128 10),.op 12 (oA 129 (.ia 1 (.t 127) (.t 128))),.op 13 (oA 130 (.ld (.t 129))),.op 0 (oM 117 0),.op 1 (oM 118 10),.op 14 (oA 131 (.ia 1 (.t 117) (.t 118))),.op 15 (oS (.st (.t 131) (.t 126))),.op 2 (oM 119 0),.op 3 (oM 120 10),.op 4 (oA 121 (.bin .sub (.t 120) (.c (.int .i64 1)))),.op 16 (oA 132 (.ia 1 (.t 119) (.t 121))),.op 17 (oS (.st (.t 132) (.t 130)))]
def c5_93 : C :=
 .seq (.block 7 (.seq (.seq (.any 0 [.op 0 (oM 106 0),.op 1 (oM 107 10),.op 2 (oA 108 (.ia 1 (.t 106) (.t 107))),.op 3 (oA 109 (.ld (.t 108))),.op 4 (oM 110 0),.op 5 (oM 111 10),.op 6 (oA 112 (.bin .sub (.t 111) (.c (.int .i64 1)))),.op 7 (oA 113 (.ia 1 (.t 110) (.t 112))),.op 8 (oA 114 (.ld (.t 113))),.op 9 (oA 115 (.call n_15 [(.t 109),(.t 114)])),.op 10 (oA 116 (.un .not (.t 115)))]) (.cond (.t 116) (.exit 6) (.skip))) (c4_93))) (.ops [oM 104 10,oA 105 (.bin .add (.t 104) (.c (.int .i64 1))),oM 10 105])
def c6_93 : C :=
 .seq (.seq (.ops [oM 101 10,oM 102 2,oA 103 (.bin .lss (.t 101) (.t 102))]) (.cond (.t 103) (.skip) (.exit 6))) (c5_93)
def c7_93 : C :=
 .seq (.ops [oM 95 2,oM 96 7,oA 97 (.bin .sub (.t 95) (.t 96)),oA 98 (.bin .geq (.t 97) (.c (.int .i64 2)))]) (.cond (.t 98) (.seq (.ops [oM 99 7,oA 100 (.bin .add (.t 99) (.c (.int .i64 1))),oM 10 100]) (.block 6 (.loop c6_93))) (.skip))
def c8_93 : C :=
 .seq (.seq (.ops [oM 58 7,oM 59 1,oA 60 (.bin .sub (.t 58) (.t 59)),oA 61 (.bin .geq (.t 60) (.c (.int .i64 2)))]) (.cond (.t 61) (.seq (.ops [oM 62 7,oA 63 (.bin .sub (.t 62) (.c (.int .i64 1))),oM 9 63]) (.block 4 (.loop c3_93))) (.skip))) (c7_93)
def c9_93 : C :=
 .seq (.any 0 [.op 5 (oM 47 0),.op 6 (oM 48 7),.op 7 (oA 49 (.bin .sub (.t 48) (.c (.int .i64 1)))),.op 8 (oA 50 (.ia 1 (.t 47) (.t 49))),.op 9 (oA 51 (.ld (.t 50))),.op 10 (oM 52 0),.op 11 (oM 53 7),.op 12 (oA 54 (.ia 1 (.t 52) (.t 53))),.op 13 (oA 55 (.ld (.t 54))),.op 0 (oM 42 0),.op 1 (oM 43 7),.op 14 (oA 56 (.ia 1 (.t 42) (.t 43))),.op 15 (oS (.st (.t 56) (.t 51))),.op 2 (oM 44 0),.op 3 (oM 45 7),.op 4 (oA 46 (.bin .sub (.t 45) (.c (.int .i64 1)))),.op 16 (oA 57 (.ia 1 (.t 44) (.t 46))),.op 17 (oS (.st (.t 57) (.t 55)))]) (c8_93)
def c10_93 : C :=
 .seq (.seq (.ops [oM 35 7,oM 36 2,oA 37 (.bin .eql (.t 35) (.t 36))]) (.cond (.t 37) (.seq (.ops [oA 6 (.mov (.c (.bool true)))]) (.ret)) (.skip))) (.seq (.seq (.ops [oM 38 2,oM 39 1,oA 40 (.bin .sub (.t 38) (.t 39)),oA 41 (.bin .lss (.t 40) (.c (.int .i64 50)))]) (.cond (.t 41) (.seq (.ops [oA 6 (.mov (.c (.bool false)))]) (.ret)) (.skip))) (c9_93))
def c11_93 : C :=
 .seq (.seq (.ops [oM 13 8,oA 14 (.bin .lss (.t 13) (.c (.int .i64 5)))]) (.cond (.t 14) (.skip) (.exit 0))) (.seq (.block 1 (.seq (.block 2 (.loop c0_93)) (c10_93))) (.ops [oM 15 8,oA 16 (.bin .add (.t 15) (.c (.int .i64 1))),oM 8 16]))
def c_93 : C :=
 .seq (.ops [oA 6 (.mov (.c (.bool false)))]) (.seq (.ops [oM 11 1,oA 12 (.bin .add (.t 11) (.c (.int .i64 1))),oM 7 12]) (.seq (.seq (.ops [oA 8 (.mov (.c (.int .i64 0)))]) (.block 0 (.loop c11_93))) (.seq (.ops [oA 6 (.mov (.c (.bool false)))]) (.ret))))
def f_93 : F := ⟨c_93, [.t 6], some []⟩
theorem h_93 : compF Tryz.prog (compAny Tryz.prog) n_93 = some (f_93.body, f_93.res) := by kernel_rfl
def c0_15 : C :=
 .seq (.ops [oM 5 0,oA 6 (.call n_16 [(.t 5)]),oM 7 6,oT 8 7 (.mov (.t 1)),oT 9 7 (.call n_16 [(.t 8)]),oT 10 7 (.un .not (.t 9)),oA 11 (.pick (.t 7) (.t 10) (.c (.bool false))),oM 12 11,oF 13 12 (.mov (.t 0)),oF 14 12 (.mov (.t 1)),oF 15 12 (.bin .lss (.t 13) (.t 14)),oA 16 (.pick (.t 12) (.c (.bool true)) (.t 15)),oM 4 16]) (.ret)
def c_15 : C :=
 .seq (.ops [oA 4 (.mov (.c (.bool false)))]) (c0_15)
def f_15 : F := ⟨c_15, [.t 4], some []⟩
theorem h_15 : compF Tryz.prog (compAny Tryz.prog) n_15 = some (f_15.body, f_15.res) := by kernel_rfl
def c0_94 : C :=
 .seq (.seq (.any 0 [.op 0 (oM 29 9),.op 1 (oM 30 10),.op 2 (oA 31 (.bin .leq (.t 29) (.t 30))),.op 3 (oM 32 31),.op 4 (oT 33 32 (.mov (.t 0))),.op 5 (oT 34 32 (.mov (.t 1))),.op 6 (oT 35 32 (.ia 1 (.t 33) (.t 34))),.op 7 (oT 36 32 (.ld (.t 35))),.op 8 (oT 37 32 (.mov (.t 0))),.op 9 (oT 38 32 (.mov (.t 9))),.op 10 (oT 39 32 (.ia 1 (.t 37) (.t 38))),.op 11 (oT 40 32 (.ld (.t 39))),.op 12 (oT 41 32 (.call n_15 [(.t 36),(.t 40)])),.op 13 (oT 42 32 (.un .not (.t 41))),.op 14 (oA 43 (.pick (.t 32) (.t 42) (.c (.bool false))))]) (.cond (.t 43) (.skip) (.exit 2))) (.block 3 (.ops [oM 44 9,oA 45 (.bin .add (.t 44) (.c (.int .i64 1))),oM 9 45]))
def c1_94 : C :=
 .seq (.seq (.any 0 [.op 0 (oM 46 9),.op 1 (oM 47 10),.op 2 (oA 48 (.bin .leq (.t 46) (.t 47))),.op 3 (oM 49 48),.op 4 (oT 50 49 (.mov (.t 0))),.op 5 (oT 51 49 (.mov (.t 1))),.op 6 (oT 52 49 (.ia 1 (.t 50) (.t 51))),.op 7 (oT 53 49 (.ld (.t 52))),.op 8 (oT 54 49 (.mov (.t 0))),.op 9 (oT 55 49 (.mov (.t 10))),.op 10 (oT 56 49 (.ia 1 (.t 54) (.t 55))),.op 11 (oT 57 49 (.ld (.t 56))),.op 12 (oT 58 49 (.call n_15 [(.t 53),(.t 57)])),.op 13 (oA 59 (.pick (.t 49) (.t 58) (.c (.bool false))))]) (.cond (.t 59) (.skip) (.exit 4))) (.block 5 (.ops [oM 60 10,oA 61 (.bin .sub (.t 60) (.c (.int .i64 1))),oM 10 61]))
def c2_94 : C :=
 .seq (.any 0 [.op 4 (oM 69 0),.op 5 (oM 70 10),.op 6 (oA 71 (.ia 1 (.t 69) (.t 70))),.op 7 (oA 72 (.ld (.t 71))),.op 8 (oM 73 0),.op 9 (oM 74 9),.op 10 (oA 75 (.ia 1 (.t 73) (.t 74))),.op 11 (oA 76 (.ld (.t 75))),.op 0 (oM 65 0),.op 1 (oM 66 9),.op 12 (oA 77 (.ia 1 (.t 65) (.t 66))),.op 13 (oS (.st (.t 77) (.t 72))),.op 2 (oM 67 0),.op 3 (oM 68 10),.op 14 (oA 78 (.ia 1 (.t 67) (.t 68))),.op 15 (oS (.st (.t 78) (.t 76)))]) (.seq (.ops [oM 79 9,oA 80 (.bin .add (.t 79) (.c (.int .i64 1))),oM 9 80]) (.ops [oM 81 10,oA 82 (.bin .sub (.t 81) (.c (.int .i64 1))),oM 10 82]))
def c3_94 : C :=
 .block 1 (.seq (.block 2 (.loop c0_94)) (.seq (.block 4 (.loop c1_94)) (.seq (.seq (.ops [oM 62 9,oM 63 10,oA 64 (.bin .gtr (.t 62) (.t 63))]) (.cond (.t 64) (.exit 0) (.skip))) (c2_94))))
def c4_94 : C :=
 .seq (.ops [oM 25 1,oA 26 (.bin .add (.t 25) (.c (.int .i64 1))),oM 27 2,oA 28 (.bin .sub (.t 27) (.c (.int .i64 1))),oM 9 26,oM 10 28]) (.seq (.block 0 (.loop c3_94)) (.seq (.ops [oM 83 9,oM 8 83]) (.ret)))
def c5_94 : C :=
 .seq (.any 0 [.op 4 (oM 15 0),.op 5 (oM 16 3),.op 6 (oA 17 (.ia 1 (.t 15) (.t 16))),.op 7 (oA 18 (.ld (.t 17))),.op 8 (oM 19 0),.op 9 (oM 20 1),.op 10 (oA 21 (.ia 1 (.t 19) (.t 20))),.op 11 (oA 22 (.ld (.t 21))),.op 0 (oM 11 0),.op 1 (oM 12 1),.op 12 (oA 23 (.ia 1 (.t 11) (.t 12))),.op 13 (oS (.st (.t 23) (.t 18))),.op 2 (oM 13 0),.op 3 (oM 14 3),.op 14 (oA 24 (.ia 1 (.t 13) (.t 14))),.op 15 (oS (.st (.t 24) (.t 22)))]) (c4_94)
def c_94 : C :=
 .seq (.ops [oA 8 (.mov (.c (.int .i64 0)))]) (c5_94)
def f_94 : F := ⟨c_94, [.t 8], some []⟩
theorem h_94 : compF Tryz.prog (compAny Tryz.prog) n_94 = some (f_94.body, f_94.res) := by kernel_rfl
def c0_95 : C :=
 .seq (.seq (.any 0 [.op 0 (oM 30 10),.op 1 (oM 31 11),.op 2 (oA 32 (.bin .leq (.t 30) (.t 31))),.op 3 (oM 33 32),.op 4 (oT 34 33 (.mov (.t 0))),.op 5 (oT 35 33 (.mov (.t 10))),.op 6 (oT 36 33 (.ia 1 (.t 34) (.t 35))),.op 7 (oT 37 33 (.ld (.t 36))),.op 8 (oT 38 33 (.mov (.t 0))),.op 9 (oT 39 33 (.mov (.t 1))),.op 10 (oT 40 33 (.ia 1 (.t 38) (.t 39))),.op 11 (oT 41 33 (.ld (.t 40))),.op 12 (oT 42 33 (.call n_15 [(.t 37),(.t 41)])),.op 13 (oA 43 (.pick (.t 33) (.t 42) (.c (.bool false))))]) (.cond (.t 43) (.skip) (.exit 0))) (.block 1 (.ops [oM 44 10,oA 45 (.bin .add (.t 44) (.c (.int .i64 1))),oM 10 45]))
def c1_95 : C :=
 .seq (.seq (.any 0 [.op 0 (oM 46 10),.op 1 (oM 47 11),.op 2 (oA 48 (.bin .leq (.t 46) (.t 47))),.op 3 (oM 49 48),.op 4 (oT 50 49 (.mov (.t 0))),.op 5 (oT 51 49 (.mov (.t 11))),.op 6 (oT 52 49 (.ia 1 (.t 50) (.t 51))),.op 7 (oT 53 49 (.ld (.t 52))),.op 8 (oT 54 49 (.mov (.t 0))),.op 9 (oT 55 49 (.mov (.t 1))),.op 10 (oT 56 49 (.ia 1 (.t 54) (.t 55))),.op 11 (oT 57 49 (.ld (.t 56))),.op 12 (oT 58 49 (.call n_15 [(.t 53),(.t 57)])),.op 13 (oT 59 49 (.un .not (.t 58))),.op 14 (oA 60 (.pick (.t 49) (.t 59) (.c (.bool false))))]) (.cond (.t 60) (.skip) (.exit 2))) (.block 3 (.ops [oM 61 11,oA 62 (.bin .sub (.t 61) (.c (.int .i64 1))),oM 11 62]))
def c2_95 : C :=
 .seq (.any 0 [.op 4 (oM 70 0),.op 5 (oM 71 1),.op 6 (oA 72 (.ia 1 (.t 70) (.t 71))),.op 7 (oA 73 (.ld (.t 72))),.op 8 (oM 74 0),.op 9 (oM 75 11),.op 10 (oA 76 (.ia 1 (.t 74) (.t 75))),.op 11 (oA 77 (.ld (.t 76))),.op 0 (oM 66 0),.op 1 (oM 67 11),.op 12 (oA 78 (.ia 1 (.t 66) (.t 67))),.op 13 (oS (.st (.t 78) (.t 73))),.op 2 (oM 68 0),.op 3 (oM 69 1),.op 14 (oA 79 (.ia 1 (.t 68) (.t 69))),.op 15 (oS (.st (.t 79) (.t 77)))]) (.seq (.ops [oM 80 11,oM 8 80,oA 9 (.mov (.c (.bool true)))]) (.ret))
def c3_95 : C :=
 .seq (.seq (.any 0 [.op 0 (oM 99 10),.op 1 (oM 100 11),.op 2 (oA 101 (.bin .leq (.t 99) (.t 100))),.op 3 (oM 102 101),.op 4 (oT 103 102 (.mov (.t 0))),.op 5 (oT 104 102 (.mov (.t 10))),.op 6 (oT 105 102 (.ia 1 (.t 103) (.t 104))),.op 7 (oT 106 102 (.ld (.t 105))),.op 8 (oT 107 102 (.mov (.t 0))),.op 9 (oT 108 102 (.mov (.t 1))),.op 10 (oT 109 102 (.ia 1 (.t 107) (.t 108))),.op 11 (oT 110 102 (.ld (.t 109))),.op 12 (oT 111 102 (.call n_15 [(.t 106),(.t 110)])),.op 13 (oA 112 (.pick (.t 102) (.t 111) (.c (.bool false))))]) (.cond (.t 112) (.skip) (.exit 6))) (.block 7 (.ops [oM 113 10,oA 114 (.bin .add (.t 113) (.c (.int .i64 1))),oM 10 114]))
def c4_95 : C :=
 .seq (.seq (.any 0 [.op 0 (oM 115 10),.op 1 (oM 116 11),.op 2 (oA 117 (.bin .leq (.t 115) (.t 116))),.op 3 (oM 118 117),.op 4 (oT 119 118 (.mov (.t 0))),.op 5 (oT 120 118 (.mov (.t 11))),.op 6 (oT 121 118 (.ia 1 (.t 119) (.t 120))),.op 7 (oT 122 118 (.ld (.t 121))),.op 8 (oT 123 118 (.mov (.t 0))),.op 9 (oT 124 118 (.mov (.t 1))),.op 10 (oT 125 118 (.ia 1 (.t 123) (.t 124))),.op 11 (oT 126 118 (.ld (.t 125))),.op 12 (oT 127 118 (.call n_15 [(.t 122),(.t 126)])),.op 13 (oT 128 118 (.un .not (.t 127))),.op 14 (oA 129 (.pick (.t 118) (.t 128) (.c (.bool false))))]) (.cond (.t 129) (.skip) (.exit 8))) (.block 9 (.ops [oM 130 11,oA 131 (.bin .sub (.t 130) (.c (.int .i64 1))),oM 11 131]))
def c5_95 : C :=
 .seq (.any 0 [.op 4 (oM 139 0),.op 5 (oM 140 11),.op 6 (oA 141 (.ia 1 (.t 139) (.t 140))),.op 7 (oA 142 (.ld (.t 141))),.op 8 (oM 143 0),.op 9 (oM 144 10),.op 10 (oA 145 (.ia 1 (.t 143) (.t 144))),.op 11 (oA 146 (.ld (.t 145))),.op 0 (oM 135 0),.op 1 (oM 136 10),.op 12 (oA 147 (.ia 1 (.t 135) (.t 136))),.op 13 (oS (.st (.t 147) (.t 142))),.op 2 (oM 137 0),.op 3 (oM 138 11),.op 14 (oA 148 (.ia 1 (.t 137) (.t 138))),.op 15 (oS (.st (.t 148) (.t 146)))]) (.seq (.ops [oM 149 10,oA 150 (.bin .add (.t 149) (.c (.int .i64 1))),oM 10 150]) (.ops [oM 151 11,oA 152 (.bin .sub (.t 151) (.c (.int .i64 1))),oM 11 152]))
def c6_95 : C :=
 .block 5 (.seq (.block 6 (.loop c3_95)) (.seq (.block 8 (.loop c4_95)) (.seq (.seq (.ops [oM 132 10,oM 133 11,oA 134 (.bin .gtr (.t 132) (.t 133))]) (.cond (.t 134) (.exit 4) (.skip))) (c5_95))))
def c7_95 : C :=
 .seq (.any 0 [.op 4 (oM 157 0),.op 5 (oM 158 1),.op 6 (oA 159 (.ia 1 (.t 157) (.t 158))),.op 7 (oA 160 (.ld (.t 159))),.op 8 (oM 161 0),.op 9 (oM 162 11),.op 10 (oA 163 (.ia 1 (.t 161) (.t 162))),.op 11 (oA 164 (.ld (.t 163))),.op 0 (oM 153 0),.op 1 (oM 154 11),.op 12 (oA 165 (.ia 1 (.t 153) (.t 154))),.op 13 (oS (.st (.t 165) (.t 160))),.op 2 (oM 155 0),.op 3 (oM 156 1),.op 14 (oA 166 (.ia 1 (.t 155) (.t 156))),.op 15 (oS (.st (.t 166) (.t 164)))]) (.seq (.ops [oM 167 11,oM 8 167,oA 9 (.mov (.c (.bool false)))]) (.ret))
def c8_95 : C :=
 .seq (.ops [oM 95 10,oA 96 (.bin .add (.t 95) (.c (.int .i64 1))),oM 10 96]) (.seq (.ops [oM 97 11,oA 98 (.bin .sub (.t 97) (.c (.int .i64 1))),oM 11 98]) (.seq (.block 4 (.loop c6_95)) (c7_95)))
def c9_95 : C :=
 .seq (.any 0 [.op 4 (oM 85 0),.op 5 (oM 86 11),.op 6 (oA 87 (.ia 1 (.t 85) (.t 86))),.op 7 (oA 88 (.ld (.t 87))),.op 8 (oM 89 0),.op 9 (oM 90 10),.op 10 (oA 91 (.ia 1 (.t 89) (.t 90))),.op 11 (oA 92 (.ld (.t 91))),.op 0 (oM 81 0),.op 1 (oM 82 10),.op 12 (oA 93 (.ia 1 (.t 81) (.t 82))),.op 13 (oS (.st (.t 93) (.t 88))),.op 2 (oM 83 0),.op 3 (oM 84 11),.op 14 (oA 94 (.ia 1 (.t 83) (.t 84))),.op 15 (oS (.st (.t 94) (.t 92)))]) (c8_95)
def c10_95 : C :=
 .seq (.ops [oM 26 1,oA 27 (.bin .add (.t 26) (.c (.int .i64 1))),oM 28 2,oA 29 (.bin .sub (.t 28) (.c (.int .i64 1))),oM 10 27,oM 11 29]) (.seq (.block 0 (.loop c0_95)) (.seq (.block 2 (.loop c1_95)) (.seq (.seq (.ops [oM 63 10,oM 64 11,oA 65 (.bin .gtr (.t 63) (.t 64))]) (.cond (.t 65) (c2_95) (.skip))) (c9_95))))
def c11_95 : C :=
 .seq (.any 0 [.op 4 (oM 16 0),.op 5 (oM 17 3),.op 6 (oA 18 (.ia 1 (.t 16) (.t 17))),.op 7 (oA 19 (.ld (.t 18))),.op 8 (oM 20 0),.op 9 (oM 21 1),.op 10 (oA 22 (.ia 1 (.t 20) (.t 21))),.op 11 (oA 23 (.ld (.t 22))),.op 0 (oM 12 0),.op 1 (oM 13 1),.op 12 (oA 24 (.ia 1 (.t 12) (.t 13))),.op 13 (oS (.st (.t 24) (.t 19))),.op 2 (oM 14 0),.op 3 (oM 15 3),.op 14 (oA 25 (.ia 1 (.t 14) (.t 15))),.op 15 (oS (.st (.t 25) (.t 23)))]) (c10_95)
def c_95 : C :=
 .seq (.ops [oA 8 (.mov (.c (.int .i64 0))),oA 9 (.mov (.c (.bool false)))]) (c11_95)
def f_95 : F := ⟨c_95, [.t 8, .t 9], some []⟩
theorem h_95 : compF Tryz.prog (compAny Tryz.prog) n_95 = some (f_95.body, f_95.res) := by kernel_rfl
def c0_3q : C :=
 .seq (.ops [oM 19 2,oM 20 0,oA 21 (.conv .u8 (.t 20)),⟨some 22,none,.ixs (.c (.string ⟨#[0,1,2,2,3,3,3,3,4,4,4,4,4,4,4,4,5,5,5,5,5,5,5,5,5,5,5,5,5,5,5,5,6,6,6,6,6,6,6,6,6,6,6,6,6,6,6,6,6,6,6,6,6,6,6,6,6,6,6,6,6,6,6,6,7,7,7,7,7,7,7,7,7,7,7,7,7,7,7,7,7,7,7,7,7,7,7,7,7,7,7,7,7,7,7,7,7,7,7,7,7,7,7,7,7,7,7,7,7,7,7,7,7,7,7,7,7,7,7,7,7,7,7,7,7,7,7,7,8,8,8,8,8,8,8,8,8,8,8,8,8,8,8,8,8,8,8,8,8,8,8,8,8,8,8,8,8,8,8,8,8,8,8,8,8,8,8,8,8,8,8,8,8,8,8,8,8,8,8,8,8,8,8,8,8,8,8,8,8,8,8,8,8,8,8,8,8,8,8,8,8,8,8,8,8,8,8,8,8,8,8,8,8,8,8,8,8,8,8,8,8,8,8,8,8,8,8,8,8,8,8,8,8,8,8,8,8,8,8,8,8,8,8,8,8,8,8,8,8,8,8,8,8,8,8,8]⟩)) (.t 21)⟩,oA 23 (.conv .i64 (.t 22)),oA 24 (.bin .add (.t 19) (.t 23)),oM 2 24]) (.ret)
def c1_3q : C :=
 .seq (.seq (.ops [oM 13 0,oA 14 (.bin .geq (.t 13) (.c (.int .u64 256)))]) (.cond (.t 14) (.seq (.ops [oM 15 0,oA 16 (.bin .shr (.t 15) (.c (.int .u64 8))),oM 0 16]) (.ops [oM 17 2,oA 18 (.bin .add (.t 17) (.c (.int .i64 8))),oM 2 18])) (.skip))) (c0_3q)
def c2_3q : C :=
 .seq (.seq (.ops [oM 7 0,oA 8 (.bin .geq (.t 7) (.c (.int .u64 65536)))]) (.cond (.t 8) (.seq (.ops [oM 9 0,oA 10 (.bin .shr (.t 9) (.c (.int .u64 16))),oM 0 10]) (.ops [oM 11 2,oA 12 (.bin .add (.t 11) (.c (.int .i64 16))),oM 2 12])) (.skip))) (c1_3q)
def c3_3q : C :=
 .seq (.seq (.ops [oM 3 0,oA 4 (.bin .geq (.t 3) (.c (.int .u64 4294967296)))]) (.cond (.t 4) (.seq (.ops [oM 5 0,oA 6 (.bin .shr (.t 5) (.c (.int .u64 32))),oM 0 6]) (.ops [oA 2 (.mov (.c (.int .i64 32)))])) (.skip))) (c2_3q)
def c_3q : C :=
 .seq (.ops [oA 2 (.mov (.c (.int .i64 0)))]) (c3_3q)
def f_3q : F := ⟨c_3q, [.t 2], some []⟩
theorem h_3q : compF Tryz.prog (compAny Tryz.prog) n_3q = some (f_3q.body, f_3q.res) := by kernel_rfl
def c0_98 : C :=
 .seq (.ops [oM 24 0,oM 25 2,oM 26 10,oA 27 (.bin .sub (.t 25) (.t 26)),oM 28 2,oM 29 11,oM 30 4,oA 31 (.call n_9b [(.t 24),(.t 27),(.t 28),(.t 29),(.t 30)])]) (.ops [oM 32 10,oM 33 11,oA 34 (.bin .sub (.t 32) (.t 33)),oM 10 34])
def c1_98 : C :=
 .seq (.ops [oM 35 0,oM 36 2,oM 37 10,oA 38 (.bin .sub (.t 36) (.t 37)),oM 39 2,oM 40 11,oA 41 (.bin .add (.t 39) (.t 40)),oM 42 10,oA 43 (.bin .sub (.t 41) (.t 42)),oM 44 10,oM 45 4,oA 46 (.call n_9b [(.t 35),(.t 38),(.t 43),(.t 44),(.t 45)])]) (.ops [oM 47 11,oM 48 10,oA 49 (.bin .sub (.t 47) (.t 48)),oM 11 49])
def c2_98 : C :=
 .seq (.seq (.ops [oM 18 10,oM 19 11,oA 20 (.bin .neq (.t 18) (.t 19))]) (.cond (.t 20) (.skip) (.exit 0))) (.block 1 (.seq (.ops [oM 21 10,oM 22 11,oA 23 (.bin .gtr (.t 21) (.t 22))]) (.cond (.t 23) (c0_98) (c1_98))))
def c3_98 : C :=
 .ops [oM 50 0,oM 51 2,oM 52 10,oA 53 (.bin .sub (.t 51) (.t 52)),oM 54 2,oM 55 10,oM 56 4,oA 57 (.call n_9b [(.t 50),(.t 53),(.t 54),(.t 55),(.t 56)])]
def c_98 : C :=
 .seq (.ops [oM 12 2,oM 13 1,oA 14 (.bin .sub (.t 12) (.t 13)),oM 10 14]) (.seq (.ops [oM 15 3,oM 16 2,oA 17 (.bin .sub (.t 15) (.t 16)),oM 11 17]) (.seq (.block 0 (.loop c2_98)) (c3_98)))
def f_98 : F := ⟨c_98, [], some []⟩
theorem h_98 : compF Tryz.prog (compAny Tryz.prog) n_98 = some (f_98.body, f_98.res) := by kernel_rfl
def c0_99 : C :=
 .seq (.any 0 [.op 8 (oM 61 0),.op 9 (oM 62 3),.op 10 (oM 63 9),.op 11 (oA 64 (.bin .add (.t 62) (.t 63))),.op 12 (oA 65 (.ia 1 (.t 61) (.t 64))),.op 13 (oA 66 (.ld (.t 65))),.op 14 (oM 67 0),.op 15 (oM 68 3),.op 16 (oM 69 8),.op 17 (oA 70 (.bin .add (.t 68) (.t 69))),.op 18 (oA 71 (.ia 1 (.t 67) (.t 70))),.op 19 (oA 72 (.ld (.t 71))),.op 0 (oM 53 0),.op 1 (oM 54 3),.op 2 (oM 55 8),.op 3 (oA 56 (.bin .add (.t 54) (.t 55))),.op 20 (oA 73 (.ia 1 (.t 53) (.t 56))),.op 21 (oS (.st (.t 73) (.t 66))),.op 4 (oM 57 0),.op 5 (oM 58 3),.op 6 (oM 59 9),.op 7 (oA 60 (.bin .add (.t 58) (.t 59))),.op 22 (oA 74 (.ia 1 (.t 57) (.t 60))),.op 23 (oS (.st (.t 74) (.t 72)))]) (.ops [oM 75 9,oM 8 75])
def c1_99 : C :=
 .seq (.seq (.any 0 [.op 0 (oM 39 0),.op 1 (oM 40 3),.op 2 (oM 41 8),.op 3 (oA 42 (.bin .add (.t 40) (.t 41))),.op 4 (oA 43 (.ia 1 (.t 39) (.t 42))),.op 5 (oA 44 (.ld (.t 43))),.op 6 (oM 45 0),.op 7 (oM 46 3),.op 8 (oM 47 9),.op 9 (oA 48 (.bin .add (.t 46) (.t 47))),.op 10 (oA 49 (.ia 1 (.t 45) (.t 48))),.op 11 (oA 50 (.ld (.t 49))),.op 12 (oA 51 (.call n_15 [(.t 44),(.t 50)])),.op 13 (oA 52 (.un .not (.t 51)))]) (.cond (.t 52) (.ret) (.skip))) (c0_99)
def c2_99 : C :=
 .seq (.seq (.any 0 [.op 0 (oM 17 9),.op 1 (oA 18 (.bin .add (.t 17) (.c (.int .i64 1)))),.op 2 (oM 19 2),.op 3 (oA 20 (.bin .lss (.t 18) (.t 19))),.op 4 (oM 21 20),.op 5 (oT 22 21 (.mov (.t 0))),.op 6 (oT 23 21 (.mov (.t 3))),.op 7 (oT 24 21 (.mov (.t 9))),.op 8 (oT 25 21 (.bin .add (.t 23) (.t 24))),.op 9 (oT 26 21 (.ia 1 (.t 22) (.t 25))),.op 10 (oT 27 21 (.ld (.t 26))),.op 11 (oT 28 21 (.mov (.t 0))),.op 12 (oT 29 21 (.mov (.t 3))),.op 13 (oT 30 21 (.mov (.t 9))),.op 14 (oT 31 21 (.bin .add (.t 29) (.t 30))),.op 15 (oT 32 21 (.bin .add (.t 31) (.c (.int .i64 1)))),.op 16 (oT 33 21 (.ia 1 (.t 28) (.t 32))),.op 17 (oT 34 21 (.ld (.t 33))),.op 18 (oT 35 21 (.call n_15 [(.t 27),(.t 34)])),.op 19 (oA 36 (.pick (.t 21) (.t 35) (.c (.bool false))))]) (.cond (.t 36) (.ops [oM 37 9,oA 38 (.bin .add (.t 37) (.c (.int .i64 1))),oM 9 38]) (.skip))) (c1_99)
def c3_99 : C :=
 .block 1 (.seq (.ops [oM 11 8,oA 12 (.bin .mul (.c (.int .i64 2)) (.t 11)),oA 13 (.bin .add (.t 12) (.c (.int .i64 1))),oM 9 13]) (.seq (.seq (.ops [oM 14 9,oM 15 2,oA 16 (.bin .geq (.t 14) (.t 15))]) (.cond (.t 16) (.exit 0) (.skip))) (c2_99)))
def c_99 : C :=
 .seq (.ops [oM 10 1,oM 8 10]) (.block 0 (.loop c3_99))
def f_99 : F := ⟨c_99, [], some []⟩
theorem h_99 : compF Tryz.prog (compAny Tryz.prog) n_99 = some (f_99.body, f_99.res) := by kernel_rfl
def c_91 : C :=
 .seq (.ops [oA 2 (.mov (.c (.int .u64 0)))]) (.seq (.ops [oM 3 0,oA 4 (.conv .u64 (.t 3)),oA 5 (.call n_3o [(.t 4)]),oA 6 (.bin .shl (.c (.int .u64 1)) (.t 5)),oM 2 6]) (.ret))
def f_91 : F := ⟨c_91, [.t 2], some []⟩
theorem h_91 : compF Tryz.prog (compAny Tryz.prog) n_91 = some (f_91.body, f_91.res) := by kernel_rfl
def c0_9d : C :=
 .seq (.any 0 [.op 0 (oM 21 0),.op 1 (oA 22 (.nilc (.t 21))),.op 2 (oA 23 (.ld (.t 22))),.op 3 (oM 24 0),.op 4 (oA 25 (.nilc (.t 24))),.op 5 (oA 26 (.ld (.t 25))),.op 6 (oA 27 (.bin .shl (.t 26) (.c (.int .u64 17)))),.op 7 (oA 28 (.bin .xor (.t 23) (.t 27))),.op 8 (oA 29 (.nilc (.t 21))),.op 9 (oS (.st (.t 29) (.t 28)))]) (.seq (.ops [oM 30 0,oA 31 (.nilc (.t 30)),oA 32 (.ld (.t 31)),oM 2 32]) (.ret))
def c1_9d : C :=
 .seq (.any 0 [.op 0 (oM 12 0),.op 1 (oA 13 (.nilc (.t 12))),.op 2 (oA 14 (.ld (.t 13))),.op 3 (oM 15 0),.op 4 (oA 16 (.nilc (.t 15))),.op 5 (oA 17 (.ld (.t 16))),.op 6 (oA 18 (.bin .shr (.t 17) (.c (.int .u64 7)))),.op 7 (oA 19 (.bin .xor (.t 14) (.t 18))),.op 8 (oA 20 (.nilc (.t 12))),.op 9 (oS (.st (.t 20) (.t 19)))]) (c0_9d)
def c2_9d : C :=
 .seq (.any 0 [.op 0 (oM 3 0),.op 1 (oA 4 (.nilc (.t 3))),.op 2 (oA 5 (.ld (.t 4))),.op 3 (oM 6 0),.op 4 (oA 7 (.nilc (.t 6))),.op 5 (oA 8 (.ld (.t 7))),.op 6 (oA 9 (.bin .shl (.t 8) (.c (.int .u64 13)))),.op 7 (oA 10 (.bin .xor (.t 5) (.t 9))),.op 8 (oA 11 (.nilc (.t 3))),.op 9 (oS (.st (.t 11) (.t 10)))]) (c1_9d)
def c_9d : C :=
 .seq (.ops [oA 2 (.mov (.c (.int .u64 0)))]) (c2_9d)
def f_9d : F := ⟨c_9d, [.t 2], some []⟩
theorem h_9d : compF Tryz.prog (compAny Tryz.prog) n_9d = some (f_9d.body, f_9d.res) := by kernel_rfl
def c0_8z : C :=
 .seq (.ops [oM 7 0,oM 8 1,oA 9 (.bin .sub (.t 8) (.c (.int .i64 1))),oM 10 1,oM 11 1,oA 12 (.bin .add (.t 11) (.c (.int .i64 1))),oM 13 2,oA 14 (.call n_90 [(.t 7),(.t 9),(.t 10),(.t 12),(.t 13)]),oM 6 14]) (.ret)
def c_8z : C :=
 .seq (.ops [oA 6 (.mov (.c (.int .i64 0)))]) (c0_8z)
def f_8z : F := ⟨c_8z, [.t 6], some []⟩
theorem h_8z : compF Tryz.prog (compAny Tryz.prog) n_8z = some (f_8z.body, f_8z.res) := by kernel_rfl
def c0_90 : C :=
 .seq (.ops [oM 28 0,oM 29 1,oM 30 2,oM 31 4,oA 32 (.call n_92 [(.t 28),(.t 29),(.t 30),(.t 31)]),oM 27 32,oA 33 (.ext (.t 27) 0),oA 34 (.ext (.t 27) 1),oM 1 33,oM 2 34]) (.seq (.ops [oM 35 2,oM 10 35]) (.ret))
def c1_90 : C :=
 .seq (.ops [oM 20 0,oM 21 2,oM 22 3,oM 23 4,oA 24 (.call n_92 [(.t 20),(.t 21),(.t 22),(.t 23)]),oM 19 24,oA 25 (.ext (.t 19) 0),oA 26 (.ext (.t 19) 1),oM 2 25,oM 3 26]) (c0_90)
def c2_90 : C :=
 .seq (.ops [oM 12 0,oM 13 1,oM 14 2,oM 15 4,oA 16 (.call n_92 [(.t 12),(.t 13),(.t 14),(.t 15)]),oM 11 16,oA 17 (.ext (.t 11) 0),oA 18 (.ext (.t 11) 1),oM 1 17,oM 2 18]) (c1_90)
def c_90 : C :=
 .seq (.ops [oA 10 (.mov (.c (.int .i64 0)))]) (c2_90)
def f_90 : F := ⟨c_90, [.t 10], some []⟩
theorem h_90 : compF Tryz.prog (compAny Tryz.prog) n_90 = some (f_90.body, f_90.res) := by kernel_rfl
def c_16 : C :=
 .seq (.ops [oA 2 (.mov (.c (.bool false)))]) (.seq (.ops [oM 3 0,oM 4 0,oA 5 (.bin .neq (.t 3) (.t 4)),oM 2 5]) (.ret))
def f_16 : F := ⟨c_16, [.t 2], some []⟩
theorem h_16 : compF Tryz.prog (compAny Tryz.prog) n_16 = some (f_16.body, f_16.res) := by kernel_rfl
def c0_9b : C :=
 .seq (.block 1 (.any 0 [.op 8 (oM 24 0),.op 9 (oM 25 2),.op 10 (oM 26 10),.op 11 (oA 27 (.bin .add (.t 25) (.t 26))),.op 12 (oA 28 (.ia 3 (.t 24) (.t 27))),.op 13 (oA 29 (.ldn 3 (.t 28))),.op 14 (oM 30 0),.op 15 (oM 31 1),.op 16 (oM 32 10),.op 17 (oA 33 (.bin .add (.t 31) (.t 32))),.op 18 (oA 34 (.ia 3 (.t 30) (.t 33))),.op 19 (oA 35 (.ldn 3 (.t 34))),.op 0 (oM 16 0),.op 1 (oM 17 1),.op 2 (oM 18 10),.op 3 (oA 19 (.bin .add (.t 17) (.t 18))),.op 20 (oA 36 (.ia 3 (.t 16) (.t 19))),.op 21 (oS (.stn 3 (.t 36) (.t 29))),.op 4 (oM 20 0),.op 5 (oM 21 2),.op 6 (oM 22 10),.op 7 (oA 23 (.bin .add (.t 21) (.t 22))),.op 22 (oA 37 (.ia 3 (.t 20) (.t 23))),.op 23 (oS (.stn 3 (.t 37) (.t 35)))])) (.ops [oM 14 10,oA 15 (.bin .add (.t 14) (.c (.int .i64 1))),oM 10 15])
def c1_9b : C :=
 .seq (.seq (.ops [oM 11 10,oM 12 3,oA 13 (.bin .lss (.t 11) (.t 12))]) (.cond (.t 13) (.skip) (.exit 0))) (c0_9b)
def c_9b : C :=
 .seq (.ops [oA 10 (.mov (.c (.int .i64 0)))]) (.block 0 (.loop c1_9b))
def f_9b : F := ⟨c_9b, [], some []⟩
theorem h_9b : compF Tryz.prog (compAny Tryz.prog) n_9b = some (f_9b.body, f_9b.res) := by kernel_rfl
def c0_92 : C :=
 .seq (.ops [oM 19 3,oA 20 (.nilc (.t 19)),oA 21 (.ld (.t 20)),oA 22 (.bin .add (.t 21) (.c (.int .i64 1))),oA 23 (.nilc (.t 19)),oS (.st (.t 23) (.t 22))]) (.seq (.ops [oM 24 2,oM 25 1,oM 8 24,oM 9 25]) (.ret))
def c1_92 : C :=
 .seq (.seq (.any 0 [.op 0 (oM 10 0),.op 1 (oM 11 2),.op 2 (oA 12 (.ia 1 (.t 10) (.t 11))),.op 3 (oA 13 (.ld (.t 12))),.op 4 (oM 14 0),.op 5 (oM 15 1),.op 6 (oA 16 (.ia 1 (.t 14) (.t 15))),.op 7 (oA 17 (.ld (.t 16))),.op 8 (oA 18 (.call n_15 [(.t 13),(.t 17)]))]) (.cond (.t 18) (c0_92) (.skip))) (.seq (.ops [oM 26 1,oM 27 2,oM 8 26,oM 9 27]) (.ret))
def c_92 : C :=
 .seq (.ops [oA 8 (.mov (.c (.int .i64 0))),oA 9 (.mov (.c (.int .i64 0)))]) (c1_92)
def f_92 : F := ⟨c_92, [.t 8, .t 9], some []⟩
theorem h_92 : compF Tryz.prog (compAny Tryz.prog) n_92 = some (f_92.body, f_92.res) := by kernel_rfl
end Go.Proofs.YtoiiphcbkejliaaGreat.Cd

/- uart.take and uart.put: a SELECT of one case with a default: what each is worth. -/
namespace Go.Proofs.YtoiiphcbkejliaaGreat.Cd
open Go Go.Dx Go.Conc Go.RowKit
/-- What take does. -/
def sTake : Sp := fun args h => match args with
  | [.chan (some c)] => match h.get c with
    | some (.chan cap (.int .u8 n :: buf)) => some (.tuple #[.int .u8 n, .bool true], h.put c (some (.chan cap buf)))
    | some (.chan _ []) => some (.tuple #[.int .u8 0, .bool false], h)
    | _ => none
  | _ => none
/-- What put does. -/
def sPut : Sp := fun args h => match args with
  | [.chan (some c), .int .u8 n] => match h.get c with
    | some (.chan cap buf) => if buf.length < cap then some (.bool true, h.put c (some (.chan cap (buf ++ [.int .u8 n])))) else some (.bool false, h)
    | _ => none
  | _ => none
set_option maxRecDepth 100000 in
theorem take_ready {w : World} {c cap s r : Nat} {n : Int} {buf : Array Value} (hc : w.heap[c]? = some (.chan cap buf false s r false)) (hv : buf.getD 0 undef = .int .u8 n) (hs : 0 < buf.size) :
    Calls Tryz.prog 286 #[.chan (some c)] w fun e w' => e = .returned (.tuple #[.int .u8 n, .bool true]) ∧ w' = w.setChan c cap (buf.extract 1 buf.size) false s (r + 1) false := by
  refine calls_of_loneTo fun cs => ?_
  have e : Frame.enter Tryz.prog 286 #[.chan (some c)] .normal = (base 286).at ⟨#[.chan (some c), undef, undef, undef, undef, undef, undef, undef, undef, undef, undef], []⟩ [.code (Tryz.f286.body.getD .skip)] := by
    simp [Frame.enter, Frame.at, Tryz.func286, base, Tryz.f286]
  rw [e]
  refine LoneTo.goes (n := 30) ?_
  simp only [Tryz.f286, Option.getD_some]
  s_c stepG_seq
  s_reg
  s_op
  s_op
  s_c stepG_region_end
  s_c stepG_seq
  s_reg
  s_op
  s_c stepG_region_end
  s_c stepG_seq
  s_reg
  s_stop
  refine LoneTo.step (step_lone_select_recv_buf (c := c) (cap := cap) (buf := buf) (s := s) (r := r) (tm := false) (closed := false) (z := .int .u8 0) (stepG_comm (cases := #[rcase c (.int .u8 0)]) (blocking := false) (shape := .select) (w' := w) rfl rfl (by decide) (by simp [go_sem, execOp, rcase, Act.eval])) hc hs) ?_
  rw [Frame.finish_at, hv]
  walk_nrm
  refine LoneTo.goes (n := 30) ?_
  s_op
  s_op
  s_c stepG_region_end
  s_c stepG_block
  s_cond true
  s_c stepG_seq
  s_reg
  s_op
  s_op
  s_c stepG_region_end
  s_c stepG_seq
  s_reg
  s_op
  s_op
  s_op
  s_c stepG_region_end
  s_c stepG_ret'
  s_stop
  refine LoneTo.done ⟨.returned (.tuple #[.int .u8 n, .bool true]), _, rfl, ⟨rfl, rfl⟩, rfl, rfl, rfl, rfl, _, Tryz.func286, by simp [results, Tryz.f286, Frame.at]⟩
set_option maxRecDepth 100000 in
theorem take_none {w : World} {c cap s r : Nat} (hc : w.heap[c]? = some (.chan cap #[] false s r false)) :
    Calls Tryz.prog 286 #[.chan (some c)] w fun e w' => e = .returned (.tuple #[.int .u8 0, .bool false]) ∧ w' = w := by
  refine calls_of_loneTo fun cs => ?_
  have e : Frame.enter Tryz.prog 286 #[.chan (some c)] .normal = (base 286).at ⟨#[.chan (some c), undef, undef, undef, undef, undef, undef, undef, undef, undef, undef], []⟩ [.code (Tryz.f286.body.getD .skip)] := by
    simp [Frame.enter, Frame.at, Tryz.func286, base, Tryz.f286]
  rw [e]
  refine LoneTo.goes (n := 30) ?_
  simp only [Tryz.f286, Option.getD_some]
  s_c stepG_seq
  s_reg
  s_op
  s_op
  s_c stepG_region_end
  s_c stepG_seq
  s_reg
  s_op
  s_c stepG_region_end
  s_c stepG_seq
  s_reg
  s_stop
  refine LoneTo.step (step_lone_select_default (c := c) (cap := cap) (s := s) (r := r) (tm := false) (z := .int .u8 0) (stepG_comm (cases := #[rcase c (.int .u8 0)]) (blocking := false) (shape := .select) (w' := w) rfl rfl (by decide) (by simp [go_sem, execOp, rcase, Act.eval])) hc) ?_
  rw [Frame.finish_at]
  walk_nrm
  refine LoneTo.goes (n := 30) ?_
  s_op
  s_op
  s_c stepG_region_end
  s_c stepG_block
  s_cond false
  s_c stepG_seq
  s_reg
  s_op
  s_op
  s_c stepG_region_end
  s_c stepG_ret'
  s_stop
  refine LoneTo.done ⟨.returned (.tuple #[.int .u8 0, .bool false]), _, rfl, ⟨rfl, rfl⟩, rfl, rfl, rfl, rfl, _, Tryz.func286, by simp [results, Tryz.f286, Frame.at]⟩
set_option maxRecDepth 100000 in
theorem put_room {w : World} {c cap s r : Nat} {n : Int} {buf : Array Value} (hc : w.heap[c]? = some (.chan cap buf false s r false)) (hs : buf.size < cap) :
    Calls Tryz.prog 237 #[.chan (some c), .int .u8 n] w fun e w' => e = .returned (.bool true) ∧ w' = w.setChan c cap (buf.push (.int .u8 n)) false (s + 1) r false := by
  refine calls_of_loneTo fun cs => ?_
  have e : Frame.enter Tryz.prog 237 #[.chan (some c), .int .u8 n] .normal = (base 237).at ⟨#[.chan (some c), .int .u8 n, undef, undef, undef, undef, undef, undef, undef, undef], []⟩ [.code (Tryz.f237.body.getD .skip)] := by
    simp [Frame.enter, Frame.at, Tryz.func237, base, Tryz.f237]
  rw [e]
  refine LoneTo.goes (n := 30) ?_
  simp only [Tryz.f237, Option.getD_some]
  s_c stepG_seq
  s_reg
  s_op
  s_c stepG_region_end
  s_c stepG_seq
  s_c stepG_seq
  s_reg
  s_op
  s_c stepG_region_end
  s_reg
  s_op
  s_c stepG_region_end
  s_c stepG_seq
  s_reg
  s_stop
  refine LoneTo.step (step_lone_select_send_room (c := c) (cap := cap) (buf := buf) (s := s) (r := r) (tm := false) (stepG_comm (cases := #[scase c (.int .u8 n) (.int .u8 0)]) (blocking := false) (shape := .select) (w' := w) rfl rfl (by decide) (by simp [go_sem, execOp, scase, Act.eval])) hc hs) ?_
  rw [Frame.finish_at]
  walk_nrm
  refine LoneTo.goes (n := 30) ?_
  s_op
  s_op
  s_c stepG_region_end
  s_c stepG_block
  s_cond true
  s_c stepG_seq
  s_reg
  s_op
  s_c stepG_region_end
  s_c stepG_ret'
  s_stop
  refine LoneTo.done ⟨.returned (.bool true), _, rfl, ⟨rfl, rfl⟩, rfl, rfl, rfl, rfl, _, Tryz.func237, by simp [results, Tryz.f237, Frame.at]⟩
set_option maxRecDepth 100000 in
theorem put_full {w : World} {c cap s r : Nat} {n : Int} {buf : Array Value} (hc : w.heap[c]? = some (.chan cap buf false s r false)) (hs : cap ≤ buf.size) :
    Calls Tryz.prog 237 #[.chan (some c), .int .u8 n] w fun e w' => e = .returned (.bool false) ∧ w' = w := by
  refine calls_of_loneTo fun cs => ?_
  have e : Frame.enter Tryz.prog 237 #[.chan (some c), .int .u8 n] .normal = (base 237).at ⟨#[.chan (some c), .int .u8 n, undef, undef, undef, undef, undef, undef, undef, undef], []⟩ [.code (Tryz.f237.body.getD .skip)] := by
    simp [Frame.enter, Frame.at, Tryz.func237, base, Tryz.f237]
  rw [e]
  refine LoneTo.goes (n := 30) ?_
  simp only [Tryz.f237, Option.getD_some]
  s_c stepG_seq
  s_reg
  s_op
  s_c stepG_region_end
  s_c stepG_seq
  s_c stepG_seq
  s_reg
  s_op
  s_c stepG_region_end
  s_reg
  s_op
  s_c stepG_region_end
  s_c stepG_seq
  s_reg
  s_stop
  refine LoneTo.step (step_lone_select_send_full (c := c) (cap := cap) (buf := buf) (s := s) (r := r) (tm := false) (stepG_comm (cases := #[scase c (.int .u8 n) (.int .u8 0)]) (blocking := false) (shape := .select) (w' := w) rfl rfl (by decide) (by simp [go_sem, execOp, scase, Act.eval])) hc hs) ?_
  rw [Frame.finish_at]
  walk_nrm
  refine LoneTo.goes (n := 30) ?_
  s_op
  s_op
  s_c stepG_region_end
  s_c stepG_block
  s_cond false
  s_c stepG_seq
  s_reg
  s_op
  s_c stepG_region_end
  s_c stepG_ret'
  s_stop
  refine LoneTo.done ⟨.returned (.bool false), _, rfl, ⟨rfl, rfl⟩, rfl, rfl, rfl, rfl, _, Tryz.func237, by simp [results, Tryz.f237, Frame.at]⟩
theorem vr_two {φ : Phi} {a b a' b' : Value} (h1 : VR φ a a') (h2 : VR φ b b') : VR φ (.tuple #[a, b]) (.tuple #[a', b']) := .tuple _ _ rfl fun i hi => by
  have : i = 0 ∨ i = 1 := by simp at hi; omega
  rcases this with rfl | rfl
  · exact h1
  · exact h2
theorem lr_nil {φ : Phi} {l : List Value} (h : LR φ [] l) : l = [] := List.length_eq_zero_iff.1 (by rw [← h.1]; rfl)
theorem take_ok : SpecOK Tryz.prog 286 sTake := by
  intro args h v h' hs
  have hcal : callable Tryz.prog 286 = true := by kernel_rfl
  unfold sTake at hs
  split at hs
  case h_2 => cases hs
  rename_i c
  split at hs
  · rename_i cap n buf hg
    cases hs
    refine ⟨hcal, .put (.inl (by simp [hg])), fun φ w args' hl hr => ?_⟩
    obtain ⟨u, k, rfl, hv, hl2⟩ := hl.head
    obtain rfl := lr_nil hl2
    cases hv with
    | chan hφ =>
      rename_i b' m
      obtain ⟨b2, m2, hφ2, arr, s, r, hc, hlr⟩ := hr.live c _ hg
      rw [hφ] at hφ2
      cases hφ2
      obtain ⟨x, k, ha, hx, hlk⟩ := hlr.head
      cases hx
      have hsz : 0 < arr.size := by
        have := congrArg List.length ha
        simp at this
        omega
      have h0 : arr.getD 0 undef = .int .u8 n := by
        rw [Array.getD_eq_getD_getElem?, ← Array.getElem?_toList, ha]
        rfl
      refine (take_ready hc h0 hsz).mono fun e w' ⟨he, hw⟩ => ⟨φ, _, he, ?_, vr_two (.int ..) (.bool ..)⟩
      subst hw
      refine Ext.set hr hg (by simp [Hp.wrt, hg]) hφ (x' := .chan cap (arr.extract 1 arr.size) false s (r + 1) false) rfl rfl rfl rfl ⟨arr.extract 1 arr.size, s, r + 1, heap_setChan w b' cap (arr.extract 1 arr.size) false s (r + 1) false (Array.getElem?_eq_some_iff.1 hc).1, ?_⟩
      have hk : arr.size = k.length + 1 := by
        have := congrArg List.length ha
        simpa using this
      rw [Array.toList_extract, ha, hk]
      simpa using hlk
  · rename_i cap hg
    cases hs
    refine ⟨hcal, .refl _, fun φ w args' hl hr => ?_⟩
    obtain ⟨u, k, rfl, hv, hl2⟩ := hl.head
    obtain rfl := lr_nil hl2
    cases hv with
    | chan hφ =>
      rename_i b' m
      obtain ⟨b2, m2, hφ2, arr, s, r, hc, hlr⟩ := hr.live c _ hg
      rw [hφ] at hφ2
      cases hφ2
      have ha : arr = #[] := by
        have := lr_nil hlr
        simpa using this
      subst ha
      refine (take_none hc).mono fun e w' ⟨he, hw⟩ => ⟨φ, _, he, ?_, vr_two (.int ..) (.bool ..)⟩
      subst hw
      exact .refl hr
  · cases hs
theorem put_ok : SpecOK Tryz.prog 237 sPut := by
  intro args h v h' hs
  have hcal : callable Tryz.prog 237 = true := by kernel_rfl
  unfold sPut at hs
  split at hs
  case h_2 => cases hs
  rename_i c n
  split at hs
  case h_2 => cases hs
  rename_i cap buf hg
  split at hs
  · rename_i hlt
    cases hs
    refine ⟨hcal, .put (.inl (by simp [hg])), fun φ w args' hl hr => ?_⟩
    obtain ⟨u, k, rfl, hv, hl2⟩ := hl.head
    obtain ⟨u2, k2, rfl, hv2, hl3⟩ := hl2.head
    obtain rfl := lr_nil hl3
    cases hv2
    cases hv with
    | chan hφ =>
      rename_i b' m
      obtain ⟨b2, m2, hφ2, arr, s, r, hc, hlr⟩ := hr.live c _ hg
      rw [hφ] at hφ2
      cases hφ2
      have hsz : arr.size = buf.length := by rw [hlr.1]; simp
      refine (put_room hc (by omega)).mono fun e w' ⟨he, hw⟩ => ⟨φ, _, he, ?_, .bool ..⟩
      subst hw
      refine Ext.set hr hg (by simp [Hp.wrt, hg]) hφ (x' := .chan cap (arr.push (.int .u8 n)) false (s + 1) r false) rfl rfl rfl rfl ⟨arr.push (.int .u8 n), s + 1, r, heap_setChan w b' cap (arr.push (.int .u8 n)) false (s + 1) r false (Array.getElem?_eq_some_iff.1 hc).1, ?_⟩
      rw [Array.toList_push]
      exact hlr.append (.cons (.int ..) (.nil _))
  · rename_i hlt
    cases hs
    refine ⟨hcal, .refl _, fun φ w args' hl hr => ?_⟩
    obtain ⟨u, k, rfl, hv, hl2⟩ := hl.head
    obtain ⟨u2, k2, rfl, hv2, hl3⟩ := hl2.head
    obtain rfl := lr_nil hl3
    cases hv2
    cases hv with
    | chan hφ =>
      rename_i b' m
      obtain ⟨b2, m2, hφ2, arr, s, r, hc, hlr⟩ := hr.live c _ hg
      rw [hφ] at hφ2
      cases hφ2
      have hsz : arr.size = buf.length := by rw [hlr.1]; simp
      refine (put_full hc (by omega)).mono fun e w' ⟨he, hw⟩ => ⟨φ, _, he, ?_, .bool ..⟩
      subst hw
      exact .refl hr
end Go.Proofs.YtoiiphcbkejliaaGreat.Cd
