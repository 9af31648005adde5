/- Texts of one kind, one behind the other. -/
import Derived.Test.YtmgoleiafiffoaaGreatMd0
import Derived.Test.YtmgoleiafiffoaaGreatMc0
set_option maxRecDepth 100000
set_option linter.defProp false
namespace Go.Proofs.YtmgoleiafiffoaaGreat.Cd
open Go Go.Dx
def c0_39 : C :=
 .seq (.ops [⟨some 1,none,.build [(.int .i64 0),(.int .i64 0),(.int .i64 0),(.string .empty)] [(0,1,(.c (.int .i64 1))),(1,1,(.c (.int .i64 0))),(2,1,(.c (.int .i64 36))),(3,1,(.c (.string ⟨#[115,105]⟩)))]⟩,⟨some 2,none,.build [(.int .i64 0),(.int .i64 0),(.int .i64 0),(.string .empty)] [(0,1,(.c (.int .i64 1))),(1,1,(.c (.int .i64 1))),(2,1,(.c (.int .i64 37))),(3,1,(.c (.string ⟨#[115,105]⟩)))]⟩,⟨some 3,none,.build [(.int .i64 0),(.int .i64 0),(.int .i64 0),(.string .empty)] [(0,1,(.c (.int .i64 1))),(1,1,(.c (.int .i64 16))),(2,1,(.c (.int .i64 38))),(3,1,(.c (.string ⟨#[115,105]⟩)))]⟩,⟨some 4,none,.build [(.int .i64 0),(.int .i64 0),(.int .i64 0),(.string .empty)] [(0,1,(.c (.int .i64 1))),(1,1,(.c (.int .i64 17))),(2,1,(.c (.int .i64 39))),(3,1,(.c (.string ⟨#[115,105]⟩)))]⟩,⟨some 5,none,.build [(.int .i64 0),(.int .i64 0),(.int .i64 0),(.string .empty)] [(0,1,(.c (.int .i64 16))),(1,1,(.c (.int .i64 0))),(2,1,(.c (.int .i64 54))),(3,1,(.c (.string ⟨#[116,100]⟩)))]⟩,⟨some 6,none,.build [(.int .i64 0),(.int .i64 0),(.int .i64 0),(.string .empty)] [(0,1,(.c (.int .i64 16))),(1,1,(.c (.int .i64 4))),(2,1,(.c (.int .i64 55))),(3,1,(.c (.string ⟨#[116,100]⟩)))]⟩,oA 7 (.build [(.int .i64 0),(.int .i64 0),(.int .i64 0),(.string .empty)] [(0,1,(.c (.int .i64 16))),(1,1,(.c (.int .i64 65))),(2,1,(.c (.int .i64 56))),(3,1,(.c (.string .empty)))]),oA 8 (.build [(.int .i64 0),(.int .i64 0),(.int .i64 0),(.string .empty)] [(0,1,(.c (.int .i64 16))),(1,1,(.c (.int .i64 66))),(2,1,(.c (.int .i64 57))),(3,1,(.c (.string .empty)))]),oA 9 (.build [(.int .i64 0),(.int .i64 0),(.int .i64 0),(.string .empty)] [(0,1,(.c (.int .i64 16))),(1,1,(.c (.int .i64 70))),(2,1,(.c (.int .i64 58))),(3,1,(.c (.string .empty)))]),oA 10 (.build [(.int .i64 0),(.int .i64 0),(.int .i64 0),(.string .empty)] [(0,1,(.c (.int .i64 16))),(1,1,(.c (.int .i64 72))),(2,1,(.c (.int .i64 59))),(3,1,(.c (.string .empty)))]),oA 11 (.build [(.int .i64 0),(.int .i64 0),(.int .i64 0),(.string .empty)] [(0,1,(.c (.int .i64 16))),(1,1,(.c (.int .i64 88))),(2,1,(.c (.int .i64 60))),(3,1,(.c (.string .empty)))]),oA 12 (.build [(.int .i64 0),(.int .i64 0),(.int .i64 0),(.string .empty)] [(0,1,(.c (.int .i64 16))),(1,1,(.c (.int .i64 96))),(2,1,(.c (.int .i64 61))),(3,1,(.c (.string .empty)))]),⟨some 13,none,.build [(.int .i64 0),(.int .i64 0),(.int .i64 0),(.string .empty)] [(0,1,(.c (.int .i64 28))),(1,1,(.c (.int .i64 2))),(2,1,(.c (.int .i64 63))),(3,1,(.c (.string ⟨#[115,116,100]⟩)))]⟩,⟨some 14,none,.build [(.int .i64 0),(.int .i64 0),(.int .i64 0),(.string .empty)] [(0,1,(.c (.int .i64 28))),(1,1,(.c (.int .i64 32))),(2,1,(.c (.int .i64 64))),(3,1,(.c (.string ⟨#[115,100]⟩)))]⟩,⟨some 15,none,.build [(.int .i64 0),(.int .i64 0),(.int .i64 0),(.string .empty)] [(0,1,(.c (.int .i64 28))),(1,1,(.c (.int .i64 33))),(2,1,(.c (.int .i64 65))),(3,1,(.c (.string ⟨#[115,100]⟩)))]⟩,oA 16 (.bsl 15 [(.int .i64 0),(.int .i64 0),(.int .i64 0),(.string .empty),(.int .i64 0),(.int .i64 0),(.int .i64 0),(.string .empty),(.int .i64 0),(.int .i64 0),(.int .i64 0),(.string .empty),(.int .i64 0),(.int .i64 0),(.int .i64 0),(.string .empty),(.int .i64 0),(.int .i64 0),(.int .i64 0),(.string .empty),(.int .i64 0),(.int .i64 0),(.int .i64 0),(.string .empty),(.int .i64 0),(.int .i64 0),(.int .i64 0),(.string .empty),(.int .i64 0),(.int .i64 0),(.int .i64 0),(.string .empty),(.int .i64 0),(.int .i64 0),(.int .i64 0),(.string .empty),(.int .i64 0),(.int .i64 0),(.int .i64 0),(.string .empty),(.int .i64 0),(.int .i64 0),(.int .i64 0),(.string .empty),(.int .i64 0),(.int .i64 0),(.int .i64 0),(.string .empty),(.int .i64 0),(.int .i64 0),(.int .i64 0),(.string .empty),(.int .i64 0),(.int .i64 0),(.int .i64 0),(.string .empty),(.int .i64 0),(.int .i64 0),(.int .i64 0),(.string .empty)] [(0,4,(.t 1)),(4,4,(.t 2)),(8,4,(.t 3)),(12,4,(.t 4)),(16,4,(.t 5)),(20,4,(.t 6)),(24,4,(.t 7)),(28,4,(.t 8)),(32,4,(.t 9)),(36,4,(.t 10)),(40,4,(.t 11)),(44,4,(.t 12)),(48,4,(.t 13)),(52,4,(.t 14)),(56,4,(.t 15))]),oM 0 16]) (.ret)
def c_39 : C :=
 .seq (.ops [oA 0 (.mov (.c (.slice none 0 0)))]) (c0_39)
def f_39 : F := ⟨c_39, [.t 0], some []⟩
theorem h_39 : compF Tryz.prog (compAny Tryz.prog) n_39 = some (f_39.body, f_39.res) := by kernel_rfl
def c0_3a : C :=
 .seq (.ops [⟨some 1,none,.build [(.int .i64 0),(.int .i64 0),(.int .i64 0),(.string .empty)] [(0,1,(.c (.int .i64 2))),(1,1,(.c (.int .i64 0))),(2,1,(.c (.int .i64 40))),(3,1,(.c (.string ⟨#[106]⟩)))]⟩,⟨some 2,none,.build [(.int .i64 0),(.int .i64 0),(.int .i64 0),(.string .empty)] [(0,1,(.c (.int .i64 3))),(1,1,(.c (.int .i64 0))),(2,1,(.c (.int .i64 41))),(3,1,(.c (.string ⟨#[106]⟩)))]⟩,⟨some 3,none,.build [(.int .i64 0),(.int .i64 0),(.int .i64 0),(.string .empty)] [(0,1,(.c (.int .i64 4))),(1,1,(.c (.int .i64 0))),(2,1,(.c (.int .i64 42))),(3,1,(.c (.string ⟨#[115,116,105]⟩)))]⟩,⟨some 4,none,.build [(.int .i64 0),(.int .i64 0),(.int .i64 0),(.string .empty)] [(0,1,(.c (.int .i64 5))),(1,1,(.c (.int .i64 0))),(2,1,(.c (.int .i64 43))),(3,1,(.c (.string ⟨#[115,116,105]⟩)))]⟩,⟨some 5,none,.build [(.int .i64 0),(.int .i64 0),(.int .i64 0),(.string .empty)] [(0,1,(.c (.int .i64 6))),(1,1,(.c (.int .i64 0))),(2,1,(.c (.int .i64 44))),(3,1,(.c (.string ⟨#[115,105]⟩)))]⟩,⟨some 6,none,.build [(.int .i64 0),(.int .i64 0),(.int .i64 0),(.string .empty)] [(0,1,(.c (.int .i64 7))),(1,1,(.c (.int .i64 0))),(2,1,(.c (.int .i64 45))),(3,1,(.c (.string ⟨#[115,105]⟩)))]⟩,⟨some 7,none,.build [(.int .i64 0),(.int .i64 0),(.int .i64 0),(.string .empty)] [(0,1,(.c (.int .i64 8))),(1,1,(.c (.int .i64 0))),(2,1,(.c (.int .i64 46))),(3,1,(.c (.string ⟨#[115,116,105]⟩)))]⟩,⟨some 8,none,.build [(.int .i64 0),(.int .i64 0),(.int .i64 0),(.string .empty)] [(0,1,(.c (.int .i64 9))),(1,1,(.c (.int .i64 0))),(2,1,(.c (.int .i64 47))),(3,1,(.c (.string ⟨#[115,116,105]⟩)))]⟩,⟨some 9,none,.build [(.int .i64 0),(.int .i64 0),(.int .i64 0),(.string .empty)] [(0,1,(.c (.int .i64 10))),(1,1,(.c (.int .i64 0))),(2,1,(.c (.int .i64 48))),(3,1,(.c (.string ⟨#[115,116,105]⟩)))]⟩,⟨some 10,none,.build [(.int .i64 0),(.int .i64 0),(.int .i64 0),(.string .empty)] [(0,1,(.c (.int .i64 11))),(1,1,(.c (.int .i64 0))),(2,1,(.c (.int .i64 49))),(3,1,(.c (.string ⟨#[115,116,105]⟩)))]⟩,⟨some 11,none,.build [(.int .i64 0),(.int .i64 0),(.int .i64 0),(.string .empty)] [(0,1,(.c (.int .i64 12))),(1,1,(.c (.int .i64 0))),(2,1,(.c (.int .i64 50))),(3,1,(.c (.string ⟨#[115,116,105]⟩)))]⟩,⟨some 12,none,.build [(.int .i64 0),(.int .i64 0),(.int .i64 0),(.string .empty)] [(0,1,(.c (.int .i64 13))),(1,1,(.c (.int .i64 0))),(2,1,(.c (.int .i64 51))),(3,1,(.c (.string ⟨#[115,116,105]⟩)))]⟩,⟨some 13,none,.build [(.int .i64 0),(.int .i64 0),(.int .i64 0),(.string .empty)] [(0,1,(.c (.int .i64 14))),(1,1,(.c (.int .i64 0))),(2,1,(.c (.int .i64 52))),(3,1,(.c (.string ⟨#[115,116,105]⟩)))]⟩,⟨some 14,none,.build [(.int .i64 0),(.int .i64 0),(.int .i64 0),(.string .empty)] [(0,1,(.c (.int .i64 15))),(1,1,(.c (.int .i64 0))),(2,1,(.c (.int .i64 53))),(3,1,(.c (.string ⟨#[116,105]⟩)))]⟩,oA 15 (.build [(.int .i64 0),(.int .i64 0),(.int .i64 0),(.string .empty)] [(0,1,(.c (.int .i64 17))),(1,1,(.c (.int .i64 0))),(2,1,(.c (.int .i64 62))),(3,1,(.c (.string .empty)))]),⟨some 16,none,.build [(.int .i64 0),(.int .i64 0),(.int .i64 0),(.string .empty)] [(0,1,(.c (.int .i64 32))),(1,1,(.c (.int .i64 0))),(2,1,(.c (.int .i64 66))),(3,1,(.c (.string ⟨#[115,116,105]⟩)))]⟩,⟨some 17,none,.build [(.int .i64 0),(.int .i64 0),(.int .i64 0),(.string .empty)] [(0,1,(.c (.int .i64 33))),(1,1,(.c (.int .i64 0))),(2,1,(.c (.int .i64 67))),(3,1,(.c (.string ⟨#[115,116,105]⟩)))]⟩,⟨some 18,none,.build [(.int .i64 0),(.int .i64 0),(.int .i64 0),(.string .empty)] [(0,1,(.c (.int .i64 35))),(1,1,(.c (.int .i64 0))),(2,1,(.c (.int .i64 68))),(3,1,(.c (.string ⟨#[115,116,105]⟩)))]⟩,⟨some 19,none,.build [(.int .i64 0),(.int .i64 0),(.int .i64 0),(.string .empty)] [(0,1,(.c (.int .i64 36))),(1,1,(.c (.int .i64 0))),(2,1,(.c (.int .i64 69))),(3,1,(.c (.string ⟨#[115,116,105]⟩)))]⟩,⟨some 20,none,.build [(.int .i64 0),(.int .i64 0),(.int .i64 0),(.string .empty)] [(0,1,(.c (.int .i64 37))),(1,1,(.c (.int .i64 0))),(2,1,(.c (.int .i64 70))),(3,1,(.c (.string ⟨#[115,116,105]⟩)))]⟩,⟨some 21,none,.build [(.int .i64 0),(.int .i64 0),(.int .i64 0),(.string .empty)] [(0,1,(.c (.int .i64 40))),(1,1,(.c (.int .i64 0))),(2,1,(.c (.int .i64 71))),(3,1,(.c (.string ⟨#[115,116,105]⟩)))]⟩,⟨some 22,none,.build [(.int .i64 0),(.int .i64 0),(.int .i64 0),(.string .empty)] [(0,1,(.c (.int .i64 41))),(1,1,(.c (.int .i64 0))),(2,1,(.c (.int .i64 72))),(3,1,(.c (.string ⟨#[115,116,105]⟩)))]⟩,⟨some 23,none,.build [(.int .i64 0),(.int .i64 0),(.int .i64 0),(.string .empty)] [(0,1,(.c (.int .i64 43))),(1,1,(.c (.int .i64 0))),(2,1,(.c (.int .i64 73))),(3,1,(.c (.string ⟨#[115,116,105]⟩)))]⟩,oA 24 (.build [(.int .i64 0),(.int .i64 0),(.int .i64 0),(.string .empty)] [(0,1,(.c (.int .i64 47))),(1,1,(.c (.int .i64 0))),(2,1,(.c (.int .i64 76))),(3,1,(.c (.string .empty)))]),⟨some 25,none,.build [(.int .i64 0),(.int .i64 0),(.int .i64 0),(.string .empty)] [(0,1,(.c (.int .i64 48))),(1,1,(.c (.int .i64 0))),(2,1,(.c (.int .i64 74))),(3,1,(.c (.string ⟨#[115,116,105]⟩)))]⟩,oA 26 (.build [(.int .i64 0),(.int .i64 0),(.int .i64 0),(.string .empty)] [(0,1,(.c (.int .i64 51))),(1,1,(.c (.int .i64 0))),(2,1,(.c (.int .i64 77))),(3,1,(.c (.string .empty)))]),⟨some 27,none,.build [(.int .i64 0),(.int .i64 0),(.int .i64 0),(.string .empty)] [(0,1,(.c (.int .i64 56))),(1,1,(.c (.int .i64 0))),(2,1,(.c (.int .i64 75))),(3,1,(.c (.string ⟨#[115,116,105]⟩)))]⟩,oA 28 (.bsl 27 [(.int .i64 0),(.int .i64 0),(.int .i64 0),(.string .empty),(.int .i64 0),(.int .i64 0),(.int .i64 0),(.string .empty),(.int .i64 0),(.int .i64 0),(.int .i64 0),(.string .empty),(.int .i64 0),(.int .i64 0),(.int .i64 0),(.string .empty),(.int .i64 0),(.int .i64 0),(.int .i64 0),(.string .empty),(.int .i64 0),(.int .i64 0),(.int .i64 0),(.string .empty),(.int .i64 0),(.int .i64 0),(.int .i64 0),(.string .empty),(.int .i64 0),(.int .i64 0),(.int .i64 0),(.string .empty),(.int .i64 0),(.int .i64 0),(.int .i64 0),(.string .empty),(.int .i64 0),(.int .i64 0),(.int .i64 0),(.string .empty),(.int .i64 0),(.int .i64 0),(.int .i64 0),(.string .empty),(.int .i64 0),(.int .i64 0),(.int .i64 0),(.string .empty),(.int .i64 0),(.int .i64 0),(.int .i64 0),(.string .empty),(.int .i64 0),(.int .i64 0),(.int .i64 0),(.string .empty),(.int .i64 0),(.int .i64 0),(.int .i64 0),(.string .empty),(.int .i64 0),(.int .i64 0),(.int .i64 0),(.string .empty),(.int .i64 0),(.int .i64 0),(.int .i64 0),(.string .empty),(.int .i64 0),(.int .i64 0),(.int .i64 0),(.string .empty),(.int .i64 0),(.int .i64 0),(.int .i64 0),(.string .empty),(.int .i64 0),(.int .i64 0),(.int .i64 0),(.string .empty),(.int .i64 0),(.int .i64 0),(.int .i64 0),(.string .empty),(.int .i64 0),(.int .i64 0),(.int .i64 0),(.string .empty),(.int .i64 0),(.int .i64 0),(.int .i64 0),(.string .empty),(.int .i64 0),(.int .i64 0),(.int .i64 0),(.string .empty),(.int .i64 0),(.int .i64 0),(.int .i64 0),(.string .empty),(.int .i64 0),(.int .i64 0),(.int .i64 0),(.string .empty),(.int .i64 0),(.int .i64 0),(.int .i64 0),(.string .empty)] [(0,4,(.t 1)),(4,4,(.t 2)),(8,4,(.t 3)),(12,4,(.t 4)),(16,4,(.t 5)),(20,4,(.t 6)),(24,4,(.t 7)),(28,4,(.t 8)),(32,4,(.t 9)),(36,4,(.t 10)),(40,4,(.t 11)),(44,4,(.t 12)),(48,4,(.t 13)),(52,4,(.t 14)),(56,4,(.t 15)),(60,4,(.t 16)),(64,4,(.t 17)),(68,4,(.t 18)),(72,4,(.t 19)),(76,4,(.t 20)),(80,4,(.t 21)),(84,4,(.t 22)),(88,4,(.t 23)),(92,4,(.t 24)),(96,4,(.t 25)),(100,4,(.t 26)),(104,4,(.t 27))]),oM 0 28]) (.ret)
def c_3a : C :=
 .seq (.ops [oA 0 (.mov (.c (.slice none 0 0)))]) (c0_3a)
def f_3a : F := ⟨c_3a, [.t 0], some []⟩
theorem h_3a : compF Tryz.prog (compAny Tryz.prog) n_3a = some (f_3a.body, f_3a.res) := by kernel_rfl
def c0_2v : C :=
 .seq (.seq (.ops [oM 5 1,oM 6 5,oT 7 6 (.mov (.t 0)),oT 8 6 (.bin .geq (.t 7) (.c (.int .u32 2147483648))),oA 9 (.pick (.t 6) (.t 8) (.c (.bool false)))]) (.cond (.t 9) (.seq (.ops [oM 10 0,oA 11 (.conv .i64 (.t 10)),oA 12 (.bin .sub (.t 11) (.c (.int .i64 4294967296))),oM 4 12]) (.ret)) (.skip))) (.seq (.ops [oM 13 0,oA 14 (.conv .i64 (.t 13)),oM 4 14]) (.ret))
def c_2v : C :=
 .seq (.ops [oA 4 (.mov (.c (.int .i64 0)))]) (c0_2v)
def f_2v : F := ⟨c_2v, [.t 4], some []⟩
theorem h_2v : compF Tryz.prog (compAny Tryz.prog) n_2v = some (f_2v.body, f_2v.res) := by kernel_rfl
def c0_3o : C :=
 .cond (.t 14) (.seq (.ops [oM 16 1,oM 17 7,oA 18 (.bin .shl (.t 16) (.t 17)),oM 6 18]) (.ret)) (.seq (.ops [oA 20 (.bin .eql (.t 13) (.c (.int .i64 1))),oM 19 20]) (.cond (.t 19) (.seq (.ops [oM 21 1,oM 22 7,oA 23 (.bin .shr (.t 21) (.t 22)),oM 6 23]) (.ret)) (.skip)))
def c1_3o : C :=
 .seq (.seq (.ops [oM 13 0]) (.block 0 (.seq (.ops [oA 15 (.bin .eql (.t 13) (.c (.int .i64 0))),oM 14 15]) (c0_3o)))) (.seq (.ops [oM 24 1,oM 25 2,oA 26 (.call n_2t [(.t 24),(.t 25)]),oM 6 26]) (.ret))
def c_3o : C :=
 .seq (.ops [oA 6 (.mov (.c (.int .u32 0)))]) (.seq (.ops [oM 8 2,oA 9 (.bin .rem (.t 8) (.c (.int .i64 32))),oA 10 (.bin .add (.t 9) (.c (.int .i64 32))),oA 11 (.bin .rem (.t 10) (.c (.int .i64 32))),oA 12 (.conv .u64 (.t 11)),oM 7 12]) (c1_3o))
def f_3o : F := ⟨c_3o, [.t 6], some []⟩
theorem h_3o : compF Tryz.prog (compAny Tryz.prog) n_3o = some (f_3o.body, f_3o.res) := by kernel_rfl
def c_3n : C :=
 .seq (.ops [oA 2 (.mov (.c (.int .u32 0)))]) (.seq (.seq (.ops [oM 3 0]) (.cond (.t 3) (.seq (.ops [oA 2 (.mov (.c (.int .u32 1)))]) (.ret)) (.skip))) (.seq (.ops [oA 2 (.mov (.c (.int .u32 0)))]) (.ret)))
def f_3n : F := ⟨c_3n, [.t 2], some []⟩
theorem h_3n : compF Tryz.prog (compAny Tryz.prog) n_3n = some (f_3n.body, f_3n.res) := by kernel_rfl
def c0_3i : C :=
 .seq (.ops [oM 3 0,oA 4 (.bin .geq (.t 3) (.c (.int .i64 1))),oM 5 4,oT 6 5 (.mov (.t 0)),oT 7 5 (.bin .leq (.t 6) (.c (.int .i64 6))),oA 8 (.pick (.t 5) (.t 7) (.c (.bool false))),oM 9 8,oF 10 9 (.mov (.t 0)),oF 11 9 (.bin .geq (.t 10) (.c (.int .i64 22))),oF 12 9 (.mov (.t 11)),oT 13 12 (.mov (.t 0)),oT 14 12 (.bin .leq (.t 13) (.c (.int .i64 31))),oF 15 9 (.pick (.t 12) (.t 14) (.c (.bool false))),oA 16 (.pick (.t 9) (.c (.bool true)) (.t 15)),oM 17 16,oF 18 17 (.mov (.t 0)),oF 19 17 (.bin .geq (.t 18) (.c (.int .i64 46))),oF 20 17 (.mov (.t 19)),oT 21 20 (.mov (.t 0)),oT 22 20 (.bin .leq (.t 21) (.c (.int .i64 53))),oF 23 17 (.pick (.t 20) (.t 22) (.c (.bool false))),oA 24 (.pick (.t 17) (.c (.bool true)) (.t 23)),oM 25 24,oF 26 25 (.mov (.t 0)),oF 27 25 (.bin .eql (.t 26) (.c (.int .i64 63))),oA 28 (.pick (.t 25) (.c (.bool true)) (.t 27)),oM 29 28,oF 30 29 (.mov (.t 0)),oF 31 29 (.bin .eql (.t 30) (.c (.int .i64 64))),oA 32 (.pick (.t 29) (.c (.bool true)) (.t 31)),oM 33 32,oF 34 33 (.mov (.t 0)),oF 35 33 (.bin .eql (.t 34) (.c (.int .i64 65))),oA 36 (.pick (.t 33) (.c (.bool true)) (.t 35)),oM 2 36]) (.ret)
def c_3i : C :=
 .seq (.ops [oA 2 (.mov (.c (.bool false)))]) (c0_3i)
def f_3i : F := ⟨c_3i, [.t 2], some []⟩
theorem h_3i : compF Tryz.prog (compAny Tryz.prog) n_3i = some (f_3i.body, f_3i.res) := by kernel_rfl
def c0_0j : C :=
 .seq (.ops [oA 13 (.bin .eql (.t 3) (.c (.int .u32 24))),oM 12 13]) (.cond (.t 12) (.seq (.ops [oA 2 (.mov (.c (.int .i64 60)))]) (.ret)) (.seq (.ops [oA 15 (.bin .eql (.t 3) (.c (.int .u32 32))),oM 14 15]) (.cond (.t 14) (.seq (.ops [oA 2 (.mov (.c (.int .i64 61)))]) (.ret)) (.skip))))
def c1_0j : C :=
 .seq (.ops [oA 9 (.bin .eql (.t 3) (.c (.int .u32 6))),oM 8 9]) (.cond (.t 8) (.seq (.ops [oA 2 (.mov (.c (.int .i64 58)))]) (.ret)) (.seq (.ops [oA 11 (.bin .eql (.t 3) (.c (.int .u32 8))),oM 10 11]) (.cond (.t 10) (.seq (.ops [oA 2 (.mov (.c (.int .i64 59)))]) (.ret)) (c0_0j))))
def c2_0j : C :=
 .block 0 (.seq (.ops [oA 5 (.bin .eql (.t 3) (.c (.int .u32 1))),oM 4 5]) (.cond (.t 4) (.seq (.ops [oA 2 (.mov (.c (.int .i64 56)))]) (.ret)) (.seq (.ops [oA 7 (.bin .eql (.t 3) (.c (.int .u32 2))),oM 6 7]) (.cond (.t 6) (.seq (.ops [oA 2 (.mov (.c (.int .i64 57)))]) (.ret)) (c1_0j)))))
def c_0j : C :=
 .seq (.ops [oA 2 (.mov (.c (.int .i64 0)))]) (.seq (.seq (.ops [oM 3 0]) (c2_0j)) (.seq (.ops [oA 2 (.mov (.c (.int .i64 0)))]) (.ret)))
def f_0j : F := ⟨c_0j, [.t 2], some []⟩
theorem h_0j : compF Tryz.prog (compAny Tryz.prog) n_0j = some (f_0j.body, f_0j.res) := by kernel_rfl
def c0_18 : C :=
 .seq (.block 1 (.seq (.ops [oA 9 (.ia 5 (.t 5) (.t 7)),oA 10 (.ldn 5 (.t 9)),oA 4 (.new [(.int .i64 0),(.int .i64 0),(.int .i64 0),(.int .i64 0),(.int .u32 0)]),oS (.stn 5 (.t 4) (.t 10))]) (.seq (.ops [oA 11 (.ldn 5 (.t 4)),oA 12 (.call n_0n [(.t 11)]),oA 13 (.un .not (.t 12))]) (.cond (.t 13) (.seq (.ops [oA 2 (.mov (.c (.bool false)))]) (.ret)) (.skip))))) (.ops [oA 14 (.bin .add (.t 7) (.c (.int .i64 1))),oM 7 14])
def c1_18 : C :=
 .seq (.ops [oA 8 (.bin .lss (.t 7) (.t 6))]) (.seq (.cond (.t 8) (.skip) (.exit 0)) (c0_18))
def c_18 : C :=
 .seq (.ops [oA 2 (.mov (.c (.bool false)))]) (.seq (.seq (.ops [oM 5 0,oA 6 (.len 1 (.t 5)),oA 7 (.mov (.c (.int .i64 0)))]) (.block 0 (.loop c1_18))) (.seq (.ops [oA 2 (.mov (.c (.bool true)))]) (.ret)))
def f_18 : F := ⟨c_18, [.t 2], some []⟩
theorem h_18 : compF Tryz.prog (compAny Tryz.prog) n_18 = some (f_18.body, f_18.res) := by kernel_rfl
def c0_0q : C :=
 .cond (.t 14) (.seq (.ops [oA 21 (.bsl 2 [(.int .i64 0),(.int .i64 0)] [(0,1,(.c (.int .i64 32))),(1,1,(.c (.int .i64 33)))]),oM 2 21]) (.ret)) (.seq (.ops [oA 23 (.fa 1 (.t 1)),oA 24 (.ld (.t 23)),oA 25 (.bin .eql (.t 24) (.c (.int .i64 0))),oM 22 25]) (.cond (.t 22) (.seq (.ops [oA 2 (.mov (.c (.slice none 0 0)))]) (.ret)) (.skip)))
def c1_0q : C :=
 .seq (.ops [oM 15 3,oA 16 (.bin .geq (.t 15) (.c (.int .i64 17))),oM 17 16,oT 18 17 (.mov (.t 3)),oT 19 17 (.bin .leq (.t 18) (.c (.int .i64 20))),oA 20 (.pick (.t 17) (.t 19) (.c (.bool false))),oM 14 20]) (c0_0q)
def c2_0q : C :=
 .block 0 (.seq (.ops [oA 7 (.ldn 5 (.t 1)),oA 8 (.call n_0n [(.t 7)]),oA 9 (.un .not (.t 8)),oM 10 9,oF 11 10 (.mov (.t 3)),oF 12 10 (.bin .eql (.t 11) (.c (.int .i64 0))),oA 13 (.pick (.t 10) (.c (.bool true)) (.t 12)),oM 6 13]) (.cond (.t 6) (.seq (.ops [oA 2 (.mov (.c (.slice none 0 0)))]) (.ret)) (c1_0q)))
def c_0q : C :=
 .seq (.ops [oA 1 (.box (.t 0)),oA 2 (.mov (.c (.slice none 0 0)))]) (.seq (.seq (.ops [oA 4 (.fa 0 (.t 1)),oA 5 (.ld (.t 4)),oM 3 5]) (c2_0q)) (.seq (.ops [oA 26 (.fa 1 (.t 1)),oA 27 (.ld (.t 26)),oA 28 (.bsl 1 [(.int .i64 0)] [(0,1,(.t 27))]),oM 2 28]) (.ret)))
def f_0q : F := ⟨c_0q, [.t 2], some []⟩
theorem h_0q : compF Tryz.prog (compAny Tryz.prog) n_0q = some (f_0q.body, f_0q.res) := by kernel_rfl
def c_4g : C :=
 .seq (.ops [oA 4 (.mov (.c (.bool false)))]) (.seq (.ops [oM 5 0,oM 6 1,oA 7 (.call n_4i [(.t 5),(.t 6)]),oA 8 (.bin .geq (.t 7) (.c (.int .i64 0))),oM 4 8]) (.ret))
def f_4g : F := ⟨c_4g, [.t 4], some []⟩
theorem h_4g : compF Tryz.prog (compAny Tryz.prog) n_4g = some (f_4g.body, f_4g.res) := by kernel_rfl
def c_12 : C :=
 .seq (.ops [oA 3 (.mov (.c (.bool false)))]) (.seq (.ops [oM 4 0,oA 5 (.iaa 40 1 (.t 1) (.t 4)),oA 6 (.ld (.t 5)),oM 3 6]) (.ret))
def f_12 : F := ⟨c_12, [.t 3], some []⟩
theorem h_12 : compF Tryz.prog (compAny Tryz.prog) n_12 = some (f_12.body, f_12.res) := by kernel_rfl
def c0_19 : C :=
 .seq (.ops [oA 3 (.fa 0 (.t 1)),oA 4 (.ld (.t 3)),oA 5 (.bin .neq (.t 4) (.c (.int .i64 21))),oM 6 5,oT 7 6 (.fa 0 (.t 1)),oT 8 6 (.ld (.t 7)),oT 9 6 (.bin .neq (.t 8) (.c (.int .i64 22))),oA 10 (.pick (.t 6) (.t 9) (.c (.bool false))),oM 2 10]) (.ret)
def c_19 : C :=
 .seq (.ops [oA 1 (.box (.t 0)),oA 2 (.mov (.c (.bool false)))]) (c0_19)
def f_19 : F := ⟨c_19, [.t 2], some []⟩
theorem h_19 : compF Tryz.prog (compAny Tryz.prog) n_19 = some (f_19.body, f_19.res) := by kernel_rfl
def c0_0l : C :=
 .ops [oA 45 (.fa 2 (.t 1)),oA 46 (.ld (.t 45)),oA 47 (.fa 3 (.t 1)),oA 48 (.ld (.t 47)),oA 49 (.fa 1 (.t 1)),oA 50 (.ld (.t 49)),oA 51 (.bsl 3 [(.int .i64 0),(.int .i64 0),(.int .i64 0)] [(0,1,(.t 46)),(1,1,(.t 48)),(2,1,(.t 50))]),oM 3 51]
def c1_0l : C :=
 .seq (.ops [oM 39 4,oA 40 (.bin .eql (.t 39) (.c (.int .i64 21))),oM 41 40,oF 42 41 (.mov (.t 4)),oF 43 41 (.bin .eql (.t 42) (.c (.int .i64 22))),oA 44 (.pick (.t 41) (.c (.bool true)) (.t 43)),oM 38 44]) (.cond (.t 38) (c0_0l) (.ops [oA 7 (.fa 2 (.t 1)),oA 8 (.ld (.t 7)),oA 9 (.fa 3 (.t 1)),oA 10 (.ld (.t 9)),oA 11 (.bsl 2 [(.int .i64 0),(.int .i64 0)] [(0,1,(.t 8)),(1,1,(.t 10))]),oM 3 11]))
def c2_0l : C :=
 .seq (.ops [oM 25 4,oA 26 (.bin .eql (.t 25) (.c (.int .i64 2))),oM 27 26,oF 28 27 (.mov (.t 4)),oF 29 27 (.bin .eql (.t 28) (.c (.int .i64 15))),oA 30 (.pick (.t 27) (.c (.bool true)) (.t 29)),oM 31 30,oF 32 31 (.mov (.t 4)),oF 33 31 (.bin .eql (.t 32) (.c (.int .i64 16))),oA 34 (.pick (.t 31) (.c (.bool true)) (.t 33)),oM 24 34]) (.cond (.t 24) (.ops [oA 35 (.fa 2 (.t 1)),oA 36 (.ld (.t 35)),oA 37 (.bsl 1 [(.int .i64 0)] [(0,1,(.t 36))]),oM 3 37]) (c1_0l))
def c3_0l : C :=
 .block 0 (.seq (.ops [oA 13 (.ldn 5 (.t 1)),oA 14 (.call n_0n [(.t 13)]),oA 15 (.un .not (.t 14)),oM 16 15,oF 17 16 (.mov (.t 4)),oF 18 16 (.bin .eql (.t 17) (.c (.int .i64 0))),oA 19 (.pick (.t 16) (.c (.bool true)) (.t 18)),oM 20 19,oF 21 20 (.mov (.t 4)),oF 22 20 (.bin .eql (.t 21) (.c (.int .i64 1))),oA 23 (.pick (.t 20) (.c (.bool true)) (.t 22)),oM 12 23]) (.cond (.t 12) (.skip) (c2_0l)))
def c4_0l : C :=
 .seq (.seq (.ops [oA 5 (.fa 0 (.t 1)),oA 6 (.ld (.t 5)),oM 4 6]) (c3_0l)) (.seq (.ops [oM 52 3,oA 53 (.call n_4l [(.t 52)])]) (.seq (.ops [oM 54 3,oA 55 (.call n_4f [(.t 54)]),oM 2 55]) (.ret)))
def c_0l : C :=
 .seq (.ops [oA 1 (.box (.t 0)),oA 2 (.mov (.c (.slice none 0 0)))]) (.seq (.ops [oA 3 (.mov (.c (.slice none 0 0)))]) (c4_0l))
def f_0l : F := ⟨c_0l, [.t 2], some []⟩
theorem h_0l : compF Tryz.prog (compAny Tryz.prog) n_0l = some (f_0l.body, f_0l.res) := by kernel_rfl
def c0_4k : C :=
 .seq (.block 1 (.any 0 [.op 4 (oM 18 0),.op 5 (oM 19 3),.op 6 (oA 20 (.ia 5 (.t 18) (.t 19))),.op 7 (oA 21 (.ldn 5 (.t 20))),.op 8 (oM 22 0),.op 9 (oM 23 2),.op 10 (oA 24 (.ia 5 (.t 22) (.t 23))),.op 11 (oA 25 (.ldn 5 (.t 24))),.op 0 (oM 14 0),.op 1 (oM 15 2),.op 12 (oA 26 (.ia 5 (.t 14) (.t 15))),.op 13 (oS (.stn 5 (.t 26) (.t 21))),.op 2 (oM 16 0),.op 3 (oM 17 3),.op 14 (oA 27 (.ia 5 (.t 16) (.t 17))),.op 15 (oS (.stn 5 (.t 27) (.t 25)))])) (.ops [oM 10 2,oA 11 (.bin .add (.t 10) (.c (.int .i64 1))),oM 12 3,oA 13 (.bin .sub (.t 12) (.c (.int .i64 1))),oM 2 11,oM 3 13])
def c1_4k : C :=
 .seq (.seq (.ops [oM 7 2,oM 8 3,oA 9 (.bin .lss (.t 7) (.t 8))]) (.cond (.t 9) (.skip) (.exit 0))) (c0_4k)
def c_4k : C :=
 .seq (.ops [oM 4 0,oA 5 (.len 1 (.t 4)),oA 6 (.bin .sub (.t 5) (.c (.int .i64 1))),oA 2 (.mov (.c (.int .i64 0))),oM 3 6]) (.block 0 (.loop c1_4k))
def f_4k : F := ⟨c_4k, [], some []⟩
theorem h_4k : compF Tryz.prog (compAny Tryz.prog) n_4k = some (f_4k.body, f_4k.res) := by kernel_rfl
def c0_16 : C :=
 .seq (.any 0 [.op 0 (oA 23 (.fa 1 (.t 3))),.op 1 (oA 24 (.ld (.t 23))),.op 2 (oA 25 (.fa 2 (.t 3))),.op 3 (oA 26 (.ld (.t 25))),.op 5 (oM 28 0),.op 6 (oA 29 (.fa 3 (.t 3))),.op 7 (oA 30 (.ld (.t 29))),.op 8 (oA 31 (.nilc (.t 28))),.op 9 (oA 32 (.fa 40 (.t 31))),.op 10 (oA 33 (.iaa 40 1 (.t 32) (.t 30))),.op 11 (oA 34 (.ld (.t 33))),.op 13 (oA 36 (.fa 0 (.t 3))),.op 14 (oA 37 (.ld (.t 36))),.op 4 (oA 27 (.build [(.int .i64 0),(.int .i64 0),(.int .i64 0),(.int .i64 0),(.int .u32 0)] [(0,1,(.c (.int .i64 2))),(1,1,(.t 24)),(2,1,(.t 26))])),.op 17 (oS (.stn 5 (.t 4) (.t 27))),.re 7 (oA 30 (.ld (.t 29))),.re 11 (oA 34 (.ld (.t 33))),.re 14 (oA 37 (.ld (.t 36))),.op 12 (oA 35 (.bin .eql (.t 34) (.c (.int .u32 0)))),.op 15 (oA 38 (.bin .eql (.t 37) (.c (.int .i64 21)))),.op 16 (oA 39 (.eqb false (.t 35) (.t 38))),.op 18 (oM 5 39)]) (.ret)
def c1_16 : C :=
 .seq (.ops [oA 41 (.ldn 5 (.t 3)),oA 42 (.call n_19 [(.t 41)]),oA 43 (.un .not (.t 42)),oM 44 43,oF 45 44 (.mov (.t 6)),oF 46 44 (.len 1 (.t 45)),oF 47 44 (.bin .neq (.t 46) (.c (.int .i64 1))),oA 48 (.pick (.t 44) (.c (.bool true)) (.t 47)),oM 49 48,oF 50 49 (.mov (.t 0)),oF 51 49 (.ldn 5 (.t 3)),oF 52 49 (.call n_0l [(.t 51)]),oF 53 49 (.call n_17 [(.t 50),(.t 52)]),oF 54 49 (.un .not (.t 53)),oA 55 (.pick (.t 49) (.c (.bool true)) (.t 54)),oM 40 55]) (.cond (.t 40) (.seq (.ops [oA 56 (.ldn 5 (.t 3)),oS (.stn 5 (.t 4) (.t 56)),oA 5 (.mov (.c (.bool true)))]) (.ret)) (.skip))
def c2_16 : C :=
 .seq (.any 0 [.op 0 (oA 64 (.fa 1 (.t 3))),.op 1 (oA 65 (.ld (.t 64))),.op 2 (oA 66 (.fa 1 (.t 3))),.op 3 (oA 67 (.ld (.t 66))),.op 4 (oA 68 (.iaa 40 1 (.t 7) (.t 67))),.op 5 (oA 69 (.ld (.t 68))),.op 6 (oA 70 (.build [(.int .i64 0),(.int .i64 0),(.int .i64 0),(.int .i64 0),(.int .u32 0)] [(0,1,(.c (.int .i64 1))),(1,1,(.t 65)),(4,1,(.t 69))])),.op 7 (oS (.stn 5 (.t 4) (.t 70))),.op 8 (oA 5 (.mov (.c (.bool true))))]) (.ret)
def c3_16 : C :=
 .seq (.ops [oM 57 0,oA 58 (.nilc (.t 57)),oA 59 (.fa 40 (.t 58)),oA 60 (.ldn 40 (.t 59)),oA 7 (.new (List.replicate 40 (.int .u32 0))),oS (.stn 40 (.t 7) (.t 60))]) (.seq (.ops [oA 61 (.ldn 5 (.t 3)),oA 62 (.bsl 1 [(.int .i64 0),(.int .i64 0),(.int .i64 0),(.int .i64 0),(.int .u32 0)] [(0,5,(.t 61))]),oA 63 (.call n_0o [(.t 7),(.t 62)])]) (c2_16))
def c4_16 : C :=
 .seq (.block 0 (.seq (.any 0 [.op 0 (oA 11 (.ldn 5 (.t 3))),.op 1 (oA 12 (.call n_19 [(.t 11)])),.op 2 (oA 13 (.un .not (.t 12))),.op 3 (oM 14 13),.op 4 (oT 15 14 (.mov (.t 0))),.op 5 (oT 16 14 (.fa 3 (.t 3))),.op 6 (oT 17 14 (.ld (.t 16))),.op 7 (oT 18 14 (.nilc (.t 15))),.op 8 (oT 19 14 (.fa 0 (.t 18))),.op 9 (oT 20 14 (.iaa 40 1 (.t 19) (.t 17))),.op 10 (oT 21 14 (.ld (.t 20))),.op 11 (oA 22 (.pick (.t 14) (.t 21) (.c (.bool false)))),.op 12 (oM 10 22)]) (.cond (.t 10) (c0_16) (c1_16)))) (c3_16)
def c_16 : C :=
 .seq (.ops [oA 3 (.box (.t 1)),oA 4 (.new [(.int .i64 0),(.int .i64 0),(.int .i64 0),(.int .i64 0),(.int .u32 0)]),oA 5 (.mov (.c (.bool false)))]) (.seq (.ops [oA 8 (.ldn 5 (.t 3)),oA 9 (.call n_0q [(.t 8)]),oM 6 9]) (c4_16))
def f_16 : F := ⟨c_16, [.ldn 5 4, .t 5], some []⟩
theorem h_16 : compF Tryz.prog (compAny Tryz.prog) n_16 = some (f_16.body, f_16.res) := by kernel_rfl
end Go.Proofs.YtmgoleiafiffoaaGreat.Cd

set_option maxRecDepth 100000
set_option linter.defProp false
namespace Go.Proofs.YtmgoleiafiffoaaGreat.Cd
open Go Go.Dx
def c0_15 : C :=
 .any 1 [.op 3 (oA 15 (.ldn 5 (.t 3))),.op 0 (oM 12 0),.op 1 (oA 13 (.nilc (.t 12))),.op 2 (oA 14 (.fa 40 (.t 13))),.al 4 0 (oA 16 (.bsl 1 [(.int .i64 0),(.int .i64 0),(.int .i64 0),(.int .i64 0),(.int .u32 0)] [(0,5,(.t 15))])),.op 5 (oA 17 (.call n_0o [(.t 14),(.t 16)]))]
def c1_15 : C :=
 .seq (.block 1 (.seq (.ops [oA 23 (.ia 1 (.t 19) (.t 21)),oA 24 (.ld (.t 23)),oM 6 24]) (.ops [oM 25 0,oM 26 6,oM 27 4,oA 28 (.nilc (.t 25)),oA 29 (.fa 0 (.t 28)),oA 30 (.iaa 40 1 (.t 29) (.t 26)),oS (.st (.t 30) (.t 27))]))) (.ops [oA 31 (.bin .add (.t 21) (.c (.int .i64 1))),oM 21 31])
def c2_15 : C :=
 .seq (.ops [oA 22 (.bin .lss (.t 21) (.t 20))]) (.seq (.cond (.t 22) (.skip) (.exit 0)) (c1_15))
def c3_15 : C :=
 .seq (.ops [oM 7 0,oA 8 (.ldn 5 (.t 3)),oA 9 (.call n_0l [(.t 8)]),oA 10 (.call n_17 [(.t 7),(.t 9)]),oM 4 10]) (.seq (.seq (.ops [oM 11 4]) (.cond (.t 11) (c0_15) (.skip))) (.seq (.ops [oA 18 (.ldn 5 (.t 3)),oA 19 (.call n_0q [(.t 18)]),oA 20 (.len 1 (.t 19)),oA 21 (.mov (.c (.int .i64 0)))]) (.block 0 (.loop c2_15))))
def c_15 : C :=
 .seq (.ops [oA 3 (.box (.t 1))]) (c3_15)
def f_15 : F := ⟨c_15, [], some []⟩
theorem h_15 : compF Tryz.prog (compAny Tryz.prog) n_15 = some (f_15.body, f_15.res) := by kernel_rfl
def c0_0a : C :=
 .seq (.ops [oM 19 4,oA 20 (.bin .lss (.t 19) (.c (.int .i64 0))),oM 21 20,oF 22 21 (.mov (.t 4)),oF 23 21 (.bin .gtr (.t 22) (.c (.int .i64 31))),oA 24 (.pick (.t 21) (.c (.bool true)) (.t 23))]) (.cond (.t 24) (.seq (.ops [oA 2 (.mov (.c (.bool false)))]) (.ret)) (.skip))
def c1_0a : C :=
 .seq (.ops [oA 16 (.bin .lss (.t 15) (.t 14))]) (.seq (.cond (.t 16) (.skip) (.exit 0)) (.seq (.block 1 (.seq (.ops [oA 17 (.ia 1 (.t 13) (.t 15)),oA 18 (.ld (.t 17)),oM 4 18]) (c0_0a))) (.ops [oA 25 (.bin .add (.t 15) (.c (.int .i64 1))),oM 15 25])))
def c2_0a : C :=
 .seq (.any 0 [.op 0 (oA 26 (.fa 0 (.t 1))),.op 1 (oA 27 (.ld (.t 26))),.op 2 (oA 28 (.bin .gtr (.t 27) (.c (.int .i64 0)))),.op 3 (oM 29 28),.op 4 (oT 30 29 (.fa 0 (.t 1))),.op 5 (oT 31 29 (.ld (.t 30))),.op 6 (oT 32 29 (.bin .lss (.t 31) (.c (.int .i64 78)))),.op 7 (oA 33 (.pick (.t 29) (.t 32) (.c (.bool false)))),.op 8 (oM 34 33),.op 9 (oT 35 34 (.fa 5 (.t 1))),.op 10 (oT 36 34 (.ld (.t 35))),.op 11 (oT 37 34 (.bin .leq (.t 36) (.c (.int .u32 67108863)))),.op 12 (oA 38 (.pick (.t 34) (.t 37) (.c (.bool false)))),.op 13 (oM 39 38),.op 14 (oT 40 39 (.fa 0 (.t 1))),.op 15 (oT 41 39 (.ld (.t 40))),.op 16 (oT 42 39 (.ldn 6 (.t 1))),.op 19 (oT 45 39 (.ldn 6 (.t 1))),.op 17 (oT 43 39 (.call n_0f [(.t 42)])),.re 15 (oT 41 39 (.ld (.t 40))),.re 19 (oT 45 39 (.ldn 6 (.t 1))),.op 18 (oT 44 39 (.call n_0k [(.t 41),(.t 43)])),.re 19 (oT 45 39 (.ldn 6 (.t 1))),.op 20 (oT 46 39 (.eqt false (.agg [(0,1,false,(.int .i64)),(1,1,false,(.int .i64)),(2,1,false,(.int .i64)),(3,1,false,(.int .i64)),(4,1,false,(.int .i64)),(5,1,false,(.int .u32))]) (.t 44) (.t 45))),.op 21 (oA 47 (.pick (.t 39) (.t 46) (.c (.bool false)))),.op 22 (oM 2 47)]) (.ret)
def c3_0a : C :=
 .seq (.seq (.ops [oA 5 (.fa 1 (.t 1)),oA 6 (.ld (.t 5)),oA 7 (.fa 2 (.t 1)),oA 8 (.ld (.t 7)),oA 9 (.fa 3 (.t 1)),oA 10 (.ld (.t 9)),oA 11 (.fa 4 (.t 1)),oA 12 (.ld (.t 11)),oA 13 (.bsl 4 [(.int .i64 0),(.int .i64 0),(.int .i64 0),(.int .i64 0)] [(0,1,(.t 6)),(1,1,(.t 8)),(2,1,(.t 10)),(3,1,(.t 12))]),oA 14 (.len 1 (.t 13)),oA 15 (.mov (.c (.int .i64 0)))]) (.block 0 (.loop c1_0a))) (c2_0a)
def c_0a : C :=
 .seq (.ops [oA 1 (.box (.t 0)),oA 2 (.mov (.c (.bool false)))]) (c3_0a)
def f_0a : F := ⟨c_0a, [.t 2], some []⟩
theorem h_0a : compF Tryz.prog (compAny Tryz.prog) n_0a = some (f_0a.body, f_0a.res) := by kernel_rfl
def c0_01 : C :=
 .seq (.ops [oM 3 0,oA 4 (.bin .geq (.t 3) (.c (.int .i64 1))),oM 5 4,oT 6 5 (.mov (.t 0)),oT 7 5 (.bin .leq (.t 6) (.c (.int .i64 6))),oA 8 (.pick (.t 5) (.t 7) (.c (.bool false))),oM 9 8,oF 10 9 (.mov (.t 0)),oF 11 9 (.bin .geq (.t 10) (.c (.int .i64 22))),oF 12 9 (.mov (.t 11)),oT 13 12 (.mov (.t 0)),oT 14 12 (.bin .leq (.t 13) (.c (.int .i64 31))),oF 15 9 (.pick (.t 12) (.t 14) (.c (.bool false))),oA 16 (.pick (.t 9) (.c (.bool true)) (.t 15)),oM 17 16,oF 18 17 (.mov (.t 0)),oF 19 17 (.bin .geq (.t 18) (.c (.int .i64 46))),oF 20 17 (.mov (.t 19)),oT 21 20 (.mov (.t 0)),oT 22 20 (.bin .leq (.t 21) (.c (.int .i64 53))),oF 23 17 (.pick (.t 20) (.t 22) (.c (.bool false))),oA 24 (.pick (.t 17) (.c (.bool true)) (.t 23)),oM 25 24,oF 26 25 (.mov (.t 0)),oF 27 25 (.bin .geq (.t 26) (.c (.int .i64 63))),oF 28 25 (.mov (.t 27)),oT 29 28 (.mov (.t 0)),oT 30 28 (.bin .leq (.t 29) (.c (.int .i64 65))),oF 31 25 (.pick (.t 28) (.t 30) (.c (.bool false))),oA 32 (.pick (.t 25) (.c (.bool true)) (.t 31)),oM 2 32]) (.ret)
def c_01 : C :=
 .seq (.ops [oA 2 (.mov (.c (.bool false)))]) (c0_01)
def f_01 : F := ⟨c_01, [.t 2], some []⟩
theorem h_01 : compF Tryz.prog (compAny Tryz.prog) n_01 = some (f_01.body, f_01.res) := by kernel_rfl
def c0_57 : C :=
 .cond (.t 5) (.seq (.ops [oA 4 (.mov (.c (.int .u32 0)))]) (.ret)) (.seq (.ops [oM 9 1,oA 10 (.bin .gtr (.t 9) (.c (.int .i64 31))),oM 8 10]) (.cond (.t 8) (.seq (.ops [oM 11 0,oM 4 11]) (.ret)) (.skip)))
def c1_57 : C :=
 .seq (.ops [oM 12 0,oM 13 1,oA 14 (.bin .sub (.c (.int .i64 32)) (.t 13)),oA 15 (.bin .shl (.t 12) (.t 14)),oM 16 1,oA 17 (.bin .sub (.c (.int .i64 32)) (.t 16)),oA 18 (.call n_56 [(.t 15),(.t 17)]),oM 4 18]) (.ret)
def c_57 : C :=
 .seq (.ops [oA 4 (.mov (.c (.int .u32 0)))]) (.seq (.block 0 (.seq (.ops [oM 6 1,oA 7 (.bin .lss (.t 6) (.c (.int .i64 1))),oM 5 7]) (c0_57))) (c1_57))
def f_57 : F := ⟨c_57, [.t 4], some []⟩
theorem h_57 : compF Tryz.prog (compAny Tryz.prog) n_57 = some (f_57.body, f_57.res) := by kernel_rfl
def c0_0n : C :=
 .seq (.ops [oM 17 4,oA 18 (.bin .lss (.t 17) (.c (.int .i64 0))),oM 19 18,oF 20 19 (.mov (.t 4)),oF 21 19 (.bin .geq (.t 20) (.c (.int .i64 40))),oA 22 (.pick (.t 19) (.c (.bool true)) (.t 21))]) (.cond (.t 22) (.seq (.ops [oA 2 (.mov (.c (.bool false)))]) (.ret)) (.skip))
def c1_0n : C :=
 .seq (.ops [oA 14 (.bin .lss (.t 13) (.t 12))]) (.seq (.cond (.t 14) (.skip) (.exit 0)) (.seq (.block 1 (.seq (.ops [oA 15 (.ia 1 (.t 11) (.t 13)),oA 16 (.ld (.t 15)),oM 4 16]) (c0_0n))) (.ops [oA 23 (.bin .add (.t 13) (.c (.int .i64 1))),oM 13 23])))
def c2_0n : C :=
 .seq (.ops [oA 24 (.fa 0 (.t 1)),oA 25 (.ld (.t 24)),oA 26 (.bin .geq (.t 25) (.c (.int .i64 0))),oM 27 26,oT 28 27 (.fa 0 (.t 1)),oT 29 27 (.ld (.t 28)),oT 30 27 (.bin .leq (.t 29) (.c (.int .i64 22))),oA 31 (.pick (.t 27) (.t 30) (.c (.bool false))),oM 2 31]) (.ret)
def c3_0n : C :=
 .seq (.seq (.ops [oA 5 (.fa 1 (.t 1)),oA 6 (.ld (.t 5)),oA 7 (.fa 2 (.t 1)),oA 8 (.ld (.t 7)),oA 9 (.fa 3 (.t 1)),oA 10 (.ld (.t 9)),oA 11 (.bsl 3 [(.int .i64 0),(.int .i64 0),(.int .i64 0)] [(0,1,(.t 6)),(1,1,(.t 8)),(2,1,(.t 10))]),oA 12 (.len 1 (.t 11)),oA 13 (.mov (.c (.int .i64 0)))]) (.block 0 (.loop c1_0n))) (c2_0n)
def c_0n : C :=
 .seq (.ops [oA 1 (.box (.t 0)),oA 2 (.mov (.c (.bool false)))]) (c3_0n)
def f_0n : F := ⟨c_0n, [.t 2], some []⟩
theorem h_0n : compF Tryz.prog (compAny Tryz.prog) n_0n = some (f_0n.body, f_0n.res) := by kernel_rfl
def c0_4i : C :=
 .seq (.ops [oM 11 1,oM 12 0,oM 13 5,oA 14 (.ia 1 (.t 12) (.t 13)),oA 15 (.ld (.t 14)),oA 16 (.callv (.t 11) [(.t 15)])]) (.cond (.t 16) (.seq (.ops [oM 17 5,oM 4 17]) (.ret)) (.skip))
def c1_4i : C :=
 .seq (.ops [oA 9 (.bin .lss (.t 8) (.t 7))]) (.seq (.cond (.t 9) (.skip) (.exit 0)) (.seq (.block 1 (.seq (.ops [oM 10 8,oM 5 10]) (c0_4i))) (.ops [oA 18 (.bin .add (.t 8) (.c (.int .i64 1))),oM 8 18])))
def c_4i : C :=
 .seq (.ops [oA 4 (.mov (.c (.int .i64 0)))]) (.seq (.seq (.ops [oM 6 0,oA 7 (.len 1 (.t 6)),oA 8 (.mov (.c (.int .i64 0)))]) (.block 0 (.loop c1_4i))) (.seq (.ops [oA 4 (.mov (.c (.int .i64 (-1))))]) (.ret)))
def f_4i : F := ⟨c_4i, [.t 4], some []⟩
theorem h_4i : compF Tryz.prog (compAny Tryz.prog) n_4i = some (f_4i.body, f_4i.res) := by kernel_rfl
def c_4l : C :=
 .seq (.ops [oM 3 0,oA 4 (.len 1 (.t 3)),oM 2 4]) (.ops [oM 5 0,oM 6 2,oM 7 2,oA 8 (.conv .u64 (.t 7)),oA 9 (.call n_0y [(.t 8)]),oA 10 (.call n_4x [(.t 5),(.c (.int .i64 0)),(.t 6),(.t 9)])])
def f_4l : F := ⟨c_4l, [], some []⟩
theorem h_4l : compF Tryz.prog (compAny Tryz.prog) n_4l = some (f_4l.body, f_4l.res) := by kernel_rfl
def c0_4f : C :=
 .seq (.ops [oM 45 0,oM 46 3,oM 47 4,oM 48 5,oA 49 (.ia 1 (.t 47) (.t 48)),oA 50 (.ld (.t 49)),oA 51 (.ia 1 (.t 45) (.t 46)),oS (.st (.t 51) (.t 50))]) (.ops [oM 52 3,oA 53 (.bin .add (.t 52) (.c (.int .i64 1))),oM 3 53])
def c1_4f : C :=
 .seq (.block 3 (.seq (.any 0 [.op 0 (oM 35 4),.op 1 (oM 36 5),.op 2 (oA 37 (.ia 1 (.t 35) (.t 36))),.op 3 (oA 38 (.ld (.t 37))),.op 4 (oM 39 4),.op 5 (oM 40 5),.op 6 (oA 41 (.bin .sub (.t 40) (.c (.int .i64 1)))),.op 7 (oA 42 (.ia 1 (.t 39) (.t 41))),.op 8 (oA 43 (.ld (.t 42))),.op 9 (oA 44 (.bin .neq (.t 38) (.t 43)))]) (.cond (.t 44) (c0_4f) (.skip)))) (.ops [oM 33 5,oA 34 (.bin .add (.t 33) (.c (.int .i64 1))),oM 5 34])
def c2_4f : C :=
 .seq (.seq (.ops [oM 29 5,oM 30 4,oA 31 (.len 1 (.t 30)),oA 32 (.bin .lss (.t 29) (.t 31))]) (.cond (.t 32) (.skip) (.exit 2))) (c1_4f)
def c3_4f : C :=
 .seq (.ops [oM 54 0,oM 55 3,oA 56 (.sl 1 (.t 54) (some (.t 55)) none none),oS (.clr [(.int .i64 0)] (.t 56))]) (.seq (.ops [oM 57 0,oM 58 3,oA 59 (.sl 1 (.t 57) none (some (.t 58)) none),oM 2 59]) (.ret))
def c4_4f : C :=
 .seq (.block 1 (.seq (.any 0 [.op 0 (oM 16 0),.op 1 (oM 17 3),.op 2 (oA 18 (.ia 1 (.t 16) (.t 17))),.op 3 (oA 19 (.ld (.t 18))),.op 4 (oM 20 0),.op 5 (oM 21 3),.op 6 (oA 22 (.bin .sub (.t 21) (.c (.int .i64 1)))),.op 7 (oA 23 (.ia 1 (.t 20) (.t 22))),.op 8 (oA 24 (.ld (.t 23))),.op 9 (oA 25 (.bin .eql (.t 19) (.t 24)))]) (.cond (.t 25) (.seq (.ops [oM 26 0,oM 27 3,oA 28 (.sl 1 (.t 26) (some (.t 27)) none none),oM 4 28]) (.seq (.seq (.ops [oA 5 (.mov (.c (.int .i64 1)))]) (.block 2 (.loop c2_4f))) (c3_4f))) (.skip)))) (.ops [oM 14 3,oA 15 (.bin .add (.t 14) (.c (.int .i64 1))),oM 3 15])
def c5_4f : C :=
 .seq (.seq (.ops [oM 10 3,oM 11 0,oA 12 (.len 1 (.t 11)),oA 13 (.bin .lss (.t 10) (.t 12))]) (.cond (.t 13) (.skip) (.exit 0))) (c4_4f)
def c6_4f : C :=
 .seq (.seq (.ops [oM 6 0,oA 7 (.len 1 (.t 6)),oA 8 (.bin .lss (.t 7) (.c (.int .i64 2)))]) (.cond (.t 8) (.seq (.ops [oM 9 0,oM 2 9]) (.ret)) (.skip))) (.seq (.seq (.ops [oA 3 (.mov (.c (.int .i64 1)))]) (.block 0 (.loop c5_4f))) (.seq (.ops [oM 60 0,oM 2 60]) (.ret)))
def c_4f : C :=
 .seq (.ops [oA 2 (.mov (.c (.slice none 0 0)))]) (c6_4f)
def f_4f : F := ⟨c_4f, [.t 2], some []⟩
theorem h_4f : compF Tryz.prog (compAny Tryz.prog) n_4f = some (f_4f.body, f_4f.res) := by kernel_rfl
def c0_17 : C :=
 .seq (.ops [oM 13 0,oM 14 6,oA 15 (.nilc (.t 13)),oA 16 (.fa 0 (.t 15)),oA 17 (.iaa 40 1 (.t 16) (.t 14)),oA 18 (.ld (.t 17)),oA 19 (.un .not (.t 18))]) (.cond (.t 19) (.seq (.ops [oA 4 (.mov (.c (.bool false)))]) (.ret)) (.skip))
def c1_17 : C :=
 .seq (.ops [oA 10 (.bin .lss (.t 9) (.t 8))]) (.seq (.cond (.t 10) (.skip) (.exit 0)) (.seq (.block 1 (.seq (.ops [oA 11 (.ia 1 (.t 7) (.t 9)),oA 12 (.ld (.t 11)),oM 6 12]) (c0_17))) (.ops [oA 20 (.bin .add (.t 9) (.c (.int .i64 1))),oM 9 20])))
def c_17 : C :=
 .seq (.ops [oA 4 (.mov (.c (.bool false)))]) (.seq (.seq (.ops [oM 7 1,oA 8 (.len 1 (.t 7)),oA 9 (.mov (.c (.int .i64 0)))]) (.block 0 (.loop c1_17))) (.seq (.ops [oA 4 (.mov (.c (.bool true)))]) (.ret)))
def f_17 : F := ⟨c_17, [.t 4], some []⟩
theorem h_17 : compF Tryz.prog (compAny Tryz.prog) n_17 = some (f_17.body, f_17.res) := by kernel_rfl
def c0_0o : C :=
 .seq (.block 1 (.seq (.ops [oA 20 (.ia 5 (.t 16) (.t 18)),oA 21 (.ldn 5 (.t 20)),oA 6 (.new [(.int .i64 0),(.int .i64 0),(.int .i64 0),(.int .i64 0),(.int .u32 0)]),oS (.stn 5 (.t 6) (.t 21))]) (.ops [oM 22 0,oA 23 (.ldn 5 (.t 6)),oA 24 (.call n_0m [(.t 22),(.t 23)])]))) (.ops [oA 25 (.bin .add (.t 18) (.c (.int .i64 1))),oM 18 25])
def c1_0o : C :=
 .seq (.ops [oA 19 (.bin .lss (.t 18) (.t 17))]) (.seq (.cond (.t 19) (.skip) (.exit 0)) (c0_0o))
def c2_0o : C :=
 .seq (.ops [oM 13 0,oA 14 (.nilc (.t 13)),oA 15 (.iaa 40 1 (.t 14) (.c (.int .i64 0))),oS (.st (.t 15) (.c (.int .u32 0)))]) (.seq (.seq (.ops [oM 16 1,oA 17 (.len 1 (.t 16)),oA 18 (.mov (.c (.int .i64 0)))]) (.block 0 (.loop c1_0o))) (.seq (.ops [oA 4 (.mov (.c (.bool true)))]) (.ret)))
def c3_0o : C :=
 .seq (.seq (.ops [oM 7 0,oA 8 (.eqn 0 false (.t 7)),oM 9 8,oF 10 9 (.mov (.t 1)),oF 11 9 (.call n_4h [(.t 10),(.f n_0p)]),oA 12 (.pick (.t 9) (.c (.bool true)) (.t 11))]) (.cond (.t 12) (.seq (.ops [oA 4 (.mov (.c (.bool false)))]) (.ret)) (.skip))) (c2_0o)
def c_0o : C :=
 .seq (.ops [oA 4 (.mov (.c (.bool false)))]) (c3_0o)
def f_0o : F := ⟨c_0o, [.t 4], some []⟩
theorem h_0o : compF Tryz.prog (compAny Tryz.prog) n_0o = some (f_0o.body, f_0o.res) := by kernel_rfl
def c0_0f : C :=
 .seq (.ops [oA 3 (.fa 1 (.t 1)),oA 4 (.ld (.t 3)),oA 5 (.conv .u32 (.t 4)),oA 6 (.bin .shl (.t 5) (.c (.int .u64 21))),oA 7 (.fa 2 (.t 1)),oA 8 (.ld (.t 7)),oA 9 (.conv .u32 (.t 8)),oA 10 (.bin .shl (.t 9) (.c (.int .u64 16))),oA 11 (.bin .or (.t 6) (.t 10)),oA 12 (.fa 3 (.t 1)),oA 13 (.ld (.t 12)),oA 14 (.conv .u32 (.t 13)),oA 15 (.bin .shl (.t 14) (.c (.int .u64 11))),oA 16 (.bin .or (.t 11) (.t 15)),oA 17 (.fa 4 (.t 1)),oA 18 (.ld (.t 17)),oA 19 (.conv .u32 (.t 18)),oA 20 (.bin .shl (.t 19) (.c (.int .u64 6))),oA 21 (.bin .or (.t 16) (.t 20)),oA 22 (.fa 5 (.t 1)),oA 23 (.ld (.t 22)),oA 24 (.bin .or (.t 21) (.t 23)),oM 2 24]) (.ret)
def c_0f : C :=
 .seq (.ops [oA 1 (.box (.t 0)),oA 2 (.mov (.c (.int .u32 0)))]) (c0_0f)
def f_0f : F := ⟨c_0f, [.t 2], some []⟩
theorem h_0f : compF Tryz.prog (compAny Tryz.prog) n_0f = some (f_0f.body, f_0f.res) := by kernel_rfl
def c_56 : C :=
 .seq (.ops [oA 4 (.mov (.c (.int .u32 0)))]) (.seq (.ops [oM 5 0,oA 6 (.conv .i32 (.t 5)),oM 7 1,oA 8 (.bin .and (.t 7) (.c (.int .i64 31))),oA 9 (.bin .shr (.t 6) (.t 8)),oA 10 (.conv .u32 (.t 9)),oM 4 10]) (.ret))
def f_56 : F := ⟨c_56, [.t 4], some []⟩
theorem h_56 : compF Tryz.prog (compAny Tryz.prog) n_56 = some (f_56.body, f_56.res) := by kernel_rfl
def c0_4x : C :=
 .cond (.t 35) (.seq (.ops [oM 36 0,oM 37 1,oM 38 2,oA 39 (.call n_4m [(.t 36),(.t 37),(.t 38)])]) (.ops [oM 40 3,oA 41 (.bin .sub (.t 40) (.c (.int .i64 1))),oM 3 41])) (.skip)
def c1_4x : C :=
 .seq (.ops [oM 55 2,oA 56 (.bin .sub (.t 55) (.c (.int .i64 1))),oM 57 11,oM 58 1,oA 59 (.bin .sub (.t 57) (.t 58)),oA 60 (.bin .sub (.t 56) (.t 59)),oM 11 60]) (.ops [oA 12 (.mov (.c (.int .i64 1)))])
def c2_4x : C :=
 .seq (.ops [oM 88 0,oM 89 1,oM 90 2,oM 91 11,oA 92 (.call n_4v [(.t 88),(.t 89),(.t 90),(.t 91)]),oM 13 92]) (.seq (.ops [oM 93 13,oM 1 93]) (.exit 1))
def c3_4x : C :=
 .seq (.ops [oM 117 0,oM 118 1,oM 119 14,oM 120 3,oA 121 (.call n_4x [(.t 117),(.t 118),(.t 119),(.t 120)])]) (.ops [oM 122 14,oA 123 (.bin .add (.t 122) (.c (.int .i64 1))),oM 1 123])
def c4_4x : C :=
 .seq (.ops [oM 127 0,oM 128 14,oA 129 (.bin .add (.t 128) (.c (.int .i64 1))),oM 130 2,oM 131 3,oA 132 (.call n_4x [(.t 127),(.t 129),(.t 130),(.t 131)])]) (.ops [oM 133 14,oM 2 133])
def c5_4x : C :=
 .cond (.t 113) (.seq (.ops [oM 114 16,oM 115 18,oA 116 (.bin .geq (.t 114) (.t 115)),oM 8 116]) (c3_4x)) (.seq (.ops [oM 124 17,oM 125 18,oA 126 (.bin .geq (.t 124) (.t 125)),oM 8 126]) (c4_4x))
def c6_4x : C :=
 .seq (.ops [oM 103 14,oM 104 1,oA 105 (.bin .sub (.t 103) (.t 104)),oM 106 2,oM 107 14,oA 108 (.bin .sub (.t 106) (.t 107)),oM 16 105,oM 17 108]) (.seq (.ops [oM 109 10,oA 110 (.bin .quo (.t 109) (.c (.int .i64 8))),oM 18 110]) (.seq (.ops [oM 111 16,oM 112 17,oA 113 (.bin .lss (.t 111) (.t 112))]) (c5_4x)))
def c7_4x : C :=
 .seq (.ops [oM 95 0,oM 96 1,oM 97 2,oM 98 11,oA 99 (.call n_4w [(.t 95),(.t 96),(.t 97),(.t 98)]),oM 94 99,oA 100 (.ext (.t 94) 0),oA 101 (.ext (.t 94) 1),oM 14 100,oM 15 101]) (.seq (.ops [oM 102 15,oM 9 102]) (c6_4x))
def c8_4x : C :=
 .seq (.seq (.any 0 [.op 0 (oM 73 1),.op 1 (oA 74 (.bin .gtr (.t 73) (.c (.int .i64 0)))),.op 2 (oM 75 74),.op 3 (oT 76 75 (.mov (.t 0))),.op 4 (oT 77 75 (.mov (.t 1))),.op 5 (oT 78 75 (.bin .sub (.t 77) (.c (.int .i64 1)))),.op 6 (oT 79 75 (.ia 1 (.t 76) (.t 78))),.op 7 (oT 80 75 (.ld (.t 79))),.op 8 (oT 81 75 (.mov (.t 0))),.op 9 (oT 82 75 (.mov (.t 11))),.op 10 (oT 83 75 (.ia 1 (.t 81) (.t 82))),.op 11 (oT 84 75 (.ld (.t 83))),.op 12 (oT 85 75 (.call n_06 [(.t 80),(.t 84)])),.op 13 (oT 86 75 (.un .not (.t 85))),.op 14 (oA 87 (.pick (.t 75) (.t 86) (.c (.bool false))))]) (.cond (.t 87) (c2_4x) (.skip))) (c7_4x)
def c9_4x : C :=
 .seq (.seq (.ops [oM 61 8,oM 62 61,oT 63 62 (.mov (.t 9)),oA 64 (.pick (.t 62) (.t 63) (.c (.bool false))),oM 65 64,oT 66 65 (.mov (.t 12)),oT 67 65 (.bin .eql (.t 66) (.c (.int .i64 1))),oA 68 (.pick (.t 65) (.t 67) (.c (.bool false)))]) (.cond (.t 68) (.seq (.ops [oM 69 0,oM 70 1,oM 71 2,oA 72 (.call n_4u [(.t 69),(.t 70),(.t 71)])]) (.cond (.t 72) (.ret) (.skip))) (.skip))) (c8_4x)
def c10_4x : C :=
 .seq (.seq (.ops [oM 49 12,oA 50 (.bin .eql (.t 49) (.c (.int .i64 2)))]) (.cond (.t 50) (.seq (.ops [oM 51 0,oM 52 1,oM 53 2,oA 54 (.call n_4y [(.t 51),(.t 52),(.t 53)])]) (c1_4x)) (.skip))) (c9_4x)
def c11_4x : C :=
 .seq (.ops [oM 43 0,oM 44 1,oM 45 2,oA 46 (.call n_4n [(.t 43),(.t 44),(.t 45)]),oM 42 46,oA 47 (.ext (.t 42) 0),oA 48 (.ext (.t 42) 1),oM 11 47,oM 12 48]) (c10_4x)
def c12_4x : C :=
 .seq (.seq (.ops [oM 28 3,oA 29 (.bin .eql (.t 28) (.c (.int .i64 0)))]) (.cond (.t 29) (.seq (.ops [oM 30 0,oM 31 1,oM 32 2,oA 33 (.call n_4o [(.t 30),(.t 31),(.t 32)])]) (.ret)) (.skip))) (.seq (.seq (.ops [oM 34 8,oA 35 (.un .not (.t 34))]) (c0_4x)) (c11_4x))
def c13_4x : C :=
 .seq (.seq (.ops [oM 22 10,oA 23 (.bin .leq (.t 22) (.c (.int .i64 12)))]) (.cond (.t 23) (.seq (.ops [oM 24 0,oM 25 1,oM 26 2,oA 27 (.call n_4p [(.t 24),(.t 25),(.t 26)])]) (.ret)) (.skip))) (c12_4x)
def c14_4x : C :=
 .block 1 (.seq (.ops [oM 19 2,oM 20 1,oA 21 (.bin .sub (.t 19) (.t 20)),oM 10 21]) (c13_4x))
def c_4x : C :=
 .seq (.ops [oA 8 (.mov (.c (.bool true)))]) (.seq (.ops [oA 9 (.mov (.c (.bool true)))]) (.block 0 (.loop c14_4x)))
def f_4x : F := ⟨c_4x, [], some []⟩
theorem h_4x : compF Tryz.prog (compAny Tryz.prog) n_4x = some (f_4x.body, f_4x.res) := by kernel_rfl
def c0_0y : C :=
 .seq (.cond (.c (.bool false)) (.seq (.ops [oM 3 0,oA 4 (.conv .u32 (.t 3)),oA 5 (.call n_0z [(.t 4)]),oM 2 5]) (.ret)) (.skip)) (.seq (.ops [oM 6 0,oA 7 (.call n_10 [(.t 6)]),oM 2 7]) (.ret))
def c_0y : C :=
 .seq (.ops [oA 2 (.mov (.c (.int .i64 0)))]) (c0_0y)
def f_0y : F := ⟨c_0y, [.t 2], some []⟩
theorem h_0y : compF Tryz.prog (compAny Tryz.prog) n_0y = some (f_0y.body, f_0y.res) := by kernel_rfl
def c_4h : C :=
 .seq (.ops [oA 4 (.mov (.c (.bool false)))]) (.seq (.ops [oM 5 0,oM 6 1,oA 7 (.call n_4j [(.t 5),(.t 6)]),oA 8 (.bin .geq (.t 7) (.c (.int .i64 0))),oM 4 8]) (.ret))
def f_4h : F := ⟨c_4h, [.t 4], some []⟩
theorem h_4h : compF Tryz.prog (compAny Tryz.prog) n_4h = some (f_4h.body, f_4h.res) := by kernel_rfl
def c_0p : C :=
 .seq (.ops [oA 1 (.box (.t 0)),oA 2 (.mov (.c (.bool false)))]) (.seq (.ops [oA 3 (.ldn 5 (.t 1)),oA 4 (.call n_0n [(.t 3)]),oA 5 (.un .not (.t 4)),oM 2 5]) (.ret))
def f_0p : F := ⟨c_0p, [.t 2], some []⟩
theorem h_0p : compF Tryz.prog (compAny Tryz.prog) n_0p = some (f_0p.body, f_0p.res) := by kernel_rfl
def c0_0m : C :=
 .any 0 [.op 2 (oM 40 4),.op 3 (oM 41 5),.op 4 (oM 42 6),.op 5 (oA 43 (.bin .eql (.t 42) (.c (.int .i64 17)))),.op 6 (oA 44 (.call n_55 [(.t 40),(.t 41),(.t 43)])),.op 0 (oM 38 0),.op 7 (oM 37 44),.op 8 (oA 45 (.ext (.t 37) 0)),.op 10 (oA 47 (.nilc (.t 38))),.op 11 (oA 48 (.iaa 40 1 (.t 47) (.c (.int .i64 32)))),.op 12 (oS (.st (.t 48) (.t 45))),.op 1 (oM 39 0),.op 9 (oA 46 (.ext (.t 37) 1)),.op 13 (oA 49 (.nilc (.t 39))),.op 14 (oA 50 (.iaa 40 1 (.t 49) (.c (.int .i64 33)))),.op 15 (oS (.st (.t 50) (.t 46)))]
def c1_0m : C :=
 .any 0 [.op 2 (oM 61 4),.op 3 (oM 62 5),.op 4 (oM 63 6),.op 5 (oA 64 (.bin .eql (.t 63) (.c (.int .i64 19)))),.op 6 (oA 65 (.call n_53 [(.t 61),(.t 62),(.t 64)])),.op 0 (oM 59 0),.op 7 (oM 58 65),.op 8 (oA 66 (.ext (.t 58) 0)),.op 10 (oA 68 (.nilc (.t 59))),.op 11 (oA 69 (.iaa 40 1 (.t 68) (.c (.int .i64 33)))),.op 12 (oS (.st (.t 69) (.t 66))),.op 1 (oM 60 0),.op 9 (oA 67 (.ext (.t 58) 1)),.op 13 (oA 70 (.nilc (.t 60))),.op 14 (oA 71 (.iaa 40 1 (.t 70) (.c (.int .i64 32)))),.op 15 (oS (.st (.t 71) (.t 67)))]
def c2_0m : C :=
 .any 0 [.op 1 (oA 22 (.fa 1 (.t 3))),.op 2 (oA 23 (.ld (.t 22))),.op 3 (oA 24 (.ldn 5 (.t 3))),.op 4 (oM 25 4),.op 5 (oM 26 5),.op 6 (oA 27 (.call n_0r [(.t 24),(.t 25),(.t 26)])),.re 2 (oA 23 (.ld (.t 22))),.op 0 (oM 21 0),.op 7 (oA 28 (.nilc (.t 21))),.op 8 (oA 29 (.iaa 40 1 (.t 28) (.t 23))),.op 9 (oS (.st (.t 29) (.t 27)))]
def c3_0m : C :=
 .seq (.ops [oM 73 6,oA 74 (.bin .eql (.t 73) (.c (.int .i64 0))),oM 75 74,oF 76 75 (.fa 1 (.t 3)),oF 77 75 (.ld (.t 76)),oF 78 75 (.bin .eql (.t 77) (.c (.int .i64 0))),oA 79 (.pick (.t 75) (.c (.bool true)) (.t 78)),oM 80 79,oF 81 80 (.mov (.t 6)),oF 82 80 (.bin .eql (.t 81) (.c (.int .i64 21))),oF 83 80 (.mov (.t 82)),oF 84 83 (.mov (.t 6)),oF 85 83 (.bin .eql (.t 84) (.c (.int .i64 22))),oF 86 80 (.pick (.t 83) (.c (.bool true)) (.t 85)),oF 87 80 (.mov (.t 86)),oT 88 87 (.mov (.t 5)),oT 89 87 (.bin .eql (.t 88) (.c (.int .u32 0))),oT 90 87 (.mov (.t 6)),oT 91 87 (.bin .eql (.t 90) (.c (.int .i64 21))),oT 92 87 (.eqb true (.t 89) (.t 91)),oF 93 80 (.pick (.t 87) (.t 92) (.c (.bool false))),oA 94 (.pick (.t 80) (.c (.bool true)) (.t 93)),oM 72 94]) (.cond (.t 72) (.skip) (c2_0m))
def c4_0m : C :=
 .seq (.ops [oM 52 6,oA 53 (.bin .eql (.t 52) (.c (.int .i64 19))),oM 54 53,oF 55 54 (.mov (.t 6)),oF 56 54 (.bin .eql (.t 55) (.c (.int .i64 20))),oA 57 (.pick (.t 54) (.c (.bool true)) (.t 56)),oM 51 57]) (.cond (.t 51) (c1_0m) (c3_0m))
def c5_0m : C :=
 .block 0 (.seq (.ops [oM 31 6,oA 32 (.bin .eql (.t 31) (.c (.int .i64 17))),oM 33 32,oF 34 33 (.mov (.t 6)),oF 35 33 (.bin .eql (.t 34) (.c (.int .i64 18))),oA 36 (.pick (.t 33) (.c (.bool true)) (.t 35)),oM 30 36]) (.cond (.t 30) (c0_0m) (c4_0m)))
def c6_0m : C :=
 .seq (.any 0 [.op 0 (oM 7 0),.op 1 (oA 8 (.fa 2 (.t 3))),.op 2 (oA 9 (.ld (.t 8))),.op 3 (oA 10 (.nilc (.t 7))),.op 4 (oA 11 (.iaa 40 1 (.t 10) (.t 9))),.op 5 (oA 12 (.ld (.t 11))),.op 6 (oM 13 0),.op 7 (oA 14 (.fa 3 (.t 3))),.op 8 (oA 15 (.ld (.t 14))),.op 9 (oA 16 (.nilc (.t 13))),.op 10 (oA 17 (.iaa 40 1 (.t 16) (.t 15))),.op 11 (oA 18 (.ld (.t 17))),.op 12 (oM 4 12),.op 13 (oM 5 18)]) (.seq (.ops [oA 19 (.fa 0 (.t 3)),oA 20 (.ld (.t 19)),oM 6 20]) (c5_0m))
def c_0m : C :=
 .seq (.ops [oA 3 (.box (.t 1))]) (c6_0m)
def f_0m : F := ⟨c_0m, [], some []⟩
theorem h_0m : compF Tryz.prog (compAny Tryz.prog) n_0m = some (f_0m.body, f_0m.res) := by kernel_rfl
end Go.Proofs.YtmgoleiafiffoaaGreat.Cd

set_option maxRecDepth 100000
set_option linter.defProp false
namespace Go.Proofs.YtmgoleiafiffoaaGreat.Cd
open Go Go.Dx
def c0_4p : C :=
 .seq (.block 3 (.any 0 [.op 5 (oM 38 0),.op 6 (oM 39 7),.op 7 (oA 40 (.bin .sub (.t 39) (.c (.int .i64 1)))),.op 8 (oA 41 (.ia 1 (.t 38) (.t 40))),.op 9 (oA 42 (.ld (.t 41))),.op 10 (oM 43 0),.op 11 (oM 44 7),.op 12 (oA 45 (.ia 1 (.t 43) (.t 44))),.op 13 (oA 46 (.ld (.t 45))),.op 0 (oM 33 0),.op 1 (oM 34 7),.op 14 (oA 47 (.ia 1 (.t 33) (.t 34))),.op 15 (oS (.st (.t 47) (.t 42))),.op 2 (oM 35 0),.op 3 (oM 36 7),.op 4 (oA 37 (.bin .sub (.t 36) (.c (.int .i64 1)))),.op 16 (oA 48 (.ia 1 (.t 35) (.t 37))),.op 17 (oS (.st (.t 48) (.t 46)))])) (.ops [oM 31 7,oA 32 (.bin .sub (.t 31) (.c (.int .i64 1))),oM 7 32])
def c1_4p : C :=
 .seq (.seq (.any 0 [.op 0 (oM 16 7),.op 1 (oM 17 1),.op 2 (oA 18 (.bin .gtr (.t 16) (.t 17))),.op 3 (oM 19 18),.op 4 (oT 20 19 (.mov (.t 0))),.op 5 (oT 21 19 (.mov (.t 7))),.op 6 (oT 22 19 (.ia 1 (.t 20) (.t 21))),.op 7 (oT 23 19 (.ld (.t 22))),.op 8 (oT 24 19 (.mov (.t 0))),.op 9 (oT 25 19 (.mov (.t 7))),.op 10 (oT 26 19 (.bin .sub (.t 25) (.c (.int .i64 1)))),.op 11 (oT 27 19 (.ia 1 (.t 24) (.t 26))),.op 12 (oT 28 19 (.ld (.t 27))),.op 13 (oT 29 19 (.call n_06 [(.t 23),(.t 28)])),.op 14 (oA 30 (.pick (.t 19) (.t 29) (.c (.bool false))))]) (.cond (.t 30) (.skip) (.exit 2))) (c0_4p)
def c2_4p : C :=
 .seq (.seq (.ops [oM 10 6,oM 11 2,oA 12 (.bin .lss (.t 10) (.t 11))]) (.cond (.t 12) (.skip) (.exit 0))) (.seq (.block 1 (.seq (.ops [oM 15 6,oM 7 15]) (.block 2 (.loop c1_4p)))) (.ops [oM 13 6,oA 14 (.bin .add (.t 13) (.c (.int .i64 1))),oM 6 14]))
def c_4p : C :=
 .seq (.ops [oM 8 1,oA 9 (.bin .add (.t 8) (.c (.int .i64 1))),oM 6 9]) (.block 0 (.loop c2_4p))
def f_4p : F := ⟨c_4p, [], some []⟩
theorem h_4p : compF Tryz.prog (compAny Tryz.prog) n_4p = some (f_4p.body, f_4p.res) := by kernel_rfl
def c0_06 : C :=
 .seq (.ops [oM 5 0,oA 6 (.call n_07 [(.t 5)]),oM 7 6,oT 8 7 (.mov (.t 1)),oT 9 7 (.call n_07 [(.t 8)]),oT 10 7 (.un .not (.t 9)),oA 11 (.pick (.t 7) (.t 10) (.c (.bool false))),oM 12 11,oF 13 12 (.mov (.t 0)),oF 14 12 (.mov (.t 1)),oF 15 12 (.bin .lss (.t 13) (.t 14)),oA 16 (.pick (.t 12) (.c (.bool true)) (.t 15)),oM 4 16]) (.ret)
def c_06 : C :=
 .seq (.ops [oA 4 (.mov (.c (.bool false)))]) (c0_06)
def f_06 : F := ⟨c_06, [.t 4], some []⟩
theorem h_06 : compF Tryz.prog (compAny Tryz.prog) n_06 = some (f_06.body, f_06.res) := by kernel_rfl
def c0_0z : C :=
 .seq (.ops [oM 13 2,oM 14 0,oA 15 (.conv .u8 (.t 14)),⟨some 16,none,.ixs (.c (.string ⟨#[0,1,2,2,3,3,3,3,4,4,4,4,4,4,4,4,5,5,5,5,5,5,5,5,5,5,5,5,5,5,5,5,6,6,6,6,6,6,6,6,6,6,6,6,6,6,6,6,6,6,6,6,6,6,6,6,6,6,6,6,6,6,6,6,7,7,7,7,7,7,7,7,7,7,7,7,7,7,7,7,7,7,7,7,7,7,7,7,7,7,7,7,7,7,7,7,7,7,7,7,7,7,7,7,7,7,7,7,7,7,7,7,7,7,7,7,7,7,7,7,7,7,7,7,7,7,7,7,8,8,8,8,8,8,8,8,8,8,8,8,8,8,8,8,8,8,8,8,8,8,8,8,8,8,8,8,8,8,8,8,8,8,8,8,8,8,8,8,8,8,8,8,8,8,8,8,8,8,8,8,8,8,8,8,8,8,8,8,8,8,8,8,8,8,8,8,8,8,8,8,8,8,8,8,8,8,8,8,8,8,8,8,8,8,8,8,8,8,8,8,8,8,8,8,8,8,8,8,8,8,8,8,8,8,8,8,8,8,8,8,8,8,8,8,8,8,8,8,8,8,8,8,8,8,8,8]⟩)) (.t 15)⟩,oA 17 (.conv .i64 (.t 16)),oA 18 (.bin .add (.t 13) (.t 17)),oM 2 18]) (.ret)
def c1_0z : C :=
 .seq (.seq (.ops [oM 7 0,oA 8 (.bin .geq (.t 7) (.c (.int .u32 256)))]) (.cond (.t 8) (.seq (.ops [oM 9 0,oA 10 (.bin .shr (.t 9) (.c (.int .u64 8))),oM 0 10]) (.ops [oM 11 2,oA 12 (.bin .add (.t 11) (.c (.int .i64 8))),oM 2 12])) (.skip))) (c0_0z)
def c2_0z : C :=
 .seq (.seq (.ops [oM 3 0,oA 4 (.bin .geq (.t 3) (.c (.int .u32 65536)))]) (.cond (.t 4) (.seq (.ops [oM 5 0,oA 6 (.bin .shr (.t 5) (.c (.int .u64 16))),oM 0 6]) (.ops [oA 2 (.mov (.c (.int .i64 16)))])) (.skip))) (c1_0z)
def c_0z : C :=
 .seq (.ops [oA 2 (.mov (.c (.int .i64 0)))]) (c2_0z)
def f_0z : F := ⟨c_0z, [.t 2], some []⟩
theorem h_0z : compF Tryz.prog (compAny Tryz.prog) n_0z = some (f_0z.body, f_0z.res) := by kernel_rfl
def c0_10 : C :=
 .seq (.ops [oM 19 2,oM 20 0,oA 21 (.conv .u8 (.t 20)),⟨some 22,none,.ixs (.c (.string ⟨#[0,1,2,2,3,3,3,3,4,4,4,4,4,4,4,4,5,5,5,5,5,5,5,5,5,5,5,5,5,5,5,5,6,6,6,6,6,6,6,6,6,6,6,6,6,6,6,6,6,6,6,6,6,6,6,6,6,6,6,6,6,6,6,6,7,7,7,7,7,7,7,7,7,7,7,7,7,7,7,7,7,7,7,7,7,7,7,7,7,7,7,7,7,7,7,7,7,7,7,7,7,7,7,7,7,7,7,7,7,7,7,7,7,7,7,7,7,7,7,7,7,7,7,7,7,7,7,7,8,8,8,8,8,8,8,8,8,8,8,8,8,8,8,8,8,8,8,8,8,8,8,8,8,8,8,8,8,8,8,8,8,8,8,8,8,8,8,8,8,8,8,8,8,8,8,8,8,8,8,8,8,8,8,8,8,8,8,8,8,8,8,8,8,8,8,8,8,8,8,8,8,8,8,8,8,8,8,8,8,8,8,8,8,8,8,8,8,8,8,8,8,8,8,8,8,8,8,8,8,8,8,8,8,8,8,8,8,8,8,8,8,8,8,8,8,8,8,8,8,8,8,8,8,8,8,8]⟩)) (.t 21)⟩,oA 23 (.conv .i64 (.t 22)),oA 24 (.bin .add (.t 19) (.t 23)),oM 2 24]) (.ret)
def c1_10 : C :=
 .seq (.seq (.ops [oM 13 0,oA 14 (.bin .geq (.t 13) (.c (.int .u64 256)))]) (.cond (.t 14) (.seq (.ops [oM 15 0,oA 16 (.bin .shr (.t 15) (.c (.int .u64 8))),oM 0 16]) (.ops [oM 17 2,oA 18 (.bin .add (.t 17) (.c (.int .i64 8))),oM 2 18])) (.skip))) (c0_10)
def c2_10 : C :=
 .seq (.seq (.ops [oM 7 0,oA 8 (.bin .geq (.t 7) (.c (.int .u64 65536)))]) (.cond (.t 8) (.seq (.ops [oM 9 0,oA 10 (.bin .shr (.t 9) (.c (.int .u64 16))),oM 0 10]) (.ops [oM 11 2,oA 12 (.bin .add (.t 11) (.c (.int .i64 16))),oM 2 12])) (.skip))) (c1_10)
def c3_10 : C :=
 .seq (.seq (.ops [oM 3 0,oA 4 (.bin .geq (.t 3) (.c (.int .u64 4294967296)))]) (.cond (.t 4) (.seq (.ops [oM 5 0,oA 6 (.bin .shr (.t 5) (.c (.int .u64 32))),oM 0 6]) (.ops [oA 2 (.mov (.c (.int .i64 32)))])) (.skip))) (c2_10)
def c_10 : C :=
 .seq (.ops [oA 2 (.mov (.c (.int .i64 0)))]) (c3_10)
def f_10 : F := ⟨c_10, [.t 2], some []⟩
theorem h_10 : compF Tryz.prog (compAny Tryz.prog) n_10 = some (f_10.body, f_10.res) := by kernel_rfl
def c0_4j : C :=
 .seq (.ops [oM 11 1,oM 12 0,oM 13 5,oA 14 (.ia 5 (.t 12) (.t 13)),oA 15 (.ldn 5 (.t 14)),oA 16 (.callv (.t 11) [(.t 15)])]) (.cond (.t 16) (.seq (.ops [oM 17 5,oM 4 17]) (.ret)) (.skip))
def c1_4j : C :=
 .seq (.ops [oA 9 (.bin .lss (.t 8) (.t 7))]) (.seq (.cond (.t 9) (.skip) (.exit 0)) (.seq (.block 1 (.seq (.ops [oM 10 8,oM 5 10]) (c0_4j))) (.ops [oA 18 (.bin .add (.t 8) (.c (.int .i64 1))),oM 8 18])))
def c_4j : C :=
 .seq (.ops [oA 4 (.mov (.c (.int .i64 0)))]) (.seq (.seq (.ops [oM 6 0,oA 7 (.len 1 (.t 6)),oA 8 (.mov (.c (.int .i64 0)))]) (.block 0 (.loop c1_4j))) (.seq (.ops [oA 4 (.mov (.c (.int .i64 (-1))))]) (.ret)))
def f_4j : F := ⟨c_4j, [.t 4], some []⟩
theorem h_4j : compF Tryz.prog (compAny Tryz.prog) n_4j = some (f_4j.body, f_4j.res) := by kernel_rfl
def c0_55 : C :=
 .ops [oM 15 0,oA 16 (.conv .i32 (.t 15)),oA 17 (.conv .i64 (.t 16)),oM 18 1,oA 19 (.conv .i32 (.t 18)),oA 20 (.conv .i64 (.t 19)),oA 21 (.bin .mul (.t 17) (.t 20)),oA 22 (.conv .u64 (.t 21)),oM 8 22]
def c1_55 : C :=
 .seq (.seq (.ops [oM 14 2]) (.cond (.t 14) (c0_55) (.skip))) (.seq (.ops [oM 23 8,oA 24 (.bin .shr (.t 23) (.c (.int .u64 32))),oA 25 (.conv .u32 (.t 24)),oM 26 8,oA 27 (.conv .u32 (.t 26)),oM 6 25,oM 7 27]) (.ret))
def c_55 : C :=
 .seq (.ops [oA 6 (.mov (.c (.int .u32 0))),oA 7 (.mov (.c (.int .u32 0)))]) (.seq (.ops [oM 9 0,oA 10 (.conv .u64 (.t 9)),oM 11 1,oA 12 (.conv .u64 (.t 11)),oA 13 (.bin .mul (.t 10) (.t 12)),oM 8 13]) (c1_55))
def f_55 : F := ⟨c_55, [.t 6, .t 7], some []⟩
theorem h_55 : compF Tryz.prog (compAny Tryz.prog) n_55 = some (f_55.body, f_55.res) := by kernel_rfl
def c0_53 : C :=
 .seq (.any 0 [.op 0 (oM 17 0),.op 1 (oM 18 1),.op 2 (oA 19 (.bin .quo (.t 17) (.t 18))),.op 3 (oM 20 0),.op 4 (oM 21 1),.op 5 (oA 22 (.bin .rem (.t 20) (.t 21))),.op 6 (oM 6 19),.op 7 (oM 7 22)]) (.ret)
def c1_53 : C :=
 .cond (.t 10) (.seq (.ops [oM 13 0,oA 6 (.mov (.c (.int .u32 4294967295))),oM 7 13]) (.ret)) (.seq (.ops [oM 15 2,oA 16 (.un .not (.t 15)),oM 14 16]) (.cond (.t 14) (c0_53) (.skip)))
def c2_53 : C :=
 .seq (.any 0 [.op 0 (oM 29 8),.op 1 (oM 30 9),.op 2 (oA 31 (.bin .quo (.t 29) (.t 30))),.op 3 (oA 32 (.conv .u32 (.t 31))),.op 4 (oM 33 8),.op 5 (oM 34 9),.op 6 (oA 35 (.bin .rem (.t 33) (.t 34))),.op 7 (oA 36 (.conv .u32 (.t 35))),.op 8 (oM 6 32),.op 9 (oM 7 36)]) (.ret)
def c3_53 : C :=
 .seq (.block 0 (.seq (.ops [oM 11 1,oA 12 (.bin .eql (.t 11) (.c (.int .u32 0))),oM 10 12]) (c1_53))) (.seq (.ops [oM 23 0,oA 24 (.conv .i32 (.t 23)),oA 25 (.conv .i64 (.t 24)),oM 26 1,oA 27 (.conv .i32 (.t 26)),oA 28 (.conv .i64 (.t 27)),oM 8 25,oM 9 28]) (c2_53))
def c_53 : C :=
 .seq (.ops [oA 6 (.mov (.c (.int .u32 0))),oA 7 (.mov (.c (.int .u32 0)))]) (c3_53)
def f_53 : F := ⟨c_53, [.t 6, .t 7], some []⟩
theorem h_53 : compF Tryz.prog (compAny Tryz.prog) n_53 = some (f_53.body, f_53.res) := by kernel_rfl
def c0_0r : C :=
 .seq (.ops [oM 66 1,oM 67 2,oA 68 (.fa 0 (.t 3)),oA 69 (.ld (.t 68)),oA 70 (.bin .eql (.t 69) (.c (.int .i64 12))),oA 71 (.call n_54 [(.t 66),(.t 67),(.t 70)]),oA 72 (.call n_0s [(.t 71)]),oM 6 72]) (.ret)
def c1_0r : C :=
 .cond (.t 78) (.seq (.ops [oM 80 1,oA 81 (.call n_52 [(.t 80)]),oA 82 (.conv .u32 (.t 81)),oM 6 82]) (.ret)) (.seq (.ops [oA 84 (.bin .eql (.t 8) (.c (.int .i64 16))),oM 83 84]) (.cond (.t 83) (.seq (.ops [oM 85 1,oA 86 (.call n_51 [(.t 85)]),oA 87 (.conv .u32 (.t 86)),oM 6 87]) (.ret)) (.skip)))
def c2_0r : C :=
 .seq (.ops [oA 74 (.bin .eql (.t 8) (.c (.int .i64 14))),oM 73 74]) (.cond (.t 73) (.seq (.ops [oM 75 1,oM 76 2,oA 77 (.bin .mul (.t 75) (.t 76)),oM 6 77]) (.ret)) (.seq (.ops [oA 79 (.bin .eql (.t 8) (.c (.int .i64 15))),oM 78 79]) (c1_0r)))
def c3_0r : C :=
 .cond (.t 56) (.seq (.ops [oM 58 1,oM 59 2,oA 60 (.bin .and (.t 59) (.c (.int .u32 31))),oA 61 (.conv .i64 (.t 60)),oA 62 (.call n_56 [(.t 58),(.t 61)]),oM 6 62]) (.ret)) (.seq (.seq (.ops [oA 64 (.bin .eql (.t 8) (.c (.int .i64 12))),oM 63 64]) (.cond (.t 63) (.skip) (.ops [oA 65 (.bin .eql (.t 8) (.c (.int .i64 13))),oM 63 65]))) (.cond (.t 63) (c0_0r) (c2_0r)))
def c4_0r : C :=
 .cond (.t 50) (.seq (.ops [oM 52 1,oM 53 2,oA 54 (.bin .and (.t 53) (.c (.int .u32 31))),oA 55 (.bin .shr (.t 52) (.t 54)),oM 6 55]) (.ret)) (.seq (.ops [oA 57 (.bin .eql (.t 8) (.c (.int .i64 11))),oM 56 57]) (c3_0r))
def c5_0r : C :=
 .cond (.t 44) (.seq (.ops [oM 46 1,oM 47 2,oA 48 (.bin .and (.t 47) (.c (.int .u32 31))),oA 49 (.bin .shl (.t 46) (.t 48)),oM 6 49]) (.ret)) (.seq (.ops [oA 51 (.bin .eql (.t 8) (.c (.int .i64 10))),oM 50 51]) (c4_0r))
def c6_0r : C :=
 .cond (.t 38) (.seq (.ops [oM 40 1,oM 41 2,oA 42 (.bin .or (.t 40) (.t 41)),oA 43 (.un .xor (.t 42)),oM 6 43]) (.ret)) (.seq (.ops [oA 45 (.bin .eql (.t 8) (.c (.int .i64 9))),oM 44 45]) (c5_0r))
def c7_0r : C :=
 .seq (.ops [oA 34 (.bin .eql (.t 8) (.c (.int .i64 7))),oM 33 34]) (.cond (.t 33) (.seq (.ops [oM 35 1,oM 36 2,oA 37 (.bin .xor (.t 35) (.t 36)),oM 6 37]) (.ret)) (.seq (.ops [oA 39 (.bin .eql (.t 8) (.c (.int .i64 8))),oM 38 39]) (c6_0r)))
def c8_0r : C :=
 .cond (.t 23) (.seq (.ops [oM 25 1,oM 26 2,oA 27 (.bin .and (.t 25) (.t 26)),oM 6 27]) (.ret)) (.seq (.ops [oA 29 (.bin .eql (.t 8) (.c (.int .i64 6))),oM 28 29]) (.cond (.t 28) (.seq (.ops [oM 30 1,oM 31 2,oA 32 (.bin .or (.t 30) (.t 31)),oM 6 32]) (.ret)) (c7_0r)))
def c9_0r : C :=
 .seq (.ops [oA 19 (.bin .eql (.t 8) (.c (.int .i64 4))),oM 18 19]) (.cond (.t 18) (.seq (.ops [oM 20 1,oM 21 2,oA 22 (.bin .sub (.t 20) (.t 21)),oM 6 22]) (.ret)) (.seq (.ops [oA 24 (.bin .eql (.t 8) (.c (.int .i64 5))),oM 23 24]) (c8_0r)))
def c10_0r : C :=
 .cond (.t 9) (.seq (.ops [oA 11 (.fa 4 (.t 3)),oA 12 (.ld (.t 11)),oM 6 12]) (.ret)) (.seq (.ops [oA 14 (.bin .eql (.t 8) (.c (.int .i64 3))),oM 13 14]) (.cond (.t 13) (.seq (.ops [oM 15 1,oM 16 2,oA 17 (.bin .add (.t 15) (.t 16)),oM 6 17]) (.ret)) (c9_0r)))
def c_0r : C :=
 .seq (.ops [oA 3 (.box (.t 0)),oA 6 (.mov (.c (.int .u32 0)))]) (.seq (.seq (.ops [oA 7 (.fa 0 (.t 3)),oA 8 (.ld (.t 7))]) (.block 0 (.seq (.ops [oA 10 (.bin .eql (.t 8) (.c (.int .i64 1))),oM 9 10]) (c10_0r)))) (.seq (.ops [oM 88 1,oM 6 88]) (.ret)))
def f_0r : F := ⟨c_0r, [.t 6], some []⟩
theorem h_0r : compF Tryz.prog (compAny Tryz.prog) n_0r = some (f_0r.body, f_0r.res) := by kernel_rfl
end Go.Proofs.YtmgoleiafiffoaaGreat.Cd

set_option maxRecDepth 100000
set_option linter.defProp false
namespace Go.Proofs.YtmgoleiafiffoaaGreat.Cd
open Go Go.Dx
def c_07 : C :=
 .seq (.ops [oA 2 (.mov (.c (.bool false)))]) (.seq (.ops [oM 3 0,oM 4 0,oA 5 (.bin .neq (.t 3) (.t 4)),oM 2 5]) (.ret))
def f_07 : F := ⟨c_07, [.t 2], some []⟩
theorem h_07 : compF Tryz.prog (compAny Tryz.prog) n_07 = some (f_07.body, f_07.res) := by kernel_rfl
def c_0s : C :=
 .seq (.ops [oA 2 (.mov (.c (.int .u32 0)))]) (.seq (.seq (.ops [oM 3 0]) (.cond (.t 3) (.seq (.ops [oA 2 (.mov (.c (.int .u32 1)))]) (.ret)) (.skip))) (.seq (.ops [oA 2 (.mov (.c (.int .u32 0)))]) (.ret)))
def f_0s : F := ⟨c_0s, [.t 2], some []⟩
theorem h_0s : compF Tryz.prog (compAny Tryz.prog) n_0s = some (f_0s.body, f_0s.res) := by kernel_rfl
def c0_54 : C :=
 .seq (.seq (.ops [oM 7 2]) (.cond (.t 7) (.seq (.ops [oM 8 0,oA 9 (.conv .i32 (.t 8)),oM 10 1,oA 11 (.conv .i32 (.t 10)),oA 12 (.bin .lss (.t 9) (.t 11)),oM 6 12]) (.ret)) (.skip))) (.seq (.ops [oM 13 0,oM 14 1,oA 15 (.bin .lss (.t 13) (.t 14)),oM 6 15]) (.ret))
def c_54 : C :=
 .seq (.ops [oA 6 (.mov (.c (.bool false)))]) (c0_54)
def f_54 : F := ⟨c_54, [.t 6], some []⟩
theorem h_54 : compF Tryz.prog (compAny Tryz.prog) n_54 = some (f_54.body, f_54.res) := by kernel_rfl
def c_52 : C :=
 .seq (.ops [oA 2 (.mov (.c (.int .i64 0)))]) (.seq (.ops [oM 3 0,oA 4 (.call n_0x [(.t 3)]),oM 2 4]) (.ret))
def f_52 : F := ⟨c_52, [.t 2], some []⟩
theorem h_52 : compF Tryz.prog (compAny Tryz.prog) n_52 = some (f_52.body, f_52.res) := by kernel_rfl
def c_51 : C :=
 .seq (.ops [oA 2 (.mov (.c (.int .i64 0)))]) (.seq (.ops [oM 3 0,oA 4 (.un .xor (.t 3)),oA 5 (.call n_0x [(.t 4)]),oM 2 5]) (.ret))
def f_51 : F := ⟨c_51, [.t 2], some []⟩
theorem h_51 : compF Tryz.prog (compAny Tryz.prog) n_51 = some (f_51.body, f_51.res) := by kernel_rfl
def c_0x : C :=
 .seq (.ops [oA 2 (.mov (.c (.int .i64 0)))]) (.seq (.ops [oM 3 0,oA 4 (.call n_0z [(.t 3)]),oA 5 (.bin .sub (.c (.int .i64 32)) (.t 4)),oM 2 5]) (.ret))
def f_0x : F := ⟨c_0x, [.t 2], some []⟩
theorem h_0x : compF Tryz.prog (compAny Tryz.prog) n_0x = some (f_0x.body, f_0x.res) := by kernel_rfl
end Go.Proofs.YtmgoleiafiffoaaGreat.Cd

/- The code of the functions that are reached, as the interpreter reads it. -/
set_option maxRecDepth 100000
set_option linter.defProp false
namespace Go.Proofs.YtmgoleiafiffoaaGreat.Cd
open Go Go.Dx
def T : Nat → Option Dx.Fn := ins n_1n (.code f_1n) <| ins n_1s (.code f_1s) <| ins n_1t (.code f_1t) <| ins n_1r (.code f_1r) <| ins n_1c (.code f_1c) <| ins n_04 (.code f_04) <| ins n_48 (.code f_48) <| ins n_05 (.code f_05) <| ins n_47 (.code f_47) <| ins n_2x (.code f_2x) <| ins n_49 (.code f_49) <| ins n_30 (.code f_30) <| ins n_2w (.code f_2w) <| ins n_1b (.code f_1b) <| ins n_1a (.code f_1a) <| ins n_02 (.code f_02) <| ins n_2h (.code f_2h) <| ins n_1q (.code f_1q) <| ins n_2l (.code f_2l) <| ins n_27 (.code f_27) <| ins n_4a (.code f_4a) <| ins n_09 (.code f_09) <| ins n_08 (.code f_08) <| ins n_03 (.code f_03) <| ins n_4c (.code f_4c) <| ins n_4e (.code f_4e) <| ins n_4d (.code f_4d) <| ins n_2y (.code f_2y) <| ins n_32 (.code f_32) <| ins n_2z (.code f_2z) <| ins n_34 (.code f_34) <| ins n_33 (.code f_33) <| ins n_3s (.code f_3s) <| ins n_24 (.code f_24) <| ins n_2k (.code f_2k) <| ins n_2j (.code f_2j) <| ins n_2e (.code f_2e) <| ins n_3u (.code f_3u) <| ins n_2c (.code f_2c) <| ins n_2b (.code f_2b) <| ins n_0k (.code f_0k) <| ins n_0d (.code f_0d) <| ins n_14 (.code f_14) <| ins n_0u (.code f_0u) <| ins n_3b (.code f_3b) <| ins n_3e (.code f_3e) <| ins n_38 (.code f_38) <| ins n_2t (.code f_2t) <| ins n_2m (.code f_2m) <| ins n_2q (.code f_2q) <| ins n_2r (.code f_2r) <| ins n_2o (.code f_2o) <| ins n_2n (.code f_2n) <| ins n_2p (.code f_2p) <| ins n_3m (.code f_3m) <| ins n_2u (.code f_2u) <| ins n_2d (.code f_2d) <| ins n_3x (.code f_3x) <| ins n_3f (.code f_3f) <| ins n_3h (.code f_3h) <| ins n_3g (.code f_3g) <| ins n_3k (.code f_3k) <| ins n_3l (.code f_3l) <| ins n_3j (.code f_3j) <| ins n_0c (.code f_0c) <| ins n_0h (.code f_0h) <| ins n_0g (.code f_0g) <| ins n_0b (.code f_0b) <| ins n_0i (.code f_0i) <| ins n_0e (.code f_0e) <| ins n_11 (.code f_11) <| ins n_13 (.code f_13) <| ins n_0t (.code f_0t) <| ins n_0w (.code f_0w) <| ins n_00 (.code f_00) <| ins n_0v (.code f_0v) <| ins n_3d (.code f_3d) <| ins n_39 (.code f_39) <| ins n_3a (.code f_3a) <| ins n_2v (.code f_2v) <| ins n_3o (.code f_3o) <| ins n_3n (.code f_3n) <| ins n_3i (.code f_3i) <| ins n_0j (.code f_0j) <| ins n_18 (.code f_18) <| ins n_0q (.code f_0q) <| ins n_4g (.code f_4g) <| ins n_12 (.code f_12) <| ins n_19 (.code f_19) <| ins n_0l (.code f_0l) <| ins n_4k (.code f_4k) <| ins n_16 (.code f_16) <| ins n_15 (.code f_15) <| ins n_0a (.code f_0a) <| ins n_01 (.code f_01) <| ins n_57 (.code f_57) <| ins n_0n (.code f_0n) <| ins n_4i (.code f_4i) <| ins n_4l (.code f_4l) <| ins n_4f (.code f_4f) <| ins n_17 (.code f_17) <| ins n_0o (.code f_0o) <| ins n_0f (.code f_0f) <| ins n_56 (.code f_56) <| ins n_4x (.code f_4x) <| ins n_0y (.code f_0y) <| ins n_4h (.code f_4h) <| ins n_0p (.code f_0p) <| ins n_0m (.code f_0m) <| ins n_4p (.code f_4p) <| ins n_06 (.code f_06) <| ins n_0z (.code f_0z) <| ins n_10 (.code f_10) <| ins n_4j (.code f_4j) <| ins n_55 (.code f_55) <| ins n_53 (.code f_53) <| ins n_0r (.code f_0r) <| ins n_07 (.code f_07) <| ins n_0s (.code f_0s) <| ins n_54 (.code f_54) <| ins n_52 (.code f_52) <| ins n_51 (.code f_51) <| ins n_0x (.code f_0x) <| fun _ => none
theorem T_1n : T n_1n = some (.code f_1n) := rfl
theorem T_1s : T n_1s = some (.code f_1s) := rfl
theorem T_1t : T n_1t = some (.code f_1t) := rfl
theorem T_1r : T n_1r = some (.code f_1r) := rfl
theorem T_1c : T n_1c = some (.code f_1c) := rfl
theorem T_04 : T n_04 = some (.code f_04) := rfl
theorem T_48 : T n_48 = some (.code f_48) := rfl
theorem T_05 : T n_05 = some (.code f_05) := rfl
theorem T_47 : T n_47 = some (.code f_47) := rfl
theorem T_2x : T n_2x = some (.code f_2x) := rfl
theorem T_49 : T n_49 = some (.code f_49) := rfl
theorem T_30 : T n_30 = some (.code f_30) := rfl
theorem T_2w : T n_2w = some (.code f_2w) := rfl
theorem T_1b : T n_1b = some (.code f_1b) := rfl
theorem T_1a : T n_1a = some (.code f_1a) := rfl
theorem T_02 : T n_02 = some (.code f_02) := rfl
theorem T_2h : T n_2h = some (.code f_2h) := rfl
theorem T_1q : T n_1q = some (.code f_1q) := rfl
theorem T_2l : T n_2l = some (.code f_2l) := rfl
theorem T_27 : T n_27 = some (.code f_27) := rfl
theorem T_4a : T n_4a = some (.code f_4a) := rfl
theorem T_09 : T n_09 = some (.code f_09) := rfl
theorem T_08 : T n_08 = some (.code f_08) := rfl
theorem T_03 : T n_03 = some (.code f_03) := rfl
theorem T_4c : T n_4c = some (.code f_4c) := rfl
theorem T_4e : T n_4e = some (.code f_4e) := rfl
theorem T_4d : T n_4d = some (.code f_4d) := rfl
theorem T_2y : T n_2y = some (.code f_2y) := rfl
theorem T_32 : T n_32 = some (.code f_32) := rfl
theorem T_2z : T n_2z = some (.code f_2z) := rfl
theorem T_34 : T n_34 = some (.code f_34) := rfl
theorem T_33 : T n_33 = some (.code f_33) := rfl
theorem T_3s : T n_3s = some (.code f_3s) := rfl
theorem T_24 : T n_24 = some (.code f_24) := rfl
theorem T_2k : T n_2k = some (.code f_2k) := rfl
theorem T_2j : T n_2j = some (.code f_2j) := rfl
theorem T_2e : T n_2e = some (.code f_2e) := rfl
theorem T_3u : T n_3u = some (.code f_3u) := rfl
theorem T_2c : T n_2c = some (.code f_2c) := rfl
theorem T_2b : T n_2b = some (.code f_2b) := rfl
theorem T_0k : T n_0k = some (.code f_0k) := rfl
theorem T_0d : T n_0d = some (.code f_0d) := rfl
theorem T_14 : T n_14 = some (.code f_14) := rfl
theorem T_0u : T n_0u = some (.code f_0u) := rfl
theorem T_3b : T n_3b = some (.code f_3b) := rfl
theorem T_3e : T n_3e = some (.code f_3e) := rfl
theorem T_38 : T n_38 = some (.code f_38) := rfl
theorem T_2t : T n_2t = some (.code f_2t) := rfl
theorem T_2m : T n_2m = some (.code f_2m) := rfl
theorem T_2q : T n_2q = some (.code f_2q) := rfl
theorem T_2r : T n_2r = some (.code f_2r) := rfl
theorem T_2o : T n_2o = some (.code f_2o) := rfl
theorem T_2n : T n_2n = some (.code f_2n) := rfl
theorem T_2p : T n_2p = some (.code f_2p) := rfl
theorem T_3m : T n_3m = some (.code f_3m) := rfl
theorem T_2u : T n_2u = some (.code f_2u) := rfl
theorem T_2d : T n_2d = some (.code f_2d) := rfl
theorem T_3x : T n_3x = some (.code f_3x) := rfl
theorem T_3f : T n_3f = some (.code f_3f) := rfl
theorem T_3h : T n_3h = some (.code f_3h) := rfl
theorem T_3g : T n_3g = some (.code f_3g) := rfl
theorem T_3k : T n_3k = some (.code f_3k) := rfl
theorem T_3l : T n_3l = some (.code f_3l) := rfl
theorem T_3j : T n_3j = some (.code f_3j) := rfl
theorem T_0c : T n_0c = some (.code f_0c) := rfl
theorem T_0h : T n_0h = some (.code f_0h) := rfl
theorem T_0g : T n_0g = some (.code f_0g) := rfl
theorem T_0b : T n_0b = some (.code f_0b) := rfl
theorem T_0i : T n_0i = some (.code f_0i) := rfl
theorem T_0e : T n_0e = some (.code f_0e) := rfl
theorem T_11 : T n_11 = some (.code f_11) := rfl
theorem T_13 : T n_13 = some (.code f_13) := rfl
theorem T_0t : T n_0t = some (.code f_0t) := rfl
theorem T_0w : T n_0w = some (.code f_0w) := rfl
theorem T_00 : T n_00 = some (.code f_00) := rfl
theorem T_0v : T n_0v = some (.code f_0v) := rfl
theorem T_3d : T n_3d = some (.code f_3d) := rfl
theorem T_39 : T n_39 = some (.code f_39) := rfl
theorem T_3a : T n_3a = some (.code f_3a) := rfl
theorem T_2v : T n_2v = some (.code f_2v) := rfl
theorem T_3o : T n_3o = some (.code f_3o) := rfl
theorem T_3n : T n_3n = some (.code f_3n) := rfl
theorem T_3i : T n_3i = some (.code f_3i) := rfl
theorem T_0j : T n_0j = some (.code f_0j) := rfl
theorem T_18 : T n_18 = some (.code f_18) := rfl
theorem T_0q : T n_0q = some (.code f_0q) := rfl
theorem T_4g : T n_4g = some (.code f_4g) := rfl
theorem T_12 : T n_12 = some (.code f_12) := rfl
theorem T_19 : T n_19 = some (.code f_19) := rfl
theorem T_0l : T n_0l = some (.code f_0l) := rfl
theorem T_4k : T n_4k = some (.code f_4k) := rfl
theorem T_16 : T n_16 = some (.code f_16) := rfl
theorem T_15 : T n_15 = some (.code f_15) := rfl
theorem T_0a : T n_0a = some (.code f_0a) := rfl
theorem T_01 : T n_01 = some (.code f_01) := rfl
theorem T_57 : T n_57 = some (.code f_57) := rfl
theorem T_0n : T n_0n = some (.code f_0n) := rfl
theorem T_4i : T n_4i = some (.code f_4i) := rfl
theorem T_4l : T n_4l = some (.code f_4l) := rfl
theorem T_4f : T n_4f = some (.code f_4f) := rfl
theorem T_17 : T n_17 = some (.code f_17) := rfl
theorem T_0o : T n_0o = some (.code f_0o) := rfl
theorem T_0f : T n_0f = some (.code f_0f) := rfl
theorem T_56 : T n_56 = some (.code f_56) := rfl
theorem T_4x : T n_4x = some (.code f_4x) := rfl
theorem T_0y : T n_0y = some (.code f_0y) := rfl
theorem T_4h : T n_4h = some (.code f_4h) := rfl
theorem T_0p : T n_0p = some (.code f_0p) := rfl
theorem T_0m : T n_0m = some (.code f_0m) := rfl
theorem T_4p : T n_4p = some (.code f_4p) := rfl
theorem T_06 : T n_06 = some (.code f_06) := rfl
theorem T_0z : T n_0z = some (.code f_0z) := rfl
theorem T_10 : T n_10 = some (.code f_10) := rfl
theorem T_4j : T n_4j = some (.code f_4j) := rfl
theorem T_55 : T n_55 = some (.code f_55) := rfl
theorem T_53 : T n_53 = some (.code f_53) := rfl
theorem T_0r : T n_0r = some (.code f_0r) := rfl
theorem T_07 : T n_07 = some (.code f_07) := rfl
theorem T_0s : T n_0s = some (.code f_0s) := rfl
theorem T_54 : T n_54 = some (.code f_54) := rfl
theorem T_52 : T n_52 = some (.code f_52) := rfl
theorem T_51 : T n_51 = some (.code f_51) := rfl
theorem T_0x : T n_0x = some (.code f_0x) := rfl
section
variable {h : Hp} {q : Value → Hp → Prop} {l : List Value}
@[simp] def g0_1n := G_unf c0_1n.eq_1
@[simp] def g1_1n := G_unf c1_1n.eq_1
@[simp] def g2_1n := G_unf c2_1n.eq_1
@[simp] def g3_1n := G_unf c3_1n.eq_1
@[simp] def g4_1n := G_unf c4_1n.eq_1
@[simp] def g5_1n := G_unf c5_1n.eq_1
@[simp] def g6_1n := G_unf c6_1n.eq_1
@[simp] def g7_1n := G_unf c7_1n.eq_1
@[simp] def g8_1n := G_unf c8_1n.eq_1
@[simp] def g9_1n := G_unf c9_1n.eq_1
@[simp] def g10_1n := G_unf c10_1n.eq_1
@[simp] def g11_1n := G_unf c11_1n.eq_1
@[simp] def g_1n := G_unf c_1n.eq_1
theorem w_1n : WC T n_1n l h q ↔ G T (fin [.t 0] (some []) h.next q) c_1n [] (envOf l) h := WC_G T_1n
@[simp] def g0_1s := G_unf c0_1s.eq_1
@[simp] def g1_1s := G_unf c1_1s.eq_1
@[simp] def g2_1s := G_unf c2_1s.eq_1
@[simp] def g_1s := G_unf c_1s.eq_1
theorem w_1s : WC T n_1s l h q ↔ G T (fin [.t 2, .t 3] (some []) h.next q) c_1s [] (envOf l) h := WC_G T_1s
@[simp] def g0_1t := G_unf c0_1t.eq_1
@[simp] def g1_1t := G_unf c1_1t.eq_1
@[simp] def g2_1t := G_unf c2_1t.eq_1
@[simp] def g3_1t := G_unf c3_1t.eq_1
@[simp] def g4_1t := G_unf c4_1t.eq_1
@[simp] def g5_1t := G_unf c5_1t.eq_1
@[simp] def g6_1t := G_unf c6_1t.eq_1
@[simp] def g7_1t := G_unf c7_1t.eq_1
@[simp] def g8_1t := G_unf c8_1t.eq_1
@[simp] def g9_1t := G_unf c9_1t.eq_1
@[simp] def g10_1t := G_unf c10_1t.eq_1
@[simp] def g11_1t := G_unf c11_1t.eq_1
@[simp] def g_1t := G_unf c_1t.eq_1
theorem w_1t : WC T n_1t l h q ↔ G T (fin [.t 10] (some []) h.next q) c_1t [] (envOf l) h := WC_G T_1t
@[simp] def g0_1r := G_unf c0_1r.eq_1
@[simp] def g1_1r := G_unf c1_1r.eq_1
@[simp] def g2_1r := G_unf c2_1r.eq_1
@[simp] def g3_1r := G_unf c3_1r.eq_1
@[simp] def g_1r := G_unf c_1r.eq_1
theorem w_1r : WC T n_1r l h q ↔ G T (fin [.t 0] (some []) h.next q) c_1r [] (envOf l) h := WC_G T_1r
@[simp] def g0_1c := G_unf c0_1c.eq_1
@[simp] def g1_1c := G_unf c1_1c.eq_1
@[simp] def g_1c := G_unf c_1c.eq_1
theorem w_1c : WC T n_1c l h q ↔ G T (fin [.t 6] (some []) h.next q) c_1c [] (envOf l) h := WC_G T_1c
@[simp] def g0_04 := G_unf c0_04.eq_1
@[simp] def g1_04 := G_unf c1_04.eq_1
@[simp] def g2_04 := G_unf c2_04.eq_1
@[simp] def g3_04 := G_unf c3_04.eq_1
@[simp] def g4_04 := G_unf c4_04.eq_1
@[simp] def g5_04 := G_unf c5_04.eq_1
@[simp] def g6_04 := G_unf c6_04.eq_1
@[simp] def g7_04 := G_unf c7_04.eq_1
@[simp] def g8_04 := G_unf c8_04.eq_1
@[simp] def g9_04 := G_unf c9_04.eq_1
@[simp] def g_04 := G_unf c_04.eq_1
theorem w_04 : WC T n_04 l h q ↔ G T (fin [.ldn 4 6, .t 7] (some []) h.next q) c_04 [] (envOf l) h := WC_G T_04
@[simp] def g0_48 := G_unf c0_48.eq_1
@[simp] def g1_48 := G_unf c1_48.eq_1
@[simp] def g2_48 := G_unf c2_48.eq_1
@[simp] def g3_48 := G_unf c3_48.eq_1
@[simp] def g_48 := G_unf c_48.eq_1
theorem w_48 : WC T n_48 l h q ↔ G T (fin [.t 6, .t 7] (some []) h.next q) c_48 [] (envOf l) h := WC_G T_48
@[simp] def g0_05 := G_unf c0_05.eq_1
@[simp] def g1_05 := G_unf c1_05.eq_1
@[simp] def g2_05 := G_unf c2_05.eq_1
@[simp] def g3_05 := G_unf c3_05.eq_1
@[simp] def g4_05 := G_unf c4_05.eq_1
@[simp] def g_05 := G_unf c_05.eq_1
theorem w_05 : WC T n_05 l h q ↔ G T (fin [.t 4] (some []) h.next q) c_05 [] (envOf l) h := WC_G T_05
@[simp] def g0_47 := G_unf c0_47.eq_1
@[simp] def g_47 := G_unf c_47.eq_1
theorem w_47 : WC T n_47 l h q ↔ G T (fin [.t 2] (some []) h.next q) c_47 [] (envOf l) h := WC_G T_47
@[simp] def g0_2x := G_unf c0_2x.eq_1
@[simp] def g_2x := G_unf c_2x.eq_1
theorem w_2x : WC T n_2x l h q ↔ G T (fin [.t 2] (some []) h.next q) c_2x [] (envOf l) h := WC_G T_2x
@[simp] def g0_49 := G_unf c0_49.eq_1
@[simp] def g1_49 := G_unf c1_49.eq_1
@[simp] def g_49 := G_unf c_49.eq_1
theorem w_49 : WC T n_49 l h q ↔ G T (fin [.t 6] (some []) h.next q) c_49 [] (envOf l) h := WC_G T_49
@[simp] def g0_30 := G_unf c0_30.eq_1
@[simp] def g1_30 := G_unf c1_30.eq_1
@[simp] def g_30 := G_unf c_30.eq_1
theorem w_30 : WC T n_30 l h q ↔ G T (fin [.t 6] (some []) h.next q) c_30 [] (envOf l) h := WC_G T_30
@[simp] def g0_2w := G_unf c0_2w.eq_1
@[simp] def g1_2w := G_unf c1_2w.eq_1
@[simp] def g2_2w := G_unf c2_2w.eq_1
@[simp] def g3_2w := G_unf c3_2w.eq_1
@[simp] def g4_2w := G_unf c4_2w.eq_1
@[simp] def g5_2w := G_unf c5_2w.eq_1
@[simp] def g6_2w := G_unf c6_2w.eq_1
@[simp] def g7_2w := G_unf c7_2w.eq_1
@[simp] def g8_2w := G_unf c8_2w.eq_1
@[simp] def g_2w := G_unf c_2w.eq_1
theorem w_2w : WC T n_2w l h q ↔ G T (fin [.t 6, .t 7, .t 8] (some []) h.next q) c_2w [] (envOf l) h := WC_G T_2w
@[simp] def g0_1b := G_unf c0_1b.eq_1
@[simp] def g1_1b := G_unf c1_1b.eq_1
@[simp] def g2_1b := G_unf c2_1b.eq_1
@[simp] def g_1b := G_unf c_1b.eq_1
theorem w_1b : WC T n_1b l h q ↔ G T (fin [.t 4] (some []) h.next q) c_1b [] (envOf l) h := WC_G T_1b
@[simp] def g0_1a := G_unf c0_1a.eq_1
@[simp] def g1_1a := G_unf c1_1a.eq_1
@[simp] def g2_1a := G_unf c2_1a.eq_1
@[simp] def g_1a := G_unf c_1a.eq_1
theorem w_1a : WC T n_1a l h q ↔ G T (fin [.t 4] (some []) h.next q) c_1a [] (envOf l) h := WC_G T_1a
@[simp] def g_02 := G_unf c_02.eq_1
theorem w_02 : WC T n_02 l h q ↔ G T (fin [.t 2] (some []) h.next q) c_02 [] (envOf l) h := WC_G T_02
@[simp] def g0_2h := G_unf c0_2h.eq_1
@[simp] def g_2h := G_unf c_2h.eq_1
theorem w_2h : WC T n_2h l h q ↔ G T (fin [.t 6] (some []) h.next q) c_2h [] (envOf l) h := WC_G T_2h
@[simp] def g0_1q := G_unf c0_1q.eq_1
@[simp] def g_1q := G_unf c_1q.eq_1
theorem w_1q : WC T n_1q l h q ↔ G T (fin [.t 2] (some []) h.next q) c_1q [] (envOf l) h := WC_G T_1q
@[simp] def g0_2l := G_unf c0_2l.eq_1
@[simp] def g1_2l := G_unf c1_2l.eq_1
@[simp] def g2_2l := G_unf c2_2l.eq_1
@[simp] def g3_2l := G_unf c3_2l.eq_1
@[simp] def g_2l := G_unf c_2l.eq_1
theorem w_2l : WC T n_2l l h q ↔ G T (fin [.t 4] (some []) h.next q) c_2l [] (envOf l) h := WC_G T_2l
@[simp] def g0_27 := G_unf c0_27.eq_1
@[simp] def g1_27 := G_unf c1_27.eq_1
@[simp] def g2_27 := G_unf c2_27.eq_1
@[simp] def g3_27 := G_unf c3_27.eq_1
@[simp] def g4_27 := G_unf c4_27.eq_1
@[simp] def g5_27 := G_unf c5_27.eq_1
@[simp] def g6_27 := G_unf c6_27.eq_1
@[simp] def g7_27 := G_unf c7_27.eq_1
@[simp] def g8_27 := G_unf c8_27.eq_1
@[simp] def g_27 := G_unf c_27.eq_1
theorem w_27 : WC T n_27 l h q ↔ G T (fin [.t 4] (some []) h.next q) c_27 [] (envOf l) h := WC_G T_27
@[simp] def g_4a := G_unf c_4a.eq_1
theorem w_4a : WC T n_4a l h q ↔ G T (fin [.t 2] (some []) h.next q) c_4a [] (envOf l) h := WC_G T_4a
@[simp] def g_09 := G_unf c_09.eq_1
theorem w_09 : WC T n_09 l h q ↔ G T (fin [.ldn 6 2] (some []) h.next q) c_09 [] (envOf l) h := WC_G T_09
@[simp] def g0_08 := G_unf c0_08.eq_1
@[simp] def g1_08 := G_unf c1_08.eq_1
@[simp] def g2_08 := G_unf c2_08.eq_1
@[simp] def g3_08 := G_unf c3_08.eq_1
@[simp] def g4_08 := G_unf c4_08.eq_1
@[simp] def g_08 := G_unf c_08.eq_1
theorem w_08 : WC T n_08 l h q ↔ G T (fin [.t 2] (some []) h.next q) c_08 [] (envOf l) h := WC_G T_08
@[simp] def g0_03 := G_unf c0_03.eq_1
@[simp] def g1_03 := G_unf c1_03.eq_1
@[simp] def g_03 := G_unf c_03.eq_1
theorem w_03 : WC T n_03 l h q ↔ G T (fin [] (some []) h.next q) c_03 [] (envOf l) h := WC_G T_03
@[simp] def g0_4c := G_unf c0_4c.eq_1
@[simp] def g_4c := G_unf c_4c.eq_1
theorem w_4c : WC T n_4c l h q ↔ G T (fin [.t 6] (some []) h.next q) c_4c [] (envOf l) h := WC_G T_4c
@[simp] def g0_4e := G_unf c0_4e.eq_1
@[simp] def g1_4e := G_unf c1_4e.eq_1
@[simp] def g_4e := G_unf c_4e.eq_1
theorem w_4e : WC T n_4e l h q ↔ G T (fin [] (some []) h.next q) c_4e [] (envOf l) h := WC_G T_4e
@[simp] def g0_4d := G_unf c0_4d.eq_1
@[simp] def g_4d := G_unf c_4d.eq_1
theorem w_4d : WC T n_4d l h q ↔ G T (fin [.t 6] (some []) h.next q) c_4d [] (envOf l) h := WC_G T_4d
@[simp] def g0_2y := G_unf c0_2y.eq_1
@[simp] def g_2y := G_unf c_2y.eq_1
theorem w_2y : WC T n_2y l h q ↔ G T (fin [.t 6] (some []) h.next q) c_2y [] (envOf l) h := WC_G T_2y
@[simp] def g0_32 := G_unf c0_32.eq_1
@[simp] def g1_32 := G_unf c1_32.eq_1
@[simp] def g2_32 := G_unf c2_32.eq_1
@[simp] def g_32 := G_unf c_32.eq_1
theorem w_32 : WC T n_32 l h q ↔ G T (fin [] (some []) h.next q) c_32 [] (envOf l) h := WC_G T_32
@[simp] def g0_2z := G_unf c0_2z.eq_1
@[simp] def g1_2z := G_unf c1_2z.eq_1
@[simp] def g2_2z := G_unf c2_2z.eq_1
@[simp] def g_2z := G_unf c_2z.eq_1
theorem w_2z : WC T n_2z l h q ↔ G T (fin [.t 6, .t 7] (some []) h.next q) c_2z [] (envOf l) h := WC_G T_2z
@[simp] def g0_34 := G_unf c0_34.eq_1
@[simp] def g1_34 := G_unf c1_34.eq_1
@[simp] def g2_34 := G_unf c2_34.eq_1
@[simp] def g3_34 := G_unf c3_34.eq_1
@[simp] def g4_34 := G_unf c4_34.eq_1
@[simp] def g5_34 := G_unf c5_34.eq_1
@[simp] def g6_34 := G_unf c6_34.eq_1
@[simp] def g7_34 := G_unf c7_34.eq_1
@[simp] def g8_34 := G_unf c8_34.eq_1
@[simp] def g9_34 := G_unf c9_34.eq_1
@[simp] def g10_34 := G_unf c10_34.eq_1
@[simp] def g_34 := G_unf c_34.eq_1
theorem w_34 : WC T n_34 l h q ↔ G T (fin [.ldn 6 2] (some []) h.next q) c_34 [] (envOf l) h := WC_G T_34
@[simp] def g0_33 := G_unf c0_33.eq_1
@[simp] def g1_33 := G_unf c1_33.eq_1
@[simp] def g2_33 := G_unf c2_33.eq_1
@[simp] def g3_33 := G_unf c3_33.eq_1
@[simp] def g4_33 := G_unf c4_33.eq_1
@[simp] def g_33 := G_unf c_33.eq_1
theorem w_33 : WC T n_33 l h q ↔ G T (fin [.t 2] (some []) h.next q) c_33 [] (envOf l) h := WC_G T_33
@[simp] def g0_3s := G_unf c0_3s.eq_1
@[simp] def g_3s := G_unf c_3s.eq_1
theorem w_3s : WC T n_3s l h q ↔ G T (fin [.ldn 73 0] (some []) h.next q) c_3s [] (envOf l) h := WC_G T_3s
@[simp] def g0_24 := G_unf c0_24.eq_1
@[simp] def g1_24 := G_unf c1_24.eq_1
@[simp] def g2_24 := G_unf c2_24.eq_1
@[simp] def g3_24 := G_unf c3_24.eq_1
@[simp] def g4_24 := G_unf c4_24.eq_1
@[simp] def g_24 := G_unf c_24.eq_1
theorem w_24 : WC T n_24 l h q ↔ G T (fin [.t 6] (some []) h.next q) c_24 [] (envOf l) h := WC_G T_24
@[simp] def g0_2k := G_unf c0_2k.eq_1
@[simp] def g_2k := G_unf c_2k.eq_1
theorem w_2k : WC T n_2k l h q ↔ G T (fin [.t 2] (some []) h.next q) c_2k [] (envOf l) h := WC_G T_2k
@[simp] def g0_2j := G_unf c0_2j.eq_1
@[simp] def g1_2j := G_unf c1_2j.eq_1
@[simp] def g2_2j := G_unf c2_2j.eq_1
@[simp] def g3_2j := G_unf c3_2j.eq_1
@[simp] def g4_2j := G_unf c4_2j.eq_1
@[simp] def g5_2j := G_unf c5_2j.eq_1
@[simp] def g6_2j := G_unf c6_2j.eq_1
@[simp] def g7_2j := G_unf c7_2j.eq_1
@[simp] def g8_2j := G_unf c8_2j.eq_1
@[simp] def g9_2j := G_unf c9_2j.eq_1
@[simp] def g10_2j := G_unf c10_2j.eq_1
@[simp] def g11_2j := G_unf c11_2j.eq_1
@[simp] def g12_2j := G_unf c12_2j.eq_1
@[simp] def g13_2j := G_unf c13_2j.eq_1
@[simp] def g14_2j := G_unf c14_2j.eq_1
@[simp] def g15_2j := G_unf c15_2j.eq_1
@[simp] def g16_2j := G_unf c16_2j.eq_1
@[simp] def g17_2j := G_unf c17_2j.eq_1
@[simp] def g18_2j := G_unf c18_2j.eq_1
@[simp] def g19_2j := G_unf c19_2j.eq_1
@[simp] def g_2j := G_unf c_2j.eq_1
theorem w_2j : WC T n_2j l h q ↔ G T (fin [] (some []) h.next q) c_2j [] (envOf l) h := WC_G T_2j
@[simp] def g0_2e := G_unf c0_2e.eq_1
@[simp] def g1_2e := G_unf c1_2e.eq_1
@[simp] def g2_2e := G_unf c2_2e.eq_1
@[simp] def g3_2e := G_unf c3_2e.eq_1
@[simp] def g4_2e := G_unf c4_2e.eq_1
@[simp] def g5_2e := G_unf c5_2e.eq_1
@[simp] def g_2e := G_unf c_2e.eq_1
theorem w_2e : WC T n_2e l h q ↔ G T (fin [.t 8] (some []) h.next q) c_2e [] (envOf l) h := WC_G T_2e
@[simp] def g0_3u := G_unf c0_3u.eq_1
@[simp] def g1_3u := G_unf c1_3u.eq_1
@[simp] def g2_3u := G_unf c2_3u.eq_1
@[simp] def g3_3u := G_unf c3_3u.eq_1
@[simp] def g_3u := G_unf c_3u.eq_1
theorem w_3u : WC T n_3u l h q ↔ G T (fin [.t 4] (some []) h.next q) c_3u [] (envOf l) h := WC_G T_3u
@[simp] def g0_2c := G_unf c0_2c.eq_1
@[simp] def g1_2c := G_unf c1_2c.eq_1
@[simp] def g2_2c := G_unf c2_2c.eq_1
@[simp] def g3_2c := G_unf c3_2c.eq_1
@[simp] def g4_2c := G_unf c4_2c.eq_1
@[simp] def g5_2c := G_unf c5_2c.eq_1
@[simp] def g_2c := G_unf c_2c.eq_1
theorem w_2c : WC T n_2c l h q ↔ G T (fin [] (some []) h.next q) c_2c [] (envOf l) h := WC_G T_2c
@[simp] def g0_2b := G_unf c0_2b.eq_1
@[simp] def g1_2b := G_unf c1_2b.eq_1
@[simp] def g2_2b := G_unf c2_2b.eq_1
@[simp] def g3_2b := G_unf c3_2b.eq_1
@[simp] def g4_2b := G_unf c4_2b.eq_1
@[simp] def g_2b := G_unf c_2b.eq_1
theorem w_2b : WC T n_2b l h q ↔ G T (fin [] (some []) h.next q) c_2b [] (envOf l) h := WC_G T_2b
@[simp] def g0_0k := G_unf c0_0k.eq_1
@[simp] def g1_0k := G_unf c1_0k.eq_1
@[simp] def g2_0k := G_unf c2_0k.eq_1
@[simp] def g3_0k := G_unf c3_0k.eq_1
@[simp] def g4_0k := G_unf c4_0k.eq_1
@[simp] def g5_0k := G_unf c5_0k.eq_1
@[simp] def g6_0k := G_unf c6_0k.eq_1
@[simp] def g_0k := G_unf c_0k.eq_1
theorem w_0k : WC T n_0k l h q ↔ G T (fin [.ldn 6 4] (some []) h.next q) c_0k [] (envOf l) h := WC_G T_0k
@[simp] def g0_0d := G_unf c0_0d.eq_1
@[simp] def g1_0d := G_unf c1_0d.eq_1
@[simp] def g2_0d := G_unf c2_0d.eq_1
@[simp] def g3_0d := G_unf c3_0d.eq_1
@[simp] def g_0d := G_unf c_0d.eq_1
theorem w_0d : WC T n_0d l h q ↔ G T (fin [.t 2] (some []) h.next q) c_0d [] (envOf l) h := WC_G T_0d
@[simp] def g_14 := G_unf c_14.eq_1
theorem w_14 : WC T n_14 l h q ↔ G T (fin [.t 2] (some []) h.next q) c_14 [] (envOf l) h := WC_G T_14
@[simp] def g0_0u := G_unf c0_0u.eq_1
@[simp] def g1_0u := G_unf c1_0u.eq_1
@[simp] def g2_0u := G_unf c2_0u.eq_1
@[simp] def g3_0u := G_unf c3_0u.eq_1
@[simp] def g4_0u := G_unf c4_0u.eq_1
@[simp] def g5_0u := G_unf c5_0u.eq_1
@[simp] def g6_0u := G_unf c6_0u.eq_1
@[simp] def g7_0u := G_unf c7_0u.eq_1
@[simp] def g8_0u := G_unf c8_0u.eq_1
@[simp] def g9_0u := G_unf c9_0u.eq_1
@[simp] def g10_0u := G_unf c10_0u.eq_1
@[simp] def g11_0u := G_unf c11_0u.eq_1
@[simp] def g12_0u := G_unf c12_0u.eq_1
@[simp] def g13_0u := G_unf c13_0u.eq_1
@[simp] def g_0u := G_unf c_0u.eq_1
theorem w_0u : WC T n_0u l h q ↔ G T (fin [.t 2] (some []) h.next q) c_0u [] (envOf l) h := WC_G T_0u
@[simp] def g0_3b := G_unf c0_3b.eq_1
@[simp] def g_3b := G_unf c_3b.eq_1
theorem w_3b : WC T n_3b l h q ↔ G T (fin [.t 2] (some []) h.next q) c_3b [] (envOf l) h := WC_G T_3b
@[simp] def g0_3e := G_unf c0_3e.eq_1
@[simp] def g1_3e := G_unf c1_3e.eq_1
@[simp] def g2_3e := G_unf c2_3e.eq_1
@[simp] def g3_3e := G_unf c3_3e.eq_1
@[simp] def g_3e := G_unf c_3e.eq_1
theorem w_3e : WC T n_3e l h q ↔ G T (fin [.t 2] (some []) h.next q) c_3e [] (envOf l) h := WC_G T_3e
@[simp] def g0_38 := G_unf c0_38.eq_1
@[simp] def g1_38 := G_unf c1_38.eq_1
@[simp] def g_38 := G_unf c_38.eq_1
theorem w_38 : WC T n_38 l h q ↔ G T (fin [.t 4] (some []) h.next q) c_38 [] (envOf l) h := WC_G T_38
@[simp] def g0_2t := G_unf c0_2t.eq_1
@[simp] def g1_2t := G_unf c1_2t.eq_1
@[simp] def g2_2t := G_unf c2_2t.eq_1
@[simp] def g_2t := G_unf c_2t.eq_1
theorem w_2t : WC T n_2t l h q ↔ G T (fin [.t 4] (some []) h.next q) c_2t [] (envOf l) h := WC_G T_2t
@[simp] def g_2m := G_unf c_2m.eq_1
theorem w_2m : WC T n_2m l h q ↔ G T (fin [.t 2] (some []) h.next q) c_2m [] (envOf l) h := WC_G T_2m
@[simp] def g0_2q := G_unf c0_2q.eq_1
@[simp] def g_2q := G_unf c_2q.eq_1
theorem w_2q : WC T n_2q l h q ↔ G T (fin [.t 6] (some []) h.next q) c_2q [] (envOf l) h := WC_G T_2q
@[simp] def g0_2r := G_unf c0_2r.eq_1
@[simp] def g1_2r := G_unf c1_2r.eq_1
@[simp] def g2_2r := G_unf c2_2r.eq_1
@[simp] def g_2r := G_unf c_2r.eq_1
theorem w_2r : WC T n_2r l h q ↔ G T (fin [.t 6, .t 7] (some []) h.next q) c_2r [] (envOf l) h := WC_G T_2r
@[simp] def g0_2o := G_unf c0_2o.eq_1
@[simp] def g1_2o := G_unf c1_2o.eq_1
@[simp] def g_2o := G_unf c_2o.eq_1
theorem w_2o : WC T n_2o l h q ↔ G T (fin [.t 2] (some []) h.next q) c_2o [] (envOf l) h := WC_G T_2o
@[simp] def g_2n := G_unf c_2n.eq_1
theorem w_2n : WC T n_2n l h q ↔ G T (fin [.t 2] (some []) h.next q) c_2n [] (envOf l) h := WC_G T_2n
@[simp] def g0_2p := G_unf c0_2p.eq_1
@[simp] def g1_2p := G_unf c1_2p.eq_1
@[simp] def g_2p := G_unf c_2p.eq_1
theorem w_2p : WC T n_2p l h q ↔ G T (fin [.t 6, .t 7] (some []) h.next q) c_2p [] (envOf l) h := WC_G T_2p
@[simp] def g0_3m := G_unf c0_3m.eq_1
@[simp] def g1_3m := G_unf c1_3m.eq_1
@[simp] def g2_3m := G_unf c2_3m.eq_1
@[simp] def g3_3m := G_unf c3_3m.eq_1
@[simp] def g4_3m := G_unf c4_3m.eq_1
@[simp] def g5_3m := G_unf c5_3m.eq_1
@[simp] def g_3m := G_unf c_3m.eq_1
theorem w_3m : WC T n_3m l h q ↔ G T (fin [.t 6] (some []) h.next q) c_3m [] (envOf l) h := WC_G T_3m
@[simp] def g0_2u := G_unf c0_2u.eq_1
@[simp] def g1_2u := G_unf c1_2u.eq_1
@[simp] def g2_2u := G_unf c2_2u.eq_1
@[simp] def g_2u := G_unf c_2u.eq_1
theorem w_2u : WC T n_2u l h q ↔ G T (fin [.t 4] (some []) h.next q) c_2u [] (envOf l) h := WC_G T_2u
@[simp] def g0_2d := G_unf c0_2d.eq_1
@[simp] def g_2d := G_unf c_2d.eq_1
theorem w_2d : WC T n_2d l h q ↔ G T (fin [] (some []) h.next q) c_2d [] (envOf l) h := WC_G T_2d
@[simp] def g0_3x := G_unf c0_3x.eq_1
@[simp] def g_3x := G_unf c_3x.eq_1
theorem w_3x : WC T n_3x l h q ↔ G T (fin [.t 2] (some []) h.next q) c_3x [] (envOf l) h := WC_G T_3x
@[simp] def g0_3f := G_unf c0_3f.eq_1
@[simp] def g1_3f := G_unf c1_3f.eq_1
@[simp] def g2_3f := G_unf c2_3f.eq_1
@[simp] def g3_3f := G_unf c3_3f.eq_1
@[simp] def g4_3f := G_unf c4_3f.eq_1
@[simp] def g5_3f := G_unf c5_3f.eq_1
@[simp] def g6_3f := G_unf c6_3f.eq_1
@[simp] def g7_3f := G_unf c7_3f.eq_1
@[simp] def g8_3f := G_unf c8_3f.eq_1
@[simp] def g9_3f := G_unf c9_3f.eq_1
@[simp] def g10_3f := G_unf c10_3f.eq_1
@[simp] def g11_3f := G_unf c11_3f.eq_1
@[simp] def g12_3f := G_unf c12_3f.eq_1
@[simp] def g13_3f := G_unf c13_3f.eq_1
@[simp] def g14_3f := G_unf c14_3f.eq_1
@[simp] def g15_3f := G_unf c15_3f.eq_1
@[simp] def g16_3f := G_unf c16_3f.eq_1
@[simp] def g17_3f := G_unf c17_3f.eq_1
@[simp] def g18_3f := G_unf c18_3f.eq_1
@[simp] def g19_3f := G_unf c19_3f.eq_1
@[simp] def g20_3f := G_unf c20_3f.eq_1
@[simp] def g21_3f := G_unf c21_3f.eq_1
@[simp] def g_3f := G_unf c_3f.eq_1
theorem w_3f : WC T n_3f l h q ↔ G T (fin [.t 6, .t 7] (some []) h.next q) c_3f [] (envOf l) h := WC_G T_3f
@[simp] def g0_3h := G_unf c0_3h.eq_1
@[simp] def g_3h := G_unf c_3h.eq_1
theorem w_3h : WC T n_3h l h q ↔ G T (fin [.t 2] (some []) h.next q) c_3h [] (envOf l) h := WC_G T_3h
@[simp] def g0_3g := G_unf c0_3g.eq_1
@[simp] def g1_3g := G_unf c1_3g.eq_1
@[simp] def g2_3g := G_unf c2_3g.eq_1
@[simp] def g3_3g := G_unf c3_3g.eq_1
@[simp] def g4_3g := G_unf c4_3g.eq_1
@[simp] def g_3g := G_unf c_3g.eq_1
theorem w_3g : WC T n_3g l h q ↔ G T (fin [.t 10, .t 11, .t 12] (some []) h.next q) c_3g [] (envOf l) h := WC_G T_3g
@[simp] def g0_3k := G_unf c0_3k.eq_1
@[simp] def g1_3k := G_unf c1_3k.eq_1
@[simp] def g2_3k := G_unf c2_3k.eq_1
@[simp] def g3_3k := G_unf c3_3k.eq_1
@[simp] def g4_3k := G_unf c4_3k.eq_1
@[simp] def g5_3k := G_unf c5_3k.eq_1
@[simp] def g6_3k := G_unf c6_3k.eq_1
@[simp] def g_3k := G_unf c_3k.eq_1
theorem w_3k : WC T n_3k l h q ↔ G T (fin [.t 6] (some []) h.next q) c_3k [] (envOf l) h := WC_G T_3k
@[simp] def g0_3l := G_unf c0_3l.eq_1
@[simp] def g1_3l := G_unf c1_3l.eq_1
@[simp] def g2_3l := G_unf c2_3l.eq_1
@[simp] def g3_3l := G_unf c3_3l.eq_1
@[simp] def g4_3l := G_unf c4_3l.eq_1
@[simp] def g5_3l := G_unf c5_3l.eq_1
@[simp] def g6_3l := G_unf c6_3l.eq_1
@[simp] def g_3l := G_unf c_3l.eq_1
theorem w_3l : WC T n_3l l h q ↔ G T (fin [.t 6] (some []) h.next q) c_3l [] (envOf l) h := WC_G T_3l
@[simp] def g0_3j := G_unf c0_3j.eq_1
@[simp] def g1_3j := G_unf c1_3j.eq_1
@[simp] def g_3j := G_unf c_3j.eq_1
theorem w_3j : WC T n_3j l h q ↔ G T (fin [.t 2, .t 3] (some []) h.next q) c_3j [] (envOf l) h := WC_G T_3j
@[simp] def g0_0c := G_unf c0_0c.eq_1
@[simp] def g1_0c := G_unf c1_0c.eq_1
@[simp] def g2_0c := G_unf c2_0c.eq_1
@[simp] def g3_0c := G_unf c3_0c.eq_1
@[simp] def g4_0c := G_unf c4_0c.eq_1
@[simp] def g5_0c := G_unf c5_0c.eq_1
@[simp] def g6_0c := G_unf c6_0c.eq_1
@[simp] def g7_0c := G_unf c7_0c.eq_1
@[simp] def g8_0c := G_unf c8_0c.eq_1
@[simp] def g9_0c := G_unf c9_0c.eq_1
@[simp] def g10_0c := G_unf c10_0c.eq_1
@[simp] def g_0c := G_unf c_0c.eq_1
theorem w_0c : WC T n_0c l h q ↔ G T (fin [.t 2] (some []) h.next q) c_0c [] (envOf l) h := WC_G T_0c
@[simp] def g0_0h := G_unf c0_0h.eq_1
@[simp] def g1_0h := G_unf c1_0h.eq_1
@[simp] def g2_0h := G_unf c2_0h.eq_1
@[simp] def g3_0h := G_unf c3_0h.eq_1
@[simp] def g4_0h := G_unf c4_0h.eq_1
@[simp] def g5_0h := G_unf c5_0h.eq_1
@[simp] def g6_0h := G_unf c6_0h.eq_1
@[simp] def g7_0h := G_unf c7_0h.eq_1
@[simp] def g8_0h := G_unf c8_0h.eq_1
@[simp] def g9_0h := G_unf c9_0h.eq_1
@[simp] def g10_0h := G_unf c10_0h.eq_1
@[simp] def g_0h := G_unf c_0h.eq_1
theorem w_0h : WC T n_0h l h q ↔ G T (fin [.t 2] (some []) h.next q) c_0h [] (envOf l) h := WC_G T_0h
@[simp] def g0_0g := G_unf c0_0g.eq_1
@[simp] def g1_0g := G_unf c1_0g.eq_1
@[simp] def g_0g := G_unf c_0g.eq_1
theorem w_0g : WC T n_0g l h q ↔ G T (fin [.t 2] (some []) h.next q) c_0g [] (envOf l) h := WC_G T_0g
@[simp] def g0_0b := G_unf c0_0b.eq_1
@[simp] def g1_0b := G_unf c1_0b.eq_1
@[simp] def g_0b := G_unf c_0b.eq_1
theorem w_0b : WC T n_0b l h q ↔ G T (fin [.t 2] (some []) h.next q) c_0b [] (envOf l) h := WC_G T_0b
@[simp] def g0_0i := G_unf c0_0i.eq_1
@[simp] def g1_0i := G_unf c1_0i.eq_1
@[simp] def g_0i := G_unf c_0i.eq_1
theorem w_0i : WC T n_0i l h q ↔ G T (fin [.t 2] (some []) h.next q) c_0i [] (envOf l) h := WC_G T_0i
@[simp] def g0_0e := G_unf c0_0e.eq_1
@[simp] def g1_0e := G_unf c1_0e.eq_1
@[simp] def g2_0e := G_unf c2_0e.eq_1
@[simp] def g3_0e := G_unf c3_0e.eq_1
@[simp] def g4_0e := G_unf c4_0e.eq_1
@[simp] def g5_0e := G_unf c5_0e.eq_1
@[simp] def g6_0e := G_unf c6_0e.eq_1
@[simp] def g7_0e := G_unf c7_0e.eq_1
@[simp] def g8_0e := G_unf c8_0e.eq_1
@[simp] def g9_0e := G_unf c9_0e.eq_1
@[simp] def g_0e := G_unf c_0e.eq_1
theorem w_0e : WC T n_0e l h q ↔ G T (fin [.t 2] (some []) h.next q) c_0e [] (envOf l) h := WC_G T_0e
@[simp] def g0_11 := G_unf c0_11.eq_1
@[simp] def g1_11 := G_unf c1_11.eq_1
@[simp] def g2_11 := G_unf c2_11.eq_1
@[simp] def g3_11 := G_unf c3_11.eq_1
@[simp] def g4_11 := G_unf c4_11.eq_1
@[simp] def g5_11 := G_unf c5_11.eq_1
@[simp] def g6_11 := G_unf c6_11.eq_1
@[simp] def g7_11 := G_unf c7_11.eq_1
@[simp] def g8_11 := G_unf c8_11.eq_1
@[simp] def g9_11 := G_unf c9_11.eq_1
@[simp] def g10_11 := G_unf c10_11.eq_1
@[simp] def g11_11 := G_unf c11_11.eq_1
@[simp] def g_11 := G_unf c_11.eq_1
theorem w_11 : WC T n_11 l h q ↔ G T (fin [.t 2] (some []) h.next q) c_11 [] (envOf l) h := WC_G T_11
@[simp] def g0_13 := G_unf c0_13.eq_1
@[simp] def g1_13 := G_unf c1_13.eq_1
@[simp] def g2_13 := G_unf c2_13.eq_1
@[simp] def g3_13 := G_unf c3_13.eq_1
@[simp] def g4_13 := G_unf c4_13.eq_1
@[simp] def g5_13 := G_unf c5_13.eq_1
@[simp] def g_13 := G_unf c_13.eq_1
theorem w_13 : WC T n_13 l h q ↔ G T (fin [.t 2] (some []) h.next q) c_13 [] (envOf l) h := WC_G T_13
@[simp] def g0_0t := G_unf c0_0t.eq_1
@[simp] def g_0t := G_unf c_0t.eq_1
theorem w_0t : WC T n_0t l h q ↔ G T (fin [.t 2] (some []) h.next q) c_0t [] (envOf l) h := WC_G T_0t
@[simp] def g0_0w := G_unf c0_0w.eq_1
@[simp] def g1_0w := G_unf c1_0w.eq_1
@[simp] def g2_0w := G_unf c2_0w.eq_1
@[simp] def g3_0w := G_unf c3_0w.eq_1
@[simp] def g4_0w := G_unf c4_0w.eq_1
@[simp] def g5_0w := G_unf c5_0w.eq_1
@[simp] def g6_0w := G_unf c6_0w.eq_1
@[simp] def g7_0w := G_unf c7_0w.eq_1
@[simp] def g8_0w := G_unf c8_0w.eq_1
@[simp] def g9_0w := G_unf c9_0w.eq_1
@[simp] def g10_0w := G_unf c10_0w.eq_1
@[simp] def g11_0w := G_unf c11_0w.eq_1
@[simp] def g12_0w := G_unf c12_0w.eq_1
@[simp] def g_0w := G_unf c_0w.eq_1
theorem w_0w : WC T n_0w l h q ↔ G T (fin [.t 2] (some []) h.next q) c_0w [] (envOf l) h := WC_G T_0w
@[simp] def g0_00 := G_unf c0_00.eq_1
@[simp] def g1_00 := G_unf c1_00.eq_1
@[simp] def g_00 := G_unf c_00.eq_1
theorem w_00 : WC T n_00 l h q ↔ G T (fin [.t 2] (some []) h.next q) c_00 [] (envOf l) h := WC_G T_00
@[simp] def g0_0v := G_unf c0_0v.eq_1
@[simp] def g_0v := G_unf c_0v.eq_1
theorem w_0v : WC T n_0v l h q ↔ G T (fin [.t 2] (some []) h.next q) c_0v [] (envOf l) h := WC_G T_0v
@[simp] def g0_3d := G_unf c0_3d.eq_1
@[simp] def g_3d := G_unf c_3d.eq_1
theorem w_3d : WC T n_3d l h q ↔ G T (fin [.t 0] (some []) h.next q) c_3d [] (envOf l) h := WC_G T_3d
@[simp] def g0_39 := G_unf c0_39.eq_1
@[simp] def g_39 := G_unf c_39.eq_1
theorem w_39 : WC T n_39 l h q ↔ G T (fin [.t 0] (some []) h.next q) c_39 [] (envOf l) h := WC_G T_39
@[simp] def g0_3a := G_unf c0_3a.eq_1
@[simp] def g_3a := G_unf c_3a.eq_1
theorem w_3a : WC T n_3a l h q ↔ G T (fin [.t 0] (some []) h.next q) c_3a [] (envOf l) h := WC_G T_3a
@[simp] def g0_2v := G_unf c0_2v.eq_1
@[simp] def g_2v := G_unf c_2v.eq_1
theorem w_2v : WC T n_2v l h q ↔ G T (fin [.t 4] (some []) h.next q) c_2v [] (envOf l) h := WC_G T_2v
@[simp] def g0_3o := G_unf c0_3o.eq_1
@[simp] def g1_3o := G_unf c1_3o.eq_1
@[simp] def g_3o := G_unf c_3o.eq_1
theorem w_3o : WC T n_3o l h q ↔ G T (fin [.t 6] (some []) h.next q) c_3o [] (envOf l) h := WC_G T_3o
@[simp] def g_3n := G_unf c_3n.eq_1
theorem w_3n : WC T n_3n l h q ↔ G T (fin [.t 2] (some []) h.next q) c_3n [] (envOf l) h := WC_G T_3n
@[simp] def g0_3i := G_unf c0_3i.eq_1
@[simp] def g_3i := G_unf c_3i.eq_1
theorem w_3i : WC T n_3i l h q ↔ G T (fin [.t 2] (some []) h.next q) c_3i [] (envOf l) h := WC_G T_3i
@[simp] def g0_0j := G_unf c0_0j.eq_1
@[simp] def g1_0j := G_unf c1_0j.eq_1
@[simp] def g2_0j := G_unf c2_0j.eq_1
@[simp] def g_0j := G_unf c_0j.eq_1
theorem w_0j : WC T n_0j l h q ↔ G T (fin [.t 2] (some []) h.next q) c_0j [] (envOf l) h := WC_G T_0j
@[simp] def g0_18 := G_unf c0_18.eq_1
@[simp] def g1_18 := G_unf c1_18.eq_1
@[simp] def g_18 := G_unf c_18.eq_1
theorem w_18 : WC T n_18 l h q ↔ G T (fin [.t 2] (some []) h.next q) c_18 [] (envOf l) h := WC_G T_18
@[simp] def g0_0q := G_unf c0_0q.eq_1
@[simp] def g1_0q := G_unf c1_0q.eq_1
@[simp] def g2_0q := G_unf c2_0q.eq_1
@[simp] def g_0q := G_unf c_0q.eq_1
theorem w_0q : WC T n_0q l h q ↔ G T (fin [.t 2] (some []) h.next q) c_0q [] (envOf l) h := WC_G T_0q
@[simp] def g_4g := G_unf c_4g.eq_1
theorem w_4g : WC T n_4g l h q ↔ G T (fin [.t 4] (some []) h.next q) c_4g [] (envOf l) h := WC_G T_4g
@[simp] def g_12 := G_unf c_12.eq_1
theorem w_12 : WC T n_12 l h q ↔ G T (fin [.t 3] (some []) h.next q) c_12 [] (envOf l) h := WC_G T_12
@[simp] def g0_19 := G_unf c0_19.eq_1
@[simp] def g_19 := G_unf c_19.eq_1
theorem w_19 : WC T n_19 l h q ↔ G T (fin [.t 2] (some []) h.next q) c_19 [] (envOf l) h := WC_G T_19
@[simp] def g0_0l := G_unf c0_0l.eq_1
@[simp] def g1_0l := G_unf c1_0l.eq_1
@[simp] def g2_0l := G_unf c2_0l.eq_1
@[simp] def g3_0l := G_unf c3_0l.eq_1
@[simp] def g4_0l := G_unf c4_0l.eq_1
@[simp] def g_0l := G_unf c_0l.eq_1
theorem w_0l : WC T n_0l l h q ↔ G T (fin [.t 2] (some []) h.next q) c_0l [] (envOf l) h := WC_G T_0l
@[simp] def g0_4k := G_unf c0_4k.eq_1
@[simp] def g1_4k := G_unf c1_4k.eq_1
@[simp] def g_4k := G_unf c_4k.eq_1
theorem w_4k : WC T n_4k l h q ↔ G T (fin [] (some []) h.next q) c_4k [] (envOf l) h := WC_G T_4k
@[simp] def g0_16 := G_unf c0_16.eq_1
@[simp] def g1_16 := G_unf c1_16.eq_1
@[simp] def g2_16 := G_unf c2_16.eq_1
@[simp] def g3_16 := G_unf c3_16.eq_1
@[simp] def g4_16 := G_unf c4_16.eq_1
@[simp] def g_16 := G_unf c_16.eq_1
theorem w_16 : WC T n_16 l h q ↔ G T (fin [.ldn 5 4, .t 5] (some []) h.next q) c_16 [] (envOf l) h := WC_G T_16
@[simp] def g0_15 := G_unf c0_15.eq_1
@[simp] def g1_15 := G_unf c1_15.eq_1
@[simp] def g2_15 := G_unf c2_15.eq_1
@[simp] def g3_15 := G_unf c3_15.eq_1
@[simp] def g_15 := G_unf c_15.eq_1
theorem w_15 : WC T n_15 l h q ↔ G T (fin [] (some []) h.next q) c_15 [] (envOf l) h := WC_G T_15
@[simp] def g0_0a := G_unf c0_0a.eq_1
@[simp] def g1_0a := G_unf c1_0a.eq_1
@[simp] def g2_0a := G_unf c2_0a.eq_1
@[simp] def g3_0a := G_unf c3_0a.eq_1
@[simp] def g_0a := G_unf c_0a.eq_1
theorem w_0a : WC T n_0a l h q ↔ G T (fin [.t 2] (some []) h.next q) c_0a [] (envOf l) h := WC_G T_0a
@[simp] def g0_01 := G_unf c0_01.eq_1
@[simp] def g_01 := G_unf c_01.eq_1
theorem w_01 : WC T n_01 l h q ↔ G T (fin [.t 2] (some []) h.next q) c_01 [] (envOf l) h := WC_G T_01
@[simp] def g0_57 := G_unf c0_57.eq_1
@[simp] def g1_57 := G_unf c1_57.eq_1
@[simp] def g_57 := G_unf c_57.eq_1
theorem w_57 : WC T n_57 l h q ↔ G T (fin [.t 4] (some []) h.next q) c_57 [] (envOf l) h := WC_G T_57
@[simp] def g0_0n := G_unf c0_0n.eq_1
@[simp] def g1_0n := G_unf c1_0n.eq_1
@[simp] def g2_0n := G_unf c2_0n.eq_1
@[simp] def g3_0n := G_unf c3_0n.eq_1
@[simp] def g_0n := G_unf c_0n.eq_1
theorem w_0n : WC T n_0n l h q ↔ G T (fin [.t 2] (some []) h.next q) c_0n [] (envOf l) h := WC_G T_0n
@[simp] def g0_4i := G_unf c0_4i.eq_1
@[simp] def g1_4i := G_unf c1_4i.eq_1
@[simp] def g_4i := G_unf c_4i.eq_1
theorem w_4i : WC T n_4i l h q ↔ G T (fin [.t 4] (some []) h.next q) c_4i [] (envOf l) h := WC_G T_4i
@[simp] def g_4l := G_unf c_4l.eq_1
theorem w_4l : WC T n_4l l h q ↔ G T (fin [] (some []) h.next q) c_4l [] (envOf l) h := WC_G T_4l
@[simp] def g0_4f := G_unf c0_4f.eq_1
@[simp] def g1_4f := G_unf c1_4f.eq_1
@[simp] def g2_4f := G_unf c2_4f.eq_1
@[simp] def g3_4f := G_unf c3_4f.eq_1
@[simp] def g4_4f := G_unf c4_4f.eq_1
@[simp] def g5_4f := G_unf c5_4f.eq_1
@[simp] def g6_4f := G_unf c6_4f.eq_1
@[simp] def g_4f := G_unf c_4f.eq_1
theorem w_4f : WC T n_4f l h q ↔ G T (fin [.t 2] (some []) h.next q) c_4f [] (envOf l) h := WC_G T_4f
@[simp] def g0_17 := G_unf c0_17.eq_1
@[simp] def g1_17 := G_unf c1_17.eq_1
@[simp] def g_17 := G_unf c_17.eq_1
theorem w_17 : WC T n_17 l h q ↔ G T (fin [.t 4] (some []) h.next q) c_17 [] (envOf l) h := WC_G T_17
@[simp] def g0_0o := G_unf c0_0o.eq_1
@[simp] def g1_0o := G_unf c1_0o.eq_1
@[simp] def g2_0o := G_unf c2_0o.eq_1
@[simp] def g3_0o := G_unf c3_0o.eq_1
@[simp] def g_0o := G_unf c_0o.eq_1
theorem w_0o : WC T n_0o l h q ↔ G T (fin [.t 4] (some []) h.next q) c_0o [] (envOf l) h := WC_G T_0o
@[simp] def g0_0f := G_unf c0_0f.eq_1
@[simp] def g_0f := G_unf c_0f.eq_1
theorem w_0f : WC T n_0f l h q ↔ G T (fin [.t 2] (some []) h.next q) c_0f [] (envOf l) h := WC_G T_0f
@[simp] def g_56 := G_unf c_56.eq_1
theorem w_56 : WC T n_56 l h q ↔ G T (fin [.t 4] (some []) h.next q) c_56 [] (envOf l) h := WC_G T_56
@[simp] def g0_4x := G_unf c0_4x.eq_1
@[simp] def g1_4x := G_unf c1_4x.eq_1
@[simp] def g2_4x := G_unf c2_4x.eq_1
@[simp] def g3_4x := G_unf c3_4x.eq_1
@[simp] def g4_4x := G_unf c4_4x.eq_1
@[simp] def g5_4x := G_unf c5_4x.eq_1
@[simp] def g6_4x := G_unf c6_4x.eq_1
@[simp] def g7_4x := G_unf c7_4x.eq_1
@[simp] def g8_4x := G_unf c8_4x.eq_1
@[simp] def g9_4x := G_unf c9_4x.eq_1
@[simp] def g10_4x := G_unf c10_4x.eq_1
@[simp] def g11_4x := G_unf c11_4x.eq_1
@[simp] def g12_4x := G_unf c12_4x.eq_1
@[simp] def g13_4x := G_unf c13_4x.eq_1
@[simp] def g14_4x := G_unf c14_4x.eq_1
@[simp] def g_4x := G_unf c_4x.eq_1
theorem w_4x : WC T n_4x l h q ↔ G T (fin [] (some []) h.next q) c_4x [] (envOf l) h := WC_G T_4x
@[simp] def g0_0y := G_unf c0_0y.eq_1
@[simp] def g_0y := G_unf c_0y.eq_1
theorem w_0y : WC T n_0y l h q ↔ G T (fin [.t 2] (some []) h.next q) c_0y [] (envOf l) h := WC_G T_0y
@[simp] def g_4h := G_unf c_4h.eq_1
theorem w_4h : WC T n_4h l h q ↔ G T (fin [.t 4] (some []) h.next q) c_4h [] (envOf l) h := WC_G T_4h
@[simp] def g_0p := G_unf c_0p.eq_1
theorem w_0p : WC T n_0p l h q ↔ G T (fin [.t 2] (some []) h.next q) c_0p [] (envOf l) h := WC_G T_0p
@[simp] def g0_0m := G_unf c0_0m.eq_1
@[simp] def g1_0m := G_unf c1_0m.eq_1
@[simp] def g2_0m := G_unf c2_0m.eq_1
@[simp] def g3_0m := G_unf c3_0m.eq_1
@[simp] def g4_0m := G_unf c4_0m.eq_1
@[simp] def g5_0m := G_unf c5_0m.eq_1
@[simp] def g6_0m := G_unf c6_0m.eq_1
@[simp] def g_0m := G_unf c_0m.eq_1
theorem w_0m : WC T n_0m l h q ↔ G T (fin [] (some []) h.next q) c_0m [] (envOf l) h := WC_G T_0m
@[simp] def g0_4p := G_unf c0_4p.eq_1
@[simp] def g1_4p := G_unf c1_4p.eq_1
@[simp] def g2_4p := G_unf c2_4p.eq_1
@[simp] def g_4p := G_unf c_4p.eq_1
theorem w_4p : WC T n_4p l h q ↔ G T (fin [] (some []) h.next q) c_4p [] (envOf l) h := WC_G T_4p
@[simp] def g0_06 := G_unf c0_06.eq_1
@[simp] def g_06 := G_unf c_06.eq_1
theorem w_06 : WC T n_06 l h q ↔ G T (fin [.t 4] (some []) h.next q) c_06 [] (envOf l) h := WC_G T_06
@[simp] def g0_0z := G_unf c0_0z.eq_1
@[simp] def g1_0z := G_unf c1_0z.eq_1
@[simp] def g2_0z := G_unf c2_0z.eq_1
@[simp] def g_0z := G_unf c_0z.eq_1
theorem w_0z : WC T n_0z l h q ↔ G T (fin [.t 2] (some []) h.next q) c_0z [] (envOf l) h := WC_G T_0z
@[simp] def g0_10 := G_unf c0_10.eq_1
@[simp] def g1_10 := G_unf c1_10.eq_1
@[simp] def g2_10 := G_unf c2_10.eq_1
@[simp] def g3_10 := G_unf c3_10.eq_1
@[simp] def g_10 := G_unf c_10.eq_1
theorem w_10 : WC T n_10 l h q ↔ G T (fin [.t 2] (some []) h.next q) c_10 [] (envOf l) h := WC_G T_10
@[simp] def g0_4j := G_unf c0_4j.eq_1
@[simp] def g1_4j := G_unf c1_4j.eq_1
@[simp] def g_4j := G_unf c_4j.eq_1
theorem w_4j : WC T n_4j l h q ↔ G T (fin [.t 4] (some []) h.next q) c_4j [] (envOf l) h := WC_G T_4j
@[simp] def g0_55 := G_unf c0_55.eq_1
@[simp] def g1_55 := G_unf c1_55.eq_1
@[simp] def g_55 := G_unf c_55.eq_1
theorem w_55 : WC T n_55 l h q ↔ G T (fin [.t 6, .t 7] (some []) h.next q) c_55 [] (envOf l) h := WC_G T_55
@[simp] def g0_53 := G_unf c0_53.eq_1
@[simp] def g1_53 := G_unf c1_53.eq_1
@[simp] def g2_53 := G_unf c2_53.eq_1
@[simp] def g3_53 := G_unf c3_53.eq_1
@[simp] def g_53 := G_unf c_53.eq_1
theorem w_53 : WC T n_53 l h q ↔ G T (fin [.t 6, .t 7] (some []) h.next q) c_53 [] (envOf l) h := WC_G T_53
@[simp] def g0_0r := G_unf c0_0r.eq_1
@[simp] def g1_0r := G_unf c1_0r.eq_1
@[simp] def g2_0r := G_unf c2_0r.eq_1
@[simp] def g3_0r := G_unf c3_0r.eq_1
@[simp] def g4_0r := G_unf c4_0r.eq_1
@[simp] def g5_0r := G_unf c5_0r.eq_1
@[simp] def g6_0r := G_unf c6_0r.eq_1
@[simp] def g7_0r := G_unf c7_0r.eq_1
@[simp] def g8_0r := G_unf c8_0r.eq_1
@[simp] def g9_0r := G_unf c9_0r.eq_1
@[simp] def g10_0r := G_unf c10_0r.eq_1
@[simp] def g_0r := G_unf c_0r.eq_1
theorem w_0r : WC T n_0r l h q ↔ G T (fin [.t 6] (some []) h.next q) c_0r [] (envOf l) h := WC_G T_0r
@[simp] def g_07 := G_unf c_07.eq_1
theorem w_07 : WC T n_07 l h q ↔ G T (fin [.t 2] (some []) h.next q) c_07 [] (envOf l) h := WC_G T_07
@[simp] def g_0s := G_unf c_0s.eq_1
theorem w_0s : WC T n_0s l h q ↔ G T (fin [.t 2] (some []) h.next q) c_0s [] (envOf l) h := WC_G T_0s
@[simp] def g0_54 := G_unf c0_54.eq_1
@[simp] def g_54 := G_unf c_54.eq_1
theorem w_54 : WC T n_54 l h q ↔ G T (fin [.t 6] (some []) h.next q) c_54 [] (envOf l) h := WC_G T_54
@[simp] def g_52 := G_unf c_52.eq_1
theorem w_52 : WC T n_52 l h q ↔ G T (fin [.t 2] (some []) h.next q) c_52 [] (envOf l) h := WC_G T_52
@[simp] def g_51 := G_unf c_51.eq_1
theorem w_51 : WC T n_51 l h q ↔ G T (fin [.t 2] (some []) h.next q) c_51 [] (envOf l) h := WC_G T_51
@[simp] def g_0x := G_unf c_0x.eq_1
theorem w_0x : WC T n_0x l h q ↔ G T (fin [.t 2] (some []) h.next q) c_0x [] (envOf l) h := WC_G T_0x
end
theorem tab : TabOK Tryz.prog (compAny Tryz.prog) T :=
  tab_ins h_1n <|
  tab_ins h_1s <|
  tab_ins h_1t <|
  tab_ins h_1r <|
  tab_ins h_1c <|
  tab_ins h_04 <|
  tab_ins h_48 <|
  tab_ins h_05 <|
  tab_ins h_47 <|
  tab_ins h_2x <|
  tab_ins h_49 <|
  tab_ins h_30 <|
  tab_ins h_2w <|
  tab_ins h_1b <|
  tab_ins h_1a <|
  tab_ins h_02 <|
  tab_ins h_2h <|
  tab_ins h_1q <|
  tab_ins h_2l <|
  tab_ins h_27 <|
  tab_ins h_4a <|
  tab_ins h_09 <|
  tab_ins h_08 <|
  tab_ins h_03 <|
  tab_ins h_4c <|
  tab_ins h_4e <|
  tab_ins h_4d <|
  tab_ins h_2y <|
  tab_ins h_32 <|
  tab_ins h_2z <|
  tab_ins h_34 <|
  tab_ins h_33 <|
  tab_ins h_3s <|
  tab_ins h_24 <|
  tab_ins h_2k <|
  tab_ins h_2j <|
  tab_ins h_2e <|
  tab_ins h_3u <|
  tab_ins h_2c <|
  tab_ins h_2b <|
  tab_ins h_0k <|
  tab_ins h_0d <|
  tab_ins h_14 <|
  tab_ins h_0u <|
  tab_ins h_3b <|
  tab_ins h_3e <|
  tab_ins h_38 <|
  tab_ins h_2t <|
  tab_ins h_2m <|
  tab_ins h_2q <|
  tab_ins h_2r <|
  tab_ins h_2o <|
  tab_ins h_2n <|
  tab_ins h_2p <|
  tab_ins h_3m <|
  tab_ins h_2u <|
  tab_ins h_2d <|
  tab_ins h_3x <|
  tab_ins h_3f <|
  tab_ins h_3h <|
  tab_ins h_3g <|
  tab_ins h_3k <|
  tab_ins h_3l <|
  tab_ins h_3j <|
  tab_ins h_0c <|
  tab_ins h_0h <|
  tab_ins h_0g <|
  tab_ins h_0b <|
  tab_ins h_0i <|
  tab_ins h_0e <|
  tab_ins h_11 <|
  tab_ins h_13 <|
  tab_ins h_0t <|
  tab_ins h_0w <|
  tab_ins h_00 <|
  tab_ins h_0v <|
  tab_ins h_3d <|
  tab_ins h_39 <|
  tab_ins h_3a <|
  tab_ins h_2v <|
  tab_ins h_3o <|
  tab_ins h_3n <|
  tab_ins h_3i <|
  tab_ins h_0j <|
  tab_ins h_18 <|
  tab_ins h_0q <|
  tab_ins h_4g <|
  tab_ins h_12 <|
  tab_ins h_19 <|
  tab_ins h_0l <|
  tab_ins h_4k <|
  tab_ins h_16 <|
  tab_ins h_15 <|
  tab_ins h_0a <|
  tab_ins h_01 <|
  tab_ins h_57 <|
  tab_ins h_0n <|
  tab_ins h_4i <|
  tab_ins h_4l <|
  tab_ins h_4f <|
  tab_ins h_17 <|
  tab_ins h_0o <|
  tab_ins h_0f <|
  tab_ins h_56 <|
  tab_ins h_4x <|
  tab_ins h_0y <|
  tab_ins h_4h <|
  tab_ins h_0p <|
  tab_ins h_0m <|
  tab_ins h_4p <|
  tab_ins h_06 <|
  tab_ins h_0z <|
  tab_ins h_10 <|
  tab_ins h_4j <|
  tab_ins h_55 <|
  tab_ins h_53 <|
  tab_ins h_0r <|
  tab_ins h_07 <|
  tab_ins h_0s <|
  tab_ins h_54 <|
  tab_ins h_52 <|
  tab_ins h_51 <|
  tab_ins h_0x <|
  tab_none
end Go.Proofs.YtmgoleiafiffoaaGreat.Cd
