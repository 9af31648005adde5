/- Texts of one kind, one behind the other. -/
import Derived.Test.YtoiiphcbkejliaaGreatMd0
set_option maxRecDepth 100000
set_option linter.defProp false
namespace Go.Proofs.YtoiiphcbkejliaaGreat.Cd
open Go Go.Dx
def c0_6r : C :=
 .seq (.ops [⟨some 1,none,.build [(.int .i64 0),(.int .i64 0),(.int .i64 0),(.string .empty)] [(0,1,(.c (.int .i64 0))),(1,1,(.c (.int .i64 0))),(2,1,(.c (.int .i64 1))),(3,1,(.c (.string ⟨#[116,100,104]⟩)))]⟩,⟨some 2,none,.build [(.int .i64 0),(.int .i64 0),(.int .i64 0),(.string .empty)] [(0,1,(.c (.int .i64 0))),(1,1,(.c (.int .i64 2))),(2,1,(.c (.int .i64 2))),(3,1,(.c (.string ⟨#[116,100,104]⟩)))]⟩,⟨some 3,none,.build [(.int .i64 0),(.int .i64 0),(.int .i64 0),(.string .empty)] [(0,1,(.c (.int .i64 0))),(1,1,(.c (.int .i64 3))),(2,1,(.c (.int .i64 3))),(3,1,(.c (.string ⟨#[116,100,104]⟩)))]⟩,⟨some 4,none,.build [(.int .i64 0),(.int .i64 0),(.int .i64 0),(.string .empty)] [(0,1,(.c (.int .i64 0))),(1,1,(.c (.int .i64 4))),(2,1,(.c (.int .i64 4))),(3,1,(.c (.string ⟨#[115,116,100]⟩)))]⟩,⟨some 5,none,.build [(.int .i64 0),(.int .i64 0),(.int .i64 0),(.string .empty)] [(0,1,(.c (.int .i64 0))),(1,1,(.c (.int .i64 6))),(2,1,(.c (.int .i64 5))),(3,1,(.c (.string ⟨#[115,116,100]⟩)))]⟩,⟨some 6,none,.build [(.int .i64 0),(.int .i64 0),(.int .i64 0),(.string .empty)] [(0,1,(.c (.int .i64 0))),(1,1,(.c (.int .i64 7))),(2,1,(.c (.int .i64 6))),(3,1,(.c (.string ⟨#[115,116,100]⟩)))]⟩,⟨some 7,none,.build [(.int .i64 0),(.int .i64 0),(.int .i64 0),(.string .empty)] [(0,1,(.c (.int .i64 0))),(1,1,(.c (.int .i64 8))),(2,1,(.c (.int .i64 7))),(3,1,(.c (.string ⟨#[115]⟩)))]⟩,⟨some 8,none,.build [(.int .i64 0),(.int .i64 0),(.int .i64 0),(.string .empty)] [(0,1,(.c (.int .i64 0))),(1,1,(.c (.int .i64 9))),(2,1,(.c (.int .i64 8))),(3,1,(.c (.string ⟨#[115,100]⟩)))]⟩,⟨some 9,none,.build [(.int .i64 0),(.int .i64 0),(.int .i64 0),(.string .empty)] [(0,1,(.c (.int .i64 0))),(1,1,(.c (.int .i64 10))),(2,1,(.c (.int .i64 9))),(3,1,(.c (.string ⟨#[115,116,100]⟩)))]⟩,⟨some 10,none,.build [(.int .i64 0),(.int .i64 0),(.int .i64 0),(.string .empty)] [(0,1,(.c (.int .i64 0))),(1,1,(.c (.int .i64 11))),(2,1,(.c (.int .i64 10))),(3,1,(.c (.string ⟨#[115,116,100]⟩)))]⟩,oA 11 (.build [(.int .i64 0),(.int .i64 0),(.int .i64 0),(.string .empty)] [(0,1,(.c (.int .i64 0))),(1,1,(.c (.int .i64 12))),(2,1,(.c (.int .i64 11))),(3,1,(.c (.string .empty)))]),oA 12 (.build [(.int .i64 0),(.int .i64 0),(.int .i64 0),(.string .empty)] [(0,1,(.c (.int .i64 0))),(1,1,(.c (.int .i64 13))),(2,1,(.c (.int .i64 12))),(3,1,(.c (.string .empty)))]),oA 13 (.build [(.int .i64 0),(.int .i64 0),(.int .i64 0),(.string .empty)] [(0,1,(.c (.int .i64 0))),(1,1,(.c (.int .i64 15))),(2,1,(.c (.int .i64 13))),(3,1,(.c (.string .empty)))]),⟨some 14,none,.build [(.int .i64 0),(.int .i64 0),(.int .i64 0),(.string .empty)] [(0,1,(.c (.int .i64 0))),(1,1,(.c (.int .i64 16))),(2,1,(.c (.int .i64 14))),(3,1,(.c (.string ⟨#[100]⟩)))]⟩,⟨some 15,none,.build [(.int .i64 0),(.int .i64 0),(.int .i64 0),(.string .empty)] [(0,1,(.c (.int .i64 0))),(1,1,(.c (.int .i64 17))),(2,1,(.c (.int .i64 15))),(3,1,(.c (.string ⟨#[115]⟩)))]⟩,⟨some 16,none,.build [(.int .i64 0),(.int .i64 0),(.int .i64 0),(.string .empty)] [(0,1,(.c (.int .i64 0))),(1,1,(.c (.int .i64 18))),(2,1,(.c (.int .i64 16))),(3,1,(.c (.string ⟨#[100]⟩)))]⟩,⟨some 17,none,.build [(.int .i64 0),(.int .i64 0),(.int .i64 0),(.string .empty)] [(0,1,(.c (.int .i64 0))),(1,1,(.c (.int .i64 19))),(2,1,(.c (.int .i64 17))),(3,1,(.c (.string ⟨#[115]⟩)))]⟩,⟨some 18,none,.build [(.int .i64 0),(.int .i64 0),(.int .i64 0),(.string .empty)] [(0,1,(.c (.int .i64 0))),(1,1,(.c (.int .i64 24))),(2,1,(.c (.int .i64 18))),(3,1,(.c (.string ⟨#[115,116]⟩)))]⟩,⟨some 19,none,.build [(.int .i64 0),(.int .i64 0),(.int .i64 0),(.string .empty)] [(0,1,(.c (.int .i64 0))),(1,1,(.c (.int .i64 25))),(2,1,(.c (.int .i64 19))),(3,1,(.c (.string ⟨#[115,116]⟩)))]⟩,⟨some 20,none,.build [(.int .i64 0),(.int .i64 0),(.int .i64 0),(.string .empty)] [(0,1,(.c (.int .i64 0))),(1,1,(.c (.int .i64 26))),(2,1,(.c (.int .i64 20))),(3,1,(.c (.string ⟨#[115,116]⟩)))]⟩,⟨some 21,none,.build [(.int .i64 0),(.int .i64 0),(.int .i64 0),(.string .empty)] [(0,1,(.c (.int .i64 0))),(1,1,(.c (.int .i64 27))),(2,1,(.c (.int .i64 21))),(3,1,(.c (.string ⟨#[115,116]⟩)))]⟩,⟨some 22,none,.build [(.int .i64 0),(.int .i64 0),(.int .i64 0),(.string .empty)] [(0,1,(.c (.int .i64 0))),(1,1,(.c (.int .i64 32))),(2,1,(.c (.int .i64 22))),(3,1,(.c (.string ⟨#[115,116,100]⟩)))]⟩,⟨some 23,none,.build [(.int .i64 0),(.int .i64 0),(.int .i64 0),(.string .empty)] [(0,1,(.c (.int .i64 0))),(1,1,(.c (.int .i64 33))),(2,1,(.c (.int .i64 23))),(3,1,(.c (.string ⟨#[115,116,100]⟩)))]⟩,⟨some 24,none,.build [(.int .i64 0),(.int .i64 0),(.int .i64 0),(.string .empty)] [(0,1,(.c (.int .i64 0))),(1,1,(.c (.int .i64 34))),(2,1,(.c (.int .i64 24))),(3,1,(.c (.string ⟨#[115,116,100]⟩)))]⟩,⟨some 25,none,.build [(.int .i64 0),(.int .i64 0),(.int .i64 0),(.string .empty)] [(0,1,(.c (.int .i64 0))),(1,1,(.c (.int .i64 35))),(2,1,(.c (.int .i64 25))),(3,1,(.c (.string ⟨#[115,116,100]⟩)))]⟩,⟨some 26,none,.build [(.int .i64 0),(.int .i64 0),(.int .i64 0),(.string .empty)] [(0,1,(.c (.int .i64 0))),(1,1,(.c (.int .i64 36))),(2,1,(.c (.int .i64 26))),(3,1,(.c (.string ⟨#[115,116,100]⟩)))]⟩,⟨some 27,none,.build [(.int .i64 0),(.int .i64 0),(.int .i64 0),(.string .empty)] [(0,1,(.c (.int .i64 0))),(1,1,(.c (.int .i64 37))),(2,1,(.c (.int .i64 27))),(3,1,(.c (.string ⟨#[115,116,100]⟩)))]⟩,⟨some 28,none,.build [(.int .i64 0),(.int .i64 0),(.int .i64 0),(.string .empty)] [(0,1,(.c (.int .i64 0))),(1,1,(.c (.int .i64 38))),(2,1,(.c (.int .i64 28))),(3,1,(.c (.string ⟨#[115,116,100]⟩)))]⟩,⟨some 29,none,.build [(.int .i64 0),(.int .i64 0),(.int .i64 0),(.string .empty)] [(0,1,(.c (.int .i64 0))),(1,1,(.c (.int .i64 39))),(2,1,(.c (.int .i64 29))),(3,1,(.c (.string ⟨#[115,116,100]⟩)))]⟩,⟨some 30,none,.build [(.int .i64 0),(.int .i64 0),(.int .i64 0),(.string .empty)] [(0,1,(.c (.int .i64 0))),(1,1,(.c (.int .i64 42))),(2,1,(.c (.int .i64 30))),(3,1,(.c (.string ⟨#[115,116,100]⟩)))]⟩,⟨some 31,none,.build [(.int .i64 0),(.int .i64 0),(.int .i64 0),(.string .empty)] [(0,1,(.c (.int .i64 0))),(1,1,(.c (.int .i64 43))),(2,1,(.c (.int .i64 31))),(3,1,(.c (.string ⟨#[115,116,100]⟩)))]⟩,⟨some 32,none,.build [(.int .i64 0),(.int .i64 0),(.int .i64 0),(.string .empty)] [(0,1,(.c (.int .i64 0))),(1,1,(.c (.int .i64 48))),(2,1,(.c (.int .i64 32))),(3,1,(.c (.string ⟨#[115,116]⟩)))]⟩,⟨some 33,none,.build [(.int .i64 0),(.int .i64 0),(.int .i64 0),(.string .empty)] [(0,1,(.c (.int .i64 0))),(1,1,(.c (.int .i64 50))),(2,1,(.c (.int .i64 33))),(3,1,(.c (.string ⟨#[115,116]⟩)))]⟩,⟨some 34,none,.build [(.int .i64 0),(.int .i64 0),(.int .i64 0),(.string .empty)] [(0,1,(.c (.int .i64 0))),(1,1,(.c (.int .i64 52))),(2,1,(.c (.int .i64 34))),(3,1,(.c (.string ⟨#[115,116]⟩)))]⟩,⟨some 35,none,.build [(.int .i64 0),(.int .i64 0),(.int .i64 0),(.string .empty)] [(0,1,(.c (.int .i64 0))),(1,1,(.c (.int .i64 54))),(2,1,(.c (.int .i64 35))),(3,1,(.c (.string ⟨#[115,116]⟩)))]⟩,oA 36 (.bsl 35 [(.int .i64 0),(.int .i64 0),(.int .i64 0),(.string .empty),(.int .i64 0),(.int .i64 0),(.int .i64 0),(.string .empty),(.int .i64 0),(.int .i64 0),(.int .i64 0),(.string .empty),(.int .i64 0),(.int .i64 0),(.int .i64 0),(.string .empty),(.int .i64 0),(.int .i64 0),(.int .i64 0),(.string .empty),(.int .i64 0),(.int .i64 0),(.int .i64 0),(.string .empty),(.int .i64 0),(.int .i64 0),(.int .i64 0),(.string .empty),(.int .i64 0),(.int .i64 0),(.int .i64 0),(.string .empty),(.int .i64 0),(.int .i64 0),(.int .i64 0),(.string .empty),(.int .i64 0),(.int .i64 0),(.int .i64 0),(.string .empty),(.int .i64 0),(.int .i64 0),(.int .i64 0),(.string .empty),(.int .i64 0),(.int .i64 0),(.int .i64 0),(.string .empty),(.int .i64 0),(.int .i64 0),(.int .i64 0),(.string .empty),(.int .i64 0),(.int .i64 0),(.int .i64 0),(.string .empty),(.int .i64 0),(.int .i64 0),(.int .i64 0),(.string .empty),(.int .i64 0),(.int .i64 0),(.int .i64 0),(.string .empty),(.int .i64 0),(.int .i64 0),(.int .i64 0),(.string .empty),(.int .i64 0),(.int .i64 0),(.int .i64 0),(.string .empty),(.int .i64 0),(.int .i64 0),(.int .i64 0),(.string .empty),(.int .i64 0),(.int .i64 0),(.int .i64 0),(.string .empty),(.int .i64 0),(.int .i64 0),(.int .i64 0),(.string .empty),(.int .i64 0),(.int .i64 0),(.int .i64 0),(.string .empty),(.int .i64 0),(.int .i64 0),(.int .i64 0),(.string .empty),(.int .i64 0),(.int .i64 0),(.int .i64 0),(.string .empty),(.int .i64 0),(.int .i64 0),(.int .i64 0),(.string .empty),(.int .i64 0),(.int .i64 0),(.int .i64 0),(.string .empty),(.int .i64 0),(.int .i64 0),(.int .i64 0),(.string .empty),(.int .i64 0),(.int .i64 0),(.int .i64 0),(.string .empty),(.int .i64 0),(.int .i64 0),(.int .i64 0),(.string .empty),(.int .i64 0),(.int .i64 0),(.int .i64 0),(.string .empty),(.int .i64 0),(.int .i64 0),(.int .i64 0),(.string .empty),(.int .i64 0),(.int .i64 0),(.int .i64 0),(.string .empty),(.int .i64 0),(.int .i64 0),(.int .i64 0),(.string .empty),(.int .i64 0),(.int .i64 0),(.int .i64 0),(.string .empty),(.int .i64 0),(.int .i64 0),(.int .i64 0),(.string .empty)] [(0,4,(.t 1)),(4,4,(.t 2)),(8,4,(.t 3)),(12,4,(.t 4)),(16,4,(.t 5)),(20,4,(.t 6)),(24,4,(.t 7)),(28,4,(.t 8)),(32,4,(.t 9)),(36,4,(.t 10)),(40,4,(.t 11)),(44,4,(.t 12)),(48,4,(.t 13)),(52,4,(.t 14)),(56,4,(.t 15)),(60,4,(.t 16)),(64,4,(.t 17)),(68,4,(.t 18)),(72,4,(.t 19)),(76,4,(.t 20)),(80,4,(.t 21)),(84,4,(.t 22)),(88,4,(.t 23)),(92,4,(.t 24)),(96,4,(.t 25)),(100,4,(.t 26)),(104,4,(.t 27)),(108,4,(.t 28)),(112,4,(.t 29)),(116,4,(.t 30)),(120,4,(.t 31)),(124,4,(.t 32)),(128,4,(.t 33)),(132,4,(.t 34)),(136,4,(.t 35))]),oM 0 36]) (.ret)
def c_6r : C :=
 .seq (.ops [oA 0 (.mov (.c (.slice none 0 0)))]) (c0_6r)
def f_6r : F := ⟨c_6r, [.t 0], some []⟩
theorem h_6r : compF Tryz.prog (compAny Tryz.prog) n_6r = some (f_6r.body, f_6r.res) := by kernel_rfl
def c0_6n : C :=
 .seq (.ops [⟨some 1,none,.build [(.int .i64 0),(.int .i64 0),(.int .i64 0),(.string .empty)] [(0,1,(.c (.int .i64 1))),(1,1,(.c (.int .i64 0))),(2,1,(.c (.int .i64 36))),(3,1,(.c (.string ⟨#[115,105]⟩)))]⟩,⟨some 2,none,.build [(.int .i64 0),(.int .i64 0),(.int .i64 0),(.string .empty)] [(0,1,(.c (.int .i64 1))),(1,1,(.c (.int .i64 1))),(2,1,(.c (.int .i64 37))),(3,1,(.c (.string ⟨#[115,105]⟩)))]⟩,⟨some 3,none,.build [(.int .i64 0),(.int .i64 0),(.int .i64 0),(.string .empty)] [(0,1,(.c (.int .i64 1))),(1,1,(.c (.int .i64 16))),(2,1,(.c (.int .i64 38))),(3,1,(.c (.string ⟨#[115,105]⟩)))]⟩,⟨some 4,none,.build [(.int .i64 0),(.int .i64 0),(.int .i64 0),(.string .empty)] [(0,1,(.c (.int .i64 1))),(1,1,(.c (.int .i64 17))),(2,1,(.c (.int .i64 39))),(3,1,(.c (.string ⟨#[115,105]⟩)))]⟩,⟨some 5,none,.build [(.int .i64 0),(.int .i64 0),(.int .i64 0),(.string .empty)] [(0,1,(.c (.int .i64 16))),(1,1,(.c (.int .i64 0))),(2,1,(.c (.int .i64 54))),(3,1,(.c (.string ⟨#[116,100]⟩)))]⟩,⟨some 6,none,.build [(.int .i64 0),(.int .i64 0),(.int .i64 0),(.string .empty)] [(0,1,(.c (.int .i64 16))),(1,1,(.c (.int .i64 4))),(2,1,(.c (.int .i64 55))),(3,1,(.c (.string ⟨#[116,100]⟩)))]⟩,oA 7 (.build [(.int .i64 0),(.int .i64 0),(.int .i64 0),(.string .empty)] [(0,1,(.c (.int .i64 16))),(1,1,(.c (.int .i64 65))),(2,1,(.c (.int .i64 56))),(3,1,(.c (.string .empty)))]),oA 8 (.build [(.int .i64 0),(.int .i64 0),(.int .i64 0),(.string .empty)] [(0,1,(.c (.int .i64 16))),(1,1,(.c (.int .i64 66))),(2,1,(.c (.int .i64 57))),(3,1,(.c (.string .empty)))]),oA 9 (.build [(.int .i64 0),(.int .i64 0),(.int .i64 0),(.string .empty)] [(0,1,(.c (.int .i64 16))),(1,1,(.c (.int .i64 70))),(2,1,(.c (.int .i64 58))),(3,1,(.c (.string .empty)))]),oA 10 (.build [(.int .i64 0),(.int .i64 0),(.int .i64 0),(.string .empty)] [(0,1,(.c (.int .i64 16))),(1,1,(.c (.int .i64 72))),(2,1,(.c (.int .i64 59))),(3,1,(.c (.string .empty)))]),oA 11 (.build [(.int .i64 0),(.int .i64 0),(.int .i64 0),(.string .empty)] [(0,1,(.c (.int .i64 16))),(1,1,(.c (.int .i64 88))),(2,1,(.c (.int .i64 60))),(3,1,(.c (.string .empty)))]),oA 12 (.build [(.int .i64 0),(.int .i64 0),(.int .i64 0),(.string .empty)] [(0,1,(.c (.int .i64 16))),(1,1,(.c (.int .i64 96))),(2,1,(.c (.int .i64 61))),(3,1,(.c (.string .empty)))]),⟨some 13,none,.build [(.int .i64 0),(.int .i64 0),(.int .i64 0),(.string .empty)] [(0,1,(.c (.int .i64 28))),(1,1,(.c (.int .i64 2))),(2,1,(.c (.int .i64 63))),(3,1,(.c (.string ⟨#[115,116,100]⟩)))]⟩,⟨some 14,none,.build [(.int .i64 0),(.int .i64 0),(.int .i64 0),(.string .empty)] [(0,1,(.c (.int .i64 28))),(1,1,(.c (.int .i64 32))),(2,1,(.c (.int .i64 64))),(3,1,(.c (.string ⟨#[115,100]⟩)))]⟩,⟨some 15,none,.build [(.int .i64 0),(.int .i64 0),(.int .i64 0),(.string .empty)] [(0,1,(.c (.int .i64 28))),(1,1,(.c (.int .i64 33))),(2,1,(.c (.int .i64 65))),(3,1,(.c (.string ⟨#[115,100]⟩)))]⟩,oA 16 (.bsl 15 [(.int .i64 0),(.int .i64 0),(.int .i64 0),(.string .empty),(.int .i64 0),(.int .i64 0),(.int .i64 0),(.string .empty),(.int .i64 0),(.int .i64 0),(.int .i64 0),(.string .empty),(.int .i64 0),(.int .i64 0),(.int .i64 0),(.string .empty),(.int .i64 0),(.int .i64 0),(.int .i64 0),(.string .empty),(.int .i64 0),(.int .i64 0),(.int .i64 0),(.string .empty),(.int .i64 0),(.int .i64 0),(.int .i64 0),(.string .empty),(.int .i64 0),(.int .i64 0),(.int .i64 0),(.string .empty),(.int .i64 0),(.int .i64 0),(.int .i64 0),(.string .empty),(.int .i64 0),(.int .i64 0),(.int .i64 0),(.string .empty),(.int .i64 0),(.int .i64 0),(.int .i64 0),(.string .empty),(.int .i64 0),(.int .i64 0),(.int .i64 0),(.string .empty),(.int .i64 0),(.int .i64 0),(.int .i64 0),(.string .empty),(.int .i64 0),(.int .i64 0),(.int .i64 0),(.string .empty),(.int .i64 0),(.int .i64 0),(.int .i64 0),(.string .empty)] [(0,4,(.t 1)),(4,4,(.t 2)),(8,4,(.t 3)),(12,4,(.t 4)),(16,4,(.t 5)),(20,4,(.t 6)),(24,4,(.t 7)),(28,4,(.t 8)),(32,4,(.t 9)),(36,4,(.t 10)),(40,4,(.t 11)),(44,4,(.t 12)),(48,4,(.t 13)),(52,4,(.t 14)),(56,4,(.t 15))]),oM 0 16]) (.ret)
def c_6n : C :=
 .seq (.ops [oA 0 (.mov (.c (.slice none 0 0)))]) (c0_6n)
def f_6n : F := ⟨c_6n, [.t 0], some []⟩
theorem h_6n : compF Tryz.prog (compAny Tryz.prog) n_6n = some (f_6n.body, f_6n.res) := by kernel_rfl
def c0_6o : C :=
 .seq (.ops [⟨some 1,none,.build [(.int .i64 0),(.int .i64 0),(.int .i64 0),(.string .empty)] [(0,1,(.c (.int .i64 2))),(1,1,(.c (.int .i64 0))),(2,1,(.c (.int .i64 40))),(3,1,(.c (.string ⟨#[106]⟩)))]⟩,⟨some 2,none,.build [(.int .i64 0),(.int .i64 0),(.int .i64 0),(.string .empty)] [(0,1,(.c (.int .i64 3))),(1,1,(.c (.int .i64 0))),(2,1,(.c (.int .i64 41))),(3,1,(.c (.string ⟨#[106]⟩)))]⟩,⟨some 3,none,.build [(.int .i64 0),(.int .i64 0),(.int .i64 0),(.string .empty)] [(0,1,(.c (.int .i64 4))),(1,1,(.c (.int .i64 0))),(2,1,(.c (.int .i64 42))),(3,1,(.c (.string ⟨#[115,116,105]⟩)))]⟩,⟨some 4,none,.build [(.int .i64 0),(.int .i64 0),(.int .i64 0),(.string .empty)] [(0,1,(.c (.int .i64 5))),(1,1,(.c (.int .i64 0))),(2,1,(.c (.int .i64 43))),(3,1,(.c (.string ⟨#[115,116,105]⟩)))]⟩,⟨some 5,none,.build [(.int .i64 0),(.int .i64 0),(.int .i64 0),(.string .empty)] [(0,1,(.c (.int .i64 6))),(1,1,(.c (.int .i64 0))),(2,1,(.c (.int .i64 44))),(3,1,(.c (.string ⟨#[115,105]⟩)))]⟩,⟨some 6,none,.build [(.int .i64 0),(.int .i64 0),(.int .i64 0),(.string .empty)] [(0,1,(.c (.int .i64 7))),(1,1,(.c (.int .i64 0))),(2,1,(.c (.int .i64 45))),(3,1,(.c (.string ⟨#[115,105]⟩)))]⟩,⟨some 7,none,.build [(.int .i64 0),(.int .i64 0),(.int .i64 0),(.string .empty)] [(0,1,(.c (.int .i64 8))),(1,1,(.c (.int .i64 0))),(2,1,(.c (.int .i64 46))),(3,1,(.c (.string ⟨#[115,116,105]⟩)))]⟩,⟨some 8,none,.build [(.int .i64 0),(.int .i64 0),(.int .i64 0),(.string .empty)] [(0,1,(.c (.int .i64 9))),(1,1,(.c (.int .i64 0))),(2,1,(.c (.int .i64 47))),(3,1,(.c (.string ⟨#[115,116,105]⟩)))]⟩,⟨some 9,none,.build [(.int .i64 0),(.int .i64 0),(.int .i64 0),(.string .empty)] [(0,1,(.c (.int .i64 10))),(1,1,(.c (.int .i64 0))),(2,1,(.c (.int .i64 48))),(3,1,(.c (.string ⟨#[115,116,105]⟩)))]⟩,⟨some 10,none,.build [(.int .i64 0),(.int .i64 0),(.int .i64 0),(.string .empty)] [(0,1,(.c (.int .i64 11))),(1,1,(.c (.int .i64 0))),(2,1,(.c (.int .i64 49))),(3,1,(.c (.string ⟨#[115,116,105]⟩)))]⟩,⟨some 11,none,.build [(.int .i64 0),(.int .i64 0),(.int .i64 0),(.string .empty)] [(0,1,(.c (.int .i64 12))),(1,1,(.c (.int .i64 0))),(2,1,(.c (.int .i64 50))),(3,1,(.c (.string ⟨#[115,116,105]⟩)))]⟩,⟨some 12,none,.build [(.int .i64 0),(.int .i64 0),(.int .i64 0),(.string .empty)] [(0,1,(.c (.int .i64 13))),(1,1,(.c (.int .i64 0))),(2,1,(.c (.int .i64 51))),(3,1,(.c (.string ⟨#[115,116,105]⟩)))]⟩,⟨some 13,none,.build [(.int .i64 0),(.int .i64 0),(.int .i64 0),(.string .empty)] [(0,1,(.c (.int .i64 14))),(1,1,(.c (.int .i64 0))),(2,1,(.c (.int .i64 52))),(3,1,(.c (.string ⟨#[115,116,105]⟩)))]⟩,⟨some 14,none,.build [(.int .i64 0),(.int .i64 0),(.int .i64 0),(.string .empty)] [(0,1,(.c (.int .i64 15))),(1,1,(.c (.int .i64 0))),(2,1,(.c (.int .i64 53))),(3,1,(.c (.string ⟨#[116,105]⟩)))]⟩,oA 15 (.build [(.int .i64 0),(.int .i64 0),(.int .i64 0),(.string .empty)] [(0,1,(.c (.int .i64 17))),(1,1,(.c (.int .i64 0))),(2,1,(.c (.int .i64 62))),(3,1,(.c (.string .empty)))]),⟨some 16,none,.build [(.int .i64 0),(.int .i64 0),(.int .i64 0),(.string .empty)] [(0,1,(.c (.int .i64 32))),(1,1,(.c (.int .i64 0))),(2,1,(.c (.int .i64 66))),(3,1,(.c (.string ⟨#[115,116,105]⟩)))]⟩,⟨some 17,none,.build [(.int .i64 0),(.int .i64 0),(.int .i64 0),(.string .empty)] [(0,1,(.c (.int .i64 33))),(1,1,(.c (.int .i64 0))),(2,1,(.c (.int .i64 67))),(3,1,(.c (.string ⟨#[115,116,105]⟩)))]⟩,⟨some 18,none,.build [(.int .i64 0),(.int .i64 0),(.int .i64 0),(.string .empty)] [(0,1,(.c (.int .i64 35))),(1,1,(.c (.int .i64 0))),(2,1,(.c (.int .i64 68))),(3,1,(.c (.string ⟨#[115,116,105]⟩)))]⟩,⟨some 19,none,.build [(.int .i64 0),(.int .i64 0),(.int .i64 0),(.string .empty)] [(0,1,(.c (.int .i64 36))),(1,1,(.c (.int .i64 0))),(2,1,(.c (.int .i64 69))),(3,1,(.c (.string ⟨#[115,116,105]⟩)))]⟩,⟨some 20,none,.build [(.int .i64 0),(.int .i64 0),(.int .i64 0),(.string .empty)] [(0,1,(.c (.int .i64 37))),(1,1,(.c (.int .i64 0))),(2,1,(.c (.int .i64 70))),(3,1,(.c (.string ⟨#[115,116,105]⟩)))]⟩,⟨some 21,none,.build [(.int .i64 0),(.int .i64 0),(.int .i64 0),(.string .empty)] [(0,1,(.c (.int .i64 40))),(1,1,(.c (.int .i64 0))),(2,1,(.c (.int .i64 71))),(3,1,(.c (.string ⟨#[115,116,105]⟩)))]⟩,⟨some 22,none,.build [(.int .i64 0),(.int .i64 0),(.int .i64 0),(.string .empty)] [(0,1,(.c (.int .i64 41))),(1,1,(.c (.int .i64 0))),(2,1,(.c (.int .i64 72))),(3,1,(.c (.string ⟨#[115,116,105]⟩)))]⟩,⟨some 23,none,.build [(.int .i64 0),(.int .i64 0),(.int .i64 0),(.string .empty)] [(0,1,(.c (.int .i64 43))),(1,1,(.c (.int .i64 0))),(2,1,(.c (.int .i64 73))),(3,1,(.c (.string ⟨#[115,116,105]⟩)))]⟩,oA 24 (.build [(.int .i64 0),(.int .i64 0),(.int .i64 0),(.string .empty)] [(0,1,(.c (.int .i64 47))),(1,1,(.c (.int .i64 0))),(2,1,(.c (.int .i64 76))),(3,1,(.c (.string .empty)))]),⟨some 25,none,.build [(.int .i64 0),(.int .i64 0),(.int .i64 0),(.string .empty)] [(0,1,(.c (.int .i64 48))),(1,1,(.c (.int .i64 0))),(2,1,(.c (.int .i64 74))),(3,1,(.c (.string ⟨#[115,116,105]⟩)))]⟩,oA 26 (.build [(.int .i64 0),(.int .i64 0),(.int .i64 0),(.string .empty)] [(0,1,(.c (.int .i64 51))),(1,1,(.c (.int .i64 0))),(2,1,(.c (.int .i64 77))),(3,1,(.c (.string .empty)))]),⟨some 27,none,.build [(.int .i64 0),(.int .i64 0),(.int .i64 0),(.string .empty)] [(0,1,(.c (.int .i64 56))),(1,1,(.c (.int .i64 0))),(2,1,(.c (.int .i64 75))),(3,1,(.c (.string ⟨#[115,116,105]⟩)))]⟩,oA 28 (.bsl 27 [(.int .i64 0),(.int .i64 0),(.int .i64 0),(.string .empty),(.int .i64 0),(.int .i64 0),(.int .i64 0),(.string .empty),(.int .i64 0),(.int .i64 0),(.int .i64 0),(.string .empty),(.int .i64 0),(.int .i64 0),(.int .i64 0),(.string .empty),(.int .i64 0),(.int .i64 0),(.int .i64 0),(.string .empty),(.int .i64 0),(.int .i64 0),(.int .i64 0),(.string .empty),(.int .i64 0),(.int .i64 0),(.int .i64 0),(.string .empty),(.int .i64 0),(.int .i64 0),(.int .i64 0),(.string .empty),(.int .i64 0),(.int .i64 0),(.int .i64 0),(.string .empty),(.int .i64 0),(.int .i64 0),(.int .i64 0),(.string .empty),(.int .i64 0),(.int .i64 0),(.int .i64 0),(.string .empty),(.int .i64 0),(.int .i64 0),(.int .i64 0),(.string .empty),(.int .i64 0),(.int .i64 0),(.int .i64 0),(.string .empty),(.int .i64 0),(.int .i64 0),(.int .i64 0),(.string .empty),(.int .i64 0),(.int .i64 0),(.int .i64 0),(.string .empty),(.int .i64 0),(.int .i64 0),(.int .i64 0),(.string .empty),(.int .i64 0),(.int .i64 0),(.int .i64 0),(.string .empty),(.int .i64 0),(.int .i64 0),(.int .i64 0),(.string .empty),(.int .i64 0),(.int .i64 0),(.int .i64 0),(.string .empty),(.int .i64 0),(.int .i64 0),(.int .i64 0),(.string .empty),(.int .i64 0),(.int .i64 0),(.int .i64 0),(.string .empty),(.int .i64 0),(.int .i64 0),(.int .i64 0),(.string .empty),(.int .i64 0),(.int .i64 0),(.int .i64 0),(.string .empty),(.int .i64 0),(.int .i64 0),(.int .i64 0),(.string .empty),(.int .i64 0),(.int .i64 0),(.int .i64 0),(.string .empty),(.int .i64 0),(.int .i64 0),(.int .i64 0),(.string .empty),(.int .i64 0),(.int .i64 0),(.int .i64 0),(.string .empty)] [(0,4,(.t 1)),(4,4,(.t 2)),(8,4,(.t 3)),(12,4,(.t 4)),(16,4,(.t 5)),(20,4,(.t 6)),(24,4,(.t 7)),(28,4,(.t 8)),(32,4,(.t 9)),(36,4,(.t 10)),(40,4,(.t 11)),(44,4,(.t 12)),(48,4,(.t 13)),(52,4,(.t 14)),(56,4,(.t 15)),(60,4,(.t 16)),(64,4,(.t 17)),(68,4,(.t 18)),(72,4,(.t 19)),(76,4,(.t 20)),(80,4,(.t 21)),(84,4,(.t 22)),(88,4,(.t 23)),(92,4,(.t 24)),(96,4,(.t 25)),(100,4,(.t 26)),(104,4,(.t 27))]),oM 0 28]) (.ret)
def c_6o : C :=
 .seq (.ops [oA 0 (.mov (.c (.slice none 0 0)))]) (c0_6o)
def f_6o : F := ⟨c_6o, [.t 0], some []⟩
theorem h_6o : compF Tryz.prog (compAny Tryz.prog) n_6o = some (f_6o.body, f_6o.res) := by kernel_rfl
def c0_81 : C :=
 .seq (.block 1 (.any 0 [.op 0 (oM 22 0),.op 1 (oA 23 (.nilc (.t 22))),.op 2 (oA 24 (.fa 2 (.t 23))),.op 3 (oA 25 (.ld (.t 24))),.op 5 (oM 27 0),.op 6 (oA 28 (.nilc (.t 27))),.op 7 (oA 29 (.fa 2 (.t 28))),.op 8 (oA 30 (.ld (.t 29))),.op 9 (oM 31 6),.op 10 (oA 32 (.ia 1 (.t 30) (.t 31))),.op 11 (oA 33 (.ld (.t 32))),.op 12 (oM 34 33),.op 13 (oF 35 34 (.mov (.t 0))),.op 14 (oF 36 34 (.nilc (.t 35))),.op 15 (oF 37 34 (.fa 1 (.t 36))),.op 16 (oF 38 34 (.ld (.t 37))),.op 17 (oF 39 34 (.mov (.t 6))),.op 18 (oF 40 34 (.ia 1 (.t 38) (.t 39))),.op 19 (oF 41 34 (.ld (.t 40))),.op 4 (oM 26 6),.op 20 (oA 42 (.pick (.t 34) (.c (.bool true)) (.t 41))),.op 21 (oA 43 (.ia 1 (.t 25) (.t 26))),.op 22 (oS (.st (.t 43) (.t 42)))])) (.ops [oM 20 6,oA 21 (.bin .add (.t 20) (.c (.int .i64 1))),oM 6 21])
def c1_81 : C :=
 .seq (.seq (.ops [oM 12 6,oM 13 1,oA 14 (.conv .i64 (.t 13)),oM 15 2,oA 16 (.bin .add (.t 14) (.t 15)),oA 17 (.bin .sub (.t 16) (.c (.int .i64 1))),oA 18 (.bin .quo (.t 17) (.c (.int .i64 1024))),oA 19 (.bin .leq (.t 12) (.t 18))]) (.cond (.t 19) (.skip) (.exit 0))) (c0_81)
def c_81 : C :=
 .seq (.seq (.ops [oM 7 2,oA 8 (.bin .lss (.t 7) (.c (.int .i64 1)))]) (.cond (.t 8) (.ret) (.skip))) (.seq (.ops [oM 9 1,oA 10 (.conv .i64 (.t 9)),oA 11 (.bin .quo (.t 10) (.c (.int .i64 1024))),oM 6 11]) (.block 0 (.loop c1_81)))
def f_81 : F := ⟨c_81, [], some []⟩
theorem h_81 : compF Tryz.prog (compAny Tryz.prog) n_81 = some (f_81.body, f_81.res) := by kernel_rfl
def c0_0i : C :=
 .seq (.seq (.ops [oM 19 7,oA 20 (.un .not (.t 19))]) (.cond (.t 20) (.exit 0) (.skip))) (.seq (.ops [oM 21 0,oA 22 (.ldn 3 (.t 6)),oA 23 (.call n_0q [(.t 21),(.t 22)])]) (.ops [oM 24 5,oA 25 (.bin .add (.t 24) (.c (.int .i64 1))),oM 5 25]))
def c1_0i : C :=
 .block 1 (.seq (.ops [oM 11 0,oA 12 (.nilc (.t 11)),oA 13 (.fa 1 (.t 12)),oA 14 (.ld (.t 13)),oM 15 1,oA 16 (.call n_0c1 [(.t 14),(.t 15)]),oM 10 16,oA 17 (.ext (.t 10) 0),oA 18 (.ext (.t 10) 1),oA 6 (.new [(.int .i64 0),(.int .i64 0),(.int .i64 0)]),oS (.stn 3 (.t 6) (.t 17)),oM 7 18]) (c0_0i))
def c2_0i : C :=
 .seq (.seq (.ops [oM 8 5,oA 9 (.bin .lss (.t 8) (.c (.int .i64 256)))]) (.cond (.t 9) (.skip) (.exit 0))) (c1_0i)
def c_0i : C :=
 .seq (.ops [oA 4 (.mov (.c (.int .i64 0)))]) (.seq (.ops [oA 5 (.mov (.c (.int .i64 0)))]) (.seq (.skip) (.seq (.block 0 (.loop c2_0i)) (.seq (.ops [oM 26 0,oA 27 (.call n_0r [(.t 26)])]) (.seq (.ops [oM 28 5,oM 4 28]) (.ret))))))
def f_0i : F := ⟨c_0i, [.t 4], some []⟩
theorem h_0i : compF Tryz.prog (compAny Tryz.prog) n_0i = some (f_0i.body, f_0i.res) := by kernel_rfl
def c0_1d : C :=
 .seq (.any 0 [.op 0 (oM 3 0),.op 1 (oA 4 (.eqn 0 true (.t 3))),.op 2 (oM 5 4),.op 3 (oT 6 5 (.mov (.t 0))),.op 4 (oT 7 5 (.nilc (.t 6))),.op 5 (oT 8 5 (.fa 39 (.t 7))),.op 6 (oT 9 5 (.iaa 16 1 (.t 8) (.c (.int .i64 13)))),.op 7 (oT 10 5 (.ld (.t 9))),.op 9 (oT 12 5 (.mov (.t 0))),.op 10 (oT 13 5 (.nilc (.t 12))),.op 11 (oT 14 5 (.fa 39 (.t 13))),.op 12 (oT 15 5 (.iaa 16 1 (.t 14) (.c (.int .i64 12)))),.op 13 (oT 16 5 (.ld (.t 15))),.op 8 (oT 11 5 (.bin .and (.t 10) (.c (.int .u32 65280)))),.op 14 (oT 17 5 (.bin .and (.t 16) (.c (.int .u32 65280)))),.op 15 (oT 18 5 (.bin .and (.t 11) (.t 17))),.op 16 (oT 19 5 (.bin .neq (.t 18) (.c (.int .u32 0)))),.op 17 (oA 20 (.pick (.t 5) (.t 19) (.c (.bool false)))),.op 18 (oM 2 20)]) (.ret)
def c_1d : C :=
 .seq (.ops [oA 2 (.mov (.c (.bool false)))]) (c0_1d)
def f_1d : F := ⟨c_1d, [.t 2], some []⟩
theorem h_1d : compF Tryz.prog (compAny Tryz.prog) n_1d = some (f_1d.body, f_1d.res) := by kernel_rfl
def c0_1g : C :=
 .seq (.ops [oM 3 0,oA 4 (.call n_1d [(.t 3)]),oM 5 4,oT 6 5 (.mov (.t 0)),oT 7 5 (.nilc (.t 6)),oT 8 5 (.fa 39 (.t 7)),oT 9 5 (.iaa 16 1 (.t 8) (.c (.int .i64 12))),oT 10 5 (.ld (.t 9)),oT 11 5 (.bin .and (.t 10) (.c (.int .u32 1))),oT 12 5 (.bin .neq (.t 11) (.c (.int .u32 0))),oA 13 (.pick (.t 5) (.t 12) (.c (.bool false))),oM 14 13,oT 15 14 (.mov (.t 0)),oT 16 14 (.nilc (.t 15)),oT 17 14 (.fa 39 (.t 16)),oT 18 14 (.iaa 16 1 (.t 17) (.c (.int .i64 12))),oT 19 14 (.ld (.t 18)),oT 20 14 (.bin .and (.t 19) (.c (.int .u32 2))),oT 21 14 (.bin .eql (.t 20) (.c (.int .u32 0))),oA 22 (.pick (.t 14) (.t 21) (.c (.bool false))),oM 2 22]) (.ret)
def c_1g : C :=
 .seq (.ops [oA 2 (.mov (.c (.bool false)))]) (c0_1g)
def f_1g : F := ⟨c_1g, [.t 2], some []⟩
theorem h_1g : compF Tryz.prog (compAny Tryz.prog) n_1g = some (f_1g.body, f_1g.res) := by kernel_rfl
def c0_1p : C :=
 .seq (.ops [oM 13 0,oA 14 (.call n_1b [(.t 13),(.c (.int .i64 1))])]) (.seq (.ops [oM 15 0,oM 16 1,oA 17 (.call n_0m [(.t 16)]),oA 18 (.call n_1c [(.t 15),(.t 17)])]) (.seq (.ops [oM 19 2,oM 8 19]) (.ret)))
def c_1p : C :=
 .seq (.ops [oA 8 (.mov (.c (.int .i64 0)))]) (.seq (.ops [oM 9 0,oM 10 2,oM 11 3,oA 12 (.call n_19 [(.t 9),(.t 10),(.t 11)])]) (c0_1p))
def f_1p : F := ⟨c_1p, [.t 8], some []⟩
theorem h_1p : compF Tryz.prog (compAny Tryz.prog) n_1p = some (f_1p.body, f_1p.res) := by kernel_rfl
def c0_1m : C :=
 .seq (.ops [oA 38 (.build [(.int .i64 0),(.int .i64 0),(.int .i64 0),(.int .i64 0),(.int .i64 0),(.int .u32 0)] []),oM 39 8,oM 40 9,oS (.stn 6 (.t 4) (.t 38)),oM 5 39,oM 6 40]) (.ret)
def c1_1m : C :=
 .seq (.seq (.ops [oM 51 11,oA 52 (.un .not (.t 51))]) (.cond (.t 52) (.seq (.ops [oA 53 (.build [(.int .i64 0),(.int .i64 0),(.int .i64 0),(.int .i64 0),(.int .i64 0),(.int .u32 0)] []),oS (.stn 6 (.t 4) (.t 53)),oA 5 (.mov (.c (.int .i64 6))),oA 6 (.mov (.c (.bool false)))]) (.ret)) (.skip))) (.seq (.ops [oM 54 10,oA 55 (.call n_20 [(.t 54)]),oS (.stn 6 (.t 4) (.t 55)),oA 5 (.mov (.c (.int .i64 (-1)))),oA 6 (.mov (.c (.bool false)))]) (.ret))
def c2_1m : C :=
 .seq (.ops [oM 42 1,oM 43 7,oM 44 0,oA 45 (.nilc (.t 44)),oA 46 (.fa 72 (.t 45)),oA 47 (.ld (.t 46)),oA 48 (.call n_0j [(.t 42),(.t 43),(.c (.int .i64 4)),(.t 47)]),oM 41 48,oA 49 (.ext (.t 41) 0),oA 50 (.ext (.t 41) 1),oM 10 49,oM 11 50]) (c1_1m)
def c3_1m : C :=
 .seq (.seq (.ops [oM 29 8,oA 30 (.bin .neq (.t 29) (.c (.int .i64 (-1))))]) (.cond (.t 30) (.seq (.ops [oM 31 0,oM 32 0,oA 33 (.nilc (.t 32)),oA 34 (.fa 34 (.t 33)),oA 35 (.ld (.t 34)),oM 36 8,oA 37 (.call n_1o [(.t 31),(.t 35),(.t 36)])]) (c0_1m)) (.skip))) (c2_1m)
def c4_1m : C :=
 .seq (.ops [oM 20 0,oM 21 0,oA 22 (.nilc (.t 21)),oA 23 (.fa 34 (.t 22)),oA 24 (.ld (.t 23)),oA 25 (.call n_82 [(.t 20),(.t 24),(.c (.int .i64 4)),(.c (.bool false))]),oM 19 25,oA 26 (.ext (.t 19) 0),oA 27 (.ext (.t 19) 1),oA 28 (.ext (.t 19) 2),oM 7 26,oM 8 27,oM 9 28]) (c3_1m)
def c5_1m : C :=
 .seq (.seq (.ops [oM 12 0,oA 13 (.eqn 0 false (.t 12)),oM 14 13,oF 15 14 (.mov (.t 1)),oF 16 14 (.eqn 0 false (.t 15)),oA 17 (.pick (.t 14) (.c (.bool true)) (.t 16))]) (.cond (.t 17) (.seq (.ops [oA 18 (.build [(.int .i64 0),(.int .i64 0),(.int .i64 0),(.int .i64 0),(.int .i64 0),(.int .u32 0)] []),oS (.stn 6 (.t 4) (.t 18)),oA 5 (.mov (.c (.int .i64 0))),oA 6 (.mov (.c (.bool false)))]) (.ret)) (.skip))) (c4_1m)
def c_1m : C :=
 .seq (.ops [oA 4 (.new [(.int .i64 0),(.int .i64 0),(.int .i64 0),(.int .i64 0),(.int .i64 0),(.int .u32 0)]),oA 5 (.mov (.c (.int .i64 0))),oA 6 (.mov (.c (.bool false)))]) (c5_1m)
def f_1m : F := ⟨c_1m, [.ldn 6 4, .t 5, .t 6], some []⟩
theorem h_1m : compF Tryz.prog (compAny Tryz.prog) n_1m = some (f_1m.body, f_1m.res) := by kernel_rfl
def c0_1l : C :=
 .ops [oM 48 0,oM 49 1,oA 50 (.ldn 6 (.t 5)),oA 51 (.call n_1q [(.t 48),(.t 49),(.t 50)]),oM 47 51,oA 52 (.ext (.t 47) 0),oA 53 (.ext (.t 47) 1),oM 7 52,oM 8 53]
def c1_1l : C :=
 .ops [oM 57 0,oM 58 1,oA 59 (.ldn 6 (.t 5)),oA 60 (.call n_1x [(.t 57),(.t 58),(.t 59)]),oM 56 60,oA 61 (.ext (.t 56) 0),oA 62 (.ext (.t 56) 1),oM 7 61,oM 8 62]
def c2_1l : C :=
 .seq (.seq (.ops [oA 65 (.fa 0 (.t 5)),oA 66 (.ld (.t 65)),oA 67 (.bin .eql (.t 66) (.c (.int .i64 60)))]) (.cond (.t 67) (.seq (.ops [oM 68 0,oA 69 (.call n_1f [(.t 68)])]) (.exit 0)) (.skip))) (.ops [oM 70 0,oA 71 (.ldn 6 (.t 5)),oA 72 (.call n_1y [(.t 70),(.t 71)])])
def c3_1l : C :=
 .seq (.ops [oA 55 (.bin .eql (.t 41) (.c (.int .i64 5))),oM 54 55]) (.cond (.t 54) (c1_1l) (.seq (.ops [oA 64 (.bin .eql (.t 41) (.c (.int .i64 6))),oM 63 64]) (.cond (.t 63) (c2_1l) (.ops [oM 42 0,oA 43 (.ldn 6 (.t 5)),oA 44 (.call n_1t [(.t 42),(.t 43)])]))))
def c4_1l : C :=
 .seq (.seq (.ops [oA 82 (.fa 0 (.t 5)),oA 83 (.ld (.t 82)),oA 84 (.bin .neq (.t 83) (.c (.int .i64 60)))]) (.cond (.t 84) (.ops [oM 85 0,oA 86 (.ldn 6 (.t 5)),oM 87 9,oM 88 10,oA 89 (.call n_1s [(.t 85),(.t 86),(.t 87),(.t 88)])]) (.skip))) (.seq (.ops [oM 90 0,oM 91 1,oA 92 (.call n_0m [(.t 91)]),oA 93 (.call n_1c [(.t 90),(.t 92)])]) (.seq (.ops [oA 6 (.mov (.c (.int .i64 (-1))))]) (.ret)))
def c5_1l : C :=
 .seq (.seq (.ops [oM 73 7,oA 74 (.bin .neq (.t 73) (.c (.int .i64 (-1))))]) (.cond (.t 74) (.seq (.ops [oM 75 0,oM 76 1,oM 77 7,oM 78 8,oA 79 (.call n_1p [(.t 75),(.t 76),(.t 77),(.t 78)]),oM 6 79]) (.ret)) (.skip))) (.seq (.ops [oM 80 0,oA 81 (.call n_1b [(.t 80),(.c (.int .i64 1))])]) (c4_1l))
def c6_1l : C :=
 .seq (.any 0 [.op 0 (oM 26 0),.op 1 (oA 27 (.fa 1 (.t 5))),.op 2 (oA 28 (.ld (.t 27))),.op 3 (oA 29 (.nilc (.t 26))),.op 4 (oA 30 (.fa 0 (.t 29))),.op 5 (oA 31 (.iaa 32 1 (.t 30) (.t 28))),.op 6 (oA 32 (.ld (.t 31))),.op 7 (oM 33 0),.op 8 (oA 34 (.fa 2 (.t 5))),.op 9 (oA 35 (.ld (.t 34))),.op 10 (oA 36 (.nilc (.t 33))),.op 11 (oA 37 (.fa 0 (.t 36))),.op 12 (oA 38 (.iaa 32 1 (.t 37) (.t 35))),.op 13 (oA 39 (.ld (.t 38))),.op 14 (oM 9 32),.op 15 (oM 10 39)]) (.seq (.skip) (.seq (.seq (.ops [oA 40 (.ldn 6 (.t 5)),oA 41 (.call n_1z [(.t 40)])]) (.block 0 (.seq (.ops [oA 46 (.bin .eql (.t 41) (.c (.int .i64 4))),oM 45 46]) (.cond (.t 45) (c0_1l) (c3_1l))))) (c5_1l)))
def c7_1l : C :=
 .seq (.seq (.ops [oM 20 7,oA 21 (.bin .neq (.t 20) (.c (.int .i64 (-1))))]) (.cond (.t 21) (.seq (.ops [oM 22 0,oM 23 1,oM 24 7,oA 25 (.call n_1p [(.t 22),(.t 23),(.t 24),(.c (.bool false))]),oM 6 25]) (.ret)) (.skip))) (c6_1l)
def c8_1l : C :=
 .seq (.seq (.ops [oM 11 0,oA 12 (.eqn 0 false (.t 11)),oM 13 12,oF 14 13 (.mov (.t 1)),oF 15 13 (.eqn 0 false (.t 14)),oA 16 (.pick (.t 13) (.c (.bool true)) (.t 15))]) (.cond (.t 16) (.seq (.ops [oA 6 (.mov (.c (.int .i64 0)))]) (.ret)) (.skip))) (.seq (.ops [oM 17 0,oA 18 (.ldn 6 (.t 5)),oA 19 (.call n_1u [(.t 17),(.t 18)]),oM 7 19,oA 8 (.mov (.c (.bool false)))]) (c7_1l))
def c_1l : C :=
 .seq (.ops [oA 5 (.box (.t 2)),oA 6 (.mov (.c (.int .i64 0)))]) (c8_1l)
def f_1l : F := ⟨c_1l, [.t 6], some []⟩
theorem h_1l : compF Tryz.prog (compAny Tryz.prog) n_1l = some (f_1l.body, f_1l.res) := by kernel_rfl
def c0_0k : C :=
 .seq (.ops [oM 4 0,oA 5 (.nilc (.t 4)),oA 6 (.fa 1 (.t 5)),oA 7 (.ld (.t 6)),oA 8 (.call n_0b1 [(.t 7)]),oA 9 (.ext (.t 8) 0),oA 10 (.ext (.t 8) 1),oM 2 9,oM 3 10]) (.ret)
def c_0k : C :=
 .seq (.ops [oA 2 (.mov (.c (.int .i64 0))),oA 3 (.mov (.c (.bool false)))]) (c0_0k)
def f_0k : F := ⟨c_0k, [.t 2, .t 3], some []⟩
theorem h_0k : compF Tryz.prog (compAny Tryz.prog) n_0k = some (f_0k.body, f_0k.res) := by kernel_rfl
def c0_1b : C :=
 .seq (.any 0 [.op 0 (oM 48 0),.op 1 (oA 49 (.nilc (.t 48))),.op 2 (oA 50 (.fa 39 (.t 49))),.op 3 (oA 51 (.iaa 16 1 (.t 50) (.c (.int .i64 13)))),.op 4 (oA 52 (.ld (.t 51))),.op 5 (oA 53 (.bin .or (.t 52) (.c (.int .u32 32768)))),.op 6 (oA 54 (.nilc (.t 48))),.op 7 (oA 55 (.fa 39 (.t 54))),.op 8 (oA 56 (.iaa 16 1 (.t 55) (.c (.int .i64 13)))),.op 9 (oS (.st (.t 56) (.t 53)))]) (.seq (.ops [oA 4 (.mov (.c (.bool true)))]) (.ret))
def c1_1b : C :=
 .seq (.any 0 [.op 0 (oM 34 0),.op 1 (oA 35 (.nilc (.t 34))),.op 2 (oA 36 (.fa 39 (.t 35))),.op 3 (oA 37 (.iaa 16 1 (.t 36) (.c (.int .i64 9)))),.op 4 (oA 38 (.ld (.t 37))),.op 5 (oM 39 1),.op 6 (oA 40 (.conv .u32 (.t 39))),.op 7 (oA 41 (.bin .add (.t 38) (.t 40))),.op 8 (oA 42 (.nilc (.t 34))),.op 9 (oA 43 (.fa 39 (.t 42))),.op 10 (oA 44 (.iaa 16 1 (.t 43) (.c (.int .i64 9)))),.op 11 (oS (.st (.t 44) (.t 41)))]) (.seq (.seq (.ops [oM 45 1,oM 46 5,oA 47 (.bin .lss (.t 45) (.t 46))]) (.cond (.t 47) (.seq (.ops [oA 4 (.mov (.c (.bool false)))]) (.ret)) (.skip))) (c0_1b))
def c2_1b : C :=
 .seq (.ops [oM 26 0,oA 27 (.nilc (.t 26)),oA 28 (.fa 72 (.t 27)),oA 29 (.ld (.t 28)),oM 30 1,oA 31 (.bin .add (.t 29) (.t 30)),oA 32 (.nilc (.t 26)),oA 33 (.fa 72 (.t 32)),oS (.st (.t 33) (.t 31))]) (c1_1b)
def c3_1b : C :=
 .seq (.any 0 [.op 0 (oM 12 0),.op 1 (oA 13 (.nilc (.t 12))),.op 2 (oA 14 (.fa 39 (.t 13))),.op 3 (oA 15 (.iaa 16 1 (.t 14) (.c (.int .i64 11)))),.op 4 (oA 16 (.ld (.t 15))),.op 5 (oM 17 0),.op 6 (oA 18 (.nilc (.t 17))),.op 7 (oA 19 (.fa 39 (.t 18))),.op 8 (oA 20 (.iaa 16 1 (.t 19) (.c (.int .i64 9)))),.op 9 (oA 21 (.ld (.t 20))),.op 10 (oA 22 (.bin .sub (.t 16) (.t 21))),.op 11 (oA 23 (.conv .i64 (.t 22))),.op 12 (oM 5 23)]) (.seq (.seq (.ops [oM 24 5,oA 25 (.bin .eql (.t 24) (.c (.int .i64 0)))]) (.cond (.t 25) (.ops [oA 5 (.mov (.c (.int .i64 4294967296)))]) (.skip))) (c2_1b))
def c4_1b : C :=
 .seq (.seq (.ops [oM 6 0,oA 7 (.eqn 0 false (.t 6)),oM 8 7,oF 9 8 (.mov (.t 1)),oF 10 8 (.bin .lss (.t 9) (.c (.int .i64 1))),oA 11 (.pick (.t 8) (.c (.bool true)) (.t 10))]) (.cond (.t 11) (.seq (.ops [oA 4 (.mov (.c (.bool false)))]) (.ret)) (.skip))) (c3_1b)
def c_1b : C :=
 .seq (.ops [oA 4 (.mov (.c (.bool false)))]) (c4_1b)
def f_1b : F := ⟨c_1b, [.t 4], some []⟩
theorem h_1b : compF Tryz.prog (compAny Tryz.prog) n_1b = some (f_1b.body, f_1b.res) := by kernel_rfl
def c0_82 : C :=
 .seq (.ops [oM 37 1,oA 38 (.bin .geq (.t 37) (.c (.int .u32 2147483648))),oM 39 38,oT 40 39 (.mov (.t 1)),oT 41 39 (.bin .lss (.t 40) (.c (.int .u32 3221225472))),oA 42 (.pick (.t 39) (.t 41) (.c (.bool false))),oM 36 42]) (.cond (.t 36) (.seq (.ops [oM 43 1,oA 44 (.bin .and (.t 43) (.c (.int .u32 536870911))),oM 8 44,oA 9 (.mov (.c (.int .i64 (-1)))),oA 10 (.mov (.c (.bool false)))]) (.ret)) (.skip))
def c1_82 : C :=
 .seq (.ops [oM 45 0,oM 46 1,oM 47 3,oA 48 (.call n_9m [(.t 45),(.t 46),(.t 47)]),oA 49 (.ext (.t 48) 0),oA 50 (.ext (.t 48) 1),oA 51 (.ext (.t 48) 2),oM 8 49,oM 9 50,oM 10 51]) (.ret)
def c2_82 : C :=
 .seq (.block 0 (.seq (.ops [oM 22 1,oM 23 2,oA 24 (.conv .u32 (.t 23)),oA 25 (.bin .rem (.t 22) (.t 24)),oA 26 (.bin .neq (.t 25) (.c (.int .u32 0))),oM 27 26,oF 28 27 (.mov (.t 1)),oF 29 27 (.bin .geq (.t 28) (.c (.int .u32 2147483648))),oF 30 27 (.mov (.t 29)),oT 31 30 (.mov (.t 0)),oT 32 30 (.call n_1h [(.t 31)]),oF 33 27 (.pick (.t 30) (.t 32) (.c (.bool false))),oA 34 (.pick (.t 27) (.c (.bool true)) (.t 33)),oM 21 34]) (.cond (.t 21) (.seq (.ops [oM 35 11,oA 8 (.mov (.c (.int .u32 0))),oM 9 35,oA 10 (.mov (.c (.bool false)))]) (.ret)) (c0_82)))) (c1_82)
def c3_82 : C :=
 .seq (.seq (.ops [oM 15 2,oA 16 (.bin .neq (.t 15) (.c (.int .i64 1))),oM 17 16,oT 18 17 (.mov (.t 2)),oT 19 17 (.bin .neq (.t 18) (.c (.int .i64 2))),oA 20 (.pick (.t 17) (.t 19) (.c (.bool false)))]) (.cond (.t 20) (.ops [oA 2 (.mov (.c (.int .i64 4)))]) (.skip))) (c2_82)
def c4_82 : C :=
 .seq (.seq (.ops [oM 12 0,oA 13 (.eqn 0 false (.t 12))]) (.cond (.t 13) (.seq (.ops [oA 8 (.mov (.c (.int .u32 0))),oA 9 (.mov (.c (.int .i64 0))),oA 10 (.mov (.c (.bool false)))]) (.ret)) (.skip))) (.seq (.ops [oA 11 (.mov (.c (.int .i64 4)))]) (.seq (.seq (.ops [oM 14 3]) (.cond (.t 14) (.ops [oA 11 (.mov (.c (.int .i64 5)))]) (.skip))) (c3_82)))
def c_82 : C :=
 .seq (.ops [oA 8 (.mov (.c (.int .u32 0))),oA 9 (.mov (.c (.int .i64 0))),oA 10 (.mov (.c (.bool false)))]) (c4_82)
def f_82 : F := ⟨c_82, [.t 8, .t 9, .t 10], some []⟩
theorem h_82 : compF Tryz.prog (compAny Tryz.prog) n_82 = some (f_82.body, f_82.res) := by kernel_rfl
def c0_83 : C :=
 .seq (.seq (.ops [oM 13 0,oA 14 (.call n_1h [(.t 13)])]) (.cond (.t 14) (.ops [oM 15 3,oA 16 (.bin .add (.t 15) (.c (.int .i64 256))),oM 3 16]) (.skip))) (.seq (.ops [oM 17 3,oM 2 17]) (.ret))
def c1_83 : C :=
 .seq (.ops [oM 6 0,oA 7 (.nilc (.t 6)),oA 8 (.fa 39 (.t 7)),oA 9 (.iaa 16 1 (.t 8) (.c (.int .i64 10))),oA 10 (.ld (.t 9)),oA 11 (.bin .and (.t 10) (.c (.int .u32 255))),oA 12 (.conv .i64 (.t 11)),oM 3 12]) (c0_83)
def c_83 : C :=
 .seq (.ops [oA 2 (.mov (.c (.int .i64 0)))]) (.seq (.seq (.ops [oM 4 0,oA 5 (.eqn 0 false (.t 4))]) (.cond (.t 5) (.seq (.ops [oA 2 (.mov (.c (.int .i64 0)))]) (.ret)) (.skip))) (c1_83))
def f_83 : F := ⟨c_83, [.t 2], some []⟩
theorem h_83 : compF Tryz.prog (compAny Tryz.prog) n_83 = some (f_83.body, f_83.res) := by kernel_rfl
def c0_10 : C :=
 .any 1 [.op 1 (oM 22 0),.op 2 (oA 23 (.nilc (.t 22))),.op 3 (oA 24 (.fa 1 (.t 23))),.op 4 (oA 25 (.ld (.t 24))),.op 5 (oA 26 (.ldn 3 (.t 3))),.al 6 0 (oA 27 (.bsl 1 [(.int .u32 0),(.int .i64 0),(.int .i64 0)] [(0,3,(.t 26))])),.op 7 (oA 28 (.app 3 24 (.t 25) (.t 27))),.op 0 (oM 21 0),.op 8 (oA 29 (.nilc (.t 21))),.op 9 (oA 30 (.fa 1 (.t 29))),.op 10 (oS (.st (.t 30) (.t 28)))]
def c1_10 : C :=
 .seq (.seq (.ops [oM 17 7]) (.cond (.t 17) (.seq (.ops [oM 18 0,oA 19 (.ldn 3 (.t 3)),oA 20 (.call n_12 [(.t 18),(.t 19)])]) (c0_10)) (.skip))) (.seq (.ops [oA 31 (.ldn 4 (.t 6)),oM 32 7,oS (.stn 4 (.t 4) (.t 31)),oM 5 32]) (.ret))
def c2_10 : C :=
 .seq (.any 1 [.op 0 (oM 9 0),.op 1 (oA 10 (.nilc (.t 9))),.op 2 (oA 11 (.fa 2 (.t 10))),.op 3 (oA 12 (.ld (.t 11))),.op 4 (oA 13 (.ldn 3 (.t 3))),.op 5 (oA 14 (.look (.agg [(0,1,false,(.int .u32)),(1,1,false,(.int .i64)),(2,1,false,(.int .i64))]) (.agg #[(.int .u32 0),(.slice none 0 0),(.slice none 0 0),(.slice none 0 0)]) true (.t 12) (.t 13))),.op 6 (oM 8 14),.op 7 (oA 15 (.ext (.t 8) 0)),.al 9 0 (oA 6 (.new [(.int .u32 0),(.slice none 0 0),(.slice none 0 0),(.slice none 0 0)])),.op 10 (oS (.stn 4 (.t 6) (.t 15))),.op 8 (oA 16 (.ext (.t 8) 1)),.op 11 (oM 7 16)]) (c1_10)
def c_10 : C :=
 .seq (.ops [oA 3 (.box (.t 1)),oA 4 (.new [(.int .u32 0),(.slice none 0 0),(.slice none 0 0),(.slice none 0 0)]),oA 5 (.mov (.c (.bool false)))]) (c2_10)
def f_10 : F := ⟨c_10, [.ldn 4 4, .t 5], some []⟩
theorem h_10 : compF Tryz.prog (compAny Tryz.prog) n_10 = some (f_10.body, f_10.res) := by kernel_rfl
def c0_0c : C :=
 .seq (.ops [oM 30 8,oA 31 (.un .not (.t 30)),oM 32 31,oF 33 32 (.mov (.t 7)),oF 34 32 (.mov (.t 6)),oF 35 32 (.bin .neq (.t 33) (.t 34)),oA 36 (.pick (.t 32) (.c (.bool true)) (.t 35))]) (.cond (.t 36) (.seq (.ops [oA 4 (.mov (.c (.bool false)))]) (.ret)) (.skip))
def c1_0c : C :=
 .seq (.ops [oM 20 1,oA 21 (.fa 0 (.t 2)),oA 22 (.ld (.t 21)),oM 23 5,oA 24 (.bin .mul (.c (.int .i64 4)) (.t 23)),oA 25 (.conv .u32 (.t 24)),oA 26 (.bin .add (.t 22) (.t 25)),oA 27 (.call n_7r [(.t 20),(.t 26),(.c (.int .i64 4))]),oM 19 27,oA 28 (.ext (.t 19) 0),oA 29 (.ext (.t 19) 1),oM 7 28,oM 8 29]) (c0_0c)
def c2_0c : C :=
 .seq (.block 1 (.seq (.ops [oM 16 14,oA 17 (.ia 1 (.t 12) (.t 14)),oA 18 (.ld (.t 17)),oM 5 16,oM 6 18]) (c1_0c))) (.ops [oA 37 (.bin .add (.t 14) (.c (.int .i64 1))),oM 14 37])
def c3_0c : C :=
 .seq (.ops [oA 15 (.bin .lss (.t 14) (.t 13))]) (.seq (.cond (.t 15) (.skip) (.exit 0)) (c2_0c))
def c4_0c : C :=
 .seq (.seq (.ops [oM 9 1,oA 10 (.eqn 0 false (.t 9))]) (.cond (.t 10) (.seq (.ops [oA 4 (.mov (.c (.bool false)))]) (.ret)) (.skip))) (.seq (.seq (.ops [oA 11 (.fa 1 (.t 2)),oA 12 (.ld (.t 11)),oA 13 (.len 1 (.t 12)),oA 14 (.mov (.c (.int .i64 0)))]) (.block 0 (.loop c3_0c))) (.seq (.ops [oA 4 (.mov (.c (.bool true)))]) (.ret)))
def c_0c : C :=
 .seq (.ops [oA 2 (.box (.t 0)),oA 4 (.mov (.c (.bool false)))]) (c4_0c)
def f_0c : F := ⟨c_0c, [.t 4], some []⟩
theorem h_0c : compF Tryz.prog (compAny Tryz.prog) n_0c = some (f_0c.body, f_0c.res) := by kernel_rfl
def c_09 : C :=
 .seq (.ops [oA 1 (.box (.t 0)),oA 2 (.mov (.c (.int .i64 0)))]) (.seq (.ops [oA 3 (.fa 0 (.t 1)),oA 4 (.ld (.t 3)),oA 5 (.bin .quo (.t 4) (.c (.int .u32 1024))),oA 6 (.conv .i64 (.t 5)),oM 2 6]) (.ret))
def f_09 : F := ⟨c_09, [.t 2], some []⟩
theorem h_09 : compF Tryz.prog (compAny Tryz.prog) n_09 = some (f_09.body, f_09.res) := by kernel_rfl
def c0_0b : C :=
 .seq (.seq (.ops [oM 73 9,oM 74 73,oF 75 74 (.mov (.t 15)),oF 76 74 (.bin .eql (.t 75) (.c (.int .i64 6))),oA 77 (.pick (.t 74) (.c (.bool true)) (.t 76))]) (.cond (.t 77) (.exit 0) (.skip))) (.ops [oM 78 15,oA 79 (.bin .eql (.t 78) (.c (.int .i64 3))),oM 9 79])
def c1_0b : C :=
 .seq (.seq (.ops [oM 61 9,oM 62 61,oT 63 62 (.mov (.t 15)),oT 64 62 (.bin .eql (.t 63) (.c (.int .i64 3))),oT 65 62 (.mov (.t 64)),oF 66 65 (.mov (.t 15)),oF 67 65 (.bin .eql (.t 66) (.c (.int .i64 6))),oT 68 62 (.pick (.t 65) (.c (.bool true)) (.t 67)),oA 69 (.pick (.t 62) (.t 68) (.c (.bool false)))]) (.cond (.t 69) (.exit 0) (.skip))) (.seq (.ops [oM 70 12,oA 71 (.ldn 6 (.t 14)),oA 72 (.call n_0a [(.t 8),(.t 70),(.t 71)])]) (c0_0b))
def c2_0b : C :=
 .seq (.ops [oM 57 12,oA 58 (.call n_20 [(.t 57)]),oA 14 (.new [(.int .i64 0),(.int .i64 0),(.int .i64 0),(.int .i64 0),(.int .i64 0),(.int .u32 0)]),oS (.stn 6 (.t 14) (.t 58))]) (.seq (.ops [oA 59 (.ldn 6 (.t 14)),oA 60 (.call n_1z [(.t 59)]),oM 15 60]) (c1_0b))
def c3_0b : C :=
 .seq (.ops [oM 52 0,oM 53 11,oA 54 (.call n_7r [(.t 52),(.t 53),(.c (.int .i64 4))]),oM 51 54,oA 55 (.ext (.t 51) 0),oA 56 (.ext (.t 51) 1),oM 12 55,oM 13 56]) (c2_0b)
def c4_0b : C :=
 .seq (.seq (.ops [oM 44 10,oA 45 (.bin .gtr (.t 44) (.c (.int .i64 0))),oM 46 45,oT 47 46 (.mov (.t 11)),oT 48 46 (.bin .rem (.t 47) (.c (.int .u32 1024))),oT 49 46 (.bin .eql (.t 48) (.c (.int .u32 0))),oA 50 (.pick (.t 46) (.t 49) (.c (.bool false)))]) (.cond (.t 50) (.exit 0) (.skip))) (c3_0b)
def c5_0b : C :=
 .seq (.block 1 (.seq (.ops [oM 38 36,oM 10 38]) (.seq (.ops [oM 39 1,oM 40 10,oA 41 (.bin .mul (.c (.int .i64 4)) (.t 40)),oA 42 (.conv .u32 (.t 41)),oA 43 (.bin .add (.t 39) (.t 42)),oM 11 43]) (c4_0b)))) (.ops [oA 80 (.bin .add (.t 36) (.c (.int .i64 1))),oM 36 80])
def c6_0b : C :=
 .seq (.ops [oA 37 (.bin .lss (.t 36) (.t 35))]) (.seq (.cond (.t 37) (.skip) (.exit 0)) (c5_0b))
def c7_0b : C :=
 .seq (.ops [oA 9 (.mov (.c (.bool false)))]) (.seq (.skip) (.seq (.seq (.ops [oM 35 2,oA 36 (.mov (.c (.int .i64 0)))]) (.block 0 (.loop c6_0b))) (.seq (.ops [oA 81 (.ldn 4 (.t 8)),oS (.stn 4 (.t 6) (.t 81)),oA 7 (.mov (.c (.bool true)))]) (.ret))))
def c8_0b : C :=
 .seq (.ops [oM 30 1,oA 31 (.build [(.int .u32 0),(.slice none 0 0),(.slice none 0 0),(.slice none 0 0)] [(0,1,(.t 30))]),oA 8 (.new [(.int .u32 0),(.slice none 0 0),(.slice none 0 0),(.slice none 0 0)]),oS (.stn 4 (.t 8) (.t 31))]) (.seq (.ops [oM 32 2,oA 33 (.mn (.t 32) (.c (.int .i64 32))),oA 34 (.mx (.c (.int .i64 1)) (.t 33)),oM 2 34]) (c7_0b))
def c9_0b : C :=
 .seq (.seq (.ops [oM 16 0,oA 17 (.eqn 0 false (.t 16)),oM 18 17,oF 19 18 (.mov (.t 1)),oF 20 18 (.bin .rem (.t 19) (.c (.int .u32 4))),oF 21 18 (.bin .neq (.t 20) (.c (.int .u32 0))),oA 22 (.pick (.t 18) (.c (.bool true)) (.t 21)),oM 23 22,oF 24 23 (.mov (.t 1)),oF 25 23 (.mov (.t 0)),oF 26 23 (.call n_7u [(.t 25)]),oF 27 23 (.bin .geq (.t 24) (.t 26)),oA 28 (.pick (.t 23) (.c (.bool true)) (.t 27))]) (.cond (.t 28) (.seq (.ops [oA 29 (.build [(.int .u32 0),(.slice none 0 0),(.slice none 0 0),(.slice none 0 0)] []),oS (.stn 4 (.t 6) (.t 29)),oA 7 (.mov (.c (.bool false)))]) (.ret)) (.skip))) (c8_0b)
def c_0b : C :=
 .seq (.ops [oA 6 (.new [(.int .u32 0),(.slice none 0 0),(.slice none 0 0),(.slice none 0 0)]),oA 7 (.mov (.c (.bool false)))]) (c9_0b)
def f_0b : F := ⟨c_0b, [.ldn 4 6, .t 7], some []⟩
theorem h_0b : compF Tryz.prog (compAny Tryz.prog) n_0b = some (f_0b.body, f_0b.res) := by kernel_rfl
def c0_11 : C :=
 .seq (.any 0 [.op 0 (oM 17 7),.op 1 (oA 18 (.un .not (.t 17))),.op 2 (oM 19 18),.op 3 (oT 20 19 (.mov (.t 0))),.op 4 (oT 21 19 (.nilc (.t 20))),.op 5 (oT 22 19 (.fa 1 (.t 21))),.op 6 (oT 23 19 (.ld (.t 22))),.op 7 (oT 24 19 (.len 1 (.t 23))),.op 8 (oT 25 19 (.mov (.t 0))),.op 9 (oT 26 19 (.nilc (.t 25))),.op 10 (oT 27 19 (.fa 0 (.t 26))),.op 11 (oT 28 19 (.ld (.t 27))),.op 12 (oT 29 19 (.bin .geq (.t 24) (.t 28))),.op 13 (oA 30 (.pick (.t 19) (.t 29) (.c (.bool false))))]) (.cond (.t 30) (.ops [oM 31 0,oA 32 (.call n_0y [(.t 31)])]) (.skip))
def c1_11 : C :=
 .any 0 [.op 0 (oM 46 0),.op 1 (oA 47 (.nilc (.t 46))),.op 2 (oA 48 (.fa 2 (.t 47))),.op 3 (oA 49 (.ld (.t 48))),.op 4 (oA 50 (.ldn 3 (.t 4))),.op 5 (oA 51 (.ldn 4 (.t 5))),.op 6 (oS (.mset (.agg [(0,1,false,(.int .u32)),(1,1,false,(.int .i64)),(2,1,false,(.int .i64))]) (.t 49) (.t 50) (.t 51)))]
def c2_11 : C :=
 .seq (.any 1 [.op 1 (oM 37 0),.op 2 (oA 38 (.nilc (.t 37))),.op 3 (oA 39 (.fa 1 (.t 38))),.op 4 (oA 40 (.ld (.t 39))),.op 5 (oA 41 (.ldn 3 (.t 4))),.al 6 0 (oA 42 (.bsl 1 [(.int .u32 0),(.int .i64 0),(.int .i64 0)] [(0,3,(.t 41))])),.op 7 (oA 43 (.app 3 24 (.t 40) (.t 42))),.op 0 (oM 36 0),.op 8 (oA 44 (.nilc (.t 36))),.op 9 (oA 45 (.fa 1 (.t 44))),.op 10 (oS (.st (.t 45) (.t 43)))]) (c1_11)
def c3_11 : C :=
 .seq (.seq (.any 1 [.op 0 (oM 9 0),.op 1 (oA 10 (.nilc (.t 9))),.op 2 (oA 11 (.fa 2 (.t 10))),.op 3 (oA 12 (.ld (.t 11))),.op 4 (oA 13 (.ldn 3 (.t 4))),.op 5 (oA 14 (.look (.agg [(0,1,false,(.int .u32)),(1,1,false,(.int .i64)),(2,1,false,(.int .i64))]) (.agg #[(.int .u32 0),(.slice none 0 0),(.slice none 0 0),(.slice none 0 0)]) true (.t 12) (.t 13))),.op 6 (oM 8 14),.op 7 (oA 15 (.ext (.t 8) 0)),.al 9 0 (oA 6 (.new [(.int .u32 0),(.slice none 0 0),(.slice none 0 0),(.slice none 0 0)])),.op 10 (oS (.stn 4 (.t 6) (.t 15))),.op 8 (oA 16 (.ext (.t 8) 1)),.op 11 (oM 7 16)]) (c0_11)) (.seq (.ops [oM 33 0,oA 34 (.ldn 3 (.t 4)),oA 35 (.call n_12 [(.t 33),(.t 34)])]) (c2_11))
def c_11 : C :=
 .seq (.ops [oA 4 (.box (.t 1)),oA 5 (.box (.t 2))]) (c3_11)
def f_11 : F := ⟨c_11, [], some []⟩
theorem h_11 : compF Tryz.prog (compAny Tryz.prog) n_11 = some (f_11.body, f_11.res) := by kernel_rfl
end Go.Proofs.YtoiiphcbkejliaaGreat.Cd

set_option maxRecDepth 100000
set_option linter.defProp false
namespace Go.Proofs.YtoiiphcbkejliaaGreat.Cd
open Go Go.Dx
def c_7s : C :=
 .seq (.ops [oM 4 0,oM 5 1,oA 6 (.call n_7z [(.t 4),(.t 5)])]) (.cond (.t 6) (.ops [oM 7 0,oA 8 (.nilc (.t 7)),oA 9 (.fa 1 (.t 8)),oA 10 (.ld (.t 9)),oM 11 1,oA 12 (.ia 1 (.t 10) (.t 11)),oS (.st (.t 12) (.c (.bool true)))]) (.skip))
def f_7s : F := ⟨c_7s, [], some []⟩
theorem h_7s : compF Tryz.prog (compAny Tryz.prog) n_7s = some (f_7s.body, f_7s.res) := by kernel_rfl
def c0_7r : C :=
 .seq (.block 1 (.seq (.ops [oA 29 (.ia 1 (.t 25) (.t 27)),oA 30 (.ld (.t 29)),oM 10 30]) (.ops [oM 31 8,oA 32 (.bin .shl (.t 31) (.c (.int .u64 8))),oM 33 10,oA 34 (.conv .u32 (.t 33)),oA 35 (.bin .or (.t 32) (.t 34)),oM 8 35]))) (.ops [oA 36 (.bin .add (.t 27) (.c (.int .i64 1))),oM 27 36])
def c1_7r : C :=
 .seq (.ops [oA 28 (.bin .lss (.t 27) (.t 26))]) (.seq (.cond (.t 28) (.skip) (.exit 0)) (c0_7r))
def c2_7r : C :=
 .seq (.seq (.ops [oM 16 0,oA 17 (.nilc (.t 16)),oA 18 (.fa 0 (.t 17)),oA 19 (.ld (.t 18)),oM 20 1,oM 21 1,oA 22 (.conv .i64 (.t 21)),oM 23 2,oA 24 (.bin .add (.t 22) (.t 23)),oA 25 (.sl 1 (.t 19) (some (.t 20)) (some (.t 24)) none),oA 26 (.len 1 (.t 25)),oA 27 (.mov (.c (.int .i64 0)))]) (.block 0 (.loop c1_7r))) (.seq (.ops [oM 37 8,oM 6 37,oA 7 (.mov (.c (.bool true)))]) (.ret))
def c3_7r : C :=
 .seq (.seq (.ops [oM 11 0,oM 12 1,oM 13 2,oA 14 (.call n_7y [(.t 11),(.t 12),(.t 13)]),oA 15 (.un .not (.t 14))]) (.cond (.t 15) (.seq (.ops [oA 6 (.mov (.c (.int .u32 0))),oA 7 (.mov (.c (.bool false)))]) (.ret)) (.skip))) (.seq (.ops [oA 8 (.mov (.c (.int .u32 0)))]) (c2_7r))
def c_7r : C :=
 .seq (.ops [oA 6 (.mov (.c (.int .u32 0))),oA 7 (.mov (.c (.bool false)))]) (c3_7r)
def f_7r : F := ⟨c_7r, [.t 6, .t 7], some []⟩
theorem h_7r : compF Tryz.prog (compAny Tryz.prog) n_7r = some (f_7r.body, f_7r.res) := by kernel_rfl
def c0_2z : C :=
 .seq (.ops [oM 24 7,oA 25 (.bin .eql (.t 24) (.c (.int .i64 (-1)))),oM 26 25,oT 27 26 (.ldn 6 (.t 4)),oT 28 26 (.call n_1z [(.t 27)]),oT 29 26 (.bin .neq (.t 28) (.c (.int .i64 6))),oA 30 (.pick (.t 26) (.t 29) (.c (.bool false))),oM 6 30]) (.ret)
def c1_2z : C :=
 .seq (.any 0 [.op 3 (oM 16 0),.op 4 (oA 17 (.nilc (.t 16))),.op 5 (oA 18 (.fa 73 (.t 17))),.op 6 (oA 19 (.ld (.t 18))),.op 7 (oA 20 (.ldn 6 (.t 4))),.op 0 (oM 13 0),.op 1 (oA 14 (.nilc (.t 13))),.op 2 (oA 15 (.fa 0 (.t 14))),.op 8 (oA 21 (.call n_1l [(.t 15),(.t 19),(.t 20)])),.op 9 (oM 7 21)]) (.seq (.ops [oM 22 0,oA 23 (.call n_34 [(.t 22)])]) (c0_2z))
def c2_2z : C :=
 .seq (.seq (.ops [oA 8 (.ldn 6 (.t 4)),oA 9 (.call n_3e [(.t 8)])]) (.cond (.t 9) (.seq (.ops [oM 10 0,oM 11 2,oA 12 (.call n_32 [(.t 10),(.t 11)])]) (.seq (.ops [oA 6 (.mov (.c (.bool true)))]) (.ret))) (.skip))) (c1_2z)
def c_2z : C :=
 .seq (.ops [oA 4 (.box (.t 1)),oA 6 (.mov (.c (.bool false)))]) (c2_2z)
def f_2z : F := ⟨c_2z, [.t 6], some []⟩
theorem h_2z : compF Tryz.prog (compAny Tryz.prog) n_2z = some (f_2z.body, f_2z.res) := by kernel_rfl
def c_001 : C :=
 .seq (.ops [oM 4 0,oA 5 (.nilc (.t 4)),oA 6 (.fa 2 (.t 5)),oA 7 (.ld (.t 6)),oM 8 1,oA 9 (.call n_041 [(.t 7),(.t 8)]),oA 10 (.un .not (.t 9))]) (.cond (.t 10) (.ops [oM 11 0,oA 12 (.nilc (.t 11)),oA 13 (.fa 4 (.t 12)),oS (.st (.t 13) (.c (.bool true)))]) (.skip))
def f_001 : F := ⟨c_001, [], some []⟩
theorem h_001 : compF Tryz.prog (compAny Tryz.prog) n_001 = some (f_001.body, f_001.res) := by kernel_rfl
def c0_0r : C :=
 .seq (.block 1 (.any 0 [.op 0 (oM 7 0),.op 1 (oA 8 (.nilc (.t 7))),.op 2 (oA 9 (.fa 2 (.t 8))),.op 3 (oA 10 (.ld (.t 9))),.op 5 (oM 12 0),.op 6 (oM 13 2),.op 7 (oA 14 (.call n_0s [(.t 12),(.t 13)])),.re 3 (oA 10 (.ld (.t 9))),.op 4 (oM 11 2),.op 8 (oA 15 (.call n_3k [(.t 10),(.t 11),(.t 14)]))])) (.ops [oM 5 2,oA 6 (.bin .add (.t 5) (.c (.int .i64 1))),oM 2 6])
def c1_0r : C :=
 .seq (.seq (.ops [oM 3 2,oA 4 (.bin .leq (.t 3) (.c (.int .i64 5)))]) (.cond (.t 4) (.skip) (.exit 0))) (c0_0r)
def c_0r : C :=
 .seq (.ops [oA 2 (.mov (.c (.int .i64 1)))]) (.block 0 (.loop c1_0r))
def f_0r : F := ⟨c_0r, [], some []⟩
theorem h_0r : compF Tryz.prog (compAny Tryz.prog) n_0r = some (f_0r.body, f_0r.res) := by kernel_rfl
def c0_3i : C :=
 .seq (.any 0 [.op 0 (oM 3 0),.op 1 (oA 4 (.nilc (.t 3))),.op 2 (oA 5 (.fa 0 (.t 4))),.op 3 (oA 6 (.ld (.t 5))),.op 4 (oM 7 0),.op 5 (oA 8 (.nilc (.t 7))),.op 6 (oA 9 (.fa 1 (.t 8))),.op 7 (oA 10 (.ld (.t 9))),.op 8 (oA 11 (.bin .and (.t 6) (.t 10))),.op 9 (oA 12 (.bin .neq (.t 11) (.c (.int .u32 0)))),.op 10 (oM 2 12)]) (.ret)
def c_3i : C :=
 .seq (.ops [oA 2 (.mov (.c (.bool false)))]) (c0_3i)
def f_3i : F := ⟨c_3i, [.t 2], some []⟩
theorem h_3i : compF Tryz.prog (compAny Tryz.prog) n_3i = some (f_3i.body, f_3i.res) := by kernel_rfl
def c0_8f : C :=
 .seq (.seq (.ops [oM 3 0,oA 4 (.eqn 1 false (.t 3))]) (.cond (.t 4) (.seq (.ops [oA 2 (.mov (.c (.slice none 0 0)))]) (.ret)) (.skip))) (.seq (.ops [oA 5 (.bsl 0 [] []),oM 6 0,oA 7 (.app 3 24 (.t 5) (.t 6)),oM 2 7]) (.ret))
def c_8f : C :=
 .seq (.ops [oA 2 (.mov (.c (.slice none 0 0)))]) (c0_8f)
def f_8f : F := ⟨c_8f, [.t 2], some []⟩
theorem h_8f : compF Tryz.prog (compAny Tryz.prog) n_8f = some (f_8f.body, f_8f.res) := by kernel_rfl
def c0_12 : C :=
 .ops [oM 13 0,oM 14 0,oA 15 (.nilc (.t 14)),oA 16 (.fa 1 (.t 15)),oA 17 (.ld (.t 16)),oM 18 4,oM 19 4,oA 20 (.bin .add (.t 19) (.c (.int .i64 1))),oA 21 (.call n_8k [(.t 17),(.t 18),(.t 20)]),oA 22 (.nilc (.t 13)),oA 23 (.fa 1 (.t 22)),oS (.st (.t 23) (.t 21))]
def c1_12 : C :=
 .seq (.any 0 [.op 0 (oM 5 0),.op 1 (oA 6 (.nilc (.t 5))),.op 2 (oA 7 (.fa 1 (.t 6))),.op 3 (oA 8 (.ld (.t 7))),.op 4 (oA 9 (.ldn 3 (.t 3))),.op 5 (oA 10 (.call n_8q [(.t 8),(.t 9)])),.op 6 (oM 4 10)]) (.seq (.ops [oM 11 4,oA 12 (.bin .geq (.t 11) (.c (.int .i64 0)))]) (.cond (.t 12) (c0_12) (.skip)))
def c_12 : C :=
 .seq (.ops [oA 3 (.box (.t 1))]) (c1_12)
def f_12 : F := ⟨c_12, [], some []⟩
theorem h_12 : compF Tryz.prog (compAny Tryz.prog) n_12 = some (f_12.body, f_12.res) := by kernel_rfl
def c0_7z : C :=
 .seq (.ops [oM 5 1,oA 6 (.bin .geq (.t 5) (.c (.int .i64 0))),oM 7 6,oT 8 7 (.mov (.t 1)),oT 9 7 (.mov (.t 0)),oT 10 7 (.nilc (.t 9)),oT 11 7 (.fa 1 (.t 10)),oT 12 7 (.ld (.t 11)),oT 13 7 (.len 1 (.t 12)),oT 14 7 (.bin .lss (.t 8) (.t 13)),oA 15 (.pick (.t 7) (.t 14) (.c (.bool false))),oM 4 15]) (.ret)
def c_7z : C :=
 .seq (.ops [oA 4 (.mov (.c (.bool false)))]) (c0_7z)
def f_7z : F := ⟨c_7z, [.t 4], some []⟩
theorem h_7z : compF Tryz.prog (compAny Tryz.prog) n_7z = some (f_7z.body, f_7z.res) := by kernel_rfl
def c0_8d : C :=
 .seq (.seq (.ops [oM 3 0,oA 4 (.eqn 1 false (.t 3))]) (.cond (.t 4) (.seq (.ops [oA 2 (.mov (.c (.slice none 0 0)))]) (.ret)) (.skip))) (.seq (.ops [oA 5 (.bsl 0 [] []),oM 6 0,oA 7 (.app 3 24 (.t 5) (.t 6)),oM 2 7]) (.ret))
def c_8d : C :=
 .seq (.ops [oA 2 (.mov (.c (.slice none 0 0)))]) (c0_8d)
def f_8d : F := ⟨c_8d, [.t 2], some []⟩
theorem h_8d : compF Tryz.prog (compAny Tryz.prog) n_8d = some (f_8d.body, f_8d.res) := by kernel_rfl
def c0_6q : C :=
 .seq (.ops [oM 5 0,oA 6 (.bin .eql (.t 5) (.c (.int .i64 0))),oM 7 6,oF 8 7 (.mov (.t 1)),oF 9 7 (.mov (.t 8)),oT 10 9 (.mov (.t 0)),oT 11 9 (.bin .gtr (.t 10) (.c (.int .i64 0))),oF 12 7 (.pick (.t 9) (.t 11) (.c (.bool false))),oF 13 7 (.mov (.t 12)),oT 14 13 (.mov (.t 0)),oT 15 13 (.bin .lss (.t 14) (.c (.int .i64 32))),oF 16 7 (.pick (.t 13) (.t 15) (.c (.bool false))),oA 17 (.pick (.t 7) (.c (.bool true)) (.t 16)),oM 4 17]) (.ret)
def c_6q : C :=
 .seq (.ops [oA 4 (.mov (.c (.bool false)))]) (c0_6q)
def f_6q : F := ⟨c_6q, [.t 4], some []⟩
theorem h_6q : compF Tryz.prog (compAny Tryz.prog) n_6q = some (f_6q.body, f_6q.res) := by kernel_rfl
def c0_0c1 : C :=
 .seq (.ops [oM 14 7,oA 15 (.un .not (.t 14)),oM 16 15,oF 17 16 (.mov (.t 6)),oF 18 16 (.mov (.t 1)),oF 19 16 (.bin .gtr (.t 17) (.t 18)),oA 20 (.pick (.t 16) (.c (.bool true)) (.t 19))]) (.cond (.t 20) (.seq (.ops [oA 21 (.build [(.int .i64 0),(.int .i64 0),(.int .i64 0)] []),oS (.stn 3 (.t 4) (.t 21)),oA 5 (.mov (.c (.bool false)))]) (.ret)) (.skip))
def c1_0c1 : C :=
 .seq (.ops [oM 28 0,oM 29 0,oA 30 (.nilc (.t 29)),oA 31 (.fa 0 (.t 30)),oA 32 (.ld (.t 31)),oA 33 (.call n_8j [(.t 32),(.c (.int .i64 0)),(.c (.int .i64 1))]),oA 34 (.nilc (.t 28)),oA 35 (.fa 0 (.t 34)),oS (.st (.t 35) (.t 33))]) (.seq (.ops [oA 36 (.ldn 3 (.t 8)),oS (.stn 3 (.t 4) (.t 36)),oA 5 (.mov (.c (.bool true)))]) (.ret))
def c2_0c1 : C :=
 .seq (.ops [oM 22 0,oA 23 (.nilc (.t 22)),oA 24 (.fa 0 (.t 23)),oA 25 (.ld (.t 24)),oA 26 (.ia 3 (.t 25) (.c (.int .i64 0))),oA 27 (.ldn 3 (.t 26)),oA 8 (.new [(.int .i64 0),(.int .i64 0),(.int .i64 0)]),oS (.stn 3 (.t 8) (.t 27))]) (c1_0c1)
def c_0c1 : C :=
 .seq (.ops [oA 4 (.new [(.int .i64 0),(.int .i64 0),(.int .i64 0)]),oA 5 (.mov (.c (.bool false)))]) (.seq (.seq (.ops [oM 10 0,oA 11 (.call n_0b1 [(.t 10)]),oM 9 11,oA 12 (.ext (.t 9) 0),oA 13 (.ext (.t 9) 1),oM 6 12,oM 7 13]) (c0_0c1)) (c2_0c1))
def f_0c1 : F := ⟨c_0c1, [.ldn 3 4, .t 5], some []⟩
theorem h_0c1 : compF Tryz.prog (compAny Tryz.prog) n_0c1 = some (f_0c1.body, f_0c1.res) := by kernel_rfl
def c0_0q : C :=
 .cond (.t 42) (.any 0 [.op 0 (oM 44 0),.op 1 (oA 45 (.nilc (.t 44))),.op 2 (oA 46 (.fa 7 (.t 45))),.op 3 (oA 47 (.ld (.t 46))),.op 4 (oA 48 (.fa 0 (.t 3))),.op 5 (oA 49 (.ld (.t 48))),.op 6 (oA 50 (.call n_2d [(.t 47),(.t 49)]))]) (.skip)
def c1_0q : C :=
 .cond (.t 33) (.any 0 [.op 0 (oM 35 0),.op 1 (oA 36 (.nilc (.t 35))),.op 2 (oA 37 (.fa 6 (.t 36))),.op 3 (oA 38 (.ld (.t 37))),.op 4 (oA 39 (.fa 0 (.t 3))),.op 5 (oA 40 (.ld (.t 39))),.op 6 (oA 41 (.call n_2l [(.t 38),(.t 40)]))]) (.seq (.ops [oA 43 (.bin .eql (.t 5) (.c (.int .i64 5))),oM 42 43]) (c0_0q))
def c2_0q : C :=
 .cond (.t 24) (.any 0 [.op 0 (oM 26 0),.op 1 (oA 27 (.nilc (.t 26))),.op 2 (oA 28 (.fa 5 (.t 27))),.op 3 (oA 29 (.ld (.t 28))),.op 4 (oA 30 (.fa 0 (.t 3))),.op 5 (oA 31 (.ld (.t 30))),.op 6 (oA 32 (.call n_9w [(.t 29),(.t 31)]))]) (.seq (.ops [oA 34 (.bin .eql (.t 5) (.c (.int .i64 4))),oM 33 34]) (c1_0q))
def c3_0q : C :=
 .cond (.t 15) (.any 0 [.op 0 (oM 17 0),.op 1 (oA 18 (.nilc (.t 17))),.op 2 (oA 19 (.fa 4 (.t 18))),.op 3 (oA 20 (.ld (.t 19))),.op 4 (oA 21 (.fa 0 (.t 3))),.op 5 (oA 22 (.ld (.t 21))),.op 6 (oA 23 (.call n_9f [(.t 20),(.t 22)]))]) (.seq (.ops [oA 25 (.bin .eql (.t 5) (.c (.int .i64 3))),oM 24 25]) (c2_0q))
def c4_0q : C :=
 .cond (.t 6) (.any 0 [.op 0 (oM 8 0),.op 1 (oA 9 (.nilc (.t 8))),.op 2 (oA 10 (.fa 3 (.t 9))),.op 3 (oA 11 (.ld (.t 10))),.op 4 (oA 12 (.fa 0 (.t 3))),.op 5 (oA 13 (.ld (.t 12))),.op 6 (oA 14 (.call n_9f [(.t 11),(.t 13)]))]) (.seq (.ops [oA 16 (.bin .eql (.t 5) (.c (.int .i64 2))),oM 15 16]) (c3_0q))
def c_0q : C :=
 .seq (.ops [oA 3 (.box (.t 1))]) (.seq (.ops [oA 4 (.fa 1 (.t 3)),oA 5 (.ld (.t 4))]) (.block 0 (.seq (.ops [oA 7 (.bin .eql (.t 5) (.c (.int .i64 1))),oM 6 7]) (c4_0q))))
def f_0q : F := ⟨c_0q, [], some []⟩
theorem h_0q : compF Tryz.prog (compAny Tryz.prog) n_0q = some (f_0q.body, f_0q.res) := by kernel_rfl
def c0_19 : C :=
 .any 0 [.op 0 (oM 46 0),.op 1 (oA 47 (.nilc (.t 46))),.op 2 (oA 48 (.fa 39 (.t 47))),.op 3 (oA 49 (.iaa 16 1 (.t 48) (.c (.int .i64 13)))),.op 4 (oA 50 (.ld (.t 49))),.op 5 (oA 51 (.bin .or (.t 50) (.c (.int .u32 2147483648)))),.op 6 (oA 52 (.nilc (.t 46))),.op 7 (oA 53 (.fa 39 (.t 52))),.op 8 (oA 54 (.iaa 16 1 (.t 53) (.c (.int .i64 13)))),.op 9 (oS (.st (.t 54) (.t 51)))]
def c1_19 : C :=
 .seq (.any 0 [.op 1 (oM 38 0),.op 2 (oA 39 (.nilc (.t 38))),.op 3 (oA 40 (.fa 34 (.t 39))),.op 4 (oA 41 (.ld (.t 40))),.op 0 (oM 37 0),.op 5 (oA 42 (.bin .sub (.t 41) (.c (.int .u32 4)))),.op 6 (oA 43 (.nilc (.t 37))),.op 7 (oA 44 (.fa 39 (.t 43))),.op 8 (oA 45 (.iaa 16 1 (.t 44) (.c (.int .i64 14)))),.op 9 (oS (.st (.t 45) (.t 42)))]) (c0_19)
def c2_19 : C :=
 .seq (.seq (.ops [oM 33 0,oA 34 (.nilc (.t 33)),oA 35 (.fa 36 (.t 34)),oA 36 (.ld (.t 35))]) (.cond (.t 36) (c1_19) (.skip))) (.seq (.ops [oM 55 2]) (.cond (.t 55) (.ops [oA 6 (.mov (.c (.int .u32 2147483648)))]) (.skip)))
def c3_19 : C :=
 .seq (.any 0 [.op 0 (oM 24 0),.op 1 (oA 25 (.nilc (.t 24))),.op 2 (oA 26 (.fa 39 (.t 25))),.op 3 (oA 27 (.iaa 16 1 (.t 26) (.c (.int .i64 13)))),.op 4 (oA 28 (.ld (.t 27))),.op 5 (oA 29 (.bin .andNot (.t 28) (.c (.int .u32 2147483648)))),.op 6 (oA 30 (.nilc (.t 24))),.op 7 (oA 31 (.fa 39 (.t 30))),.op 8 (oA 32 (.iaa 16 1 (.t 31) (.c (.int .i64 13)))),.op 9 (oS (.st (.t 32) (.t 29)))]) (c2_19)
def c4_19 : C :=
 .seq (.any 0 [.op 1 (oM 17 0),.op 2 (oA 18 (.nilc (.t 17))),.op 3 (oA 19 (.fa 34 (.t 18))),.op 4 (oA 20 (.ld (.t 19))),.op 0 (oM 16 0),.op 5 (oA 21 (.nilc (.t 16))),.op 6 (oA 22 (.fa 39 (.t 21))),.op 7 (oA 23 (.iaa 16 1 (.t 22) (.c (.int .i64 14)))),.op 8 (oS (.st (.t 23) (.t 20)))]) (c3_19)
def c5_19 : C :=
 .any 0 [.op 0 (oM 74 0),.op 1 (oA 75 (.nilc (.t 74))),.op 2 (oA 76 (.fa 39 (.t 75))),.op 3 (oA 77 (.iaa 16 1 (.t 76) (.c (.int .i64 12)))),.op 4 (oA 78 (.ld (.t 77))),.op 5 (oA 79 (.bin .or (.t 78) (.c (.int .u32 2)))),.op 6 (oA 80 (.nilc (.t 74))),.op 7 (oA 81 (.fa 39 (.t 80))),.op 8 (oA 82 (.iaa 16 1 (.t 81) (.c (.int .i64 12)))),.op 9 (oS (.st (.t 82) (.t 79)))]
def c6_19 : C :=
 .seq (.any 0 [.op 1 (oM 57 0),.op 2 (oA 58 (.nilc (.t 57))),.op 3 (oA 59 (.fa 39 (.t 58))),.op 4 (oA 60 (.iaa 16 1 (.t 59) (.c (.int .i64 13)))),.op 5 (oA 61 (.ld (.t 60))),.op 0 (oM 56 0),.op 6 (oA 62 (.bin .andNot (.t 61) (.c (.int .u32 124)))),.op 7 (oM 63 1),.op 8 (oA 64 (.bin .and (.t 63) (.c (.int .i64 31)))),.op 9 (oA 65 (.conv .u32 (.t 64))),.op 10 (oA 66 (.bin .shl (.t 65) (.c (.int .u64 2)))),.op 11 (oA 67 (.bin .or (.t 62) (.t 66))),.op 12 (oA 68 (.nilc (.t 56))),.op 13 (oA 69 (.fa 39 (.t 68))),.op 14 (oA 70 (.iaa 16 1 (.t 69) (.c (.int .i64 13)))),.op 15 (oS (.st (.t 70) (.t 67)))]) (.seq (.ops [oM 71 0,oM 72 6,oA 73 (.call n_1k [(.t 71),(.t 72)])]) (c5_19))
def c7_19 : C :=
 .seq (.seq (.ops [oM 9 0,oA 10 (.nilc (.t 9)),oA 11 (.fa 39 (.t 10)),oA 12 (.iaa 16 1 (.t 11) (.c (.int .i64 12))),oA 13 (.ld (.t 12)),oA 14 (.bin .and (.t 13) (.c (.int .u32 2))),oA 15 (.bin .eql (.t 14) (.c (.int .u32 0)))]) (.cond (.t 15) (c4_19) (.skip))) (c6_19)
def c_19 : C :=
 .seq (.seq (.ops [oM 7 0,oA 8 (.eqn 0 false (.t 7))]) (.cond (.t 8) (.ret) (.skip))) (.seq (.ops [oA 6 (.mov (.c (.int .u32 2147484032)))]) (c7_19))
def f_19 : F := ⟨c_19, [], some []⟩
theorem h_19 : compF Tryz.prog (compAny Tryz.prog) n_19 = some (f_19.body, f_19.res) := by kernel_rfl
def c_1o : C :=
 .ops [oM 6 0,oM 7 1,oM 8 2,oA 9 (.bin .neq (.t 8) (.c (.int .i64 4))),oM 10 9,oT 11 10 (.mov (.t 2)),oT 12 10 (.bin .neq (.t 11) (.c (.int .i64 5))),oA 13 (.pick (.t 10) (.t 12) (.c (.bool false))),oA 14 (.call n_18 [(.t 6),(.t 7),(.t 13)])]
def f_1o : F := ⟨c_1o, [], some []⟩
theorem h_1o : compF Tryz.prog (compAny Tryz.prog) n_1o = some (f_1o.body, f_1o.res) := by kernel_rfl
def c0_0j : C :=
 .seq (.ops [oM 21 0,oA 22 (.nilc (.t 21)),oA 23 (.fa 0 (.t 22)),oA 24 (.ld (.t 23)),oM 25 1,oM 26 2,oA 27 (.call n_7r [(.t 24),(.t 25),(.t 26)]),oA 28 (.ext (.t 27) 0),oA 29 (.ext (.t 27) 1),oM 8 28,oM 9 29]) (.ret)
def c1_0j : C :=
 .seq (.ops [oM 40 0,oM 41 10,oM 42 11,oM 43 3,oA 44 (.call n_0t [(.t 40),(.t 41),(.t 42),(.t 43)]),oM 39 44,oA 45 (.ext (.t 39) 0),oA 46 (.ext (.t 39) 1),oM 13 45,oM 12 46]) (.seq (.ops [oM 47 0,oA 48 (.call n_0r [(.t 47)])]) (.seq (.ops [oM 49 13,oM 50 12,oM 8 49,oM 9 50]) (.ret)))
def c2_0j : C :=
 .seq (.ops [oM 31 1,oM 32 2,oA 33 (.call n_0w [(.t 31),(.t 32)]),oM 30 33,oA 34 (.ext (.t 30) 0),oA 35 (.ext (.t 30) 1),oA 36 (.ext (.t 30) 2),oM 10 34,oM 11 35,oM 12 36]) (.seq (.seq (.ops [oM 37 12,oA 38 (.un .not (.t 37))]) (.cond (.t 38) (.seq (.ops [oA 8 (.mov (.c (.int .u32 0))),oA 9 (.mov (.c (.bool false)))]) (.ret)) (.skip))) (c1_0j))
def c3_0j : C :=
 .seq (.seq (.ops [oM 14 1,oM 15 0,oA 16 (.nilc (.t 15)),oA 17 (.fa 0 (.t 16)),oA 18 (.ld (.t 17)),oA 19 (.call n_7u [(.t 18)]),oA 20 (.bin .lss (.t 14) (.t 19))]) (.cond (.t 20) (c0_0j) (.skip))) (c2_0j)
def c_0j : C :=
 .seq (.ops [oA 8 (.mov (.c (.int .u32 0))),oA 9 (.mov (.c (.bool false)))]) (c3_0j)
def f_0j : F := ⟨c_0j, [.t 8, .t 9], some []⟩
theorem h_0j : compF Tryz.prog (compAny Tryz.prog) n_0j = some (f_0j.body, f_0j.res) := by kernel_rfl
def c_20 : C :=
 .seq (.ops [oA 2 (.new [(.int .i64 0),(.int .i64 0),(.int .i64 0),(.int .i64 0),(.int .i64 0),(.int .u32 0)])]) (.seq (.ops [oM 3 0,oA 4 (.call n_24 [(.t 3)]),oM 5 0,oA 6 (.call n_2b [(.t 4),(.t 5)]),oS (.stn 6 (.t 2) (.t 6))]) (.ret))
def f_20 : F := ⟨c_20, [.ldn 6 2], some []⟩
theorem h_20 : compF Tryz.prog (compAny Tryz.prog) n_20 = some (f_20.body, f_20.res) := by kernel_rfl
def c0_1u : C :=
 .seq (.ops [oM 71 6,oA 72 (.bin .geq (.t 71) (.c (.int .i64 32))),oM 73 72,oT 74 73 (.mov (.t 6)),oT 75 73 (.bin .leq (.t 74) (.c (.int .i64 35))),oA 76 (.pick (.t 73) (.t 75) (.c (.bool false))),oM 70 76]) (.cond (.t 70) (.seq (.ops [oA 4 (.mov (.c (.int .i64 13)))]) (.ret)) (.skip))
def c1_1u : C :=
 .seq (.any 0 [.op 0 (oA 53 (.ldn 6 (.t 3))),.op 1 (oM 54 0),.op 2 (oA 55 (.fa 1 (.t 3))),.op 3 (oA 56 (.ld (.t 55))),.op 4 (oA 57 (.nilc (.t 54))),.op 5 (oA 58 (.fa 0 (.t 57))),.op 6 (oA 59 (.iaa 32 1 (.t 58) (.t 56))),.op 7 (oA 60 (.ld (.t 59))),.op 8 (oM 61 0),.op 9 (oA 62 (.fa 2 (.t 3))),.op 10 (oA 63 (.ld (.t 62))),.op 11 (oA 64 (.nilc (.t 61))),.op 12 (oA 65 (.fa 0 (.t 64))),.op 13 (oA 66 (.iaa 32 1 (.t 65) (.t 63))),.op 14 (oA 67 (.ld (.t 66))),.op 15 (oA 68 (.call n_04 [(.t 53),(.t 60),(.t 67)])),.op 16 (oA 69 (.un .not (.t 68))),.op 17 (oM 52 69)]) (.cond (.t 52) (.seq (.ops [oA 4 (.mov (.c (.int .i64 (-1))))]) (.ret)) (c0_1u))
def c2_1u : C :=
 .cond (.t 46) (.seq (.ops [oA 4 (.mov (.c (.int .i64 8)))]) (.ret)) (.seq (.ops [oM 50 6,oA 51 (.bin .eql (.t 50) (.c (.int .i64 12))),oM 49 51]) (.cond (.t 49) (.seq (.ops [oA 4 (.mov (.c (.int .i64 9)))]) (.ret)) (c1_1u)))
def c3_1u : C :=
 .seq (.ops [oA 43 (.ldn 6 (.t 3)),oA 44 (.call n_21 [(.t 43)]),oA 45 (.un .not (.t 44)),oM 42 45]) (.cond (.t 42) (.seq (.ops [oA 4 (.mov (.c (.int .i64 10)))]) (.ret)) (.seq (.ops [oM 47 6,oA 48 (.bin .eql (.t 47) (.c (.int .i64 11))),oM 46 48]) (c2_1u)))
def c4_1u : C :=
 .cond (.t 28) (.seq (.ops [oA 4 (.mov (.c (.int .i64 11)))]) (.ret)) (.seq (.ops [oM 40 6,oA 41 (.bin .eql (.t 40) (.c (.int .i64 62))),oM 39 41]) (.cond (.t 39) (.seq (.ops [oA 4 (.mov (.c (.int .i64 11)))]) (.ret)) (c3_1u)))
def c5_1u : C :=
 .seq (.ops [oM 29 0,oA 30 (.call n_1h [(.t 29)]),oM 31 30,oT 32 31 (.mov (.t 6)),oT 33 31 (.bin .geq (.t 32) (.c (.int .i64 54))),oA 34 (.pick (.t 31) (.t 33) (.c (.bool false))),oM 35 34,oT 36 35 (.mov (.t 6)),oT 37 35 (.bin .leq (.t 36) (.c (.int .i64 61))),oA 38 (.pick (.t 35) (.t 37) (.c (.bool false))),oM 28 38]) (c4_1u)
def c6_1u : C :=
 .block 0 (.seq (.ops [oM 12 0,oA 13 (.nilc (.t 12)),oA 14 (.fa 36 (.t 13)),oA 15 (.ld (.t 14)),oM 16 15,oT 17 16 (.mov (.t 5)),oT 18 16 (.bin .eql (.t 17) (.c (.int .i64 3))),oT 19 16 (.mov (.t 18)),oF 20 19 (.mov (.t 6)),oF 21 19 (.bin .eql (.t 20) (.c (.int .i64 60))),oT 22 16 (.pick (.t 19) (.c (.bool true)) (.t 21)),oT 23 16 (.mov (.t 22)),oF 24 23 (.mov (.t 6)),oF 25 23 (.bin .eql (.t 24) (.c (.int .i64 61))),oT 26 16 (.pick (.t 23) (.c (.bool true)) (.t 25)),oA 27 (.pick (.t 16) (.t 26) (.c (.bool false))),oM 11 27]) (.cond (.t 11) (.seq (.ops [oA 4 (.mov (.c (.int .i64 10)))]) (.ret)) (c5_1u)))
def c7_1u : C :=
 .seq (.ops [oA 7 (.ldn 6 (.t 3)),oA 8 (.call n_1z [(.t 7)]),oM 5 8]) (.seq (.seq (.ops [oA 9 (.fa 0 (.t 3)),oA 10 (.ld (.t 9)),oM 6 10]) (c6_1u)) (.seq (.ops [oA 4 (.mov (.c (.int .i64 12)))]) (.ret)))
def c_1u : C :=
 .seq (.ops [oA 3 (.box (.t 1)),oA 4 (.mov (.c (.int .i64 0)))]) (c7_1u)
def f_1u : F := ⟨c_1u, [.t 4], some []⟩
theorem h_1u : compF Tryz.prog (compAny Tryz.prog) n_1u = some (f_1u.body, f_1u.res) := by kernel_rfl
def c0_1z : C :=
 .seq (.ops [oM 67 3,oA 68 (.bin .eql (.t 67) (.c (.int .i64 22))),oM 69 68,oF 70 69 (.mov (.t 3)),oF 71 69 (.bin .eql (.t 70) (.c (.int .i64 24))),oA 72 (.pick (.t 69) (.c (.bool true)) (.t 71)),oM 73 72,oF 74 73 (.mov (.t 3)),oF 75 73 (.bin .eql (.t 74) (.c (.int .i64 46))),oA 76 (.pick (.t 73) (.c (.bool true)) (.t 75)),oM 77 76,oF 78 77 (.mov (.t 3)),oF 79 77 (.bin .geq (.t 78) (.c (.int .i64 32))),oF 80 77 (.mov (.t 79)),oT 81 80 (.mov (.t 3)),oT 82 80 (.bin .leq (.t 81) (.c (.int .i64 35))),oF 83 77 (.pick (.t 80) (.t 82) (.c (.bool false))),oA 84 (.pick (.t 77) (.c (.bool true)) (.t 83)),oM 66 84]) (.cond (.t 66) (.seq (.ops [oA 2 (.mov (.c (.int .i64 2)))]) (.ret)) (.skip))
def c1_1z : C :=
 .seq (.ops [oM 56 3,oA 57 (.bin .geq (.t 56) (.c (.int .i64 71))),oM 58 57,oT 59 58 (.mov (.t 3)),oT 60 58 (.bin .leq (.t 59) (.c (.int .i64 73))),oA 61 (.pick (.t 58) (.t 60) (.c (.bool false))),oM 62 61,oF 63 62 (.mov (.t 3)),oF 64 62 (.bin .eql (.t 63) (.c (.int .i64 75))),oA 65 (.pick (.t 62) (.c (.bool true)) (.t 64)),oM 55 65]) (.cond (.t 55) (.seq (.ops [oA 2 (.mov (.c (.int .i64 5)))]) (.ret)) (c0_1z))
def c2_1z : C :=
 .seq (.ops [oM 45 3,oA 46 (.bin .geq (.t 45) (.c (.int .i64 66))),oM 47 46,oT 48 47 (.mov (.t 3)),oT 49 47 (.bin .leq (.t 48) (.c (.int .i64 70))),oA 50 (.pick (.t 47) (.t 49) (.c (.bool false))),oM 51 50,oF 52 51 (.mov (.t 3)),oF 53 51 (.bin .eql (.t 52) (.c (.int .i64 74))),oA 54 (.pick (.t 51) (.c (.bool true)) (.t 53)),oM 44 54]) (.cond (.t 44) (.seq (.ops [oA 2 (.mov (.c (.int .i64 4)))]) (.ret)) (c1_1z))
def c3_1z : C :=
 .seq (.ops [oM 30 3,oA 31 (.bin .eql (.t 30) (.c (.int .i64 7))),oM 32 31,oF 33 32 (.mov (.t 3)),oF 34 32 (.bin .eql (.t 33) (.c (.int .i64 8))),oA 35 (.pick (.t 32) (.c (.bool true)) (.t 34)),oM 36 35,oF 37 36 (.mov (.t 3)),oF 38 36 (.bin .geq (.t 37) (.c (.int .i64 36))),oF 39 36 (.mov (.t 38)),oT 40 39 (.mov (.t 3)),oT 41 39 (.bin .leq (.t 40) (.c (.int .i64 45))),oF 42 36 (.pick (.t 39) (.t 41) (.c (.bool false))),oA 43 (.pick (.t 36) (.c (.bool true)) (.t 42)),oM 29 43]) (.cond (.t 29) (.seq (.ops [oA 2 (.mov (.c (.int .i64 3)))]) (.ret)) (c2_1z))
def c4_1z : C :=
 .block 0 (.seq (.ops [oM 7 3,oA 8 (.bin .leq (.t 7) (.c (.int .i64 0))),oM 9 8,oF 10 9 (.mov (.t 3)),oF 11 9 (.bin .geq (.t 10) (.c (.int .i64 78))),oA 12 (.pick (.t 9) (.c (.bool true)) (.t 11)),oM 13 12,oF 14 13 (.mov (.t 3)),oF 15 13 (.bin .eql (.t 14) (.c (.int .i64 11))),oA 16 (.pick (.t 13) (.c (.bool true)) (.t 15)),oM 17 16,oF 18 17 (.mov (.t 3)),oF 19 17 (.bin .eql (.t 18) (.c (.int .i64 12))),oA 20 (.pick (.t 17) (.c (.bool true)) (.t 19)),oM 21 20,oF 22 21 (.mov (.t 3)),oF 23 21 (.bin .geq (.t 22) (.c (.int .i64 54))),oF 24 21 (.mov (.t 23)),oT 25 24 (.mov (.t 3)),oT 26 24 (.bin .leq (.t 25) (.c (.int .i64 62))),oF 27 21 (.pick (.t 24) (.t 26) (.c (.bool false))),oA 28 (.pick (.t 21) (.c (.bool true)) (.t 27)),oM 6 28]) (.cond (.t 6) (.seq (.ops [oA 2 (.mov (.c (.int .i64 6)))]) (.ret)) (c3_1z)))
def c_1z : C :=
 .seq (.ops [oA 1 (.box (.t 0)),oA 2 (.mov (.c (.int .i64 0)))]) (.seq (.seq (.ops [oA 4 (.fa 0 (.t 1)),oA 5 (.ld (.t 4)),oM 3 5]) (c4_1z)) (.seq (.ops [oA 2 (.mov (.c (.int .i64 1)))]) (.ret)))
def f_1z : F := ⟨c_1z, [.t 2], some []⟩
theorem h_1z : compF Tryz.prog (compAny Tryz.prog) n_1z = some (f_1z.body, f_1z.res) := by kernel_rfl
def c0_1q : C :=
 .seq (.ops [oM 39 0,oM 40 8,oM 41 11,oA 42 (.call n_1o [(.t 39),(.t 40),(.t 41)])]) (.seq (.ops [oM 43 11,oM 44 12,oM 6 43,oM 7 44]) (.ret))
def c1_1q : C :=
 .ops [oM 73 0,oM 74 0,oM 75 10,oA 76 (.nilc (.t 73)),oA 77 (.fa 37 (.t 76)),oS (.st (.t 77) (.c (.bool true))),oA 78 (.nilc (.t 74)),oA 79 (.fa 38 (.t 78)),oS (.st (.t 79) (.t 75))]
def c2_1q : C :=
 .seq (.ops [oM 80 0,oA 81 (.fa 2 (.t 5)),oA 82 (.ld (.t 81)),oM 83 13,oA 84 (.call n_1v [(.t 80),(.t 82),(.t 83)])]) (.seq (.ops [oA 6 (.mov (.c (.int .i64 (-1)))),oA 7 (.mov (.c (.bool false)))]) (.ret))
def c3_1q : C :=
 .seq (.seq (.ops [oA 58 (.fa 0 (.t 5)),oA 59 (.ld (.t 58)),oA 60 (.bin .eql (.t 59) (.c (.int .i64 66))),oM 61 60,oF 62 61 (.fa 0 (.t 5)),oF 63 61 (.ld (.t 62)),oF 64 61 (.bin .eql (.t 63) (.c (.int .i64 67))),oA 65 (.pick (.t 61) (.c (.bool true)) (.t 64))]) (.cond (.t 65) (.ops [oM 66 13,oM 67 9,oA 68 (.bin .mul (.c (.int .i64 8)) (.t 67)),oA 69 (.call n_0m1 [(.t 66),(.t 68)]),oM 13 69]) (.skip))) (.seq (.seq (.ops [oA 70 (.fa 0 (.t 5)),oA 71 (.ld (.t 70)),oA 72 (.bin .eql (.t 71) (.c (.int .i64 74)))]) (.cond (.t 72) (c1_1q) (.skip))) (c2_1q))
def c4_1q : C :=
 .seq (.ops [oM 46 1,oM 47 10,oM 48 9,oM 49 0,oA 50 (.nilc (.t 49)),oA 51 (.fa 72 (.t 50)),oA 52 (.ld (.t 51)),oA 53 (.call n_0j [(.t 46),(.t 47),(.t 48),(.t 52)]),oM 45 53,oA 54 (.ext (.t 45) 0),oA 55 (.ext (.t 45) 1),oM 13 54,oM 14 55]) (.seq (.seq (.ops [oM 56 14,oA 57 (.un .not (.t 56))]) (.cond (.t 57) (.seq (.ops [oA 6 (.mov (.c (.int .i64 7))),oA 7 (.mov (.c (.bool false)))]) (.ret)) (.skip))) (c3_1q))
def c5_1q : C :=
 .seq (.ops [oM 30 0,oM 31 8,oM 32 9,oA 33 (.call n_82 [(.t 30),(.t 31),(.t 32),(.c (.bool false))]),oM 29 33,oA 34 (.ext (.t 29) 0),oA 35 (.ext (.t 29) 1),oA 36 (.ext (.t 29) 2),oM 10 34,oM 11 35,oM 12 36]) (.seq (.seq (.ops [oM 37 11,oA 38 (.bin .neq (.t 37) (.c (.int .i64 (-1))))]) (.cond (.t 38) (c0_1q) (.skip))) (c4_1q))
def c6_1q : C :=
 .seq (.any 0 [.op 0 (oM 15 0),.op 1 (oA 16 (.fa 1 (.t 5))),.op 2 (oA 17 (.ld (.t 16))),.op 3 (oA 18 (.nilc (.t 15))),.op 4 (oA 19 (.fa 0 (.t 18))),.op 5 (oA 20 (.iaa 32 1 (.t 19) (.t 17))),.op 6 (oA 21 (.ld (.t 20))),.op 7 (oA 22 (.fa 5 (.t 5))),.op 8 (oA 23 (.ld (.t 22))),.op 9 (oA 24 (.call n_0m1 [(.t 23),(.c (.int .i64 16))])),.re 2 (oA 17 (.ld (.t 16))),.re 6 (oA 21 (.ld (.t 20))),.op 10 (oA 25 (.bin .add (.t 21) (.t 24))),.op 11 (oM 8 25)]) (.seq (.ops [oA 26 (.fa 0 (.t 5)),oA 27 (.ld (.t 26)),oA 28 (.call n_1w [(.t 27)]),oM 9 28]) (c5_1q))
def c_1q : C :=
 .seq (.ops [oA 5 (.box (.t 2)),oA 6 (.mov (.c (.int .i64 0))),oA 7 (.mov (.c (.bool false)))]) (c6_1q)
def f_1q : F := ⟨c_1q, [.t 6, .t 7], some []⟩
theorem h_1q : compF Tryz.prog (compAny Tryz.prog) n_1q = some (f_1q.body, f_1q.res) := by kernel_rfl
end Go.Proofs.YtoiiphcbkejliaaGreat.Cd

set_option maxRecDepth 100000
set_option linter.defProp false
namespace Go.Proofs.YtoiiphcbkejliaaGreat.Cd
open Go Go.Dx
def c0_1x : C :=
 .seq (.ops [oM 38 0,oM 39 8,oM 40 11,oA 41 (.call n_1o [(.t 38),(.t 39),(.t 40)])]) (.seq (.ops [oM 42 11,oM 43 12,oM 6 42,oM 7 43]) (.ret))
def c1_1x : C :=
 .seq (.ops [oM 63 0,oA 64 (.fa 2 (.t 5)),oA 65 (.ld (.t 64)),oA 66 (.call n_1v [(.t 63),(.t 65),(.c (.int .u32 0))])]) (.seq (.ops [oM 67 0,oA 68 (.nilc (.t 67)),oA 69 (.fa 37 (.t 68)),oS (.st (.t 69) (.c (.bool false)))]) (.seq (.ops [oA 6 (.mov (.c (.int .i64 (-1)))),oA 7 (.mov (.c (.bool false)))]) (.ret)))
def c2_1x : C :=
 .seq (.seq (.ops [oA 93 (.fa 0 (.t 5)),oA 94 (.ld (.t 93)),oA 95 (.bin .eql (.t 94) (.c (.int .i64 75))),oM 96 95,oF 97 96 (.mov (.t 0)),oF 98 96 (.mov (.t 10)),oF 99 96 (.mov (.t 9)),oF 100 96 (.call n_1r [(.t 97),(.t 98),(.t 99)]),oA 101 (.pick (.t 96) (.c (.bool true)) (.t 100))]) (.cond (.t 101) (.ops [oM 102 0,oA 103 (.nilc (.t 102)),oA 104 (.fa 37 (.t 103)),oS (.st (.t 104) (.c (.bool false)))]) (.skip))) (.seq (.ops [oA 6 (.mov (.c (.int .i64 (-1)))),oA 7 (.mov (.c (.bool false)))]) (.ret))
def c3_1x : C :=
 .seq (.seq (.ops [oA 86 (.fa 0 (.t 5)),oA 87 (.ld (.t 86)),oA 88 (.bin .eql (.t 87) (.c (.int .i64 75)))]) (.cond (.t 88) (.ops [oM 89 0,oA 90 (.fa 2 (.t 5)),oA 91 (.ld (.t 90)),oA 92 (.call n_1v [(.t 89),(.t 91),(.c (.int .u32 1))])]) (.skip))) (c2_1x)
def c4_1x : C :=
 .seq (.seq (.any 0 [.op 3 (oM 73 0),.op 4 (oA 74 (.fa 2 (.t 5))),.op 5 (oA 75 (.ld (.t 74))),.op 6 (oA 76 (.nilc (.t 73))),.op 7 (oA 77 (.fa 0 (.t 76))),.op 8 (oA 78 (.iaa 32 1 (.t 77) (.t 75))),.op 9 (oA 79 (.ld (.t 78))),.op 10 (oM 80 0),.op 11 (oA 81 (.nilc (.t 80))),.op 12 (oA 82 (.fa 72 (.t 81))),.op 13 (oA 83 (.ld (.t 82))),.op 0 (oM 70 1),.op 1 (oM 71 10),.op 2 (oM 72 9),.op 14 (oA 84 (.call n_0o [(.t 70),(.t 71),(.t 72),(.t 79),(.t 83)])),.op 15 (oA 85 (.un .not (.t 84)))]) (.cond (.t 85) (.seq (.ops [oA 6 (.mov (.c (.int .i64 7))),oA 7 (.mov (.c (.bool false)))]) (.ret)) (.skip))) (c3_1x)
def c5_1x : C :=
 .seq (.seq (.ops [oA 56 (.fa 0 (.t 5)),oA 57 (.ld (.t 56)),oA 58 (.bin .eql (.t 57) (.c (.int .i64 75))),oM 59 58,oT 60 59 (.mov (.t 13)),oT 61 59 (.un .not (.t 60)),oA 62 (.pick (.t 59) (.t 61) (.c (.bool false)))]) (.cond (.t 62) (c1_1x) (.skip))) (c4_1x)
def c6_1x : C :=
 .seq (.ops [oM 44 0,oA 45 (.nilc (.t 44)),oA 46 (.fa 37 (.t 45)),oA 47 (.ld (.t 46)),oM 48 47,oT 49 48 (.mov (.t 0)),oT 50 48 (.nilc (.t 49)),oT 51 48 (.fa 38 (.t 50)),oT 52 48 (.ld (.t 51)),oT 53 48 (.mov (.t 10)),oT 54 48 (.bin .eql (.t 52) (.t 53)),oA 55 (.pick (.t 48) (.t 54) (.c (.bool false))),oM 13 55]) (c5_1x)
def c7_1x : C :=
 .seq (.ops [oM 29 0,oM 30 8,oM 31 9,oA 32 (.call n_82 [(.t 29),(.t 30),(.t 31),(.c (.bool true))]),oM 28 32,oA 33 (.ext (.t 28) 0),oA 34 (.ext (.t 28) 1),oA 35 (.ext (.t 28) 2),oM 10 33,oM 11 34,oM 12 35]) (.seq (.seq (.ops [oM 36 11,oA 37 (.bin .neq (.t 36) (.c (.int .i64 (-1))))]) (.cond (.t 37) (c0_1x) (.skip))) (c6_1x))
def c8_1x : C :=
 .seq (.any 0 [.op 0 (oM 14 0),.op 1 (oA 15 (.fa 1 (.t 5))),.op 2 (oA 16 (.ld (.t 15))),.op 3 (oA 17 (.nilc (.t 14))),.op 4 (oA 18 (.fa 0 (.t 17))),.op 5 (oA 19 (.iaa 32 1 (.t 18) (.t 16))),.op 6 (oA 20 (.ld (.t 19))),.op 7 (oA 21 (.fa 5 (.t 5))),.op 8 (oA 22 (.ld (.t 21))),.op 9 (oA 23 (.call n_0m1 [(.t 22),(.c (.int .i64 16))])),.re 2 (oA 16 (.ld (.t 15))),.re 6 (oA 20 (.ld (.t 19))),.op 10 (oA 24 (.bin .add (.t 20) (.t 23))),.op 11 (oM 8 24)]) (.seq (.ops [oA 25 (.fa 0 (.t 5)),oA 26 (.ld (.t 25)),oA 27 (.call n_1w [(.t 26)]),oM 9 27]) (c7_1x))
def c_1x : C :=
 .seq (.ops [oA 5 (.box (.t 2)),oA 6 (.mov (.c (.int .i64 0))),oA 7 (.mov (.c (.bool false)))]) (c8_1x)
def f_1x : F := ⟨c_1x, [.t 6, .t 7], some []⟩
theorem h_1x : compF Tryz.prog (compAny Tryz.prog) n_1x = some (f_1x.body, f_1x.res) := by kernel_rfl
def c0_1f : C :=
 .seq (.any 0 [.op 0 (oM 11 0),.op 1 (oA 12 (.nilc (.t 11))),.op 2 (oA 13 (.fa 39 (.t 12))),.op 3 (oA 14 (.iaa 16 1 (.t 13) (.c (.int .i64 12)))),.op 4 (oA 15 (.ld (.t 14))),.op 5 (oA 16 (.bin .andNot (.t 15) (.c (.int .u32 2)))),.op 6 (oA 17 (.nilc (.t 11))),.op 7 (oA 18 (.fa 39 (.t 17))),.op 8 (oA 19 (.iaa 16 1 (.t 18) (.c (.int .i64 12)))),.op 9 (oS (.st (.t 19) (.t 16)))]) (.ops [oM 20 0,oA 21 (.nilc (.t 20)),oA 22 (.fa 37 (.t 21)),oS (.st (.t 22) (.c (.bool false)))])
def c_1f : C :=
 .seq (.seq (.ops [oM 2 0,oA 3 (.eqn 0 false (.t 2))]) (.cond (.t 3) (.ret) (.skip))) (.seq (.ops [oM 4 0,oM 5 0,oA 6 (.nilc (.t 5)),oA 7 (.fa 39 (.t 6)),oA 8 (.iaa 16 1 (.t 7) (.c (.int .i64 14))),oA 9 (.ld (.t 8)),oA 10 (.call n_1k [(.t 4),(.t 9)])]) (c0_1f))
def f_1f : F := ⟨c_1f, [], some []⟩
theorem h_1f : compF Tryz.prog (compAny Tryz.prog) n_1f = some (f_1f.body, f_1f.res) := by kernel_rfl
def c0_1y : C :=
 .any 0 [.op 1 (oA 9 (.fa 2 (.t 3))),.op 2 (oA 10 (.ld (.t 9))),.op 4 (oA 12 (.fa 3 (.t 3))),.op 5 (oA 13 (.ld (.t 12))),.op 3 (oM 11 0),.op 6 (oA 14 (.call n_1e [(.t 11),(.t 13)])),.re 2 (oA 10 (.ld (.t 9))),.op 0 (oM 8 0),.op 7 (oA 15 (.call n_1v [(.t 8),(.t 10),(.t 14)]))]
def c1_1y : C :=
 .any 0 [.op 1 (oA 19 (.fa 3 (.t 3))),.op 2 (oA 20 (.ld (.t 19))),.op 3 (oM 21 0),.op 4 (oA 22 (.fa 2 (.t 3))),.op 5 (oA 23 (.ld (.t 22))),.op 6 (oA 24 (.nilc (.t 21))),.op 7 (oA 25 (.fa 0 (.t 24))),.op 8 (oA 26 (.iaa 32 1 (.t 25) (.t 23))),.op 9 (oA 27 (.ld (.t 26))),.op 0 (oM 18 0),.op 10 (oA 28 (.call n_1i [(.t 18),(.t 20),(.t 27)]))]
def c2_1y : C :=
 .cond (.t 41) (.ops [oM 43 0,oA 44 (.call n_9n [(.t 43)])]) (.seq (.ops [oA 46 (.bin .eql (.t 5) (.c (.int .i64 61))),oM 45 46]) (.cond (.t 45) (.ops [oM 47 0,oA 48 (.nilc (.t 47)),oA 49 (.fa 71 (.t 48)),oS (.st (.t 49) (.c (.bool true)))]) (.skip)))
def c3_1y : C :=
 .cond (.t 33) (.ops [oM 36 0,oA 37 (.fa 0 (.t 3)),oA 38 (.ld (.t 37)),oA 39 (.bin .eql (.t 38) (.c (.int .i64 58))),oA 40 (.call n_9o [(.t 36),(.t 39)])]) (.seq (.ops [oA 42 (.bin .eql (.t 5) (.c (.int .i64 59))),oM 41 42]) (c2_1y))
def c4_1y : C :=
 .cond (.t 29) (.ops [oM 31 0,oA 32 (.call n_9l [(.t 31)])]) (.seq (.seq (.ops [oA 34 (.bin .eql (.t 5) (.c (.int .i64 57))),oM 33 34]) (.cond (.t 33) (.skip) (.ops [oA 35 (.bin .eql (.t 5) (.c (.int .i64 58))),oM 33 35]))) (c3_1y))
def c5_1y : C :=
 .block 0 (.seq (.ops [oA 7 (.bin .eql (.t 5) (.c (.int .i64 54))),oM 6 7]) (.cond (.t 6) (c0_1y) (.seq (.ops [oA 17 (.bin .eql (.t 5) (.c (.int .i64 55))),oM 16 17]) (.cond (.t 16) (c1_1y) (.seq (.ops [oA 30 (.bin .eql (.t 5) (.c (.int .i64 56))),oM 29 30]) (c4_1y))))))
def c_1y : C :=
 .seq (.ops [oA 3 (.box (.t 1))]) (.seq (.ops [oA 4 (.fa 0 (.t 3)),oA 5 (.ld (.t 4))]) (c5_1y))
def f_1y : F := ⟨c_1y, [], some []⟩
theorem h_1y : compF Tryz.prog (compAny Tryz.prog) n_1y = some (f_1y.body, f_1y.res) := by kernel_rfl
def c0_1t : C :=
 .seq (.ops [oM 40 5,oA 41 (.bin .eql (.t 40) (.c (.int .u32 0))),oA 42 (.fa 0 (.t 3)),oA 43 (.ld (.t 42)),oA 44 (.bin .eql (.t 43) (.c (.int .i64 9))),oA 45 (.eqb false (.t 41) (.t 44))]) (.cond (.t 45) (.ops [oM 46 0,oA 47 (.fa 3 (.t 3)),oA 48 (.ld (.t 47)),oM 49 4,oA 50 (.call n_1v [(.t 46),(.t 48),(.t 49)])]) (.skip))
def c1_1t : C :=
 .any 0 [.op 1 (oA 54 (.fa 3 (.t 3))),.op 2 (oA 55 (.ld (.t 54))),.op 3 (oM 56 0),.op 4 (oA 57 (.nilc (.t 56))),.op 5 (oA 58 (.fa 32 (.t 57))),.op 6 (oA 59 (.ld (.t 58))),.op 0 (oM 53 0),.op 7 (oA 60 (.call n_1v [(.t 53),(.t 55),(.t 59)]))]
def c2_1t : C :=
 .any 0 [.op 1 (oA 64 (.fa 3 (.t 3))),.op 2 (oA 65 (.ld (.t 64))),.op 3 (oM 66 0),.op 4 (oA 67 (.nilc (.t 66))),.op 5 (oA 68 (.fa 33 (.t 67))),.op 6 (oA 69 (.ld (.t 68))),.op 0 (oM 63 0),.op 7 (oA 70 (.call n_1v [(.t 63),(.t 65),(.t 69)]))]
def c3_1t : C :=
 .block 0 (.seq (.seq (.ops [oA 38 (.bin .eql (.t 36) (.c (.int .i64 9))),oM 37 38]) (.cond (.t 37) (.skip) (.ops [oA 39 (.bin .eql (.t 36) (.c (.int .i64 10))),oM 37 39]))) (.cond (.t 37) (c0_1t) (.seq (.ops [oA 52 (.bin .eql (.t 36) (.c (.int .i64 14))),oM 51 52]) (.cond (.t 51) (c1_1t) (.seq (.ops [oA 62 (.bin .eql (.t 36) (.c (.int .i64 16))),oM 61 62]) (.cond (.t 61) (c2_1t) (.skip)))))))
def c4_1t : C :=
 .any 0 [.op 2 (oA 74 (.ldn 6 (.t 3))),.op 5 (oM 77 0),.op 6 (oA 78 (.nilc (.t 77))),.op 7 (oA 79 (.fa 32 (.t 78))),.op 8 (oA 80 (.ld (.t 79))),.op 9 (oM 81 0),.op 10 (oA 82 (.nilc (.t 81))),.op 11 (oA 83 (.fa 33 (.t 82))),.op 12 (oA 84 (.ld (.t 83))),.op 3 (oM 75 4),.op 4 (oM 76 5),.op 13 (oA 85 (.call n_01 [(.t 74),(.t 75),(.t 76),(.t 80),(.t 84)])),.op 0 (oM 72 0),.op 14 (oM 71 85),.op 15 (oA 86 (.ext (.t 71) 0)),.op 18 (oA 89 (.nilc (.t 72))),.op 19 (oA 90 (.fa 32 (.t 89))),.op 20 (oS (.st (.t 90) (.t 86))),.op 1 (oM 73 0),.op 16 (oA 87 (.ext (.t 71) 1)),.op 21 (oA 91 (.nilc (.t 73))),.op 22 (oA 92 (.fa 33 (.t 91))),.op 23 (oS (.st (.t 92) (.t 87))),.op 17 (oA 88 (.ext (.t 71) 2))]
def c5_1t : C :=
 .seq (.seq (.ops [oA 23 (.ldn 6 (.t 3)),oM 24 4,oM 25 5,oA 26 (.call n_00 [(.t 23),(.t 24),(.t 25)]),oM 22 26,oA 27 (.ext (.t 22) 0),oA 28 (.ext (.t 22) 1),oM 6 27,oM 7 28]) (.seq (.ops [oM 29 7]) (.cond (.t 29) (.ops [oM 30 0,oA 31 (.ldn 6 (.t 3)),oA 32 (.call n_02 [(.t 31)]),oM 33 6,oA 34 (.call n_1v [(.t 30),(.t 32),(.t 33)])]) (.skip)))) (.seq (.seq (.ops [oA 35 (.fa 0 (.t 3)),oA 36 (.ld (.t 35))]) (c3_1t)) (c4_1t))
def c6_1t : C :=
 .seq (.any 0 [.op 0 (oM 8 0),.op 1 (oA 9 (.fa 1 (.t 3))),.op 2 (oA 10 (.ld (.t 9))),.op 3 (oA 11 (.nilc (.t 8))),.op 4 (oA 12 (.fa 0 (.t 11))),.op 5 (oA 13 (.iaa 32 1 (.t 12) (.t 10))),.op 6 (oA 14 (.ld (.t 13))),.op 7 (oM 15 0),.op 8 (oA 16 (.fa 2 (.t 3))),.op 9 (oA 17 (.ld (.t 16))),.op 10 (oA 18 (.nilc (.t 15))),.op 11 (oA 19 (.fa 0 (.t 18))),.op 12 (oA 20 (.iaa 32 1 (.t 19) (.t 17))),.op 13 (oA 21 (.ld (.t 20))),.op 14 (oM 4 14),.op 15 (oM 5 21)]) (c5_1t)
def c_1t : C :=
 .seq (.ops [oA 3 (.box (.t 1))]) (c6_1t)
def f_1t : F := ⟨c_1t, [], some []⟩
theorem h_1t : compF Tryz.prog (compAny Tryz.prog) n_1t = some (f_1t.body, f_1t.res) := by kernel_rfl
def c0_1s : C :=
 .cond (.t 33) (.ops [oM 34 0,oA 35 (.ldn 6 (.t 5)),oM 36 8,oM 37 2,oA 38 (.call n_0f [(.t 35),(.t 36),(.t 37)]),oA 39 (.nilc (.t 34)),oA 40 (.fa 35 (.t 39)),oS (.st (.t 40) (.t 38))]) (.skip)
def c1_1s : C :=
 .seq (.ops [oA 48 (.ldn 6 (.t 5)),oA 49 (.call n_0d [(.t 48)]),oM 47 49,oA 50 (.ext (.t 47) 0),oA 51 (.ext (.t 47) 1),oM 9 50,oM 10 51]) (.seq (.ops [oM 52 10]) (.cond (.t 52) (.ops [oM 53 0,oM 54 9,oM 55 8,oA 56 (.bin .add (.t 55) (.c (.int .u32 8))),oA 57 (.call n_1v [(.t 53),(.t 54),(.t 56)])]) (.skip)))
def c2_1s : C :=
 .seq (.seq (.ops [oA 30 (.ldn 6 (.t 5)),oM 31 2,oM 32 3,oA 33 (.call n_0e [(.t 30),(.t 31),(.t 32)])]) (c0_1s)) (.seq (.ops [oM 41 0,oA 42 (.ldn 6 (.t 5)),oA 43 (.call n_1z [(.t 42)]),oA 44 (.bin .eql (.t 43) (.c (.int .i64 3))),oA 45 (.nilc (.t 41)),oA 46 (.fa 36 (.t 45)),oS (.st (.t 46) (.t 44))]) (c1_1s))
def c3_1s : C :=
 .seq (.ops [oM 22 0,oM 23 0,oA 24 (.nilc (.t 23)),oA 25 (.fa 34 (.t 24)),oA 26 (.ld (.t 25)),oA 27 (.bin .add (.t 26) (.c (.int .u32 4))),oA 28 (.nilc (.t 22)),oA 29 (.fa 35 (.t 28)),oS (.st (.t 29) (.t 27))]) (c2_1s)
def c4_1s : C :=
 .seq (.ops [oM 11 0,oA 12 (.nilc (.t 11)),oA 13 (.fa 34 (.t 12)),oA 14 (.ld (.t 13)),oM 8 14]) (.seq (.ops [oM 15 0,oM 16 0,oA 17 (.nilc (.t 16)),oA 18 (.fa 35 (.t 17)),oA 19 (.ld (.t 18)),oA 20 (.nilc (.t 15)),oA 21 (.fa 34 (.t 20)),oS (.st (.t 21) (.t 19))]) (c3_1s))
def c_1s : C :=
 .seq (.ops [oA 5 (.box (.t 1))]) (c4_1s)
def f_1s : F := ⟨c_1s, [], some []⟩
theorem h_1s : compF Tryz.prog (compAny Tryz.prog) n_1s = some (f_1s.body, f_1s.res) := by kernel_rfl
def c0_0b1 : C :=
 .seq (.ops [oM 10 0,oA 11 (.nilc (.t 10)),oA 12 (.fa 0 (.t 11)),oA 13 (.ld (.t 12)),oA 14 (.ia 3 (.t 13) (.c (.int .i64 0))),oA 15 (.fa 0 (.t 14)),oA 16 (.ld (.t 15)),oM 2 16,oA 3 (.mov (.c (.bool true)))]) (.ret)
def c1_0b1 : C :=
 .seq (.seq (.ops [oM 4 0,oA 5 (.nilc (.t 4)),oA 6 (.fa 0 (.t 5)),oA 7 (.ld (.t 6)),oA 8 (.len 1 (.t 7)),oA 9 (.bin .eql (.t 8) (.c (.int .i64 0)))]) (.cond (.t 9) (.seq (.ops [oA 2 (.mov (.c (.int .i64 0))),oA 3 (.mov (.c (.bool false)))]) (.ret)) (.skip))) (c0_0b1)
def c_0b1 : C :=
 .seq (.ops [oA 2 (.mov (.c (.int .i64 0))),oA 3 (.mov (.c (.bool false)))]) (c1_0b1)
def f_0b1 : F := ⟨c_0b1, [.t 2, .t 3], some []⟩
theorem h_0b1 : compF Tryz.prog (compAny Tryz.prog) n_0b1 = some (f_0b1.body, f_0b1.res) := by kernel_rfl
def c0_1h : C :=
 .seq (.ops [oM 3 0,oA 4 (.eqn 0 true (.t 3)),oM 5 4,oT 6 5 (.mov (.t 0)),oT 7 5 (.nilc (.t 6)),oT 8 5 (.fa 39 (.t 7)),oT 9 5 (.iaa 16 1 (.t 8) (.c (.int .i64 12))),oT 10 5 (.ld (.t 9)),oT 11 5 (.bin .and (.t 10) (.c (.int .u32 16))),oT 12 5 (.bin .neq (.t 11) (.c (.int .u32 0))),oA 13 (.pick (.t 5) (.t 12) (.c (.bool false))),oM 14 13,oT 15 14 (.mov (.t 0)),oT 16 14 (.nilc (.t 15)),oT 17 14 (.fa 39 (.t 16)),oT 18 14 (.iaa 16 1 (.t 17) (.c (.int .i64 12))),oT 19 14 (.ld (.t 18)),oT 20 14 (.bin .and (.t 19) (.c (.int .u32 2))),oT 21 14 (.bin .eql (.t 20) (.c (.int .u32 0))),oA 22 (.pick (.t 14) (.t 21) (.c (.bool false))),oM 2 22]) (.ret)
def c_1h : C :=
 .seq (.ops [oA 2 (.mov (.c (.bool false)))]) (c0_1h)
def f_1h : F := ⟨c_1h, [.t 2], some []⟩
theorem h_1h : compF Tryz.prog (compAny Tryz.prog) n_1h = some (f_1h.body, f_1h.res) := by kernel_rfl
def c0_9m : C :=
 .seq (.ops [oM 28 11,oA 29 (.bin .and (.t 28) (.c (.int .u32 4294966272))),oM 30 1,oA 31 (.bin .and (.t 30) (.c (.int .u32 1023))),oA 32 (.bin .or (.t 29) (.t 31)),oM 6 32,oA 7 (.mov (.c (.int .i64 (-1)))),oA 8 (.mov (.c (.bool false)))]) (.ret)
def c1_9m : C :=
 .seq (.ops [oM 39 2,oM 40 39,oT 41 40 (.mov (.t 11)),oT 42 40 (.bin .and (.t 41) (.c (.int .u32 2))),oT 43 40 (.bin .eql (.t 42) (.c (.int .u32 0))),oA 44 (.pick (.t 40) (.t 43) (.c (.bool false))),oM 38 44]) (.cond (.t 38) (.seq (.ops [oA 6 (.mov (.c (.int .u32 0))),oA 7 (.mov (.c (.int .i64 1))),oA 8 (.mov (.c (.bool false)))]) (.ret)) (c0_9m))
def c2_9m : C :=
 .block 0 (.seq (.ops [oM 34 11,oA 35 (.bin .and (.t 34) (.c (.int .u32 1))),oA 36 (.bin .eql (.t 35) (.c (.int .u32 0))),oM 33 36]) (.cond (.t 33) (.seq (.ops [oM 37 9,oA 6 (.mov (.c (.int .u32 0))),oM 7 37,oA 8 (.mov (.c (.bool false)))]) (.ret)) (c1_9m)))
def c3_9m : C :=
 .seq (.seq (.ops [oM 18 10,oA 19 (.bin .lss (.t 18) (.c (.int .i64 0)))]) (.cond (.t 19) (.seq (.ops [oM 20 9,oA 6 (.mov (.c (.int .u32 0))),oM 7 20,oA 8 (.mov (.c (.bool true)))]) (.ret)) (.skip))) (.seq (.ops [oM 21 0,oM 22 10,oA 23 (.nilc (.t 21)),oA 24 (.fa 55 (.t 23)),oA 25 (.iaa 8 2 (.t 24) (.t 22)),oA 26 (.fa 1 (.t 25)),oA 27 (.ld (.t 26)),oM 11 27]) (c2_9m))
def c4_9m : C :=
 .seq (.ops [oA 9 (.mov (.c (.int .i64 2)))]) (.seq (.seq (.ops [oM 14 2]) (.cond (.t 14) (.ops [oA 9 (.mov (.c (.int .i64 3)))]) (.skip))) (.seq (.ops [oM 15 0,oM 16 1,oA 17 (.call n_9k [(.t 15),(.t 16)]),oM 10 17]) (c3_9m)))
def c_9m : C :=
 .seq (.ops [oA 6 (.mov (.c (.int .u32 0))),oA 7 (.mov (.c (.int .i64 0))),oA 8 (.mov (.c (.bool false)))]) (.seq (.seq (.ops [oM 12 0,oA 13 (.eqn 0 false (.t 12))]) (.cond (.t 13) (.seq (.ops [oA 6 (.mov (.c (.int .u32 0))),oA 7 (.mov (.c (.int .i64 0))),oA 8 (.mov (.c (.bool false)))]) (.ret)) (.skip))) (c4_9m))
def f_9m : F := ⟨c_9m, [.t 6, .t 7, .t 8], some []⟩
theorem h_9m : compF Tryz.prog (compAny Tryz.prog) n_9m = some (f_9m.body, f_9m.res) := by kernel_rfl
def c0_0a : C :=
 .any 1 [.op 1 (oM 27 0),.op 2 (oA 28 (.nilc (.t 27))),.op 3 (oA 29 (.fa 3 (.t 28))),.op 4 (oA 30 (.ld (.t 29))),.op 5 (oA 31 (.ldn 6 (.t 5))),.op 6 (oA 32 (.call n_3f [(.t 31)])),.re 4 (oA 30 (.ld (.t 29))),.op 7 (oA 33 (.call n_40 [(.t 32)])),.re 4 (oA 30 (.ld (.t 29))),.al 8 0 (oA 34 (.bsl 1 [(.slice none 0 0)] [(0,1,(.t 33))])),.op 9 (oA 35 (.app 1 24 (.t 30) (.t 34))),.op 0 (oM 26 0),.op 10 (oA 36 (.nilc (.t 26))),.op 11 (oA 37 (.fa 3 (.t 36))),.op 12 (oS (.st (.t 37) (.t 35)))]
def c1_0a : C :=
 .seq (.any 2 [.op 2 (oM 8 0),.op 3 (oA 9 (.nilc (.t 8))),.op 4 (oA 10 (.fa 1 (.t 9))),.op 5 (oA 11 (.ld (.t 10))),.op 9 (oM 15 0),.op 10 (oA 16 (.nilc (.t 15))),.op 11 (oA 17 (.fa 2 (.t 16))),.op 12 (oA 18 (.ld (.t 17))),.op 13 (oA 19 (.ldn 6 (.t 5))),.op 6 (oM 12 1),.al 7 0 (oA 13 (.bsl 1 [(.int .u32 0)] [(0,1,(.t 12))])),.op 8 (oA 14 (.app 1 4 (.t 11) (.t 13))),.re 12 (oA 18 (.ld (.t 17))),.re 13 (oA 19 (.ldn 6 (.t 5))),.al 14 1 (oA 20 (.bsl 1 [(.int .i64 0),(.int .i64 0),(.int .i64 0),(.int .i64 0),(.int .i64 0),(.int .u32 0)] [(0,6,(.t 19))])),.op 15 (oA 21 (.app 6 48 (.t 18) (.t 20))),.op 0 (oM 6 0),.op 16 (oA 22 (.nilc (.t 6))),.op 17 (oA 23 (.fa 1 (.t 22))),.op 18 (oS (.st (.t 23) (.t 14))),.op 1 (oM 7 0),.op 19 (oA 24 (.nilc (.t 7))),.op 20 (oA 25 (.fa 2 (.t 24))),.op 21 (oS (.st (.t 25) (.t 21)))]) (c0_0a)
def c_0a : C :=
 .seq (.ops [oA 5 (.box (.t 2))]) (c1_0a)
def f_0a : F := ⟨c_0a, [], some []⟩
theorem h_0a : compF Tryz.prog (compAny Tryz.prog) n_0a = some (f_0a.body, f_0a.res) := by kernel_rfl
def c0_7y : C :=
 .seq (.ops [oM 7 2,oA 8 (.bin .eql (.t 7) (.c (.int .i64 1))),oM 9 8,oF 10 9 (.mov (.t 2)),oF 11 9 (.bin .eql (.t 10) (.c (.int .i64 2))),oA 12 (.pick (.t 9) (.c (.bool true)) (.t 11)),oM 13 12,oF 14 13 (.mov (.t 2)),oF 15 13 (.bin .eql (.t 14) (.c (.int .i64 4))),oA 16 (.pick (.t 13) (.c (.bool true)) (.t 15)),oM 17 16,oT 18 17 (.mov (.t 1)),oT 19 17 (.mov (.t 2)),oT 20 17 (.conv .u32 (.t 19)),oT 21 17 (.bin .rem (.t 18) (.t 20)),oT 22 17 (.bin .eql (.t 21) (.c (.int .u32 0))),oA 23 (.pick (.t 17) (.t 22) (.c (.bool false))),oM 24 23,oT 25 24 (.mov (.t 0)),oT 26 24 (.mov (.t 1)),oT 27 24 (.mov (.t 2)),oT 28 24 (.call n_80 [(.t 25),(.t 26),(.t 27)]),oA 29 (.pick (.t 24) (.t 28) (.c (.bool false))),oM 6 29]) (.ret)
def c_7y : C :=
 .seq (.ops [oA 6 (.mov (.c (.bool false)))]) (c0_7y)
def f_7y : F := ⟨c_7y, [.t 6], some []⟩
theorem h_7y : compF Tryz.prog (compAny Tryz.prog) n_7y = some (f_7y.body, f_7y.res) := by kernel_rfl
def c0_3e : C :=
 .seq (.ops [oA 3 (.ldn 6 (.t 1)),oA 4 (.call n_21 [(.t 3)]),oM 5 4,oT 6 5 (.ldn 6 (.t 1)),oT 7 5 (.call n_1z [(.t 6)]),oT 8 5 (.bin .eql (.t 7) (.c (.int .i64 1))),oA 9 (.pick (.t 5) (.t 8) (.c (.bool false))),oM 2 9]) (.ret)
def c_3e : C :=
 .seq (.ops [oA 1 (.box (.t 0)),oA 2 (.mov (.c (.bool false)))]) (c0_3e)
def f_3e : F := ⟨c_3e, [.t 2], some []⟩
theorem h_3e : compF Tryz.prog (compAny Tryz.prog) n_3e = some (f_3e.body, f_3e.res) := by kernel_rfl
def c0_32 : C :=
 .any 0 [.op 3 (oM 74 0),.op 4 (oA 75 (.nilc (.t 74))),.op 5 (oA 76 (.fa 73 (.t 75))),.op 6 (oA 77 (.ld (.t 76))),.op 7 (oA 78 (.call n_0m [(.t 77)])),.op 0 (oM 71 0),.op 1 (oA 72 (.nilc (.t 71))),.op 2 (oA 73 (.fa 0 (.t 72))),.op 8 (oA 79 (.call n_1c [(.t 73),(.t 78)]))]
def c1_32 : C :=
 .seq (.ops [oM 58 0,oA 59 (.nilc (.t 58)),oA 60 (.fa 0 (.t 59)),oA 61 (.fa 35 (.t 60)),oA 62 (.ld (.t 61)),oA 63 (.bin .add (.t 62) (.c (.int .u32 4))),oA 64 (.nilc (.t 58)),oA 65 (.fa 0 (.t 64)),oA 66 (.fa 35 (.t 65)),oS (.st (.t 66) (.t 63))]) (.seq (.ops [oM 67 0,oA 68 (.nilc (.t 67)),oA 69 (.fa 0 (.t 68)),oA 70 (.fa 36 (.t 69)),oS (.st (.t 70) (.c (.bool false)))]) (c0_32))
def c2_32 : C :=
 .seq (.ops [oM 49 0,oM 50 0,oA 51 (.nilc (.t 50)),oA 52 (.fa 0 (.t 51)),oA 53 (.fa 35 (.t 52)),oA 54 (.ld (.t 53)),oA 55 (.nilc (.t 49)),oA 56 (.fa 0 (.t 55)),oA 57 (.fa 34 (.t 56)),oS (.st (.t 57) (.t 54))]) (c1_32)
def c3_32 : C :=
 .seq (.ops [oM 33 0,oM 34 0,oA 35 (.iaa 40 1 (.t 4) (.c (.int .i64 32))),oA 36 (.ld (.t 35)),oA 37 (.iaa 40 1 (.t 4) (.c (.int .i64 33))),oA 38 (.ld (.t 37)),oA 39 (.nilc (.t 33)),oA 40 (.fa 0 (.t 39)),oA 41 (.fa 32 (.t 40)),oS (.st (.t 41) (.t 36)),oA 42 (.nilc (.t 34)),oA 43 (.fa 0 (.t 42)),oA 44 (.fa 33 (.t 43)),oS (.st (.t 44) (.t 38))]) (.seq (.ops [oM 45 0,oA 46 (.nilc (.t 45)),oA 47 (.fa 0 (.t 46)),oA 48 (.call n_1b [(.t 47),(.c (.int .i64 1))])]) (c2_32))
def c4_32 : C :=
 .seq (.any 0 [.op 0 (oM 26 0),.op 1 (oA 27 (.nilc (.t 26))),.op 2 (oA 28 (.fa 0 (.t 27))),.op 3 (oA 29 (.fa 0 (.t 28))),.op 4 (oA 30 (.sla 32 1 (.t 29) none none none)),.op 5 (oA 31 (.sla 40 1 (.t 4) none none none)),.op 6 (oA 32 (.cpy 1 (.t 30) (.t 31)))]) (c3_32)
def c5_32 : C :=
 .seq (.any 0 [.op 0 (oM 12 0),.op 1 (oA 13 (.nilc (.t 12))),.op 2 (oA 14 (.fa 0 (.t 13))),.op 3 (oA 15 (.fa 32 (.t 14))),.op 4 (oA 16 (.ld (.t 15))),.op 5 (oM 17 0),.op 6 (oA 18 (.nilc (.t 17))),.op 7 (oA 19 (.fa 0 (.t 18))),.op 8 (oA 20 (.fa 33 (.t 19))),.op 9 (oA 21 (.ld (.t 20))),.op 10 (oA 22 (.iaa 40 1 (.t 4) (.c (.int .i64 32)))),.op 11 (oS (.st (.t 22) (.t 16))),.op 12 (oA 23 (.iaa 40 1 (.t 4) (.c (.int .i64 33)))),.op 13 (oS (.st (.t 23) (.t 21)))]) (.seq (.ops [oM 24 1,oA 25 (.call n_39 [(.t 4),(.t 24)])]) (c4_32))
def c6_32 : C :=
 .seq (.any 0 [.op 0 (oA 5 (.sla 40 1 (.t 4) none none none)),.op 1 (oM 6 0),.op 2 (oA 7 (.nilc (.t 6))),.op 3 (oA 8 (.fa 0 (.t 7))),.op 4 (oA 9 (.fa 0 (.t 8))),.op 5 (oA 10 (.sla 32 1 (.t 9) none none none)),.op 6 (oA 11 (.cpy 1 (.t 5) (.t 10)))]) (c5_32)
def c_32 : C :=
 .seq (.ops [oA 4 (.new (List.replicate 40 (.int .u32 0)))]) (c6_32)
def f_32 : F := ⟨c_32, [], some []⟩
theorem h_32 : compF Tryz.prog (compAny Tryz.prog) n_32 = some (f_32.body, f_32.res) := by kernel_rfl
def c0_3k : C :=
 .any 0 [.op 0 (oM 22 0),.op 1 (oA 23 (.nilc (.t 22))),.op 2 (oA 24 (.fa 0 (.t 23))),.op 3 (oA 25 (.ld (.t 24))),.op 4 (oM 26 1),.op 5 (oA 27 (.bin .shl (.c (.int .u32 1)) (.t 26))),.op 6 (oA 28 (.bin .or (.t 25) (.t 27))),.op 7 (oA 29 (.nilc (.t 22))),.op 8 (oA 30 (.fa 0 (.t 29))),.op 9 (oS (.st (.t 30) (.t 28)))]
def c1_3k : C :=
 .seq (.any 0 [.op 0 (oM 12 0),.op 1 (oA 13 (.nilc (.t 12))),.op 2 (oA 14 (.fa 0 (.t 13))),.op 3 (oA 15 (.ld (.t 14))),.op 4 (oM 16 1),.op 5 (oA 17 (.bin .shl (.c (.int .u32 1)) (.t 16))),.op 6 (oA 18 (.bin .andNot (.t 15) (.t 17))),.op 7 (oA 19 (.nilc (.t 12))),.op 8 (oA 20 (.fa 0 (.t 19))),.op 9 (oS (.st (.t 20) (.t 18)))]) (.seq (.ops [oM 21 2]) (.cond (.t 21) (c0_3k) (.skip)))
def c_3k : C :=
 .seq (.seq (.ops [oM 6 1,oA 7 (.bin .lss (.t 6) (.c (.int .i64 1))),oM 8 7,oF 9 8 (.mov (.t 1)),oF 10 8 (.bin .gtr (.t 9) (.c (.int .i64 5))),oA 11 (.pick (.t 8) (.c (.bool true)) (.t 10))]) (.cond (.t 11) (.ret) (.skip))) (c1_3k)
def f_3k : F := ⟨c_3k, [], some []⟩
theorem h_3k : compF Tryz.prog (compAny Tryz.prog) n_3k = some (f_3k.body, f_3k.res) := by kernel_rfl
def c0_0s : C :=
 .seq (.ops [oA 28 (.bin .eql (.t 5) (.c (.int .i64 4))),oM 27 28]) (.cond (.t 27) (.seq (.ops [oM 29 0,oA 30 (.nilc (.t 29)),oA 31 (.fa 6 (.t 30)),oA 32 (.ld (.t 31)),oA 33 (.call n_2m [(.t 32)]),oM 4 33]) (.ret)) (.skip))
def c1_0s : C :=
 .seq (.ops [oA 21 (.bin .eql (.t 5) (.c (.int .i64 3))),oM 20 21]) (.cond (.t 20) (.seq (.ops [oM 22 0,oA 23 (.nilc (.t 22)),oA 24 (.fa 5 (.t 23)),oA 25 (.ld (.t 24)),oA 26 (.call n_9x [(.t 25)]),oM 4 26]) (.ret)) (c0_0s))
def c2_0s : C :=
 .seq (.ops [oA 14 (.bin .eql (.t 5) (.c (.int .i64 2))),oM 13 14]) (.cond (.t 13) (.seq (.ops [oM 15 0,oA 16 (.nilc (.t 15)),oA 17 (.fa 4 (.t 16)),oA 18 (.ld (.t 17)),oA 19 (.call n_9g [(.t 18)]),oM 4 19]) (.ret)) (c1_0s))
def c3_0s : C :=
 .block 0 (.seq (.ops [oA 7 (.bin .eql (.t 5) (.c (.int .i64 1))),oM 6 7]) (.cond (.t 6) (.seq (.ops [oM 8 0,oA 9 (.nilc (.t 8)),oA 10 (.fa 3 (.t 9)),oA 11 (.ld (.t 10)),oA 12 (.call n_9g [(.t 11)]),oM 4 12]) (.ret)) (c2_0s)))
def c_0s : C :=
 .seq (.ops [oA 4 (.mov (.c (.bool false)))]) (.seq (.seq (.ops [oM 5 1]) (c3_0s)) (.seq (.ops [oM 34 0,oA 35 (.nilc (.t 34)),oA 36 (.fa 7 (.t 35)),oA 37 (.ld (.t 36)),oA 38 (.call n_2e [(.t 37)]),oM 4 38]) (.ret)))
def f_0s : F := ⟨c_0s, [.t 4], some []⟩
theorem h_0s : compF Tryz.prog (compAny Tryz.prog) n_0s = some (f_0s.body, f_0s.res) := by kernel_rfl
def c0_8q : C :=
 .seq (.any 0 [.op 0 (oA 11 (.ldn 3 (.t 3))),.op 1 (oM 12 0),.op 2 (oM 13 5),.op 3 (oA 14 (.ia 3 (.t 12) (.t 13))),.op 4 (oA 15 (.ldn 3 (.t 14))),.op 5 (oA 16 (.eqt false (.agg [(0,1,false,(.int .u32)),(1,1,false,(.int .i64)),(2,1,false,(.int .i64))]) (.t 11) (.t 15)))]) (.cond (.t 16) (.seq (.ops [oM 17 5,oM 4 17]) (.ret)) (.skip))
def c1_8q : C :=
 .seq (.ops [oA 9 (.bin .lss (.t 8) (.t 7))]) (.seq (.cond (.t 9) (.skip) (.exit 0)) (.seq (.block 1 (.seq (.ops [oM 10 8,oM 5 10]) (c0_8q))) (.ops [oA 18 (.bin .add (.t 8) (.c (.int .i64 1))),oM 8 18])))
def c_8q : C :=
 .seq (.ops [oA 3 (.box (.t 1)),oA 4 (.mov (.c (.int .i64 0)))]) (.seq (.seq (.ops [oM 6 0,oA 7 (.len 1 (.t 6)),oA 8 (.mov (.c (.int .i64 0)))]) (.block 0 (.loop c1_8q))) (.seq (.ops [oA 4 (.mov (.c (.int .i64 (-1))))]) (.ret)))
def f_8q : F := ⟨c_8q, [.t 4], some []⟩
theorem h_8q : compF Tryz.prog (compAny Tryz.prog) n_8q = some (f_8q.body, f_8q.res) := by kernel_rfl
def c0_8j : C :=
 .seq (.ops [oM 27 0,oM 28 0,oA 29 (.len 1 (.t 28)),oM 30 7,oA 31 (.sl 3 (.t 27) (some (.t 29)) (some (.t 30)) none),oS (.clr [(.int .i64 0),(.int .i64 0),(.int .i64 0)] (.t 31))]) (.seq (.ops [oM 32 0,oM 6 32]) (.ret))
def c1_8j : C :=
 .seq (.any 0 [.op 0 (oM 20 0),.op 1 (oM 21 1),.op 2 (oA 22 (.sl 3 (.t 20) none (some (.t 21)) none)),.op 3 (oM 23 0),.op 4 (oM 24 2),.op 5 (oA 25 (.sl 3 (.t 23) (some (.t 24)) none none)),.op 6 (oA 26 (.app 3 24 (.t 22) (.t 25))),.op 7 (oM 0 26)]) (c0_8j)
def c2_8j : C :=
 .seq (.seq (.ops [oM 14 1,oM 15 2,oA 16 (.bin .eql (.t 14) (.t 15))]) (.cond (.t 16) (.seq (.ops [oM 17 0,oM 6 17]) (.ret)) (.skip))) (.seq (.ops [oM 18 0,oA 19 (.len 1 (.t 18)),oM 7 19]) (c1_8j))
def c_8j : C :=
 .seq (.ops [oA 6 (.mov (.c (.slice none 0 0)))]) (.seq (.ops [oM 8 0,oM 9 1,oM 10 2,oM 11 0,oA 12 (.len 1 (.t 11)),oA 13 (.sl 3 (.t 8) (some (.t 9)) (some (.t 10)) (some (.t 12)))]) (c2_8j))
def f_8j : F := ⟨c_8j, [.t 6], some []⟩
theorem h_8j : compF Tryz.prog (compAny Tryz.prog) n_8j = some (f_8j.body, f_8j.res) := by kernel_rfl
def c0_9f : C :=
 .cond (.t 12) (.ops [oM 13 0,oM 14 1,oA 15 (.call n_9j [(.t 13),(.t 14)])]) (.ops [oM 16 0,oA 17 (.nilc (.t 16)),oA 18 (.fa 2 (.t 17)),oA 19 (.ld (.t 18)),oA 20 (.bin .andNot (.t 19) (.c (.int .u32 1))),oA 21 (.nilc (.t 16)),oA 22 (.fa 2 (.t 21)),oS (.st (.t 22) (.t 20))])
def c_9f : C :=
 .seq (.ops [oM 4 0,oA 5 (.nilc (.t 4)),oA 6 (.fa 4 (.t 5)),oS (.st (.t 6) (.c (.int .u32 1)))]) (.seq (.ops [oM 7 0,oA 8 (.nilc (.t 7)),oA 9 (.fa 2 (.t 8)),oA 10 (.ld (.t 9)),oA 11 (.bin .and (.t 10) (.c (.int .u32 2))),oA 12 (.bin .neq (.t 11) (.c (.int .u32 0)))]) (c0_9f))
def f_9f : F := ⟨c_9f, [], some []⟩
theorem h_9f : compF Tryz.prog (compAny Tryz.prog) n_9f = some (f_9f.body, f_9f.res) := by kernel_rfl
def c0_9w : C :=
 .ops [oM 23 0,oM 24 0,oA 25 (.nilc (.t 24)),oA 26 (.fa 6 (.t 25)),oA 27 (.ld (.t 26)),oM 28 4,oA 29 (.bsl 1 [(.int .u8 0)] [(0,1,(.t 28))]),oA 30 (.app 1 1 (.t 27) (.t 29)),oA 31 (.nilc (.t 23)),oA 32 (.fa 6 (.t 31)),oS (.st (.t 32) (.t 30))]
def c1_9w : C :=
 .seq (.ops [oM 14 5,oM 15 14,oT 16 15 (.mov (.t 0)),oT 17 15 (.nilc (.t 16)),oT 18 15 (.fa 6 (.t 17)),oT 19 15 (.ld (.t 18)),oT 20 15 (.len 1 (.t 19)),oT 21 15 (.bin .lss (.t 20) (.c (.int .i64 65536))),oA 22 (.pick (.t 15) (.t 21) (.c (.bool false)))]) (.cond (.t 22) (c0_9w) (.skip))
def c2_9w : C :=
 .seq (.ops [oM 33 0,oA 34 (.nilc (.t 33)),oA 35 (.fa 3 (.t 34)),oA 36 (.ld (.t 35)),oA 37 (.len 3 (.t 36)),oA 38 (.bin .gtr (.t 37) (.c (.int .i64 0)))]) (.cond (.t 38) (.ops [oM 39 0,oM 40 1,oA 41 (.call n_021 [(.t 39),(.t 40)])]) (.skip))
def c_9w : C :=
 .seq (.seq (.ops [oM 7 0,oA 8 (.nilc (.t 7)),oA 9 (.fa 3 (.t 8)),oA 10 (.ld (.t 9)),oA 11 (.call n_051 [(.t 10)]),oM 6 11,oA 12 (.ext (.t 6) 0),oA 13 (.ext (.t 6) 1),oM 4 12,oM 5 13]) (c1_9w)) (c2_9w)
def f_9w : F := ⟨c_9w, [], some []⟩
theorem h_9w : compF Tryz.prog (compAny Tryz.prog) n_9w = some (f_9w.body, f_9w.res) := by kernel_rfl
def c0_2l : C :=
 .cond (.t 15) (.ops [oM 16 0,oA 17 (.nilc (.t 16)),oA 18 (.fa 6 (.t 17)),oA 19 (.ld (.t 18)),oA 20 (.bin .or (.t 19) (.c (.int .u32 4))),oA 21 (.nilc (.t 16)),oA 22 (.fa 6 (.t 21)),oS (.st (.t 22) (.t 20))]) (.skip)
def c_2l : C :=
 .seq (.ops [oM 4 0,oM 5 0,oA 6 (.nilc (.t 5)),oA 7 (.fa 6 (.t 6)),oA 8 (.ld (.t 7)),oA 9 (.bin .andNot (.t 8) (.c (.int .u32 1))),oA 10 (.bin .or (.t 9) (.c (.int .u32 2))),oA 11 (.nilc (.t 4)),oA 12 (.fa 6 (.t 11)),oS (.st (.t 12) (.t 10))]) (.seq (.ops [oM 13 0,oA 14 (.call n_2q [(.t 13)]),oA 15 (.un .not (.t 14))]) (c0_2l))
def f_2l : F := ⟨c_2l, [], some []⟩
theorem h_2l : compF Tryz.prog (compAny Tryz.prog) n_2l = some (f_2l.body, f_2l.res) := by kernel_rfl
def c0_2d : C :=
 .cond (.t 15) (.ops [oM 16 0,oA 17 (.nilc (.t 16)),oA 18 (.fa 7 (.t 17)),oA 19 (.ld (.t 18)),oA 20 (.bin .or (.t 19) (.c (.int .u32 4))),oA 21 (.nilc (.t 16)),oA 22 (.fa 7 (.t 21)),oS (.st (.t 22) (.t 20))]) (.skip)
def c_2d : C :=
 .seq (.ops [oM 4 0,oM 5 0,oA 6 (.nilc (.t 5)),oA 7 (.fa 7 (.t 6)),oA 8 (.ld (.t 7)),oA 9 (.bin .andNot (.t 8) (.c (.int .u32 1))),oA 10 (.bin .or (.t 9) (.c (.int .u32 2))),oA 11 (.nilc (.t 4)),oA 12 (.fa 7 (.t 11)),oS (.st (.t 12) (.t 10))]) (.seq (.ops [oM 13 0,oA 14 (.call n_2j [(.t 13)]),oA 15 (.un .not (.t 14))]) (c0_2d))
def f_2d : F := ⟨c_2d, [], some []⟩
theorem h_2d : compF Tryz.prog (compAny Tryz.prog) n_2d = some (f_2d.body, f_2d.res) := by kernel_rfl
def c_1k : C :=
 .ops [oM 4 0,oM 5 0,oM 6 0,oM 7 1,oM 8 1,oA 9 (.bin .add (.t 8) (.c (.int .u32 4))),oA 10 (.nilc (.t 4)),oA 11 (.fa 34 (.t 10)),oS (.st (.t 11) (.t 7)),oA 12 (.nilc (.t 5)),oA 13 (.fa 35 (.t 12)),oS (.st (.t 13) (.t 9)),oA 14 (.nilc (.t 6)),oA 15 (.fa 36 (.t 14)),oS (.st (.t 15) (.c (.bool false)))]
def f_1k : F := ⟨c_1k, [], some []⟩
theorem h_1k : compF Tryz.prog (compAny Tryz.prog) n_1k = some (f_1k.body, f_1k.res) := by kernel_rfl
def c0_18 : C :=
 .any 0 [.op 1 (oM 15 0),.op 2 (oA 16 (.nilc (.t 15))),.op 3 (oA 17 (.fa 39 (.t 16))),.op 4 (oA 18 (.iaa 16 1 (.t 17) (.c (.int .i64 10)))),.op 5 (oA 19 (.ld (.t 18))),.op 0 (oM 14 0),.op 6 (oA 20 (.bin .andNot (.t 19) (.c (.int .u32 4294966272)))),.op 7 (oM 21 1),.op 8 (oA 22 (.bin .and (.t 21) (.c (.int .u32 4294966272)))),.op 9 (oA 23 (.bin .or (.t 20) (.t 22))),.op 10 (oA 24 (.nilc (.t 14))),.op 11 (oA 25 (.fa 39 (.t 24))),.op 12 (oA 26 (.iaa 16 1 (.t 25) (.c (.int .i64 10)))),.op 13 (oS (.st (.t 26) (.t 23)))]
def c1_18 : C :=
 .seq (.ops [oM 8 0,oM 9 1,oA 10 (.nilc (.t 8)),oA 11 (.fa 39 (.t 10)),oA 12 (.iaa 16 1 (.t 11) (.c (.int .i64 8))),oS (.st (.t 12) (.t 9))]) (.seq (.ops [oM 13 2]) (.cond (.t 13) (c0_18) (.skip)))
def c_18 : C :=
 .seq (.seq (.ops [oM 6 0,oA 7 (.eqn 0 false (.t 6))]) (.cond (.t 7) (.ret) (.skip))) (c1_18)
def f_18 : F := ⟨c_18, [], some []⟩
theorem h_18 : compF Tryz.prog (compAny Tryz.prog) n_18 = some (f_18.body, f_18.res) := by kernel_rfl
end Go.Proofs.YtoiiphcbkejliaaGreat.Cd

set_option maxRecDepth 100000
set_option linter.defProp false
namespace Go.Proofs.YtoiiphcbkejliaaGreat.Cd
open Go Go.Dx
def c0_0w : C :=
 .seq (.ops [oM 22 7,oA 23 (.conv .i64 (.t 22)),oM 24 0,oA 25 (.bin .sub (.t 24) (.c (.int .u32 520093696))),oA 26 (.bin .rem (.t 25) (.c (.int .u32 64))),oM 27 7,oA 28 (.bin .leq (.t 27) (.c (.int .u32 5))),oM 4 23,oM 5 26,oM 6 28]) (.ret)
def c1_0w : C :=
 .seq (.seq (.ops [oM 8 1,oA 9 (.bin .neq (.t 8) (.c (.int .i64 4))),oM 10 9,oF 11 10 (.mov (.t 0)),oF 12 10 (.bin .lss (.t 11) (.c (.int .u32 520093696))),oA 13 (.pick (.t 10) (.c (.bool true)) (.t 12)),oM 14 13,oF 15 14 (.mov (.t 0)),oF 16 14 (.bin .rem (.t 15) (.c (.int .u32 4))),oF 17 14 (.bin .neq (.t 16) (.c (.int .u32 0))),oA 18 (.pick (.t 14) (.c (.bool true)) (.t 17))]) (.cond (.t 18) (.seq (.ops [oA 4 (.mov (.c (.int .i64 0))),oA 5 (.mov (.c (.int .u32 0))),oA 6 (.mov (.c (.bool false)))]) (.ret)) (.skip))) (.seq (.ops [oM 19 0,oA 20 (.bin .sub (.t 19) (.c (.int .u32 520093696))),oA 21 (.bin .quo (.t 20) (.c (.int .u32 64))),oM 7 21]) (c0_0w))
def c_0w : C :=
 .seq (.ops [oA 4 (.mov (.c (.int .i64 0))),oA 5 (.mov (.c (.int .u32 0))),oA 6 (.mov (.c (.bool false)))]) (c1_0w)
def f_0w : F := ⟨c_0w, [.t 4, .t 5, .t 6], some []⟩
theorem h_0w : compF Tryz.prog (compAny Tryz.prog) n_0w = some (f_0w.body, f_0w.res) := by kernel_rfl
def c0_0t : C :=
 .seq (.ops [oM 13 0,oA 14 (.nilc (.t 13)),oA 15 (.fa 2 (.t 14)),oA 16 (.ld (.t 15)),oM 17 2,oM 18 3,oA 19 (.call n_3j [(.t 16),(.t 17),(.t 18)]),oA 20 (.ext (.t 19) 0),oA 21 (.ext (.t 19) 1),oM 8 20,oM 9 21]) (.ret)
def c1_0t : C :=
 .seq (.ops [oM 24 0,oA 25 (.nilc (.t 24)),oA 26 (.fa 3 (.t 25)),oA 27 (.ld (.t 26)),oM 28 2,oA 29 (.call n_9h [(.t 27),(.t 28)]),oA 30 (.ext (.t 29) 0),oA 31 (.ext (.t 29) 1),oM 8 30,oM 9 31]) (.ret)
def c2_0t : C :=
 .seq (.ops [oM 34 0,oA 35 (.nilc (.t 34)),oA 36 (.fa 4 (.t 35)),oA 37 (.ld (.t 36)),oM 38 2,oA 39 (.call n_9h [(.t 37),(.t 38)]),oA 40 (.ext (.t 39) 0),oA 41 (.ext (.t 39) 1),oM 8 40,oM 9 41]) (.ret)
def c3_0t : C :=
 .seq (.ops [oM 44 0,oA 45 (.nilc (.t 44)),oA 46 (.fa 5 (.t 45)),oA 47 (.ld (.t 46)),oM 48 2,oA 49 (.call n_9z [(.t 47),(.t 48)]),oA 50 (.ext (.t 49) 0),oA 51 (.ext (.t 49) 1),oM 8 50,oM 9 51]) (.ret)
def c4_0t : C :=
 .seq (.ops [oM 54 0,oA 55 (.nilc (.t 54)),oA 56 (.fa 6 (.t 55)),oA 57 (.ld (.t 56)),oM 58 2,oA 59 (.call n_2n [(.t 57),(.t 58)]),oA 60 (.ext (.t 59) 0),oA 61 (.ext (.t 59) 1),oM 8 60,oM 9 61]) (.ret)
def c5_0t : C :=
 .seq (.ops [oA 33 (.bin .eql (.t 10) (.c (.int .i64 2))),oM 32 33]) (.cond (.t 32) (c2_0t) (.seq (.ops [oA 43 (.bin .eql (.t 10) (.c (.int .i64 3))),oM 42 43]) (.cond (.t 42) (c3_0t) (.seq (.ops [oA 53 (.bin .eql (.t 10) (.c (.int .i64 4))),oM 52 53]) (.cond (.t 52) (c4_0t) (.skip))))))
def c6_0t : C :=
 .seq (.ops [oM 62 0,oA 63 (.nilc (.t 62)),oA 64 (.fa 7 (.t 63)),oA 65 (.ld (.t 64)),oM 66 2,oA 67 (.call n_2f [(.t 65),(.t 66)]),oA 68 (.ext (.t 67) 0),oA 69 (.ext (.t 67) 1),oM 8 68,oM 9 69]) (.ret)
def c7_0t : C :=
 .seq (.seq (.ops [oM 10 1]) (.block 0 (.seq (.ops [oA 12 (.bin .eql (.t 10) (.c (.int .i64 0))),oM 11 12]) (.cond (.t 11) (c0_0t) (.seq (.ops [oA 23 (.bin .eql (.t 10) (.c (.int .i64 1))),oM 22 23]) (.cond (.t 22) (c1_0t) (c5_0t))))))) (c6_0t)
def c_0t : C :=
 .seq (.ops [oA 8 (.mov (.c (.int .u32 0))),oA 9 (.mov (.c (.bool false)))]) (c7_0t)
def f_0t : F := ⟨c_0t, [.t 8, .t 9], some []⟩
theorem h_0t : compF Tryz.prog (compAny Tryz.prog) n_0t = some (f_0t.body, f_0t.res) := by kernel_rfl
def c0_2b : C :=
 .seq (.ops [oM 51 6,oA 52 (.bin .and (.t 51) (.c (.int .i64 32))),oA 53 (.bin .neq (.t 52) (.c (.int .i64 0))),oM 50 53]) (.cond (.t 50) (.ops [oM 54 1,oA 55 (.bin .and (.t 54) (.c (.int .u32 67108863))),oA 56 (.fa 5 (.t 5)),oS (.st (.t 56) (.t 55))]) (.skip))
def c1_2b : C :=
 .seq (.block 0 (.seq (.ops [oM 44 6,oA 45 (.bin .and (.t 44) (.c (.int .i64 16))),oA 46 (.bin .neq (.t 45) (.c (.int .i64 0))),oM 43 46]) (.cond (.t 43) (.ops [oM 47 1,oA 48 (.bin .and (.t 47) (.c (.int .u32 65535))),oA 49 (.fa 5 (.t 5)),oS (.st (.t 49) (.t 48))]) (c0_2b)))) (.seq (.ops [oA 57 (.ldn 6 (.t 5)),oS (.stn 6 (.t 4) (.t 57))]) (.ret))
def c2_2b : C :=
 .seq (.seq (.ops [oM 35 6,oA 36 (.bin .and (.t 35) (.c (.int .i64 8))),oA 37 (.bin .neq (.t 36) (.c (.int .i64 0)))]) (.cond (.t 37) (.ops [oM 38 1,oA 39 (.bin .shr (.t 38) (.c (.int .u64 6))),oA 40 (.bin .and (.t 39) (.c (.int .u32 31))),oA 41 (.conv .i64 (.t 40)),oA 42 (.fa 4 (.t 5)),oS (.st (.t 42) (.t 41))]) (.skip))) (c1_2b)
def c3_2b : C :=
 .seq (.seq (.ops [oM 27 6,oA 28 (.bin .and (.t 27) (.c (.int .i64 4))),oA 29 (.bin .neq (.t 28) (.c (.int .i64 0)))]) (.cond (.t 29) (.ops [oM 30 1,oA 31 (.bin .shr (.t 30) (.c (.int .u64 11))),oA 32 (.bin .and (.t 31) (.c (.int .u32 31))),oA 33 (.conv .i64 (.t 32)),oA 34 (.fa 3 (.t 5)),oS (.st (.t 34) (.t 33))]) (.skip))) (c2_2b)
def c4_2b : C :=
 .seq (.seq (.ops [oM 19 6,oA 20 (.bin .and (.t 19) (.c (.int .i64 2))),oA 21 (.bin .neq (.t 20) (.c (.int .i64 0)))]) (.cond (.t 21) (.ops [oM 22 1,oA 23 (.bin .shr (.t 22) (.c (.int .u64 16))),oA 24 (.bin .and (.t 23) (.c (.int .u32 31))),oA 25 (.conv .i64 (.t 24)),oA 26 (.fa 2 (.t 5)),oS (.st (.t 26) (.t 25))]) (.skip))) (c3_2b)
def c5_2b : C :=
 .seq (.seq (.ops [oM 11 6,oA 12 (.bin .and (.t 11) (.c (.int .i64 1))),oA 13 (.bin .neq (.t 12) (.c (.int .i64 0)))]) (.cond (.t 13) (.ops [oM 14 1,oA 15 (.bin .shr (.t 14) (.c (.int .u64 21))),oA 16 (.bin .and (.t 15) (.c (.int .u32 31))),oA 17 (.conv .i64 (.t 16)),oA 18 (.fa 1 (.t 5)),oS (.st (.t 18) (.t 17))]) (.skip))) (c4_2b)
def c6_2b : C :=
 .seq (.ops [oM 7 0,oA 8 (.build [(.int .i64 0),(.int .i64 0),(.int .i64 0),(.int .i64 0),(.int .i64 0),(.int .u32 0)] [(0,1,(.t 7))]),oA 5 (.new [(.int .i64 0),(.int .i64 0),(.int .i64 0),(.int .i64 0),(.int .i64 0),(.int .u32 0)]),oS (.stn 6 (.t 5) (.t 8))]) (.seq (.ops [oM 9 0,oA 10 (.call n_23 [(.t 9)]),oM 6 10]) (c5_2b))
def c_2b : C :=
 .seq (.ops [oA 4 (.new [(.int .i64 0),(.int .i64 0),(.int .i64 0),(.int .i64 0),(.int .i64 0),(.int .u32 0)])]) (c6_2b)
def f_2b : F := ⟨c_2b, [.ldn 6 4], some []⟩
theorem h_2b : compF Tryz.prog (compAny Tryz.prog) n_2b = some (f_2b.body, f_2b.res) := by kernel_rfl
def c0_24 : C :=
 .cond (.t 24) (.seq (.ops [oM 26 0,oA 27 (.bin .and (.t 26) (.c (.int .u32 63))),oA 28 (.call n_29 [(.t 27)]),oM 2 28]) (.ret)) (.seq (.ops [oM 7 3,oA 8 (.call n_25 [(.t 7)]),oM 2 8]) (.ret))
def c1_24 : C :=
 .seq (.ops [oA 21 (.bin .eql (.t 6) (.c (.int .u32 16))),oM 20 21]) (.cond (.t 20) (.seq (.ops [oM 22 0,oA 23 (.call n_22 [(.t 22)]),oM 2 23]) (.ret)) (.seq (.ops [oA 25 (.bin .eql (.t 6) (.c (.int .u32 28))),oM 24 25]) (c0_24)))
def c2_24 : C :=
 .seq (.ops [oA 15 (.bin .eql (.t 6) (.c (.int .u32 1))),oM 14 15]) (.cond (.t 14) (.seq (.ops [oM 16 0,oA 17 (.bin .shr (.t 16) (.c (.int .u64 16))),oA 18 (.bin .and (.t 17) (.c (.int .u32 31))),oA 19 (.call n_27 [(.t 18)]),oM 2 19]) (.ret)) (c1_24))
def c3_24 : C :=
 .block 0 (.seq (.ops [oA 10 (.bin .eql (.t 6) (.c (.int .u32 0))),oM 9 10]) (.cond (.t 9) (.seq (.ops [oM 11 0,oA 12 (.bin .and (.t 11) (.c (.int .u32 63))),oA 13 (.call n_28 [(.t 12)]),oM 2 13]) (.ret)) (c2_24)))
def c_24 : C :=
 .seq (.ops [oA 2 (.mov (.c (.int .i64 0)))]) (.seq (.ops [oM 4 0,oA 5 (.bin .shr (.t 4) (.c (.int .u64 26))),oM 3 5]) (.seq (.ops [oM 6 3]) (c3_24)))
def f_24 : F := ⟨c_24, [.t 2], some []⟩
theorem h_24 : compF Tryz.prog (compAny Tryz.prog) n_24 = some (f_24.body, f_24.res) := by kernel_rfl
def c0_21 : C :=
 .seq (.ops [oM 19 4,oA 20 (.bin .lss (.t 19) (.c (.int .i64 0))),oM 21 20,oF 22 21 (.mov (.t 4)),oF 23 21 (.bin .gtr (.t 22) (.c (.int .i64 31))),oA 24 (.pick (.t 21) (.c (.bool true)) (.t 23))]) (.cond (.t 24) (.seq (.ops [oA 2 (.mov (.c (.bool false)))]) (.ret)) (.skip))
def c1_21 : C :=
 .seq (.ops [oA 16 (.bin .lss (.t 15) (.t 14))]) (.seq (.cond (.t 16) (.skip) (.exit 0)) (.seq (.block 1 (.seq (.ops [oA 17 (.ia 1 (.t 13) (.t 15)),oA 18 (.ld (.t 17)),oM 4 18]) (c0_21))) (.ops [oA 25 (.bin .add (.t 15) (.c (.int .i64 1))),oM 15 25])))
def c2_21 : C :=
 .seq (.any 0 [.op 0 (oA 26 (.fa 0 (.t 1))),.op 1 (oA 27 (.ld (.t 26))),.op 2 (oA 28 (.bin .gtr (.t 27) (.c (.int .i64 0)))),.op 3 (oM 29 28),.op 4 (oT 30 29 (.fa 0 (.t 1))),.op 5 (oT 31 29 (.ld (.t 30))),.op 6 (oT 32 29 (.bin .lss (.t 31) (.c (.int .i64 78)))),.op 7 (oA 33 (.pick (.t 29) (.t 32) (.c (.bool false)))),.op 8 (oM 34 33),.op 9 (oT 35 34 (.fa 5 (.t 1))),.op 10 (oT 36 34 (.ld (.t 35))),.op 11 (oT 37 34 (.bin .leq (.t 36) (.c (.int .u32 67108863)))),.op 12 (oA 38 (.pick (.t 34) (.t 37) (.c (.bool false)))),.op 13 (oM 39 38),.op 14 (oT 40 39 (.fa 0 (.t 1))),.op 15 (oT 41 39 (.ld (.t 40))),.op 16 (oT 42 39 (.ldn 6 (.t 1))),.op 19 (oT 45 39 (.ldn 6 (.t 1))),.op 17 (oT 43 39 (.call n_26 [(.t 42)])),.re 15 (oT 41 39 (.ld (.t 40))),.re 19 (oT 45 39 (.ldn 6 (.t 1))),.op 18 (oT 44 39 (.call n_2b [(.t 41),(.t 43)])),.re 19 (oT 45 39 (.ldn 6 (.t 1))),.op 20 (oT 46 39 (.eqt false (.agg [(0,1,false,(.int .i64)),(1,1,false,(.int .i64)),(2,1,false,(.int .i64)),(3,1,false,(.int .i64)),(4,1,false,(.int .i64)),(5,1,false,(.int .u32))]) (.t 44) (.t 45))),.op 21 (oA 47 (.pick (.t 39) (.t 46) (.c (.bool false)))),.op 22 (oM 2 47)]) (.ret)
def c3_21 : C :=
 .seq (.seq (.ops [oA 5 (.fa 1 (.t 1)),oA 6 (.ld (.t 5)),oA 7 (.fa 2 (.t 1)),oA 8 (.ld (.t 7)),oA 9 (.fa 3 (.t 1)),oA 10 (.ld (.t 9)),oA 11 (.fa 4 (.t 1)),oA 12 (.ld (.t 11)),oA 13 (.bsl 4 [(.int .i64 0),(.int .i64 0),(.int .i64 0),(.int .i64 0)] [(0,1,(.t 6)),(1,1,(.t 8)),(2,1,(.t 10)),(3,1,(.t 12))]),oA 14 (.len 1 (.t 13)),oA 15 (.mov (.c (.int .i64 0)))]) (.block 0 (.loop c1_21))) (c2_21)
def c_21 : C :=
 .seq (.ops [oA 1 (.box (.t 0)),oA 2 (.mov (.c (.bool false)))]) (c3_21)
def f_21 : F := ⟨c_21, [.t 2], some []⟩
theorem h_21 : compF Tryz.prog (compAny Tryz.prog) n_21 = some (f_21.body, f_21.res) := by kernel_rfl
def c0_04 : C :=
 .cond (.t 36) (.seq (.ops [oM 38 1,oM 39 2,oA 40 (.bin .eql (.t 38) (.t 39)),oM 6 40]) (.ret)) (.seq (.ops [oA 42 (.bin .eql (.t 8) (.c (.int .i64 35))),oM 41 42]) (.cond (.t 41) (.seq (.ops [oM 43 1,oM 44 2,oA 45 (.bin .neq (.t 43) (.t 44)),oM 6 45]) (.ret)) (.skip)))
def c1_04 : C :=
 .cond (.t 31) (.seq (.ops [oM 33 1,oM 34 2,oA 35 (.call n_0i1 [(.t 33),(.t 34),(.c (.bool true))]),oM 6 35]) (.ret)) (.seq (.ops [oA 37 (.bin .eql (.t 8) (.c (.int .i64 34))),oM 36 37]) (c0_04))
def c2_04 : C :=
 .cond (.t 25) (.seq (.ops [oM 27 1,oM 28 2,oA 29 (.call n_0i1 [(.t 27),(.t 28),(.c (.bool true))]),oA 30 (.un .not (.t 29)),oM 6 30]) (.ret)) (.seq (.ops [oA 32 (.bin .eql (.t 8) (.c (.int .i64 33))),oM 31 32]) (c1_04))
def c3_04 : C :=
 .cond (.t 18) (.seq (.ops [oM 20 1,oA 21 (.fa 5 (.t 3)),oA 22 (.ld (.t 21)),oA 23 (.call n_0m1 [(.t 22),(.c (.int .i64 16))]),oA 24 (.call n_0k1 [(.t 20),(.t 23),(.c (.bool false))]),oM 6 24]) (.ret)) (.seq (.ops [oA 26 (.bin .eql (.t 8) (.c (.int .i64 32))),oM 25 26]) (c2_04))
def c4_04 : C :=
 .cond (.t 9) (.seq (.ops [oM 12 1,oM 13 2,oA 14 (.fa 0 (.t 3)),oA 15 (.ld (.t 14)),oA 16 (.bin .eql (.t 15) (.c (.int .i64 24))),oA 17 (.call n_0k1 [(.t 12),(.t 13),(.t 16)]),oM 6 17]) (.ret)) (.seq (.ops [oA 19 (.bin .eql (.t 8) (.c (.int .i64 46))),oM 18 19]) (c3_04))
def c5_04 : C :=
 .seq (.seq (.ops [oA 7 (.fa 0 (.t 3)),oA 8 (.ld (.t 7))]) (.block 0 (.seq (.seq (.ops [oA 10 (.bin .eql (.t 8) (.c (.int .i64 22))),oM 9 10]) (.cond (.t 9) (.skip) (.ops [oA 11 (.bin .eql (.t 8) (.c (.int .i64 24))),oM 9 11]))) (c4_04)))) (.seq (.ops [oA 6 (.mov (.c (.bool false)))]) (.ret))
def c_04 : C :=
 .seq (.ops [oA 3 (.box (.t 0)),oA 6 (.mov (.c (.bool false)))]) (c5_04)
def f_04 : F := ⟨c_04, [.t 6], some []⟩
theorem h_04 : compF Tryz.prog (compAny Tryz.prog) n_04 = some (f_04.body, f_04.res) := by kernel_rfl
def c0_0m1 : C :=
 .cond (.t 5) (.seq (.ops [oA 4 (.mov (.c (.int .u32 0)))]) (.ret)) (.seq (.ops [oM 9 1,oA 10 (.bin .gtr (.t 9) (.c (.int .i64 31))),oM 8 10]) (.cond (.t 8) (.seq (.ops [oM 11 0,oM 4 11]) (.ret)) (.skip)))
def c1_0m1 : C :=
 .seq (.ops [oM 12 0,oM 13 1,oA 14 (.bin .sub (.c (.int .i64 32)) (.t 13)),oA 15 (.bin .shl (.t 12) (.t 14)),oM 16 1,oA 17 (.bin .sub (.c (.int .i64 32)) (.t 16)),oA 18 (.call n_0l1 [(.t 15),(.t 17)]),oM 4 18]) (.ret)
def c_0m1 : C :=
 .seq (.ops [oA 4 (.mov (.c (.int .u32 0)))]) (.seq (.block 0 (.seq (.ops [oM 6 1,oA 7 (.bin .lss (.t 6) (.c (.int .i64 1))),oM 5 7]) (c0_0m1))) (c1_0m1))
def f_0m1 : F := ⟨c_0m1, [.t 4], some []⟩
theorem h_0m1 : compF Tryz.prog (compAny Tryz.prog) n_0m1 = some (f_0m1.body, f_0m1.res) := by kernel_rfl
def c0_1w : C :=
 .seq (.seq (.ops [oA 9 (.bin .eql (.t 3) (.c (.int .i64 67))),oM 8 9]) (.cond (.t 8) (.skip) (.seq (.ops [oA 10 (.bin .eql (.t 3) (.c (.int .i64 70))),oM 8 10]) (.cond (.t 8) (.skip) (.ops [oA 11 (.bin .eql (.t 3) (.c (.int .i64 72))),oM 8 11]))))) (.cond (.t 8) (.seq (.ops [oA 2 (.mov (.c (.int .i64 2)))]) (.ret)) (.skip))
def c1_1w : C :=
 .block 0 (.seq (.seq (.ops [oA 5 (.bin .eql (.t 3) (.c (.int .i64 66))),oM 4 5]) (.cond (.t 4) (.skip) (.seq (.ops [oA 6 (.bin .eql (.t 3) (.c (.int .i64 69))),oM 4 6]) (.cond (.t 4) (.skip) (.ops [oA 7 (.bin .eql (.t 3) (.c (.int .i64 71))),oM 4 7]))))) (.cond (.t 4) (.seq (.ops [oA 2 (.mov (.c (.int .i64 1)))]) (.ret)) (c0_1w)))
def c_1w : C :=
 .seq (.ops [oA 2 (.mov (.c (.int .i64 0)))]) (.seq (.seq (.ops [oM 3 0]) (c1_1w)) (.seq (.ops [oA 2 (.mov (.c (.int .i64 4)))]) (.ret)))
def f_1w : F := ⟨c_1w, [.t 2], some []⟩
theorem h_1w : compF Tryz.prog (compAny Tryz.prog) n_1w = some (f_1w.body, f_1w.res) := by kernel_rfl
def c_1v : C :=
 .seq (.ops [oM 6 1,oA 7 (.bin .neq (.t 6) (.c (.int .i64 0)))]) (.cond (.t 7) (.ops [oM 8 0,oM 9 1,oM 10 2,oA 11 (.nilc (.t 8)),oA 12 (.fa 0 (.t 11)),oA 13 (.iaa 32 1 (.t 12) (.t 9)),oS (.st (.t 13) (.t 10))]) (.skip))
def f_1v : F := ⟨c_1v, [], some []⟩
theorem h_1v : compF Tryz.prog (compAny Tryz.prog) n_1v = some (f_1v.body, f_1v.res) := by kernel_rfl
def c0_0o : C :=
 .seq (.ops [oM 21 0,oA 22 (.nilc (.t 21)),oA 23 (.fa 0 (.t 22)),oA 24 (.ld (.t 23)),oM 25 1,oM 26 2,oM 27 3,oA 28 (.call n_7v [(.t 24),(.t 25),(.t 26),(.t 27)]),oM 10 28]) (.ret)
def c1_0o : C :=
 .seq (.ops [oM 38 0,oM 39 11,oM 40 12,oM 41 3,oM 42 4,oA 43 (.call n_0u [(.t 38),(.t 39),(.t 40),(.t 41),(.t 42)]),oM 13 43]) (.seq (.ops [oM 44 0,oA 45 (.call n_0r [(.t 44)])]) (.seq (.ops [oM 46 13,oM 10 46]) (.ret)))
def c2_0o : C :=
 .seq (.ops [oM 30 1,oM 31 2,oA 32 (.call n_0w [(.t 30),(.t 31)]),oM 29 32,oA 33 (.ext (.t 29) 0),oA 34 (.ext (.t 29) 1),oA 35 (.ext (.t 29) 2),oM 11 33,oM 12 34,oM 13 35]) (.seq (.seq (.ops [oM 36 13,oA 37 (.un .not (.t 36))]) (.cond (.t 37) (.seq (.ops [oA 10 (.mov (.c (.bool false)))]) (.ret)) (.skip))) (c1_0o))
def c3_0o : C :=
 .seq (.seq (.ops [oM 14 1,oM 15 0,oA 16 (.nilc (.t 15)),oA 17 (.fa 0 (.t 16)),oA 18 (.ld (.t 17)),oA 19 (.call n_7u [(.t 18)]),oA 20 (.bin .lss (.t 14) (.t 19))]) (.cond (.t 20) (c0_0o) (.skip))) (c2_0o)
def c_0o : C :=
 .seq (.ops [oA 10 (.mov (.c (.bool false)))]) (c3_0o)
def f_0o : F := ⟨c_0o, [.t 10], some []⟩
theorem h_0o : compF Tryz.prog (compAny Tryz.prog) n_0o = some (f_0o.body, f_0o.res) := by kernel_rfl
def c0_1r : C :=
 .seq (.ops [oM 7 1,oA 8 (.conv .i64 (.t 7)),oM 9 2,oA 10 (.bin .add (.t 8) (.t 9)),oM 11 0,oA 12 (.nilc (.t 11)),oA 13 (.fa 38 (.t 12)),oA 14 (.ld (.t 13)),oA 15 (.conv .i64 (.t 14)),oA 16 (.bin .gtr (.t 10) (.t 15)),oM 17 16,oT 18 17 (.mov (.t 1)),oT 19 17 (.conv .i64 (.t 18)),oT 20 17 (.mov (.t 0)),oT 21 17 (.nilc (.t 20)),oT 22 17 (.fa 38 (.t 21)),oT 23 17 (.ld (.t 22)),oT 24 17 (.conv .i64 (.t 23)),oT 25 17 (.bin .add (.t 24) (.c (.int .i64 4))),oT 26 17 (.bin .lss (.t 19) (.t 25)),oA 27 (.pick (.t 17) (.t 26) (.c (.bool false))),oM 6 27]) (.ret)
def c_1r : C :=
 .seq (.ops [oA 6 (.mov (.c (.bool false)))]) (c0_1r)
def f_1r : F := ⟨c_1r, [.t 6], some []⟩
theorem h_1r : compF Tryz.prog (compAny Tryz.prog) n_1r = some (f_1r.body, f_1r.res) := by kernel_rfl
def c0_1e : C :=
 .cond (.t 13) (.seq (.ops [oM 16 0,oA 17 (.nilc (.t 16)),oA 18 (.fa 39 (.t 17)),oA 19 (.iaa 16 1 (.t 18) (.c (.int .i64 9))),oA 20 (.ld (.t 19)),oA 21 (.bin .rem (.t 20) (.c (.int .u32 8))),oM 4 21]) (.ret)) (.skip)
def c1_1e : C :=
 .seq (.block 0 (.seq (.ops [oM 6 0,oA 7 (.eqn 0 false (.t 6)),oM 8 7,oF 9 8 (.mov (.t 1)),oF 10 8 (.call n_1j [(.t 9)]),oF 11 8 (.un .not (.t 10)),oA 12 (.pick (.t 8) (.c (.bool true)) (.t 11)),oM 5 12]) (.cond (.t 5) (.seq (.ops [oA 4 (.mov (.c (.int .u32 0)))]) (.ret)) (.seq (.ops [oM 14 1,oA 15 (.bin .eql (.t 14) (.c (.int .i64 1))),oM 13 15]) (c0_1e))))) (.seq (.ops [oM 22 0,oM 23 1,oA 24 (.nilc (.t 22)),oA 25 (.fa 39 (.t 24)),oA 26 (.iaa 16 1 (.t 25) (.t 23)),oA 27 (.ld (.t 26)),oM 4 27]) (.ret))
def c_1e : C :=
 .seq (.ops [oA 4 (.mov (.c (.int .u32 0)))]) (c1_1e)
def f_1e : F := ⟨c_1e, [.t 4], some []⟩
theorem h_1e : compF Tryz.prog (compAny Tryz.prog) n_1e = some (f_1e.body, f_1e.res) := by kernel_rfl
def c0_1i : C :=
 .ops [oM 11 0,oM 12 1,oM 13 2,oA 14 (.bin .and (.t 13) (.c (.int .u32 7))),oA 15 (.nilc (.t 11)),oA 16 (.fa 39 (.t 15)),oA 17 (.iaa 16 1 (.t 16) (.t 12)),oS (.st (.t 17) (.t 14))]
def c1_1i : C :=
 .ops [oM 20 0,oM 21 1,oM 22 2,oA 23 (.bin .and (.t 22) (.c (.int .u32 4294966279))),oA 24 (.nilc (.t 20)),oA 25 (.fa 39 (.t 24)),oA 26 (.iaa 16 1 (.t 25) (.t 21)),oS (.st (.t 26) (.t 23))]
def c2_1i : C :=
 .ops [oM 29 0,oM 30 1,oM 31 2,oA 32 (.bin .and (.t 31) (.c (.int .u32 4294966527))),oA 33 (.nilc (.t 29)),oA 34 (.fa 39 (.t 33)),oA 35 (.iaa 16 1 (.t 34) (.t 30)),oS (.st (.t 35) (.t 32))]
def c3_1i : C :=
 .any 0 [.op 0 (oM 53 0),.op 1 (oA 54 (.nilc (.t 53))),.op 2 (oA 55 (.fa 39 (.t 54))),.op 3 (oA 56 (.iaa 16 1 (.t 55) (.c (.int .i64 13)))),.op 4 (oA 57 (.ld (.t 56))),.op 5 (oA 58 (.bin .andNot (.t 57) (.c (.int .u32 32768)))),.op 6 (oA 59 (.nilc (.t 53))),.op 7 (oA 60 (.fa 39 (.t 59))),.op 8 (oA 61 (.iaa 16 1 (.t 60) (.c (.int .i64 13)))),.op 9 (oS (.st (.t 61) (.t 58)))]
def c4_1i : C :=
 .ops [oM 64 0,oM 65 1,oM 66 2,oA 67 (.bin .and (.t 66) (.c (.int .u32 65299))),oA 68 (.nilc (.t 64)),oA 69 (.fa 39 (.t 68)),oA 70 (.iaa 16 1 (.t 69) (.t 65)),oS (.st (.t 70) (.t 67))]
def c5_1i : C :=
 .any 0 [.op 2 (oM 75 0),.op 3 (oM 76 1),.op 4 (oA 77 (.nilc (.t 75))),.op 5 (oA 78 (.fa 39 (.t 77))),.op 6 (oA 79 (.iaa 16 1 (.t 78) (.t 76))),.op 7 (oA 80 (.ld (.t 79))),.op 0 (oM 73 0),.op 1 (oM 74 1),.op 8 (oA 81 (.bin .andNot (.t 80) (.c (.int .u32 768)))),.op 9 (oM 82 2),.op 10 (oA 83 (.bin .and (.t 82) (.c (.int .u32 768)))),.op 11 (oA 84 (.bin .or (.t 81) (.t 83))),.op 12 (oA 85 (.nilc (.t 73))),.op 13 (oA 86 (.fa 39 (.t 85))),.op 14 (oA 87 (.iaa 16 1 (.t 86) (.t 74))),.op 15 (oS (.st (.t 87) (.t 84)))]
def c6_1i : C :=
 .cond (.t 45) (.seq (.ops [oM 47 0,oM 48 1,oM 49 2,oA 50 (.nilc (.t 47)),oA 51 (.fa 39 (.t 50)),oA 52 (.iaa 16 1 (.t 51) (.t 48)),oS (.st (.t 52) (.t 49))]) (c3_1i)) (.seq (.ops [oA 63 (.bin .eql (.t 8) (.c (.int .i64 12))),oM 62 63]) (.cond (.t 62) (c4_1i) (.seq (.ops [oA 72 (.bin .eql (.t 8) (.c (.int .i64 13))),oM 71 72]) (.cond (.t 71) (c5_1i) (.skip)))))
def c7_1i : C :=
 .cond (.t 36) (.ops [oM 39 0,oM 40 1,oM 41 2,oA 42 (.nilc (.t 39)),oA 43 (.fa 39 (.t 42)),oA 44 (.iaa 16 1 (.t 43) (.t 40)),oS (.st (.t 44) (.t 41))]) (.seq (.ops [oA 46 (.bin .eql (.t 8) (.c (.int .i64 11))),oM 45 46]) (c6_1i))
def c8_1i : C :=
 .seq (.ops [oA 28 (.bin .eql (.t 8) (.c (.int .i64 10))),oM 27 28]) (.cond (.t 27) (c2_1i) (.seq (.seq (.ops [oA 37 (.bin .eql (.t 8) (.c (.int .i64 9))),oM 36 37]) (.cond (.t 36) (.skip) (.ops [oA 38 (.bin .eql (.t 8) (.c (.int .i64 14))),oM 36 38]))) (c7_1i)))
def c9_1i : C :=
 .seq (.ops [oM 8 1]) (.block 0 (.seq (.ops [oA 10 (.bin .eql (.t 8) (.c (.int .i64 0))),oM 9 10]) (.cond (.t 9) (c0_1i) (.seq (.ops [oA 19 (.bin .eql (.t 8) (.c (.int .i64 2))),oM 18 19]) (.cond (.t 18) (c1_1i) (c8_1i))))))
def c_1i : C :=
 .seq (.seq (.ops [oM 6 0,oA 7 (.eqn 0 false (.t 6))]) (.cond (.t 7) (.ret) (.skip))) (c9_1i)
def f_1i : F := ⟨c_1i, [], some []⟩
theorem h_1i : compF Tryz.prog (compAny Tryz.prog) n_1i = some (f_1i.body, f_1i.res) := by kernel_rfl
def c0_9l : C :=
 .seq (.ops [oM 16 0,oA 17 (.fa 0 (.t 2)),oA 18 (.ld (.t 17)),oA 19 (.call n_1i [(.t 16),(.c (.int .i64 10)),(.t 18)])]) (.ops [oM 20 0,oA 21 (.fa 1 (.t 2)),oA 22 (.ld (.t 21)),oA 23 (.call n_1i [(.t 20),(.c (.int .i64 2)),(.t 22)])])
def c1_9l : C :=
 .seq (.any 1 [.op 0 (oM 5 0),.op 1 (oM 6 0),.op 2 (oA 7 (.nilc (.t 6))),.op 3 (oA 8 (.fa 39 (.t 7))),.op 4 (oA 9 (.iaa 16 1 (.t 8) (.c (.int .i64 0)))),.op 5 (oA 10 (.ld (.t 9))),.op 6 (oA 11 (.bin .and (.t 10) (.c (.int .u32 7)))),.op 7 (oA 12 (.nilc (.t 5))),.op 8 (oA 13 (.fa 55 (.t 12))),.op 9 (oA 14 (.iaa 8 2 (.t 13) (.t 11))),.op 10 (oA 15 (.ldn 2 (.t 14))),.al 11 0 (oA 2 (.new [(.int .u32 0),(.int .u32 0)])),.op 12 (oS (.stn 2 (.t 2) (.t 15)))]) (c0_9l)
def c_9l : C :=
 .seq (.seq (.ops [oM 3 0,oA 4 (.eqn 0 false (.t 3))]) (.cond (.t 4) (.ret) (.skip))) (c1_9l)
def f_9l : F := ⟨c_9l, [], some []⟩
theorem h_9l : compF Tryz.prog (compAny Tryz.prog) n_9l = some (f_9l.body, f_9l.res) := by kernel_rfl
def c0_9o : C :=
 .any 0 [.op 2 (oM 18 0),.op 3 (oA 19 (.nilc (.t 18))),.op 4 (oA 20 (.fa 39 (.t 19))),.op 5 (oA 21 (.iaa 16 1 (.t 20) (.c (.int .i64 10)))),.op 6 (oA 22 (.ld (.t 21))),.op 7 (oM 23 0),.op 8 (oA 24 (.nilc (.t 23))),.op 9 (oA 25 (.fa 39 (.t 24))),.op 10 (oA 26 (.iaa 16 1 (.t 25) (.c (.int .i64 2)))),.op 11 (oA 27 (.ld (.t 26))),.op 0 (oM 16 0),.op 1 (oM 17 4),.op 12 (oA 28 (.build [(.int .u32 0),(.int .u32 0)] [(0,1,(.t 22)),(1,1,(.t 27))])),.op 13 (oA 29 (.nilc (.t 16))),.op 14 (oA 30 (.fa 55 (.t 29))),.op 15 (oA 31 (.iaa 8 2 (.t 30) (.t 17))),.op 16 (oS (.stn 2 (.t 31) (.t 28)))]
def c1_9o : C :=
 .seq (.ops [oM 7 0,oA 8 (.nilc (.t 7)),oA 9 (.fa 39 (.t 8)),oA 10 (.iaa 16 1 (.t 9) (.c (.int .i64 0))),oA 11 (.ld (.t 10)),oA 12 (.bin .and (.t 11) (.c (.int .u32 7))),oM 4 12]) (.seq (.seq (.ops [oM 13 1]) (.cond (.t 13) (.ops [oM 14 0,oA 15 (.call n_1e [(.t 14),(.c (.int .i64 1))]),oM 4 15]) (.skip))) (c0_9o))
def c_9o : C :=
 .seq (.seq (.ops [oM 5 0,oA 6 (.eqn 0 false (.t 5))]) (.cond (.t 6) (.ret) (.skip))) (c1_9o)
def f_9o : F := ⟨c_9o, [], some []⟩
theorem h_9o : compF Tryz.prog (compAny Tryz.prog) n_9o = some (f_9o.body, f_9o.res) := by kernel_rfl
def c0_9n : C :=
 .seq (.ops [oM 16 2,oA 17 (.bin .geq (.t 16) (.c (.int .i64 0)))]) (.cond (.t 17) (.ops [oM 18 0,oM 19 2,oA 20 (.conv .u32 (.t 19)),oA 21 (.nilc (.t 18)),oA 22 (.fa 39 (.t 21)),oA 23 (.iaa 16 1 (.t 22) (.c (.int .i64 0))),oS (.st (.t 23) (.t 20))]) (.skip))
def c1_9n : C :=
 .seq (.ops [oM 9 0,oM 10 0,oA 11 (.nilc (.t 10)),oA 12 (.fa 39 (.t 11)),oA 13 (.iaa 16 1 (.t 12) (.c (.int .i64 10))),oA 14 (.ld (.t 13)),oA 15 (.call n_9k [(.t 9),(.t 14)]),oM 2 15]) (c0_9n)
def c_9n : C :=
 .seq (.seq (.ops [oM 3 0,oA 4 (.eqn 0 false (.t 3))]) (.cond (.t 4) (.ret) (.skip))) (.seq (.ops [oM 5 0,oA 6 (.nilc (.t 5)),oA 7 (.fa 39 (.t 6)),oA 8 (.iaa 16 1 (.t 7) (.c (.int .i64 0))),oS (.st (.t 8) (.c (.int .u32 2147483648)))]) (c1_9n))
def f_9n : F := ⟨c_9n, [], some []⟩
theorem h_9n : compF Tryz.prog (compAny Tryz.prog) n_9n = some (f_9n.body, f_9n.res) := by kernel_rfl
def c0_00 : C :=
 .seq (.ops [oM 18 8,oM 19 2,oA 20 (.fa 4 (.t 3)),oA 21 (.ld (.t 20)),oA 22 (.bin .and (.t 21) (.c (.int .i64 31))),oA 23 (.call n_07 [(.t 18),(.t 19),(.t 22)]),oM 6 23,oA 7 (.mov (.c (.bool true)))]) (.ret)
def c1_00 : C :=
 .seq (.ops [oM 27 8,oM 28 2,oM 29 1,oA 30 (.bin .and (.t 29) (.c (.int .u32 31))),oA 31 (.conv .i64 (.t 30)),oA 32 (.call n_07 [(.t 27),(.t 28),(.t 31)]),oM 6 32,oA 7 (.mov (.c (.bool true)))]) (.ret)
def c2_00 : C :=
 .seq (.ops [oM 34 8,oA 35 (.bin .geq (.t 34) (.c (.int .i64 46))),oM 36 35,oT 37 36 (.mov (.t 8)),oT 38 36 (.bin .leq (.t 37) (.c (.int .i64 53))),oA 39 (.pick (.t 36) (.t 38) (.c (.bool false))),oM 33 39]) (.cond (.t 33) (.seq (.ops [oA 40 (.ldn 6 (.t 3)),oM 41 1,oA 42 (.call n_08 [(.t 40),(.t 41)]),oM 6 42,oA 7 (.mov (.c (.bool true)))]) (.ret)) (.skip))
def c3_00 : C :=
 .seq (.ops [oM 16 8,oA 17 (.bin .leq (.t 16) (.c (.int .i64 3))),oM 15 17]) (.cond (.t 15) (c0_00) (.seq (.ops [oM 25 8,oA 26 (.bin .leq (.t 25) (.c (.int .i64 6))),oM 24 26]) (.cond (.t 24) (c1_00) (c2_00))))
def c4_00 : C :=
 .seq (.seq (.ops [oA 9 (.fa 0 (.t 3)),oA 10 (.ld (.t 9)),oM 8 10]) (.block 0 (.seq (.ops [oM 12 8,oA 13 (.call n_03 [(.t 12)]),oA 14 (.un .not (.t 13)),oM 11 14]) (.cond (.t 11) (.seq (.ops [oA 6 (.mov (.c (.int .u32 0))),oA 7 (.mov (.c (.bool false)))]) (.ret)) (c3_00))))) (.seq (.ops [oA 43 (.fa 0 (.t 3)),oA 44 (.ld (.t 43)),oM 45 1,oM 46 2,oA 47 (.call n_05 [(.t 44),(.t 45),(.t 46)]),oM 6 47,oA 7 (.mov (.c (.bool true)))]) (.ret))
def c_00 : C :=
 .seq (.ops [oA 3 (.box (.t 0)),oA 6 (.mov (.c (.int .u32 0))),oA 7 (.mov (.c (.bool false)))]) (c4_00)
def f_00 : F := ⟨c_00, [.t 6, .t 7], some []⟩
theorem h_00 : compF Tryz.prog (compAny Tryz.prog) n_00 = some (f_00.body, f_00.res) := by kernel_rfl
def c0_02 : C :=
 .seq (.ops [oA 9 (.fa 0 (.t 1)),oA 10 (.ld (.t 9)),oA 11 (.bin .geq (.t 10) (.c (.int .i64 46))),oM 12 11,oT 13 12 (.fa 0 (.t 1)),oT 14 12 (.ld (.t 13)),oT 15 12 (.bin .leq (.t 14) (.c (.int .i64 53))),oA 16 (.pick (.t 12) (.t 15) (.c (.bool false))),oM 8 16]) (.cond (.t 8) (.seq (.ops [oA 17 (.fa 2 (.t 1)),oA 18 (.ld (.t 17)),oM 2 18]) (.ret)) (.skip))
def c1_02 : C :=
 .seq (.block 0 (.seq (.ops [oA 4 (.fa 0 (.t 1)),oA 5 (.ld (.t 4)),oA 6 (.call n_03 [(.t 5)]),oA 7 (.un .not (.t 6)),oM 3 7]) (.cond (.t 3) (.seq (.ops [oA 2 (.mov (.c (.int .i64 0)))]) (.ret)) (c0_02)))) (.seq (.ops [oA 19 (.fa 3 (.t 1)),oA 20 (.ld (.t 19)),oM 2 20]) (.ret))
def c_02 : C :=
 .seq (.ops [oA 1 (.box (.t 0)),oA 2 (.mov (.c (.int .i64 0)))]) (c1_02)
def f_02 : F := ⟨c_02, [.t 2], some []⟩
theorem h_02 : compF Tryz.prog (compAny Tryz.prog) n_02 = some (f_02.body, f_02.res) := by kernel_rfl
def c0_01 : C :=
 .ops [oM 21 1,oM 22 2,oA 23 (.fa 0 (.t 5)),oA 24 (.ld (.t 23)),oA 25 (.bin .eql (.t 24) (.c (.int .i64 18))),oA 26 (.call n_0j1 [(.t 21),(.t 22),(.t 25)]),oM 20 26,oA 27 (.ext (.t 20) 0),oA 28 (.ext (.t 20) 1),oM 3 27,oM 4 28]
def c1_01 : C :=
 .ops [oM 33 1,oM 34 2,oA 35 (.fa 0 (.t 5)),oA 36 (.ld (.t 35)),oA 37 (.bin .eql (.t 36) (.c (.int .i64 20))),oA 38 (.call n_0h1 [(.t 33),(.t 34),(.t 37)]),oM 32 38,oA 39 (.ext (.t 32) 0),oA 40 (.ext (.t 32) 1),oM 4 39,oM 3 40]
def c2_01 : C :=
 .seq (.ops [oA 45 (.bin .eql (.t 14) (.c (.int .i64 17))),oM 44 45]) (.cond (.t 44) (.ops [oM 46 1,oM 4 46]) (.seq (.ops [oM 15 3,oM 16 4,oM 10 15,oM 11 16,oA 12 (.mov (.c (.bool false)))]) (.ret)))
def c3_01 : C :=
 .seq (.seq (.ops [oA 30 (.bin .eql (.t 14) (.c (.int .i64 20))),oM 29 30]) (.cond (.t 29) (.skip) (.ops [oA 31 (.bin .eql (.t 14) (.c (.int .i64 21))),oM 29 31]))) (.cond (.t 29) (c1_01) (.seq (.ops [oA 42 (.bin .eql (.t 14) (.c (.int .i64 15))),oM 41 42]) (.cond (.t 41) (.ops [oM 43 1,oM 3 43]) (c2_01))))
def c4_01 : C :=
 .seq (.seq (.ops [oA 13 (.fa 0 (.t 5)),oA 14 (.ld (.t 13))]) (.block 0 (.seq (.seq (.ops [oA 18 (.bin .eql (.t 14) (.c (.int .i64 18))),oM 17 18]) (.cond (.t 17) (.skip) (.ops [oA 19 (.bin .eql (.t 14) (.c (.int .i64 19))),oM 17 19]))) (.cond (.t 17) (c0_01) (c3_01))))) (.seq (.ops [oM 47 3,oM 48 4,oM 10 47,oM 11 48,oA 12 (.mov (.c (.bool true)))]) (.ret))
def c_01 : C :=
 .seq (.ops [oA 5 (.box (.t 0)),oA 10 (.mov (.c (.int .u32 0))),oA 11 (.mov (.c (.int .u32 0))),oA 12 (.mov (.c (.bool false)))]) (c4_01)
def f_01 : F := ⟨c_01, [.t 10, .t 11, .t 12], some []⟩
theorem h_01 : compF Tryz.prog (compAny Tryz.prog) n_01 = some (f_01.body, f_01.res) := by kernel_rfl
def c0_0e : C :=
 .seq (.ops [oA 14 (.bin .eql (.t 11) (.c (.int .i64 41))),oM 12 14]) (.cond (.t 12) (.skip) (.seq (.ops [oA 15 (.bin .eql (.t 11) (.c (.int .i64 7))),oM 12 15]) (.cond (.t 12) (.skip) (.ops [oA 16 (.bin .eql (.t 11) (.c (.int .i64 8))),oM 12 16]))))
def c1_0e : C :=
 .cond (.t 37) (.seq (.ops [oM 39 7,oA 40 (.bin .leq (.t 39) (.c (.int .i32 0))),oM 6 40]) (.ret)) (.seq (.ops [oA 42 (.bin .eql (.t 11) (.c (.int .i64 45))),oM 41 42]) (.cond (.t 41) (.seq (.ops [oM 43 7,oA 44 (.bin .gtr (.t 43) (.c (.int .i32 0))),oM 6 44]) (.ret)) (.skip)))
def c2_0e : C :=
 .seq (.seq (.ops [oA 33 (.bin .eql (.t 11) (.c (.int .i64 37))),oM 32 33]) (.cond (.t 32) (.skip) (.ops [oA 34 (.bin .eql (.t 11) (.c (.int .i64 39))),oM 32 34]))) (.cond (.t 32) (.seq (.ops [oM 35 7,oA 36 (.bin .geq (.t 35) (.c (.int .i32 0))),oM 6 36]) (.ret)) (.seq (.ops [oA 38 (.bin .eql (.t 11) (.c (.int .i64 44))),oM 37 38]) (c1_0e)))
def c3_0e : C :=
 .seq (.seq (.ops [oA 28 (.bin .eql (.t 11) (.c (.int .i64 36))),oM 27 28]) (.cond (.t 27) (.skip) (.ops [oA 29 (.bin .eql (.t 11) (.c (.int .i64 38))),oM 27 29]))) (.cond (.t 27) (.seq (.ops [oM 30 7,oA 31 (.bin .lss (.t 30) (.c (.int .i32 0))),oM 6 31]) (.ret)) (c2_0e))
def c4_0e : C :=
 .cond (.t 17) (.seq (.ops [oM 19 1,oM 20 2,oA 21 (.bin .eql (.t 19) (.t 20)),oM 6 21]) (.ret)) (.seq (.ops [oA 23 (.bin .eql (.t 11) (.c (.int .i64 43))),oM 22 23]) (.cond (.t 22) (.seq (.ops [oM 24 1,oM 25 2,oA 26 (.bin .neq (.t 24) (.t 25)),oM 6 26]) (.ret)) (c3_0e)))
def c5_0e : C :=
 .block 0 (.seq (.seq (.ops [oA 13 (.bin .eql (.t 11) (.c (.int .i64 40))),oM 12 13]) (.cond (.t 12) (.skip) (c0_0e))) (.cond (.t 12) (.seq (.ops [oA 6 (.mov (.c (.bool true)))]) (.ret)) (.seq (.ops [oA 18 (.bin .eql (.t 11) (.c (.int .i64 42))),oM 17 18]) (c4_0e))))
def c_0e : C :=
 .seq (.ops [oA 3 (.box (.t 0)),oA 6 (.mov (.c (.bool false)))]) (.seq (.ops [oM 8 1,oA 9 (.conv .i32 (.t 8)),oM 7 9]) (.seq (.seq (.ops [oA 10 (.fa 0 (.t 3)),oA 11 (.ld (.t 10))]) (c5_0e)) (.seq (.ops [oA 6 (.mov (.c (.bool false)))]) (.ret))))
def f_0e : F := ⟨c_0e, [.t 6], some []⟩
theorem h_0e : compF Tryz.prog (compAny Tryz.prog) n_0e = some (f_0e.body, f_0e.res) := by kernel_rfl
def c0_0f : C :=
 .seq (.ops [oM 24 7,oA 25 (.bin .and (.t 24) (.c (.int .u32 4026531840))),oA 26 (.fa 5 (.t 3)),oA 27 (.ld (.t 26)),oA 28 (.bin .and (.t 27) (.c (.int .u32 67108863))),oA 29 (.bin .mul (.t 28) (.c (.int .u32 4))),oA 30 (.bin .or (.t 25) (.t 29)),oM 6 30]) (.ret)
def c1_0f : C :=
 .seq (.ops [oA 32 (.fa 0 (.t 3)),oA 33 (.ld (.t 32)),oA 34 (.bin .eql (.t 33) (.c (.int .i64 7))),oM 35 34,oF 36 35 (.fa 0 (.t 3)),oF 37 35 (.ld (.t 36)),oF 38 35 (.bin .eql (.t 37) (.c (.int .i64 8))),oA 39 (.pick (.t 35) (.c (.bool true)) (.t 38)),oM 31 39]) (.cond (.t 31) (.seq (.ops [oM 40 2,oM 6 40]) (.ret)) (.skip))
def c2_0f : C :=
 .seq (.ops [oA 16 (.fa 0 (.t 3)),oA 17 (.ld (.t 16)),oA 18 (.bin .eql (.t 17) (.c (.int .i64 40))),oM 19 18,oF 20 19 (.fa 0 (.t 3)),oF 21 19 (.ld (.t 20)),oF 22 19 (.bin .eql (.t 21) (.c (.int .i64 41))),oA 23 (.pick (.t 19) (.c (.bool true)) (.t 22)),oM 15 23]) (.cond (.t 15) (c0_0f) (c1_0f))
def c3_0f : C :=
 .seq (.ops [oM 41 7,oA 42 (.fa 5 (.t 3)),oA 43 (.ld (.t 42)),oA 44 (.call n_0m1 [(.t 43),(.c (.int .i64 16))]),oA 45 (.bin .mul (.t 44) (.c (.int .u32 4))),oA 46 (.bin .add (.t 41) (.t 45)),oM 6 46]) (.ret)
def c4_0f : C :=
 .seq (.block 0 (.seq (.ops [oA 11 (.ldn 6 (.t 3)),oA 12 (.call n_1z [(.t 11)]),oA 13 (.bin .neq (.t 12) (.c (.int .i64 3))),oM 10 13]) (.cond (.t 10) (.seq (.ops [oM 14 7,oM 6 14]) (.ret)) (c2_0f)))) (c3_0f)
def c_0f : C :=
 .seq (.ops [oA 3 (.box (.t 0)),oA 6 (.mov (.c (.int .u32 0)))]) (.seq (.ops [oM 8 1,oA 9 (.bin .add (.t 8) (.c (.int .u32 4))),oM 7 9]) (c4_0f))
def f_0f : F := ⟨c_0f, [.t 6], some []⟩
theorem h_0f : compF Tryz.prog (compAny Tryz.prog) n_0f = some (f_0f.body, f_0f.res) := by kernel_rfl
def c0_0d : C :=
 .cond (.t 6) (.seq (.ops [oA 2 (.mov (.c (.int .i64 31))),oA 3 (.mov (.c (.bool true)))]) (.ret)) (.seq (.ops [oA 11 (.bin .eql (.t 5) (.c (.int .i64 8))),oM 10 11]) (.cond (.t 10) (.seq (.ops [oA 12 (.fa 3 (.t 1)),oA 13 (.ld (.t 12)),oM 2 13,oA 3 (.mov (.c (.bool true)))]) (.ret)) (.skip)))
def c1_0d : C :=
 .block 0 (.seq (.seq (.ops [oA 7 (.bin .eql (.t 5) (.c (.int .i64 41))),oM 6 7]) (.cond (.t 6) (.skip) (.seq (.ops [oA 8 (.bin .eql (.t 5) (.c (.int .i64 38))),oM 6 8]) (.cond (.t 6) (.skip) (.ops [oA 9 (.bin .eql (.t 5) (.c (.int .i64 39))),oM 6 9]))))) (c0_0d))
def c_0d : C :=
 .seq (.ops [oA 1 (.box (.t 0)),oA 2 (.mov (.c (.int .i64 0))),oA 3 (.mov (.c (.bool false)))]) (.seq (.seq (.ops [oA 4 (.fa 0 (.t 1)),oA 5 (.ld (.t 4))]) (c1_0d)) (.seq (.ops [oA 2 (.mov (.c (.int .i64 0))),oA 3 (.mov (.c (.bool false)))]) (.ret)))
def f_0d : F := ⟨c_0d, [.t 2, .t 3], some []⟩
theorem h_0d : compF Tryz.prog (compAny Tryz.prog) n_0d = some (f_0d.body, f_0d.res) := by kernel_rfl
def c0_9k : C :=
 .seq (.any 0 [.op 0 (oA 24 (.fa 1 (.t 7))),.op 1 (oA 25 (.ld (.t 24))),.op 2 (oA 26 (.bin .and (.t 25) (.c (.int .u32 4)))),.op 3 (oA 27 (.bin .neq (.t 26) (.c (.int .u32 0)))),.op 4 (oM 28 27),.op 5 (oF 29 28 (.fa 0 (.t 7))),.op 6 (oF 30 28 (.ld (.t 29))),.op 7 (oF 31 28 (.mov (.t 0))),.op 8 (oF 32 28 (.nilc (.t 31))),.op 9 (oF 33 28 (.fa 39 (.t 32))),.op 10 (oF 34 28 (.iaa 16 1 (.t 33) (.c (.int .i64 10)))),.op 11 (oF 35 28 (.ld (.t 34))),.op 12 (oF 36 28 (.bin .xor (.t 30) (.t 35))),.op 13 (oF 37 28 (.bin .and (.t 36) (.c (.int .u32 255)))),.op 14 (oF 38 28 (.bin .eql (.t 37) (.c (.int .u32 0)))),.op 15 (oA 39 (.pick (.t 28) (.c (.bool true)) (.t 38)))]) (.cond (.t 39) (.seq (.ops [oM 40 6,oM 5 40]) (.exit 0)) (.skip))
def c1_9k : C :=
 .seq (.seq (.ops [oA 18 (.fa 0 (.t 7)),oA 19 (.ld (.t 18)),oM 20 1,oA 21 (.bin .xor (.t 19) (.t 20)),oA 22 (.bin .and (.t 21) (.c (.int .u32 4294966272))),oA 23 (.bin .neq (.t 22) (.c (.int .u32 0)))]) (.cond (.t 23) (.exit 1) (.skip))) (c0_9k)
def c2_9k : C :=
 .seq (.block 1 (.seq (.ops [oM 16 14,oA 17 (.ixan 8 2 (.t 13) (.t 14)),oA 7 (.new [(.int .u32 0),(.int .u32 0)]),oM 6 16,oS (.stn 2 (.t 7) (.t 17))]) (c1_9k))) (.ops [oA 41 (.bin .add (.t 14) (.c (.int .i64 1))),oM 14 41])
def c3_9k : C :=
 .seq (.ops [oA 15 (.bin .lss (.t 14) (.c (.int .i64 8)))]) (.seq (.cond (.t 15) (.skip) (.exit 0)) (c2_9k))
def c4_9k : C :=
 .seq (.seq (.ops [oM 10 0,oA 11 (.nilc (.t 10)),oA 12 (.fa 55 (.t 11)),oA 13 (.ldn 16 (.t 12)),oA 14 (.mov (.c (.int .i64 0)))]) (.block 0 (.loop c3_9k))) (.seq (.ops [oM 42 5,oM 4 42]) (.ret))
def c_9k : C :=
 .seq (.ops [oA 4 (.mov (.c (.int .i64 0)))]) (.seq (.seq (.ops [oM 8 0,oA 9 (.eqn 0 false (.t 8))]) (.cond (.t 9) (.seq (.ops [oA 4 (.mov (.c (.int .i64 0)))]) (.ret)) (.skip))) (.seq (.ops [oA 5 (.mov (.c (.int .i64 (-1))))]) (.seq (.skip) (c4_9k))))
def f_9k : F := ⟨c_9k, [.t 4], some []⟩
theorem h_9k : compF Tryz.prog (compAny Tryz.prog) n_9k = some (f_9k.body, f_9k.res) := by kernel_rfl
def c_40 : C :=
 .seq (.ops [oA 2 (.mov (.c (.slice none 0 0)))]) (.seq (.ops [oM 3 0,oA 4 (.call n_3z [(.t 3)]),oA 5 (.call n_3x [(.t 4)]),oM 2 5]) (.ret))
def f_40 : F := ⟨c_40, [.t 2], some []⟩
theorem h_40 : compF Tryz.prog (compAny Tryz.prog) n_40 = some (f_40.body, f_40.res) := by kernel_rfl
def c0_3f : C :=
 .seq (.ops [oA 25 (.fa 2 (.t 1)),oA 26 (.ld (.t 25)),oA 27 (.fa 5 (.t 1)),oA 28 (.ld (.t 27)),oA 29 (.bin .shl (.t 28) (.c (.int .u64 16))),oA 30 (.build [(.int .i64 0),(.int .i64 0),(.int .i64 0),(.int .i64 0),(.int .u32 0)] [(0,1,(.c (.int .i64 1))),(1,1,(.t 26)),(4,1,(.t 29))]),oA 31 (.bsl 1 [(.int .i64 0),(.int .i64 0),(.int .i64 0),(.int .i64 0),(.int .u32 0)] [(0,5,(.t 30))]),oM 2 31]) (.ret)
def c1_3f : C :=
 .seq (.ops [oA 35 (.fa 3 (.t 1)),oA 36 (.ld (.t 35)),oA 37 (.build [(.int .i64 0),(.int .i64 0),(.int .i64 0),(.int .i64 0),(.int .u32 0)] [(0,1,(.c (.int .i64 2))),(1,1,(.t 36)),(2,1,(.c (.int .i64 32)))]),oA 38 (.bsl 1 [(.int .i64 0),(.int .i64 0),(.int .i64 0),(.int .i64 0),(.int .u32 0)] [(0,5,(.t 37))]),oM 2 38]) (.ret)
def c2_3f : C :=
 .seq (.ops [oA 42 (.fa 3 (.t 1)),oA 43 (.ld (.t 42)),oA 44 (.build [(.int .i64 0),(.int .i64 0),(.int .i64 0),(.int .i64 0),(.int .u32 0)] [(0,1,(.c (.int .i64 2))),(1,1,(.t 43)),(2,1,(.c (.int .i64 33)))]),oA 45 (.bsl 1 [(.int .i64 0),(.int .i64 0),(.int .i64 0),(.int .i64 0),(.int .u32 0)] [(0,5,(.t 44))]),oM 2 45]) (.ret)
def c3_3f : C :=
 .seq (.ops [oA 49 (.fa 1 (.t 1)),oA 50 (.ld (.t 49)),oA 51 (.build [(.int .i64 0),(.int .i64 0),(.int .i64 0),(.int .i64 0),(.int .u32 0)] [(0,1,(.c (.int .i64 2))),(1,1,(.c (.int .i64 32))),(2,1,(.t 50))]),oA 52 (.bsl 1 [(.int .i64 0),(.int .i64 0),(.int .i64 0),(.int .i64 0),(.int .u32 0)] [(0,5,(.t 51))]),oM 2 52]) (.ret)
def c4_3f : C :=
 .seq (.ops [oA 56 (.fa 1 (.t 1)),oA 57 (.ld (.t 56)),oA 58 (.build [(.int .i64 0),(.int .i64 0),(.int .i64 0),(.int .i64 0),(.int .u32 0)] [(0,1,(.c (.int .i64 2))),(1,1,(.c (.int .i64 33))),(2,1,(.t 57))]),oA 59 (.bsl 1 [(.int .i64 0),(.int .i64 0),(.int .i64 0),(.int .i64 0),(.int .u32 0)] [(0,5,(.t 58))]),oM 2 59]) (.ret)
def c5_3f : C :=
 .seq (.any 1 [.op 0 (oA 63 (.fa 4 (.t 1))),.op 1 (oA 64 (.ld (.t 63))),.op 6 (oA 69 (.fa 3 (.t 1))),.op 7 (oA 70 (.ld (.t 69))),.op 8 (oA 71 (.fa 2 (.t 1))),.op 9 (oA 72 (.ld (.t 71))),.op 4 (oM 67 3),.op 5 (oA 68 (.call n_3h [(.t 67)])),.re 1 (oA 64 (.ld (.t 63))),.re 7 (oA 70 (.ld (.t 69))),.re 9 (oA 72 (.ld (.t 71))),.op 2 (oA 65 (.conv .u32 (.t 64))),.op 3 (oA 66 (.build [(.int .i64 0),(.int .i64 0),(.int .i64 0),(.int .i64 0),(.int .u32 0)] [(0,1,(.c (.int .i64 1))),(1,1,(.c (.int .i64 34))),(4,1,(.t 65))])),.op 10 (oA 73 (.build [(.int .i64 0),(.int .i64 0),(.int .i64 0),(.int .i64 0),(.int .u32 0)] [(0,1,(.t 68)),(1,1,(.t 70)),(2,1,(.t 72)),(3,1,(.c (.int .i64 34)))])),.al 11 0 (oA 74 (.bsl 2 [(.int .i64 0),(.int .i64 0),(.int .i64 0),(.int .i64 0),(.int .u32 0),(.int .i64 0),(.int .i64 0),(.int .i64 0),(.int .i64 0),(.int .u32 0)] [(0,5,(.t 66)),(5,5,(.t 73))])),.op 12 (oM 2 74)]) (.ret)
def c6_3f : C :=
 .seq (.any 1 [.op 2 (oA 80 (.fa 3 (.t 1))),.op 3 (oA 81 (.ld (.t 80))),.op 4 (oA 82 (.fa 2 (.t 1))),.op 5 (oA 83 (.ld (.t 82))),.op 6 (oA 84 (.fa 1 (.t 1))),.op 7 (oA 85 (.ld (.t 84))),.op 0 (oM 78 3),.op 1 (oA 79 (.call n_3h [(.t 78)])),.re 3 (oA 81 (.ld (.t 80))),.re 5 (oA 83 (.ld (.t 82))),.re 7 (oA 85 (.ld (.t 84))),.op 8 (oA 86 (.build [(.int .i64 0),(.int .i64 0),(.int .i64 0),(.int .i64 0),(.int .u32 0)] [(0,1,(.t 79)),(1,1,(.t 81)),(2,1,(.t 83)),(3,1,(.t 85))])),.al 9 0 (oA 87 (.bsl 1 [(.int .i64 0),(.int .i64 0),(.int .i64 0),(.int .i64 0),(.int .u32 0)] [(0,5,(.t 86))])),.op 10 (oM 2 87)]) (.ret)
def c7_3f : C :=
 .seq (.any 1 [.op 0 (oA 102 (.ldn 6 (.t 1))),.op 5 (oA 107 (.fa 2 (.t 1))),.op 6 (oA 108 (.ld (.t 107))),.op 7 (oA 109 (.fa 1 (.t 1))),.op 8 (oA 110 (.ld (.t 109))),.op 1 (oA 103 (.call n_3g [(.t 102)])),.re 6 (oA 108 (.ld (.t 107))),.re 8 (oA 110 (.ld (.t 109))),.op 3 (oM 105 3),.op 4 (oA 106 (.call n_3h [(.t 105)])),.re 6 (oA 108 (.ld (.t 107))),.re 8 (oA 110 (.ld (.t 109))),.op 2 (oA 104 (.build [(.int .i64 0),(.int .i64 0),(.int .i64 0),(.int .i64 0),(.int .u32 0)] [(0,1,(.c (.int .i64 1))),(1,1,(.c (.int .i64 34))),(4,1,(.t 103))])),.op 9 (oA 111 (.build [(.int .i64 0),(.int .i64 0),(.int .i64 0),(.int .i64 0),(.int .u32 0)] [(0,1,(.t 106)),(1,1,(.t 108)),(2,1,(.t 110)),(3,1,(.c (.int .i64 34)))])),.al 10 0 (oA 112 (.bsl 2 [(.int .i64 0),(.int .i64 0),(.int .i64 0),(.int .i64 0),(.int .u32 0),(.int .i64 0),(.int .i64 0),(.int .i64 0),(.int .i64 0),(.int .u32 0)] [(0,5,(.t 104)),(5,5,(.t 111))])),.op 11 (oM 2 112)]) (.ret)
def c8_3f : C :=
 .seq (.any 0 [.op 0 (oA 89 (.ldn 6 (.t 1))),.op 2 (oA 91 (.fa 2 (.t 1))),.op 3 (oA 92 (.ld (.t 91))),.op 1 (oA 90 (.call n_02 [(.t 89)])),.re 3 (oA 92 (.ld (.t 91))),.op 4 (oA 93 (.bin .eql (.t 90) (.t 92))),.op 5 (oM 94 93),.op 6 (oT 95 94 (.mov (.t 3))),.op 7 (oT 96 94 (.bin .geq (.t 95) (.c (.int .i64 46)))),.op 8 (oA 97 (.pick (.t 94) (.t 96) (.c (.bool false)))),.op 9 (oM 98 97),.op 10 (oT 99 98 (.mov (.t 3))),.op 11 (oT 100 98 (.bin .leq (.t 99) (.c (.int .i64 52)))),.op 12 (oA 101 (.pick (.t 98) (.t 100) (.c (.bool false)))),.op 13 (oM 88 101)]) (.cond (.t 88) (c7_3f) (.skip))
def c9_3f : C :=
 .seq (.ops [oM 61 3,oA 62 (.bin .leq (.t 61) (.c (.int .i64 3))),oM 60 62]) (.cond (.t 60) (c5_3f) (.seq (.ops [oM 76 3,oA 77 (.bin .leq (.t 76) (.c (.int .i64 6))),oM 75 77]) (.cond (.t 75) (c6_3f) (c8_3f))))
def c10_3f : C :=
 .seq (.ops [oM 47 3,oA 48 (.bin .eql (.t 47) (.c (.int .i64 15))),oM 46 48]) (.cond (.t 46) (c3_3f) (.seq (.ops [oM 54 3,oA 55 (.bin .eql (.t 54) (.c (.int .i64 17))),oM 53 55]) (.cond (.t 53) (c4_3f) (c9_3f))))
def c11_3f : C :=
 .seq (.ops [oM 33 3,oA 34 (.bin .eql (.t 33) (.c (.int .i64 14))),oM 32 34]) (.cond (.t 32) (c1_3f) (.seq (.ops [oM 40 3,oA 41 (.bin .eql (.t 40) (.c (.int .i64 16))),oM 39 41]) (.cond (.t 39) (c2_3f) (c10_3f))))
def c12_3f : C :=
 .seq (.any 1 [.op 2 (oA 115 (.fa 3 (.t 1))),.op 3 (oA 116 (.ld (.t 115))),.op 4 (oA 117 (.fa 1 (.t 1))),.op 5 (oA 118 (.ld (.t 117))),.op 6 (oA 119 (.fa 2 (.t 1))),.op 7 (oA 120 (.ld (.t 119))),.op 0 (oM 113 3),.op 1 (oA 114 (.call n_3h [(.t 113)])),.re 3 (oA 116 (.ld (.t 115))),.re 5 (oA 118 (.ld (.t 117))),.re 7 (oA 120 (.ld (.t 119))),.op 8 (oA 121 (.build [(.int .i64 0),(.int .i64 0),(.int .i64 0),(.int .i64 0),(.int .u32 0)] [(0,1,(.t 114)),(1,1,(.t 116)),(2,1,(.t 118)),(3,1,(.t 120))])),.al 9 0 (oA 122 (.bsl 1 [(.int .i64 0),(.int .i64 0),(.int .i64 0),(.int .i64 0),(.int .u32 0)] [(0,5,(.t 121))])),.op 10 (oM 2 122)]) (.ret)
def c13_3f : C :=
 .seq (.block 0 (.seq (.ops [oA 7 (.ldn 6 (.t 1)),oA 8 (.call n_3e [(.t 7)]),oA 9 (.un .not (.t 8)),oM 10 9,oF 11 10 (.mov (.t 3)),oF 12 10 (.bin .eql (.t 11) (.c (.int .i64 13))),oA 13 (.pick (.t 10) (.c (.bool true)) (.t 12)),oM 14 13,oF 15 14 (.mov (.t 3)),oF 16 14 (.bin .eql (.t 15) (.c (.int .i64 76))),oA 17 (.pick (.t 14) (.c (.bool true)) (.t 16)),oM 18 17,oF 19 18 (.mov (.t 3)),oF 20 18 (.bin .eql (.t 19) (.c (.int .i64 77))),oA 21 (.pick (.t 18) (.c (.bool true)) (.t 20)),oM 6 21]) (.cond (.t 6) (.seq (.ops [oA 2 (.mov (.c (.slice none 0 0)))]) (.ret)) (.seq (.ops [oM 23 3,oA 24 (.bin .eql (.t 23) (.c (.int .i64 53))),oM 22 24]) (.cond (.t 22) (c0_3f) (c11_3f)))))) (c12_3f)
def c_3f : C :=
 .seq (.ops [oA 1 (.box (.t 0)),oA 2 (.mov (.c (.slice none 0 0)))]) (.seq (.ops [oA 4 (.fa 0 (.t 1)),oA 5 (.ld (.t 4)),oM 3 5]) (c13_3f))
def f_3f : F := ⟨c_3f, [.t 2], some []⟩
theorem h_3f : compF Tryz.prog (compAny Tryz.prog) n_3f = some (f_3f.body, f_3f.res) := by kernel_rfl
def c0_39 : C :=
 .seq (.block 1 (.seq (.ops [oA 20 (.ia 5 (.t 16) (.t 18)),oA 21 (.ldn 5 (.t 20)),oA 6 (.new [(.int .i64 0),(.int .i64 0),(.int .i64 0),(.int .i64 0),(.int .u32 0)]),oS (.stn 5 (.t 6) (.t 21))]) (.ops [oM 22 0,oA 23 (.ldn 5 (.t 6)),oA 24 (.call n_37 [(.t 22),(.t 23)])]))) (.ops [oA 25 (.bin .add (.t 18) (.c (.int .i64 1))),oM 18 25])
def c1_39 : C :=
 .seq (.ops [oA 19 (.bin .lss (.t 18) (.t 17))]) (.seq (.cond (.t 19) (.skip) (.exit 0)) (c0_39))
def c2_39 : C :=
 .seq (.ops [oM 13 0,oA 14 (.nilc (.t 13)),oA 15 (.iaa 40 1 (.t 14) (.c (.int .i64 0))),oS (.st (.t 15) (.c (.int .u32 0)))]) (.seq (.seq (.ops [oM 16 1,oA 17 (.len 1 (.t 16)),oA 18 (.mov (.c (.int .i64 0)))]) (.block 0 (.loop c1_39))) (.seq (.ops [oA 4 (.mov (.c (.bool true)))]) (.ret)))
def c3_39 : C :=
 .seq (.seq (.ops [oM 7 0,oA 8 (.eqn 0 false (.t 7)),oM 9 8,oF 10 9 (.mov (.t 1)),oF 11 9 (.call n_8i [(.t 10),(.f n_3a)]),oA 12 (.pick (.t 9) (.c (.bool true)) (.t 11))]) (.cond (.t 12) (.seq (.ops [oA 4 (.mov (.c (.bool false)))]) (.ret)) (.skip))) (c2_39)
def c_39 : C :=
 .seq (.ops [oA 4 (.mov (.c (.bool false)))]) (c3_39)
def f_39 : F := ⟨c_39, [.t 4], some []⟩
theorem h_39 : compF Tryz.prog (compAny Tryz.prog) n_39 = some (f_39.body, f_39.res) := by kernel_rfl
def c_9g : C :=
 .seq (.ops [oA 2 (.mov (.c (.bool false)))]) (.seq (.ops [oM 3 0,oA 4 (.nilc (.t 3)),oA 5 (.fa 4 (.t 4)),oA 6 (.ld (.t 5)),oA 7 (.bin .neq (.t 6) (.c (.int .u32 0))),oM 2 7]) (.ret))
def f_9g : F := ⟨c_9g, [.t 2], some []⟩
theorem h_9g : compF Tryz.prog (compAny Tryz.prog) n_9g = some (f_9g.body, f_9g.res) := by kernel_rfl
end Go.Proofs.YtoiiphcbkejliaaGreat.Cd
