/- Texts of one kind, one behind the other. -/
import Derived.Test.YtmgoleiafiffoaaGreatMcz0
import Derived.Test.YtmgoleiafiffoaaGreatMc0
/- Memory in one form: blocks that were pushed, with what they hold now. -/
set_option linter.unusedSimpArgs false
set_option linter.unusedVariables false
namespace Go.Dx
open Go
section
variable {g h : Hp} {o p : Ob} {x y : Option Ob} {b c k n : Nat} {ro : Bool} {C : List Value}
@[simp] theorem put_push_eq (hb : b ≤ h.next ∧ h.next ≤ b) : (h.push o).put b (some p) = h.push p := by
  obtain rfl : b = h.next := by omega
  exact push_put_self
@[simp] theorem put_push_ne (hb : b ≠ h.next) : (h.push o).put b x = (h.put b x).push o := Hp.ext' rfl fun k => by
  by_cases hk : k = h.next
  · subst hk
    have e : (h.put b x).next = h.next := rfl
    rw [get_put_ne (fun h => hb h.symm), get_push_self, ← e, get_push_self]
  · rw [get_push_ne (show k ≠ (h.put b x).next from hk)]
    by_cases hkb : k = b
    · subst hkb
      by_cases hl : k < h.next
      · rw [get_put_self (by simp; omega), get_put_self hl]
      · have e1 : ((h.push o).put k x).get k = none := ((h.push o).put k x).wf k (by simp; omega)
        have e2 : (h.put k x).get k = none := (h.put k x).wf k (by simp; omega)
        rw [e1, e2]
    · rw [get_put_ne hkb, get_put_ne hkb, get_push_ne hk]
@[simp] theorem put_put_s : (h.put b x).put b y = h.put b y := put_put
@[simp] theorem rdn_push_eq (hb : b ≤ h.next ∧ h.next ≤ b) (hn : C.length = n) : (h.push (.cells ro C)).rdn b 0 n = some C := by
  obtain rfl : b = h.next := by omega
  exact rdn_all get_push_self hn
@[simp] theorem rdn_push_ne (hb : b ≠ h.next) : (h.push o).rdn b k n = h.rdn b k n := by simp only [Hp.rdn, Hp.cells, get_push_ne hb]
@[simp] theorem rdn_put_self (hb : b < h.next) (hn : C.length = n) : (h.put b (some (.cells ro C))).rdn b 0 n = some C := rdn_all (get_put_self hb) hn
@[simp] theorem rdn_put_ne (hb : c ≠ b) : (h.put b x).rdn c k n = h.rdn c k n := by simp only [Hp.rdn, Hp.cells, get_put_ne hb]
@[simp] theorem rdn_adv {m : Nat} : (h.adv m).rdn b k n = h.rdn b k n := rfl
@[simp] theorem adv_put_eq (hb : b ≤ h.next ∧ h.next ≤ b) : (h.adv 1).put b (some o) = h.push o := by
  obtain rfl : b = h.next := by omega
  exact adv_put
@[simp] theorem veq_ag (a b : List Value) : veq (.agg a.toArray) (.agg b.toArray) = veqL a b := by simp [veq]
@[simp] theorem veqL_nil : veqL [] [] = true := rfl
@[simp] theorem veqL_cons (a b : Value) (l m : List Value) : veqL (a :: l) (b :: m) = (veqF a b && veqL l m) := rfl
@[simp] theorem veqF_int (k : IntKind) (n : Int) : veqF (.int k n) (.int k n) = true := by simp [veqF]
@[simp] theorem veqF_u32 (x : BitVec 32) : veqF (u32 x) (u32 x) = true := veqF_int _ _
@[simp] theorem veqF_u8 (x : BitVec 8) : veqF (u8 x) (u8 x) = true := veqF_int _ _
@[simp] theorem veqF_bool (x : Bool) : veqF (.bool x) (.bool x) = true := by simp [veqF]
attribute [simp] Kp.refl Kp.push Kp.put Kp.adv
end
end Go.Dx

/- A processor's state as it lies. -/
set_option linter.unusedSimpArgs false
set_option linter.unusedVariables false
namespace Go.Dx
open Go
/-- What a processor has. -/
structure CS where
  R : Nat → BitVec 32
  hi : BitVec 32
  lo : BitVec 32
  pc : BitVec 32
  nx : BitVec 32
  slot : Bool
  link : Bool
  lnk : BitVec 32
  C : Nat → BitVec 32
  T : Nat → BitVec 32
  wt : Bool
  tm : Int
def CS.cell (X : CS) (n : Nat) : Value :=
  if n < 32 then u32 (X.R n) else if n = 32 then u32 X.hi else if n = 33 then u32 X.lo else if n = 34 then u32 X.pc else if n = 35 then u32 X.nx else if n = 36 then .bool X.slot else if n = 37 then .bool X.link
  else if n = 38 then u32 X.lnk else if n < 55 then u32 (X.C (n - 39)) else if n < 71 then u32 (X.T (n - 55)) else if n = 71 then .bool X.wt else .int .i64 X.tm
def CS.cs (X : CS) : List Value := (List.range 73).map X.cell
def setf (f : Nat → BitVec 32) (n : Nat) (v : BitVec 32) : Nat → BitVec 32 := fun i => if i = n then v else f i
@[simp] theorem setf_self (f : Nat → BitVec 32) (n : Nat) (v : BitVec 32) : setf f n v n = v := by simp [setf]
theorem setf_ne {f : Nat → BitVec 32} {n m : Nat} {v : BitVec 32} (h : m ≠ n) : setf f n v m = f m := by simp [setf, h]
section
variable {X Y : CS} {r : List Value} {n : Nat} {v : BitVec 32}
@[simp] theorem CS.cs_len : X.cs.length = 73 := by simp [CS.cs]
theorem CS.cs_at (hn : n < 73) : X.cs[n]? = some (X.cell n) := by simp [CS.cs, hn]
@[simp] theorem CS.at' (hn : n < 73) : (X.cs ++ r)[n]? = some (X.cell n) := by rw [List.getElem?_append_left (by simpa using hn), CS.cs_at hn]
@[simp] theorem CS.gt' (hn : n < 73) (hh : n < (X.cs ++ r).length) : (X.cs ++ r)[n]'hh = X.cell n := by
  have := CS.at' (X := X) (r := r) hn
  rw [List.getElem?_eq_getElem hh] at this
  exact Option.some.inj this
theorem CS.over' (hn : n < 73) {w : Value} (h1 : Y.cell n = w) (h2 : ∀ i, i < 73 → i ≠ n → Y.cell i = X.cell i) : Dx.over (X.cs ++ r) n [w] = Y.cs ++ r := by
  rw [over_set (by simp; omega), List.set_append_left _ _ (by simpa using hn)]
  congr 1
  apply List.ext_getElem?
  intro i
  rw [List.getElem?_set]
  by_cases hi : i < 73
  · by_cases he : n = i
    · subst he
      rw [if_pos rfl, if_pos (by simpa using hn), CS.cs_at hn, h1]
    · rw [if_neg he, CS.cs_at hi, CS.cs_at hi, h2 i hi (fun h => he h.symm)]
  · rw [List.getElem?_eq_none (by simp; omega), if_neg (by omega), List.getElem?_eq_none (by simp; omega)]
@[simp] theorem CS.cell_R (hn : n < 32) : X.cell n = u32 (X.R n) := by simp [CS.cell, hn]
@[simp] theorem CS.cell_C (hn : n < 16) : X.cell (39 + n) = u32 (X.C n) := by
  simp only [CS.cell]
  rw [if_neg (by omega), if_neg (by omega), if_neg (by omega), if_neg (by omega), if_neg (by omega), if_neg (by omega), if_neg (by omega), if_neg (by omega), if_pos (by omega)]
  congr 2; omega
@[simp] theorem CS.cell_T (hn : n < 16) : X.cell (55 + n) = u32 (X.T n) := by
  simp only [CS.cell]
  rw [if_neg (by omega), if_neg (by omega), if_neg (by omega), if_neg (by omega), if_neg (by omega), if_neg (by omega), if_neg (by omega), if_neg (by omega), if_neg (by omega), if_pos (by omega)]
  congr 2; omega
@[simp] theorem CS.cell_32 : X.cell 32 = u32 X.hi := rfl
@[simp] theorem CS.cell_33 : X.cell 33 = u32 X.lo := rfl
@[simp] theorem CS.cell_34 : X.cell 34 = u32 X.pc := rfl
@[simp] theorem CS.cell_35 : X.cell 35 = u32 X.nx := rfl
@[simp] theorem CS.cell_36 : X.cell 36 = .bool X.slot := rfl
@[simp] theorem CS.cell_37 : X.cell 37 = .bool X.link := rfl
@[simp] theorem CS.cell_38 : X.cell 38 = u32 X.lnk := rfl
@[simp] theorem CS.cell_71 : X.cell 71 = .bool X.wt := rfl
@[simp] theorem CS.cell_72 : X.cell 72 = .int .i64 X.tm := rfl
@[simp] theorem CS.cell_39 : X.cell 39 = u32 (X.C 0) := rfl
@[simp] theorem CS.cell_40 : X.cell 40 = u32 (X.C 1) := rfl
@[simp] theorem CS.cell_41 : X.cell 41 = u32 (X.C 2) := rfl
@[simp] theorem CS.cell_42 : X.cell 42 = u32 (X.C 3) := rfl
@[simp] theorem CS.cell_43 : X.cell 43 = u32 (X.C 4) := rfl
@[simp] theorem CS.cell_44 : X.cell 44 = u32 (X.C 5) := rfl
@[simp] theorem CS.cell_45 : X.cell 45 = u32 (X.C 6) := rfl
@[simp] theorem CS.cell_46 : X.cell 46 = u32 (X.C 7) := rfl
@[simp] theorem CS.cell_47 : X.cell 47 = u32 (X.C 8) := rfl
@[simp] theorem CS.cell_48 : X.cell 48 = u32 (X.C 9) := rfl
@[simp] theorem CS.cell_49 : X.cell 49 = u32 (X.C 10) := rfl
@[simp] theorem CS.cell_50 : X.cell 50 = u32 (X.C 11) := rfl
@[simp] theorem CS.cell_51 : X.cell 51 = u32 (X.C 12) := rfl
@[simp] theorem CS.cell_52 : X.cell 52 = u32 (X.C 13) := rfl
@[simp] theorem CS.cell_53 : X.cell 53 = u32 (X.C 14) := rfl
@[simp] theorem CS.cell_54 : X.cell 54 = u32 (X.C 15) := rfl
@[simp] theorem CS.cell_55 : X.cell 55 = u32 (X.T 0) := rfl
@[simp] theorem CS.cell_56 : X.cell 56 = u32 (X.T 1) := rfl
@[simp] theorem CS.cell_57 : X.cell 57 = u32 (X.T 2) := rfl
@[simp] theorem CS.cell_58 : X.cell 58 = u32 (X.T 3) := rfl
@[simp] theorem CS.cell_59 : X.cell 59 = u32 (X.T 4) := rfl
@[simp] theorem CS.cell_60 : X.cell 60 = u32 (X.T 5) := rfl
@[simp] theorem CS.cell_61 : X.cell 61 = u32 (X.T 6) := rfl
@[simp] theorem CS.cell_62 : X.cell 62 = u32 (X.T 7) := rfl
@[simp] theorem CS.cell_63 : X.cell 63 = u32 (X.T 8) := rfl
@[simp] theorem CS.cell_64 : X.cell 64 = u32 (X.T 9) := rfl
@[simp] theorem CS.cell_65 : X.cell 65 = u32 (X.T 10) := rfl
@[simp] theorem CS.cell_66 : X.cell 66 = u32 (X.T 11) := rfl
@[simp] theorem CS.cell_67 : X.cell 67 = u32 (X.T 12) := rfl
@[simp] theorem CS.cell_68 : X.cell 68 = u32 (X.T 13) := rfl
@[simp] theorem CS.cell_69 : X.cell 69 = u32 (X.T 14) := rfl
@[simp] theorem CS.cell_70 : X.cell 70 = u32 (X.T 15) := rfl
@[simp] theorem CS.over_R (hn : n < 32) : Dx.over (X.cs ++ r) n [u32 v] = ({ X with R := setf X.R n v } : CS).cs ++ r := by
  refine CS.over' (by omega) (by simp [CS.cell, hn]) fun i hi hne => ?_
  simp only [CS.cell]
  by_cases h : i < 32
  · rw [if_pos h, if_pos h, setf_ne hne]
  · rw [if_neg h, if_neg h]
theorem CS.over_Cn (hn : n < 16) : Dx.over (X.cs ++ r) (39 + n) [u32 v] = ({ X with C := setf X.C n v } : CS).cs ++ r := by
  refine CS.over' (by omega) (by rw [CS.cell_C hn]; simp) fun i hi hne => ?_
  simp only [CS.cell]
  by_cases h : i < 39
  · have : ∀ a b : Value, (if i < 55 then a else b) = a := fun a b => if_pos (by omega)
    simp only [this]
    repeat' split
    all_goals first | rfl | omega
  · by_cases h2 : i < 55
    · have e : i - 39 ≠ n := by omega
      rw [if_neg (by omega), if_neg (by omega), if_neg (by omega), if_neg (by omega), if_neg (by omega), if_neg (by omega), if_neg (by omega), if_neg (by omega), if_pos h2, if_neg (by omega), if_neg (by omega), if_neg (by omega), if_neg (by omega), if_neg (by omega), if_neg (by omega), if_neg (by omega), if_neg (by omega), if_pos h2, setf_ne e]
    · simp only [if_neg h2]
      repeat' split
      all_goals rfl
theorem CS.over_Tn (hn : n < 16) : Dx.over (X.cs ++ r) (55 + n) [u32 v] = ({ X with T := setf X.T n v } : CS).cs ++ r := by
  refine CS.over' (by omega) (by rw [CS.cell_T hn]; simp) fun i hi hne => ?_
  simp only [CS.cell]
  by_cases h : i < 55
  · simp only [if_pos h]
    repeat' split
    all_goals rfl
  · by_cases h2 : i < 71
    · have e : i - 55 ≠ n := by omega
      simp only [if_neg h, if_pos h2, setf_ne e]
      repeat' split
      all_goals rfl
    · simp only [if_neg h, if_neg h2]
      repeat' split
      all_goals rfl
@[simp] theorem CS.over_hi {v : BitVec 32} : Dx.over (X.cs ++ r) 32 [u32 v] = ({ X with hi := v } : CS).cs ++ r := by
  refine CS.over' (by omega) rfl fun i hi hne => ?_
  simp only [CS.cell]
  repeat' split
  all_goals first | rfl | omega
@[simp] theorem CS.over_lo {v : BitVec 32} : Dx.over (X.cs ++ r) 33 [u32 v] = ({ X with lo := v } : CS).cs ++ r := by
  refine CS.over' (by omega) rfl fun i hi hne => ?_
  simp only [CS.cell]
  repeat' split
  all_goals first | rfl | omega
@[simp] theorem CS.over_pc {v : BitVec 32} : Dx.over (X.cs ++ r) 34 [u32 v] = ({ X with pc := v } : CS).cs ++ r := by
  refine CS.over' (by omega) rfl fun i hi hne => ?_
  simp only [CS.cell]
  repeat' split
  all_goals first | rfl | omega
@[simp] theorem CS.over_nx {v : BitVec 32} : Dx.over (X.cs ++ r) 35 [u32 v] = ({ X with nx := v } : CS).cs ++ r := by
  refine CS.over' (by omega) rfl fun i hi hne => ?_
  simp only [CS.cell]
  repeat' split
  all_goals first | rfl | omega
@[simp] theorem CS.over_slot {v : Bool} : Dx.over (X.cs ++ r) 36 [.bool v] = ({ X with slot := v } : CS).cs ++ r := by
  refine CS.over' (by omega) rfl fun i hi hne => ?_
  simp only [CS.cell]
  repeat' split
  all_goals first | rfl | omega
@[simp] theorem CS.over_link {v : Bool} : Dx.over (X.cs ++ r) 37 [.bool v] = ({ X with link := v } : CS).cs ++ r := by
  refine CS.over' (by omega) rfl fun i hi hne => ?_
  simp only [CS.cell]
  repeat' split
  all_goals first | rfl | omega
@[simp] theorem CS.over_lnk {v : BitVec 32} : Dx.over (X.cs ++ r) 38 [u32 v] = ({ X with lnk := v } : CS).cs ++ r := by
  refine CS.over' (by omega) rfl fun i hi hne => ?_
  simp only [CS.cell]
  repeat' split
  all_goals first | rfl | omega
@[simp] theorem CS.over_wt {v : Bool} : Dx.over (X.cs ++ r) 71 [.bool v] = ({ X with wt := v } : CS).cs ++ r := by
  refine CS.over' (by omega) rfl fun i hi hne => ?_
  simp only [CS.cell]
  repeat' split
  all_goals first | rfl | omega
@[simp] theorem CS.over_tm {v : Int} : Dx.over (X.cs ++ r) 72 [.int .i64 v] = ({ X with tm := v } : CS).cs ++ r := by
  refine CS.over' (by omega) rfl fun i hi hne => ?_
  rcases (by omega : i < 32 ∨ i = 32 ∨ i = 33 ∨ i = 34 ∨ i = 35 ∨ i = 36 ∨ i = 37 ∨ i = 38 ∨ (39 ≤ i ∧ i < 55) ∨ (55 ≤ i ∧ i < 71) ∨ i = 71) with h | rfl | rfl | rfl | rfl | rfl | rfl | rfl | h | h | rfl
  · rw [CS.cell_R h, CS.cell_R h]
  · rfl
  · rfl
  · rfl
  · rfl
  · rfl
  · rfl
  · rfl
  · obtain ⟨j, rfl⟩ : ∃ j, i = 39 + j := ⟨i - 39, by omega⟩
    rw [CS.cell_C (by omega), CS.cell_C (by omega)]
  · obtain ⟨j, rfl⟩ : ∃ j, i = 55 + j := ⟨i - 55, by omega⟩
    rw [CS.cell_T (by omega), CS.cell_T (by omega)]
  · rfl
@[simp] theorem CS.over_39 : Dx.over (X.cs ++ r) 39 [u32 v] = ({ X with C := setf X.C 0 v } : CS).cs ++ r := CS.over_Cn (n := 0) (by omega)
@[simp] theorem CS.over_40 : Dx.over (X.cs ++ r) 40 [u32 v] = ({ X with C := setf X.C 1 v } : CS).cs ++ r := CS.over_Cn (n := 1) (by omega)
@[simp] theorem CS.over_41 : Dx.over (X.cs ++ r) 41 [u32 v] = ({ X with C := setf X.C 2 v } : CS).cs ++ r := CS.over_Cn (n := 2) (by omega)
@[simp] theorem CS.over_42 : Dx.over (X.cs ++ r) 42 [u32 v] = ({ X with C := setf X.C 3 v } : CS).cs ++ r := CS.over_Cn (n := 3) (by omega)
@[simp] theorem CS.over_43 : Dx.over (X.cs ++ r) 43 [u32 v] = ({ X with C := setf X.C 4 v } : CS).cs ++ r := CS.over_Cn (n := 4) (by omega)
@[simp] theorem CS.over_44 : Dx.over (X.cs ++ r) 44 [u32 v] = ({ X with C := setf X.C 5 v } : CS).cs ++ r := CS.over_Cn (n := 5) (by omega)
@[simp] theorem CS.over_45 : Dx.over (X.cs ++ r) 45 [u32 v] = ({ X with C := setf X.C 6 v } : CS).cs ++ r := CS.over_Cn (n := 6) (by omega)
@[simp] theorem CS.over_46 : Dx.over (X.cs ++ r) 46 [u32 v] = ({ X with C := setf X.C 7 v } : CS).cs ++ r := CS.over_Cn (n := 7) (by omega)
@[simp] theorem CS.over_47 : Dx.over (X.cs ++ r) 47 [u32 v] = ({ X with C := setf X.C 8 v } : CS).cs ++ r := CS.over_Cn (n := 8) (by omega)
@[simp] theorem CS.over_48 : Dx.over (X.cs ++ r) 48 [u32 v] = ({ X with C := setf X.C 9 v } : CS).cs ++ r := CS.over_Cn (n := 9) (by omega)
@[simp] theorem CS.over_49 : Dx.over (X.cs ++ r) 49 [u32 v] = ({ X with C := setf X.C 10 v } : CS).cs ++ r := CS.over_Cn (n := 10) (by omega)
@[simp] theorem CS.over_50 : Dx.over (X.cs ++ r) 50 [u32 v] = ({ X with C := setf X.C 11 v } : CS).cs ++ r := CS.over_Cn (n := 11) (by omega)
@[simp] theorem CS.over_51 : Dx.over (X.cs ++ r) 51 [u32 v] = ({ X with C := setf X.C 12 v } : CS).cs ++ r := CS.over_Cn (n := 12) (by omega)
@[simp] theorem CS.over_52 : Dx.over (X.cs ++ r) 52 [u32 v] = ({ X with C := setf X.C 13 v } : CS).cs ++ r := CS.over_Cn (n := 13) (by omega)
@[simp] theorem CS.over_53 : Dx.over (X.cs ++ r) 53 [u32 v] = ({ X with C := setf X.C 14 v } : CS).cs ++ r := CS.over_Cn (n := 14) (by omega)
@[simp] theorem CS.over_54 : Dx.over (X.cs ++ r) 54 [u32 v] = ({ X with C := setf X.C 15 v } : CS).cs ++ r := CS.over_Cn (n := 15) (by omega)
@[simp] theorem CS.over_55 : Dx.over (X.cs ++ r) 55 [u32 v] = ({ X with T := setf X.T 0 v } : CS).cs ++ r := CS.over_Tn (n := 0) (by omega)
@[simp] theorem CS.over_56 : Dx.over (X.cs ++ r) 56 [u32 v] = ({ X with T := setf X.T 1 v } : CS).cs ++ r := CS.over_Tn (n := 1) (by omega)
@[simp] theorem CS.over_57 : Dx.over (X.cs ++ r) 57 [u32 v] = ({ X with T := setf X.T 2 v } : CS).cs ++ r := CS.over_Tn (n := 2) (by omega)
@[simp] theorem CS.over_58 : Dx.over (X.cs ++ r) 58 [u32 v] = ({ X with T := setf X.T 3 v } : CS).cs ++ r := CS.over_Tn (n := 3) (by omega)
@[simp] theorem CS.over_59 : Dx.over (X.cs ++ r) 59 [u32 v] = ({ X with T := setf X.T 4 v } : CS).cs ++ r := CS.over_Tn (n := 4) (by omega)
@[simp] theorem CS.over_60 : Dx.over (X.cs ++ r) 60 [u32 v] = ({ X with T := setf X.T 5 v } : CS).cs ++ r := CS.over_Tn (n := 5) (by omega)
@[simp] theorem CS.over_61 : Dx.over (X.cs ++ r) 61 [u32 v] = ({ X with T := setf X.T 6 v } : CS).cs ++ r := CS.over_Tn (n := 6) (by omega)
@[simp] theorem CS.over_62 : Dx.over (X.cs ++ r) 62 [u32 v] = ({ X with T := setf X.T 7 v } : CS).cs ++ r := CS.over_Tn (n := 7) (by omega)
@[simp] theorem CS.over_63 : Dx.over (X.cs ++ r) 63 [u32 v] = ({ X with T := setf X.T 8 v } : CS).cs ++ r := CS.over_Tn (n := 8) (by omega)
@[simp] theorem CS.over_64 : Dx.over (X.cs ++ r) 64 [u32 v] = ({ X with T := setf X.T 9 v } : CS).cs ++ r := CS.over_Tn (n := 9) (by omega)
@[simp] theorem CS.over_65 : Dx.over (X.cs ++ r) 65 [u32 v] = ({ X with T := setf X.T 10 v } : CS).cs ++ r := CS.over_Tn (n := 10) (by omega)
@[simp] theorem CS.over_66 : Dx.over (X.cs ++ r) 66 [u32 v] = ({ X with T := setf X.T 11 v } : CS).cs ++ r := CS.over_Tn (n := 11) (by omega)
@[simp] theorem CS.over_67 : Dx.over (X.cs ++ r) 67 [u32 v] = ({ X with T := setf X.T 12 v } : CS).cs ++ r := CS.over_Tn (n := 12) (by omega)
@[simp] theorem CS.over_68 : Dx.over (X.cs ++ r) 68 [u32 v] = ({ X with T := setf X.T 13 v } : CS).cs ++ r := CS.over_Tn (n := 13) (by omega)
@[simp] theorem CS.over_69 : Dx.over (X.cs ++ r) 69 [u32 v] = ({ X with T := setf X.T 14 v } : CS).cs ++ r := CS.over_Tn (n := 14) (by omega)
@[simp] theorem CS.over_70 : Dx.over (X.cs ++ r) 70 [u32 v] = ({ X with T := setf X.T 15 v } : CS).cs ++ r := CS.over_Tn (n := 15) (by omega)
end
end Go.Dx

/- Instructions that only reckon: what they give. -/
set_option linter.unusedSimpArgs false
set_option linter.unusedVariables false
namespace Go.Dx
open Go
/-- Sixteen bits with a sign, the document's way. -/
theorem sxt_doc (v : BitVec 32) : sxt v = if (v &&& 65535#32) >>> 15 = 1#32 then (v &&& 65535#32) - 65536#32 else v &&& 65535#32 := by
  have hw := fd_half v
  have hs : ((v &&& 65535#32) >>> 15 = 1#32) ↔ 32768 ≤ v.toNat % 65536 := by
    rw [← BitVec.toNat_inj, BitVec.toNat_ushiftRight, hw, Nat.shiftRight_eq_div_pow]
    have : (1#32).toNat = 1 := rfl
    rw [this]
    omega
  have hl : (v <<< 16).toNat = v.toNat % 65536 * 65536 := by
    rw [BitVec.toNat_shiftLeft, Nat.shiftLeft_eq]
    omega
  apply BitVec.eq_of_toInt_eq
  unfold sxt sar
  rw [BitVec.toInt_sshiftRight, Int.shiftRight_eq_div_pow, BitVec.toInt_eq_toNat_cond, hl]
  by_cases c : 32768 ≤ v.toNat % 65536
  · rw [if_pos (hs.mpr c), if_neg (by omega), BitVec.toInt_eq_toNat_cond, BitVec.toNat_sub, hw]
    have : (65536#32).toNat = 65536 := rfl
    rw [this, if_neg (by omega)]
    omega
  · rw [if_neg (fun h => c (hs.mp h)), if_pos (by omega), BitVec.toInt_eq_toNat_cond, hw, if_pos (by omega)]
    omega
/-- Does a kind give a number? -/
def aIs (k : Int) : Bool := decide ((1 ≤ k ∧ k ≤ 6) ∨ (22 ≤ k ∧ k ≤ 31) ∨ (46 ≤ k ∧ k ≤ 53) ∨ (63 ≤ k ∧ k ≤ 65))
def aInto (i : Ins) : Int := if aIs i.k = false then 0 else if 46 ≤ i.k ∧ i.k ≤ 53 then i.t else i.d
def xop (k : Int) : Int := if k = 22 ∨ k = 46 then 3 else if k = 24 then 4 else lkd k
def ximm (i : Ins) : BitVec 32 := if i.k = 50 ∨ i.k = 51 ∨ i.k = 52 then i.imm &&& 65535#32 else sxt i.imm
/-- The number that an instruction gives. -/
def xdo (i : Ins) (s t : BitVec 32) : BitVec 32 :=
  if i.k = 53 then i.imm <<< 16
  else if i.k ≤ 3 then iof ⟨xop i.k, 0, 0, 0, 0#32⟩ t (BitVec.ofInt 32 i.sh)
  else if i.k ≤ 6 then iof ⟨xop i.k, 0, 0, 0, 0#32⟩ t s
  else if 46 ≤ i.k ∧ i.k ≤ 52 then iof ⟨xop i.k, 0, 0, 0, 0#32⟩ s (ximm i)
  else iof ⟨xop i.k, 0, 0, 0, 0#32⟩ s t
/-- HI and LO behind an instruction; does it turn them? -/
def xhi (i : Ins) (s t hi : BitVec 32) : BitVec 32 := if i.k = 18 then mulHi s t true else if i.k = 19 then mulHi s t false else if i.k = 20 then divR s t true else if i.k = 21 then divR s t false else if i.k = 15 then s else hi
def xlo (i : Ins) (s t lo : BitVec 32) : BitVec 32 := if i.k = 18 ∨ i.k = 19 then s * t else if i.k = 20 then divQ s t true else if i.k = 21 then divQ s t false else if i.k = 17 then s else lo
def xhb (k : Int) : Bool := decide (k = 15 ∨ (17 ≤ k ∧ k ≤ 21))
/-- Is a branch taken, where does it lead, which register has where it came from? -/
def xtaken (i : Ins) (s t : BitVec 32) : Bool :=
  if i.k = 40 ∨ i.k = 41 ∨ i.k = 7 ∨ i.k = 8 then true else if i.k = 42 then decide (s = t) else if i.k = 43 then decide (s ≠ t)
  else if i.k = 36 ∨ i.k = 38 then decide (2147483648#32 ≤ s) else if i.k = 37 ∨ i.k = 39 then !decide (2147483648#32 ≤ s)
  else if i.k = 44 then decide (2147483648#32 ≤ s) || decide (s = 0#32) else if i.k = 45 then !decide (2147483648#32 ≤ s) && decide (s ≠ 0#32) else false
def xtarget (i : Ins) (pc s : BitVec 32) : BitVec 32 :=
  if i.k = 40 ∨ i.k = 41 then ((pc + 4#32) &&& 4026531840#32) ||| ((i.imm &&& 67108863#32) <<< 2) else if i.k = 7 ∨ i.k = 8 then s
  else if i.k = 42 ∨ i.k = 43 ∨ i.k = 36 ∨ i.k = 37 ∨ i.k = 38 ∨ i.k = 39 ∨ i.k = 44 ∨ i.k = 45 then pc + 4#32 + 4#32 * sxt i.imm else pc + 4#32
def xlink (i : Ins) : Int := if i.k = 41 ∨ i.k = 38 ∨ i.k = 39 then 31 else if i.k = 8 then i.d else 0
def xlinks (i : Ins) : Bool := decide (i.k = 41 ∨ i.k = 38 ∨ i.k = 39 ∨ i.k = 8)
/-- A register, but 0. -/
def xput (X : CS) (n : Int) (v : BitVec 32) : CS := if 0 < n ∧ n < 32 then { X with R := setf X.R n.toNat v } else X
/-- An instruction of registers alone. -/
def xplain (X : CS) (i : Ins) (s t : BitVec 32) : CS :=
  let X1 := if aIs i.k = true then xput X (aInto i) (xdo i s t) else X
  let X2 : CS := { X1 with hi := xhi i s t X1.hi, lo := xlo i s t X1.lo }
  if i.k = 9 ∨ i.k = 10 then (if decide (t = 0#32) = decide (i.k = 9) then xput X2 i.d s else X2)
  else if i.k = 14 then xput X2 i.d X2.hi else if i.k = 16 then xput X2 i.d X2.lo else X2
/-- Whereto. -/
def xon (X : CS) (i : Ins) (s t : BitVec 32) : CS :=
  let X1 : CS := { X with pc := X.nx, nx := if xtaken i s t = true then xtarget i X.pc s else X.nx + 4#32, slot := decide (dcls i.k = 3) }
  if xlinks i = true then xput X1 (xlink i) (X.pc + 8#32) else X1
/-- How much Count is short of Compare. -/
def xmiss (X : CS) : Int := if X.C 11 - X.C 9 = 0#32 then 4294967296 else ((X.C 11 - X.C 9).toNat : Int)
/-- Time goes on. -/
def xgo (X : CS) (n : Int) : CS :=
  let X1 : CS := { X with tm := X.tm + n, C := setf X.C 9 (X.C 9 + BitVec.ofInt 32 n) }
  if xmiss X ≤ n then { X1 with C := setf X1.C 13 (X1.C 13 ||| 32768#32) } else X1
end Go.Dx

/- What an instruction's operations leave is what it leaves. -/
set_option linter.unusedSimpArgs false
set_option linter.unusedVariables false
namespace Go.Dx
open Go
/-- Cells hold a state's registers, HI, LO. -/
structure Cv (V : Regs) (X : CS) : Prop where
  len : V.length = 40
  r : ∀ n : Nat, n < 32 → rg V n = X.R n
  hi : rg V 32 = X.hi
  lo : rg V 33 = X.lo
  z : X.R 0 = 0#32
/-- An instruction as words are. -/
structure Iw (i : Ins) : Prop where
  k : 0 ≤ i.k ∧ i.k ≤ 77
  s : 0 ≤ i.s ∧ i.s ≤ 31
  t : 0 ≤ i.t ∧ i.t ≤ 31
  d : 0 ≤ i.d ∧ i.d ≤ 31
  sh : 0 ≤ i.sh ∧ i.sh ≤ 31
  m : i.k = 50 ∨ i.k = 51 ∨ i.k = 52 → i.imm &&& 65535#32 = i.imm
theorem Iw.of (w : BitVec 32) : Iw (dOf w) := by
  obtain ⟨a, b, c, d, e, _⟩ := dOf_bd w
  refine ⟨a, b, c, d, e, fun h => ?_⟩
  have hf : dfld (dOf w).k = 19 := by rcases h with h | h | h <;> rw [h] <;> rfl
  have : (dOf w).imm = w &&& 65535#32 := by
    show (if (dfld (dOf w).k).testBit 4 then w &&& 65535#32 else _) = _
    rw [hf]
    rfl
  rw [this, BitVec.and_assoc, BitVec.and_self]
/-- One operation, cell by cell. -/
theorem ido_at {V : Regs} {o : IOp} (hV : V.length = 40) (hd : 0 ≤ o.d ∧ o.d < 40) (hk : ¬ (o.k = 17 ∨ o.k = 18)) (hk2 : ¬ (o.k = 19 ∨ o.k = 20)) {n : Int} (hn : 0 ≤ n) :
    rg (ido V o) n = if n = o.d ∧ ¬ (o.k = 0 ∨ o.d = 0 ∨ (o.k = 21 ∧ rg V o.b ≠ 0#32) ∨ (o.k = 22 ∧ rg V o.b = 0#32)) then iof o (rg V o.a) (rg V o.b) else rg V n := by
  unfold ido
  rw [if_neg hk, if_neg hk2]
  by_cases c : o.k = 0 ∨ o.d = 0 ∨ (o.k = 21 ∧ rg V o.b ≠ 0#32) ∨ (o.k = 22 ∧ rg V o.b = 0#32)
  · rw [if_pos c, if_neg (fun hh => hh.2 c)]
  · rw [if_neg c, rg_set hn (by omega)]
    have e : (n = (o.d.toNat : Int)) ↔ n = o.d := by omega
    by_cases h : n = o.d
    · rw [if_pos (e.mpr h), if_pos ⟨h, c⟩]
    · rw [if_neg (fun hh => h (e.mp hh)), if_neg (fun hh => h hh.1)]
theorem lops_ok {i : Ins} (h : Iw i) : oks (lops i) := by
  obtain ⟨hk, hs, ht, hd, hsh, _⟩ := h
  have hl : 0 ≤ lkd i.k ∧ lkd i.k ≤ 22 := getD_bd (l := lkTab) (by decide) (by decide) _
  intro o ho
  unfold lops at ho
  repeat' split at ho
  all_goals simp only [List.mem_cons, List.not_mem_nil, or_false] at ho
  all_goals first | cases ho; done | skip
  all_goals first
    | (subst ho; unfold IOp.ok; simp only; omega)
    | (rcases ho with rfl | rfl <;> (unfold IOp.ok; simp only; omega))
/-- A state's register, as cells have it. -/
theorem xput_R {X : CS} {n : Int} {v : BitVec 32} {m : Nat} (hm : m < 32) : (xput X n v).R m = if (m : Int) = n ∧ 0 < n then v else X.R m := by
  unfold xput
  by_cases c : 0 < n ∧ n < 32
  · rw [if_pos c]
    simp only [setf]
    by_cases e : m = n.toNat
    · rw [if_pos e, if_pos (by omega)]
    · rw [if_neg e, if_neg (by omega)]
  · rw [if_neg c, if_neg (by omega)]
theorem xput_hl {X : CS} {n : Int} {v : BitVec 32} : (xput X n v).hi = X.hi ∧ (xput X n v).lo = X.lo := by
  unfold xput; split <;> exact ⟨rfl, rfl⟩
end Go.Dx

/- Rows of operations and instructions: the same registers. -/
set_option linter.unusedSimpArgs false
set_option linter.unusedVariables false
namespace Go.Dx
open Go
theorem cls_ne {k : Int} (n : Int) (hc : dcls k = 1) (hn : dcls n ≠ 1) : k ≠ n := fun h => hn (h ▸ hc)
/-- One operation that puts a number. -/
theorem one_at {V : Regs} {κ δ a b : Int} {c : BitVec 32} (hV : V.length = 40) (hd : 0 ≤ δ ∧ δ < 40) (hk : κ ≠ 0 ∧ ¬ (17 ≤ κ ∧ κ ≤ 22)) {n : Int} (hn : 0 ≤ n) :
    rg (irun V [⟨κ, δ, a, b, c⟩]) n = if n = δ ∧ δ ≠ 0 then iof ⟨κ, 0, 0, 0, c⟩ (rg V a) (rg V b) else rg V n := by
  rw [irun_cons, irun_nil, ido_at hV hd (by simp only; omega) (by simp only; omega) hn]
  simp only
  by_cases h : n = δ ∧ δ ≠ 0
  · rw [if_pos h, if_pos ⟨h.1, by omega⟩]
    rfl
  · rw [if_neg h, if_neg (fun hh => h ⟨hh.1, fun h0 => hh.2 (.inr (.inl h0))⟩)]
/-- A number and what is done with it. -/
theorem two_at {V : Regs} {κ δ a : Int} {c : BitVec 32} (hV : V.length = 40) (hd : 0 ≤ δ ∧ δ < 34) (ha : 0 ≤ a ∧ a < 34) (hk : κ ≠ 0 ∧ κ ≠ 1 ∧ ¬ (17 ≤ κ ∧ κ ≤ 22)) {n : Int} (hn : 0 ≤ n) (hn2 : n < 34) :
    rg (irun V [⟨1, 34, 0, 0, c⟩, ⟨κ, δ, a, 34, 0#32⟩]) n = if n = δ ∧ δ ≠ 0 then iof ⟨κ, 0, 0, 0, 0#32⟩ (rg V a) c else rg V n := by
  have h1 : ∀ m : Int, 0 ≤ m → rg (ido V ⟨1, 34, 0, 0, c⟩) m = if m = 34 then c else rg V m := fun m hm => by
    have := one_at (κ := 1) (δ := 34) (a := 0) (b := 0) (c := c) hV (by omega) (by omega) hm
    rw [irun_cons, irun_nil] at this
    rw [this]
    by_cases h : m = 34
    · rw [if_pos ⟨h, by omega⟩, if_pos h]
      rfl
    · rw [if_neg (fun hh => h hh.1), if_neg h]
  rw [irun_cons]
  have h2 := one_at (V := ido V ⟨1, 34, 0, 0, c⟩) (κ := κ) (δ := δ) (a := a) (b := 34) (c := 0#32) (by simp [hV]) (by omega) (by omega) hn
  rw [h2, h1 a ha.1, h1 34 (by omega), h1 n hn, if_neg (show ¬ a = 34 by omega), if_pos (show (34 : Int) = 34 from rfl), if_neg (show ¬ n = 34 by omega)]
theorem lkd_vals : ∀ k : Fin 78, dcls (k.val : Int) = 1 → aIs (k.val : Int) = true → k.val ≠ 53 → lkd (k.val : Int) ≠ 0 ∧ lkd (k.val : Int) ≠ 1 ∧ ¬ (17 ≤ lkd (k.val : Int) ∧ lkd (k.val : Int) ≤ 22) := by decide +kernel
theorem limm_eq {i : Ins} (h : Iw i) : limm i = ximm i := by
  unfold limm ximm
  by_cases c : i.k = 50 ∨ i.k = 51 ∨ i.k = 52
  · rw [if_pos c, if_pos c, h.m c]
  · rw [if_neg c, if_neg c]
/-- Those that give a number. -/
theorem alu_at {V : Regs} {i : Ins} (hV : V.length = 40) (h : Iw i) (hc : dcls i.k = 1) (ha : aIs i.k = true) {n : Int} (hn : 0 ≤ n) (hn2 : n < 34) :
    rg (irun V (lops i)) n = if n = aInto i ∧ aInto i ≠ 0 then xdo i (rg V i.s) (rg V i.t) else rg V n := by
  have hm := limm_eq h
  obtain ⟨hk, hs, ht, hd, hsh, _⟩ := h
  have n22 := cls_ne 22 hc (by decide)
  have n24 := cls_ne 24 hc (by decide)
  have n46 := cls_ne 46 hc (by decide)
  have hx : xop i.k = lkd i.k := by unfold xop; rw [if_neg (by omega), if_neg n24]
  have hv : i.k ≠ 53 → lkd i.k ≠ 0 ∧ lkd i.k ≠ 1 ∧ ¬ (17 ≤ lkd i.k ∧ lkd i.k ≤ 22) := fun h53 => by
    obtain ⟨m, hm⟩ : ∃ m : Nat, i.k = m := ⟨i.k.toNat, by omega⟩
    have := lkd_vals ⟨m, by omega⟩
    rw [hm] at hc ha h53 ⊢
    exact this hc ha (fun hh => h53 (by have hm53 : m = 53 := hh; rw [hm53]; rfl))
  have ha' := ha
  simp only [aIs, decide_eq_true_eq] at ha'
  have hz : ¬ (i.k = 0 ∨ dcls i.k ≠ 1 ∨ i.k = 13 ∨ i.k = 76 ∨ i.k = 77) := by omega
  have hf : ¬ aIs i.k = false := by rw [ha]; simp
  by_cases c53 : i.k = 53
  · have hL : lops i = [⟨1, i.t, 0, 0, i.imm <<< 16⟩] := by unfold lops; rw [if_neg hz, if_pos c53]
    have hA : aInto i = i.t := by unfold aInto; rw [if_neg hf, if_pos (by omega)]
    have hX : ∀ a b, xdo i a b = i.imm <<< 16 := fun a b => by unfold xdo; rw [if_pos c53]
    rw [hL, hA, hX, one_at hV (by omega) (by omega) hn]
    rfl
  obtain ⟨v1, v2, v3⟩ := hv c53
  have n14 : ¬ i.k = 14 := by omega
  have n16 : ¬ i.k = 16 := by omega
  have n15 : ¬ i.k = 15 := by omega
  have n17 : ¬ i.k = 17 := by omega
  by_cases c3 : i.k ≤ 3
  · have hL : lops i = [⟨1, 34, 0, 0, BitVec.ofInt 32 i.sh⟩, ⟨lkd i.k, i.d, i.t, 34, 0#32⟩] := by unfold lops; rw [if_neg hz, if_neg c53, if_neg n14, if_neg n16, if_neg n15, if_neg n17, if_pos c3]
    have hA : aInto i = i.d := by unfold aInto; rw [if_neg hf, if_neg (by omega)]
    have hX : ∀ a b, xdo i a b = iof ⟨lkd i.k, 0, 0, 0, 0#32⟩ b (BitVec.ofInt 32 i.sh) := fun a b => by unfold xdo; rw [if_neg c53, if_pos c3, hx]
    rw [hL, hA, hX, two_at hV (by omega) (by omega) ⟨v1, v2, v3⟩ hn hn2]
  by_cases c6 : i.k ≤ 6
  · have hL : lops i = [⟨lkd i.k, i.d, i.t, i.s, 0#32⟩] := by unfold lops; rw [if_neg hz, if_neg c53, if_neg n14, if_neg n16, if_neg n15, if_neg n17, if_neg c3, if_pos c6]
    have hA : aInto i = i.d := by unfold aInto; rw [if_neg hf, if_neg (by omega)]
    have hX : ∀ a b, xdo i a b = iof ⟨lkd i.k, 0, 0, 0, 0#32⟩ b a := fun a b => by unfold xdo; rw [if_neg c53, if_neg c3, if_pos c6, hx]
    rw [hL, hA, hX, one_at hV (by omega) ⟨v1, v3⟩ hn]
  by_cases c46 : 46 ≤ i.k ∧ i.k ≤ 52
  · have hL : lops i = [⟨1, 34, 0, 0, limm i⟩, ⟨lkd i.k, i.t, i.s, 34, 0#32⟩] := by unfold lops; rw [if_neg hz, if_neg c53, if_neg n14, if_neg n16, if_neg n15, if_neg n17, if_neg c3, if_neg c6, if_pos c46]
    have hA : aInto i = i.t := by unfold aInto; rw [if_neg hf, if_pos (by omega)]
    have hX : ∀ a b, xdo i a b = iof ⟨lkd i.k, 0, 0, 0, 0#32⟩ a (ximm i) := fun a b => by unfold xdo; rw [if_neg c53, if_neg c3, if_neg c6, if_pos c46, hx]
    rw [hL, hA, hX, hm, two_at hV (by omega) (by omega) ⟨v1, v2, v3⟩ hn hn2]
  · have hL : lops i = [⟨lkd i.k, i.d, i.s, i.t, 0#32⟩] := by unfold lops; rw [if_neg hz, if_neg c53, if_neg n14, if_neg n16, if_neg n15, if_neg n17, if_neg c3, if_neg c6, if_neg c46]
    have hA : aInto i = i.d := by unfold aInto; rw [if_neg hf, if_neg (by omega)]
    have hX : ∀ a b, xdo i a b = iof ⟨lkd i.k, 0, 0, 0, 0#32⟩ a b := fun a b => by unfold xdo; rw [if_neg c53, if_neg c3, if_neg c6, if_neg c46, hx]
    rw [hL, hA, hX, one_at hV (by omega) ⟨v1, v3⟩ hn]
/-- What all others do. -/
theorem cv_alu {V : Regs} {X : CS} {i : Ins} (C : Cv V X) (h : Iw i) (hc : dcls i.k = 1) (ha : aIs i.k = true) :
    (∀ n : Nat, n < 32 → rg (irun V (lops i)) n = (xplain X i (X.R i.s.toNat) (X.R i.t.toNat)).R n) ∧ rg (irun V (lops i)) 32 = (xplain X i (X.R i.s.toNat) (X.R i.t.toNat)).hi ∧ rg (irun V (lops i)) 33 = (xplain X i (X.R i.s.toNat) (X.R i.t.toNat)).lo := by
  have hs := C.r i.s.toNat (by have := h.s; omega)
  have ht := C.r i.t.toNat (by have := h.t; omega)
  rw [show ((i.s.toNat : Nat) : Int) = i.s by have := h.s; omega] at hs
  rw [show ((i.t.toNat : Nat) : Int) = i.t by have := h.t; omega] at ht
  have hi0 : 0 ≤ aInto i ∧ aInto i ≤ 31 := by
    have h1 := h.t; have h2 := h.d
    unfold aInto; split; omega; split <;> omega
  have ha' := ha
  simp only [aIs, decide_eq_true_eq] at ha'
  have hx : xplain X i (X.R i.s.toNat) (X.R i.t.toNat) = xput X (aInto i) (xdo i (X.R i.s.toNat) (X.R i.t.toNat)) := by
    unfold xplain
    simp only
    rw [if_pos ha, if_neg (by omega), if_neg (by omega), if_neg (by omega)]
    have e1 : ∀ y, xhi i (X.R i.s.toNat) (X.R i.t.toNat) y = y := fun y => by unfold xhi; rw [if_neg (by omega), if_neg (by omega), if_neg (by omega), if_neg (by omega), if_neg (by omega)]
    have e2 : ∀ y, xlo i (X.R i.s.toNat) (X.R i.t.toNat) y = y := fun y => by unfold xlo; rw [if_neg (by omega), if_neg (by omega), if_neg (by omega), if_neg (by omega)]
    rw [e1, e2]
  rw [hx]
  refine ⟨fun n hn => ?_, ?_, ?_⟩
  · rw [alu_at C.len h hc ha (by omega) (by omega), xput_R hn, hs, ht, C.r n hn]
    by_cases e : (n : Int) = aInto i
    · by_cases e0 : aInto i = 0
      · rw [if_neg (by omega), if_neg (by omega)]
      · rw [if_pos ⟨e, e0⟩, if_pos ⟨e, by omega⟩]
    · rw [if_neg (fun hh => e hh.1), if_neg (fun hh => e hh.1)]
  · rw [alu_at C.len h hc ha (by omega) (by omega), if_neg (by omega), xput_hl.1, C.hi]
  · rw [alu_at C.len h hc ha (by omega) (by omega), if_neg (by omega), xput_hl.2, C.lo]
theorem rset {V : Regs} {n : Nat} {v : BitVec 32} {m : Int} (hV : V.length = 40) (hn : n < 40) (hm : 0 ≤ m) : rg (V.set n v) m = if m = n then v else rg V m := rg_set hm (by omega)
/-- All that only reckon. -/
theorem cv_lops {V : Regs} {X : CS} {i : Ins} (C : Cv V X) (h : Iw i) (hc : dcls i.k = 1) :
    (∀ n : Nat, n < 32 → rg (irun V (lops i)) n = (xplain X i (X.R i.s.toNat) (X.R i.t.toNat)).R n) ∧ rg (irun V (lops i)) 32 = (xplain X i (X.R i.s.toNat) (X.R i.t.toNat)).hi ∧ rg (irun V (lops i)) 33 = (xplain X i (X.R i.s.toNat) (X.R i.t.toNat)).lo := by
  cases ha : aIs i.k with
  | true => exact cv_alu C h hc ha
  | false =>
  have hs := C.r i.s.toNat (by have := h.s; omega)
  have ht := C.r i.t.toNat (by have := h.t; omega)
  rw [show ((i.s.toNat : Nat) : Int) = i.s by have := h.s; omega] at hs
  rw [show ((i.t.toNat : Nat) : Int) = i.t by have := h.t; omega] at ht
  have hkk : ∀ k : Fin 78, dcls (k.val : Int) = 1 → aIs (k.val : Int) = false → k.val = 9 ∨ k.val = 10 ∨ k.val = 13 ∨ k.val = 14 ∨ k.val = 15 ∨ k.val = 16 ∨ k.val = 17 ∨ k.val = 18 ∨ k.val = 19 ∨ k.val = 20 ∨ k.val = 21 ∨ k.val = 76 ∨ k.val = 77 := by decide +kernel
  obtain ⟨k, s, t, d, sh, im⟩ := i
  obtain ⟨hk, hs0, ht0, hd0, hsh, _⟩ := h
  simp only at *
  obtain ⟨kn, rfl⟩ : ∃ m : Nat, k = m := ⟨k.toNat, by omega⟩
  have hV := C.len
  have hR := C.r
  have hH := C.hi
  have hO := C.lo
  generalize X.R s.toNat = sv at *
  generalize X.R t.toNat = tv at *
  have put : ∀ (v : BitVec 32) (X2 : CS), X2.R = X.R → ∀ n : Nat, n < 32 → (if (n : Int) = d ∧ d ≠ 0 then v else rg V n) = (xput X2 d v).R n := fun v X2 e n hn => by
    rw [xput_R hn, e, hR n hn]
    by_cases c : (n : Int) = d
    · by_cases c0 : d = 0
      · rw [if_neg (by omega), if_neg (by omega)]
      · rw [if_pos ⟨c, c0⟩, if_pos ⟨c, by omega⟩]
    · rw [if_neg (fun hh => c hh.1), if_neg (fun hh => c hh.1)]
  have nod : ∀ (v : BitVec 32) (m : Int), m = 32 ∨ m = 33 → (if m = d ∧ d ≠ 0 then v else rg V m) = rg V m := fun v m hm => if_neg (by omega)
  rcases hkk ⟨kn, by omega⟩ hc ha with e | e | e | e | e | e | e | e | e | e | e | e | e <;> (have e : kn = _ := e; subst e)
  · have hL : lops ⟨((9 : Nat) : Int), s, t, d, sh, im⟩ = [⟨21, d, s, t, 0#32⟩] := rfl
    have hX : xplain X ⟨((9 : Nat) : Int), s, t, d, sh, im⟩ sv tv = if decide (tv = 0#32) = true then xput X d sv else X := rfl
    rw [hL, hX, irun_cons, irun_nil]
    have hi := fun (m : Int) (hm : 0 ≤ m) => ido_at (o := ⟨21, d, s, t, 0#32⟩) hV (by simp only; omega) (by simp) (by simp) hm
    simp only [ht, hs] at hi
    by_cases c : tv = 0#32
    · rw [if_pos (by simp [c])]
      refine ⟨fun n hn => ?_, ?_, ?_⟩
      · rw [hi n (by omega), ← put sv X rfl n hn]
        have : iof ⟨21, d, s, t, 0#32⟩ sv tv = sv := rfl
        by_cases e1 : (n : Int) = d ∧ d ≠ 0
        · rw [if_pos e1, if_pos ⟨e1.1, by simp [e1.2, c]⟩]
          exact this
        · rw [if_neg e1, if_neg (fun hh => e1 ⟨hh.1, fun h0 => hh.2 (.inr (.inl h0))⟩)]
      · rw [hi 32 (by omega), if_neg (by omega), xput_hl.1, hH]
      · rw [hi 33 (by omega), if_neg (by omega), xput_hl.2, hO]
    · rw [if_neg (by simp [c])]
      refine ⟨fun n hn => ?_, ?_, ?_⟩
      · rw [hi n (by omega), if_neg (by simp [c]), hR n hn]
      · rw [hi 32 (by omega), if_neg (by omega), hH]
      · rw [hi 33 (by omega), if_neg (by omega), hO]
  · have hL : lops ⟨((10 : Nat) : Int), s, t, d, sh, im⟩ = [⟨22, d, s, t, 0#32⟩] := rfl
    have hX : xplain X ⟨((10 : Nat) : Int), s, t, d, sh, im⟩ sv tv = if decide (tv = 0#32) = false then xput X d sv else X := rfl
    rw [hL, hX, irun_cons, irun_nil]
    have hi := fun (m : Int) (hm : 0 ≤ m) => ido_at (o := ⟨22, d, s, t, 0#32⟩) hV (by simp only; omega) (by simp) (by simp) hm
    simp only [ht, hs] at hi
    by_cases c : tv = 0#32
    · rw [if_neg (by simp [c])]
      refine ⟨fun n hn => ?_, ?_, ?_⟩
      · rw [hi n (by omega), if_neg (by simp [c]), hR n hn]
      · rw [hi 32 (by omega), if_neg (by omega), hH]
      · rw [hi 33 (by omega), if_neg (by omega), hO]
    · rw [if_pos (by simp [c])]
      refine ⟨fun n hn => ?_, ?_, ?_⟩
      · rw [hi n (by omega), ← put sv X rfl n hn]
        have : iof ⟨22, d, s, t, 0#32⟩ sv tv = sv := rfl
        by_cases e1 : (n : Int) = d ∧ d ≠ 0
        · rw [if_pos e1, if_pos ⟨e1.1, by simp [e1.2, c]⟩]
          exact this
        · rw [if_neg e1, if_neg (fun hh => e1 ⟨hh.1, fun h0 => hh.2 (.inr (.inl h0))⟩)]
      · rw [hi 32 (by omega), if_neg (by omega), xput_hl.1, hH]
      · rw [hi 33 (by omega), if_neg (by omega), xput_hl.2, hO]
  · have hL : lops ⟨((13 : Nat) : Int), s, t, d, sh, im⟩ = [] := rfl
    have hX : xplain X ⟨((13 : Nat) : Int), s, t, d, sh, im⟩ sv tv = X := rfl
    rw [hL, hX]
    exact ⟨hR, hH, hO⟩
  · have hL : lops ⟨((14 : Nat) : Int), s, t, d, sh, im⟩ = [⟨2, d, 32, 0, 0#32⟩] := rfl
    have hX : xplain X ⟨((14 : Nat) : Int), s, t, d, sh, im⟩ sv tv = xput X d X.hi := rfl
    rw [hL, hX]
    have h1 := fun (m : Int) (hm : 0 ≤ m) => one_at (κ := 2) (δ := d) (a := 32) (b := 0) (c := 0#32) hV (by omega) (by omega) hm
    have hv : iof ⟨2, 0, 0, 0, 0#32⟩ (rg V 32) (rg V 0) = X.hi := hH
    rw [hv] at h1
    refine ⟨fun n hn => ?_, ?_, ?_⟩
    · rw [h1 n (by omega)]; exact put _ X rfl n hn
    · rw [h1 32 (by omega), nod _ 32 (.inl rfl), xput_hl.1, hH]
    · rw [h1 33 (by omega), nod _ 33 (.inr rfl), xput_hl.2, hO]
  · have hL : lops ⟨((15 : Nat) : Int), s, t, d, sh, im⟩ = [⟨2, 32, s, 0, 0#32⟩] := rfl
    have hX : xplain X ⟨((15 : Nat) : Int), s, t, d, sh, im⟩ sv tv = { X with hi := sv } := rfl
    rw [hL, hX]
    have h1 := fun (m : Int) (hm : 0 ≤ m) => one_at (κ := 2) (δ := 32) (a := s) (b := 0) (c := 0#32) hV (by omega) (by omega) hm
    have hv : iof ⟨2, 0, 0, 0, 0#32⟩ (rg V s) (rg V 0) = sv := hs
    rw [hv] at h1
    refine ⟨fun n hn => ?_, ?_, ?_⟩
    · rw [h1 n (by omega), if_neg (by omega)]; exact hR n hn
    · rw [h1 32 (by omega), if_pos ⟨rfl, by omega⟩]
    · rw [h1 33 (by omega), if_neg (by omega), hO]
  · have hL : lops ⟨((16 : Nat) : Int), s, t, d, sh, im⟩ = [⟨2, d, 33, 0, 0#32⟩] := rfl
    have hX : xplain X ⟨((16 : Nat) : Int), s, t, d, sh, im⟩ sv tv = xput X d X.lo := rfl
    rw [hL, hX]
    have h1 := fun (m : Int) (hm : 0 ≤ m) => one_at (κ := 2) (δ := d) (a := 33) (b := 0) (c := 0#32) hV (by omega) (by omega) hm
    have hv : iof ⟨2, 0, 0, 0, 0#32⟩ (rg V 33) (rg V 0) = X.lo := hO
    rw [hv] at h1
    refine ⟨fun n hn => ?_, ?_, ?_⟩
    · rw [h1 n (by omega)]; exact put _ X rfl n hn
    · rw [h1 32 (by omega), nod _ 32 (.inl rfl), xput_hl.1, hH]
    · rw [h1 33 (by omega), nod _ 33 (.inr rfl), xput_hl.2, hO]
  · have hL : lops ⟨((17 : Nat) : Int), s, t, d, sh, im⟩ = [⟨2, 33, s, 0, 0#32⟩] := rfl
    have hX : xplain X ⟨((17 : Nat) : Int), s, t, d, sh, im⟩ sv tv = { X with lo := sv } := rfl
    rw [hL, hX]
    have h1 := fun (m : Int) (hm : 0 ≤ m) => one_at (κ := 2) (δ := 33) (a := s) (b := 0) (c := 0#32) hV (by omega) (by omega) hm
    have hv : iof ⟨2, 0, 0, 0, 0#32⟩ (rg V s) (rg V 0) = sv := hs
    rw [hv] at h1
    refine ⟨fun n hn => ?_, ?_, ?_⟩
    · rw [h1 n (by omega), if_neg (by omega)]; exact hR n hn
    · rw [h1 32 (by omega), if_neg (by omega), hH]
    · rw [h1 33 (by omega), if_pos ⟨rfl, by omega⟩]
  · have hL : irun V (lops ⟨((18 : Nat) : Int), s, t, d, sh, im⟩) = (V.set 32 (mulHi (rg V s) (rg V t) true)).set 33 (rg V s * rg V t) := rfl
    have hX : xplain X ⟨((18 : Nat) : Int), s, t, d, sh, im⟩ sv tv = { X with hi := mulHi sv tv true, lo := sv * tv } := rfl
    rw [hL, hX, hs, ht]
    refine ⟨fun n hn => ?_, ?_, ?_⟩
    · rw [rset (by simp [hV]) (by omega) (by omega), rset hV (by omega) (by omega), if_neg (by omega), if_neg (by omega)]; exact hR n hn
    · rw [rset (by simp [hV]) (by omega) (by omega), rset hV (by omega) (by omega)]; rfl
    · rw [rset (by simp [hV]) (by omega) (by omega), rset hV (by omega) (by omega)]; rfl
  · have hL : irun V (lops ⟨((19 : Nat) : Int), s, t, d, sh, im⟩) = (V.set 32 (mulHi (rg V s) (rg V t) false)).set 33 (rg V s * rg V t) := rfl
    have hX : xplain X ⟨((19 : Nat) : Int), s, t, d, sh, im⟩ sv tv = { X with hi := mulHi sv tv false, lo := sv * tv } := rfl
    rw [hL, hX, hs, ht]
    refine ⟨fun n hn => ?_, ?_, ?_⟩
    · rw [rset (by simp [hV]) (by omega) (by omega), rset hV (by omega) (by omega), if_neg (by omega), if_neg (by omega)]; exact hR n hn
    · rw [rset (by simp [hV]) (by omega) (by omega), rset hV (by omega) (by omega)]; rfl
    · rw [rset (by simp [hV]) (by omega) (by omega), rset hV (by omega) (by omega)]; rfl
  · have hL : irun V (lops ⟨((20 : Nat) : Int), s, t, d, sh, im⟩) = (V.set 33 (divQ (rg V s) (rg V t) true)).set 32 (divR (rg V s) (rg V t) true) := rfl
    have hX : xplain X ⟨((20 : Nat) : Int), s, t, d, sh, im⟩ sv tv = { X with hi := divR sv tv true, lo := divQ sv tv true } := rfl
    rw [hL, hX, hs, ht]
    refine ⟨fun n hn => ?_, ?_, ?_⟩
    · rw [rset (by simp [hV]) (by omega) (by omega), rset hV (by omega) (by omega), if_neg (by omega), if_neg (by omega)]; exact hR n hn
    · rw [rset (by simp [hV]) (by omega) (by omega), rset hV (by omega) (by omega)]; rfl
    · rw [rset (by simp [hV]) (by omega) (by omega), rset hV (by omega) (by omega)]; rfl
  · have hL : irun V (lops ⟨((21 : Nat) : Int), s, t, d, sh, im⟩) = (V.set 33 (divQ (rg V s) (rg V t) false)).set 32 (divR (rg V s) (rg V t) false) := rfl
    have hX : xplain X ⟨((21 : Nat) : Int), s, t, d, sh, im⟩ sv tv = { X with hi := divR sv tv false, lo := divQ sv tv false } := rfl
    rw [hL, hX, hs, ht]
    refine ⟨fun n hn => ?_, ?_, ?_⟩
    · rw [rset (by simp [hV]) (by omega) (by omega), rset hV (by omega) (by omega), if_neg (by omega), if_neg (by omega)]; exact hR n hn
    · rw [rset (by simp [hV]) (by omega) (by omega), rset hV (by omega) (by omega)]; rfl
    · rw [rset (by simp [hV]) (by omega) (by omega), rset hV (by omega) (by omega)]; rfl
  · have hL : lops ⟨((76 : Nat) : Int), s, t, d, sh, im⟩ = [] := rfl
    have hX : xplain X ⟨((76 : Nat) : Int), s, t, d, sh, im⟩ sv tv = X := rfl
    rw [hL, hX]
    exact ⟨hR, hH, hO⟩
  · have hL : lops ⟨((77 : Nat) : Int), s, t, d, sh, im⟩ = [] := rfl
    have hX : xplain X ⟨((77 : Nat) : Int), s, t, d, sh, im⟩ sv tv = X := rfl
    rw [hL, hX]
    exact ⟨hR, hH, hO⟩
theorem rg_leaves {V W : Regs} (h : V.take 34 = W.take 34) {n : Int} (h0 : 0 ≤ n) (h1 : n < 34) : rg V n = rg W n := by
  unfold rg
  have e : (V.take 34)[n.toNat]? = (W.take 34)[n.toNat]? := by rw [h]
  rw [List.getElem?_take, List.getElem?_take, if_pos (by omega), if_pos (by omega)] at e
  rw [List.getD_eq_getElem?_getD, List.getD_eq_getElem?_getD, e]
theorem xgo_keep {X : CS} : (xgo X 1).R = X.R ∧ (xgo X 1).hi = X.hi ∧ (xgo X 1).lo = X.lo ∧ (xgo X 1).tm = X.tm + 1 := by
  unfold xgo
  simp only
  split <;> exact ⟨rfl, rfl, rfl, rfl⟩
theorem xon_keep {X : CS} {i : Ins} {s t : BitVec 32} (hc : dcls i.k = 1) : (xon X i s t).R = X.R ∧ (xon X i s t).hi = X.hi ∧ (xon X i s t).lo = X.lo := by
  have n41 := cls_ne 41 hc (by decide)
  have n38 := cls_ne 38 hc (by decide)
  have n39 := cls_ne 39 hc (by decide)
  have n8 := cls_ne 8 hc (by decide)
  have e : xlinks i = false := by simp [xlinks, n41, n38, n39, n8]
  unfold xon
  simp only
  rw [if_neg (by rw [e]; simp)]
  exact ⟨rfl, rfl, rfl⟩
/-- A block's short row of operations leaves what its instruction leaves. -/
theorem cv_step {V : Regs} {X : CS} {i : Ins} (C : Cv V X) (h : Iw i) (hc : dcls i.k = 1) : Cv (irun V (iopt (lops i))) (xgo (xon (xplain X i (X.R i.s.toNat) (X.R i.t.toNat)) i (X.R i.s.toNat) (X.R i.t.toNat)) 1) := by
  obtain ⟨h1, h2, h3⟩ := cv_lops C h hc
  have hok := lops_ok h
  have hz : rg V 0 = 0#32 := by have := C.r 0 (by omega); rw [C.z] at this; exact this
  have hl := leaves_opt hok C.len hz
  have hz2 := irun_zero hok C.len hz
  have g := fun (n : Int) h0 h1 => rg_leaves (V := irun V (iopt (lops i))) (W := irun V (lops i)) hl (n := n) h0 h1
  obtain ⟨g1, g2, g3, _⟩ := xgo_keep (X := xon (xplain X i (X.R i.s.toNat) (X.R i.t.toNat)) i (X.R i.s.toNat) (X.R i.t.toNat))
  obtain ⟨o1, o2, o3⟩ := xon_keep (X := xplain X i (X.R i.s.toNat) (X.R i.t.toNat)) (i := i) (s := X.R i.s.toNat) (t := X.R i.t.toNat) hc
  refine ⟨by simp [C.len], fun n hn => ?_, ?_, ?_, ?_⟩
  · rw [g n (by omega) (by omega), h1 n hn, g1, o1]
  · rw [g 32 (by omega) (by omega), h2, g2, o2]
  · rw [g 33 (by omega) (by omega), h3, g3, o3]
  · rw [g1, o1, ← h1 0 (by omega)]; exact hz2
end Go.Dx

/- Blocks against the document's machine: registers filled, what is left. -/
set_option linter.unusedSimpArgs false
set_option linter.unusedVariables false
namespace Go.Dx
open Go
theorem bsm_self2 {B : By} {a : BitVec 32} {n : Nat} (hl : B.length = 2048) (h2 : a.toNat < 2048) (h4 : a.toNat % 4 = 0) : bsm B a 0 (bws B n true false a) = true := by
  have hp := bws_page (B := B) (n := n) (f := true) (s := false) h4
  have hp0 : a.toNat + 4 * (bws B n true false a).length ≤ 2048 := by omega
  clear hp
  rw [bsm_iff]
  simp only [Nat.zero_add]
  intro i w hw
  obtain ⟨hi, _⟩ := List.getElem?_eq_some_iff.mp hw
  have e : (a + BitVec.ofNat 32 (4 * i)).toNat = a.toNat + 4 * i := by
    simp only [BitVec.toNat_add, BitVec.toNat_ofNat]
    omega
  have := bws_at hw
  have he : evB B (a + BitVec.ofNat 32 (4 * i)) 4 = true := by
    unfold evB
    rw [e, hl]
    simp only [decide_eq_true_eq]
    refine ⟨.inr (.inr (by trivial)), ?_, ?_⟩ <;> omega
  rw [ldw, if_pos he] at this
  exact ⟨he, this.symm⟩
/-- A state whose registers come from a row. -/
def XR (X : CS) (l : List (BitVec 32)) (j : Nat) : CS := { X with R := fun n => rg (rgsj l j) n }
theorem XR_one {X : CS} {l : List (BitVec 32)} (h : ∀ n, X.R n = 0#32) : XR X l 1 = X := by
  obtain ⟨R, hi, lo, pc, nx, sl, li, ln, C, T, w, t⟩ := X
  simp only [XR, CS.mk.injEq, and_true, rgsj_one]
  funext n
  have := h n
  simp only at this
  rw [this]
  unfold rg
  rw [List.getD_eq_getElem?_getD, List.getElem?_replicate]
  split <;> rfl
theorem XR_set {X : CS} {l : List (BitVec 32)} {j : Nat} {x : BitVec 32} (h1 : 1 ≤ j) (h2 : j < 40) (hx : l[j]? = some x) : { XR X l j with R := setf (XR X l j).R j x } = XR X l (j + 1) := by
  simp only [XR, CS.mk.injEq, and_true, ← rgsj_set h1 h2 hx]
  funext n
  rw [rg_set (by omega) (by simp; omega)]
  simp only [setf]
  by_cases h : n = j
  · rw [if_pos h, if_pos (by omega)]
  · rw [if_neg h, if_neg (by omega)]
theorem XR_cv {X : CS} {l : List (BitVec 32)} {j : Nat} (hh : X.hi = 0#32) (hl : X.lo = 0#32) (hj : j ≤ 32) : Cv (rgsj l j) (XR X l j) := by
  have g := fun i (hi : i < 40) => rgsj_get l j i hi
  have r := fun (i : Nat) (hi : i < 40) => show rg (rgsj l j) i = if 1 ≤ i ∧ i < j then l.getD i 0#32 else 0#32 by
    unfold rg
    rw [List.getD_eq_getElem?_getD, show ((i : Int)).toNat = i from rfl, g i hi]
    rfl
  refine ⟨by simp, fun n _ => rfl, ?_, ?_, ?_⟩
  · have := r 32 (by omega)
    rw [if_neg (by omega)] at this
    exact this.trans hh.symm
  · have := r 33 (by omega)
    rw [if_neg (by omega)] at this
    exact this.trans hl.symm
  · have := r 0 (by omega)
    rw [if_neg (by omega)] at this
    exact this
theorem Cv.take {V : Regs} {X : CS} (C : Cv V X) : V.take 32 = (List.range 32).map X.R := by
  have hl := C.len
  apply List.ext_getElem?
  intro i
  rw [List.getElem?_take]
  split
  · rename_i hi
    have := C.r i hi
    unfold rg at this
    rw [List.getD_eq_getElem?_getD, show ((i : Int)).toNat = i from rfl, List.getElem?_eq_getElem (by omega)] at this
    rw [List.getElem?_eq_getElem (by omega), List.getElem?_map, List.getElem?_range hi]
    simpa using this
  · rw [List.getElem?_eq_none (by simp; omega)]
theorem Cv.at' {V : Regs} {X : CS} (C : Cv V X) : V[32]? = some X.hi ∧ V[33]? = some X.lo := by
  have hl := C.len
  have h1 := C.hi
  have h2 := C.lo
  unfold rg at h1 h2
  rw [List.getD_eq_getElem?_getD, show ((32 : Int)).toNat = 32 from rfl] at h1
  rw [List.getD_eq_getElem?_getD, show ((33 : Int)).toNat = 33 from rfl] at h2
  rw [List.getElem?_eq_getElem (by omega)] at h1 h2 ⊢
  rw [List.getElem?_eq_getElem (by omega)]
  exact ⟨congrArg some h1, congrArg some h2⟩
theorem cs_take {X : CS} {r : List Value} : (X.cs ++ r).take 32 = ((List.range 32).map X.R).map u32 := by
  apply List.ext_getElem?
  intro i
  rw [List.getElem?_take]
  split
  · rename_i hi
    rw [CS.at' (by omega), CS.cell_R hi, List.getElem?_map, List.getElem?_map, List.getElem?_range hi]
    rfl
  · rw [List.getElem?_eq_none (by simp; omega)]
theorem cs_regs {h : Hp} {b : Nat} {X : CS} {r : List Value} (g : h.get b = some (.cells false (X.cs ++ r))) : Sees encW h (some ⟨b, 0, none⟩) ((List.range 32).map X.R) := ⟨fun hA => (by cases hA), fun A hA => by
  cases hA
  rw [encW_all, ← cs_take (r := r)]
  simp only [Hp.rdn, Hp.cells, g, Option.bind_some, Nat.zero_add, encW_sz, Nat.mul_one, List.length_map, List.length_range]
  rw [if_pos (by simp; omega), List.drop_zero], fun A hA => (by cases hA; exact .inl rfl)⟩
end Go.Dx
