/- Texts of one kind, one behind the other. -/
import Derived.Test.YtmgoleiafiffoaaGreatMcz0
/- Memory in one form: blocks that were pushed, with what they hold now. -/
set_option linter.unusedSimpArgs false
set_option linter.unusedVariables false
namespace Go.Dx
open Go
section
variable {g h : Hp} {o p : Ob} {x y : Option Ob} {b c k n : Nat} {ro : Bool} {C : List Value}
@[simp] theorem put_push_eq (hb : b ≤ h.next ∧ h.next ≤ b) : (h.push o).put b (some p) = h.push p := by
  obtain rfl : b = h.next := by omega
  exact push_put_self
@[simp] theorem put_push_ne (hb : b ≠ h.next) : (h.push o).put b x = (h.put b x).push o := Hp.ext' rfl fun k => by
  by_cases hk : k = h.next
  · subst hk
    have e : (h.put b x).next = h.next := rfl
    rw [get_put_ne (fun h => hb h.symm), get_push_self, ← e, get_push_self]
  · rw [get_push_ne (show k ≠ (h.put b x).next from hk)]
    by_cases hkb : k = b
    · subst hkb
      by_cases hl : k < h.next
      · rw [get_put_self (by simp; omega), get_put_self hl]
      · have e1 : ((h.push o).put k x).get k = none := ((h.push o).put k x).wf k (by simp; omega)
        have e2 : (h.put k x).get k = none := (h.put k x).wf k (by simp; omega)
        rw [e1, e2]
    · rw [get_put_ne hkb, get_put_ne hkb, get_push_ne hk]
@[simp] theorem put_put_s : (h.put b x).put b y = h.put b y := put_put
@[simp] theorem rdn_push_eq (hb : b ≤ h.next ∧ h.next ≤ b) (hn : C.length = n) : (h.push (.cells ro C)).rdn b 0 n = some C := by
  obtain rfl : b = h.next := by omega
  exact rdn_all get_push_self hn
@[simp] theorem rdn_push_ne (hb : b ≠ h.next) : (h.push o).rdn b k n = h.rdn b k n := by simp only [Hp.rdn, Hp.cells, get_push_ne hb]
@[simp] theorem rdn_put_self (hb : b < h.next) (hn : C.length = n) : (h.put b (some (.cells ro C))).rdn b 0 n = some C := rdn_all (get_put_self hb) hn
@[simp] theorem rdn_put_ne (hb : c ≠ b) : (h.put b x).rdn c k n = h.rdn c k n := by simp only [Hp.rdn, Hp.cells, get_put_ne hb]
@[simp] theorem rdn_adv {m : Nat} : (h.adv m).rdn b k n = h.rdn b k n := rfl
@[simp] theorem adv_put_eq (hb : b ≤ h.next ∧ h.next ≤ b) : (h.adv 1).put b (some o) = h.push o := by
  obtain rfl : b = h.next := by omega
  exact adv_put
@[simp] theorem veq_ag (a b : List Value) : veq (.agg a.toArray) (.agg b.toArray) = veqL a b := by simp [veq]
@[simp] theorem veqL_nil : veqL [] [] = true := rfl
@[simp] theorem veqL_cons (a b : Value) (l m : List Value) : veqL (a :: l) (b :: m) = (veqF a b && veqL l m) := rfl
@[simp] theorem veqF_int (k : IntKind) (n : Int) : veqF (.int k n) (.int k n) = true := by simp [veqF]
@[simp] theorem veqF_u32 (x : BitVec 32) : veqF (u32 x) (u32 x) = true := veqF_int _ _
@[simp] theorem veqF_u8 (x : BitVec 8) : veqF (u8 x) (u8 x) = true := veqF_int _ _
@[simp] theorem veqF_bool (x : Bool) : veqF (.bool x) (.bool x) = true := by simp [veqF]
attribute [simp] Kp.refl Kp.push Kp.put Kp.adv
end
end Go.Dx

/- A processor's state as it lies. -/
set_option linter.unusedSimpArgs false
set_option linter.unusedVariables false
namespace Go.Dx
open Go
/-- What a processor has. -/
structure CS where
  R : Nat → BitVec 32
  hi : BitVec 32
  lo : BitVec 32
  pc : BitVec 32
  nx : BitVec 32
  slot : Bool
  link : Bool
  lnk : BitVec 32
  C : Nat → BitVec 32
  T : Nat → BitVec 32
  wt : Bool
  tm : Int
def CS.cell (X : CS) (n : Nat) : Value :=
  if n < 32 then u32 (X.R n) else if n = 32 then u32 X.hi else if n = 33 then u32 X.lo else if n = 34 then u32 X.pc else if n = 35 then u32 X.nx else if n = 36 then .bool X.slot else if n = 37 then .bool X.link
  else if n = 38 then u32 X.lnk else if n < 55 then u32 (X.C (n - 39)) else if n < 71 then u32 (X.T (n - 55)) else if n = 71 then .bool X.wt else .int .i64 X.tm
def CS.cs (X : CS) : List Value := (List.range 73).map X.cell
def setf (f : Nat → BitVec 32) (n : Nat) (v : BitVec 32) : Nat → BitVec 32 := fun i => if i = n then v else f i
@[simp] theorem setf_self (f : Nat → BitVec 32) (n : Nat) (v : BitVec 32) : setf f n v n = v := by simp [setf]
theorem setf_ne {f : Nat → BitVec 32} {n m : Nat} {v : BitVec 32} (h : m ≠ n) : setf f n v m = f m := by simp [setf, h]
section
variable {X Y : CS} {r : List Value} {n : Nat} {v : BitVec 32}
@[simp] theorem CS.cs_len : X.cs.length = 73 := by simp [CS.cs]
theorem CS.cs_at (hn : n < 73) : X.cs[n]? = some (X.cell n) := by simp [CS.cs, hn]
@[simp] theorem CS.at' (hn : n < 73) : (X.cs ++ r)[n]? = some (X.cell n) := by rw [List.getElem?_append_left (by simpa using hn), CS.cs_at hn]
@[simp] theorem CS.gt' (hn : n < 73) (hh : n < (X.cs ++ r).length) : (X.cs ++ r)[n]'hh = X.cell n := by
  have := CS.at' (X := X) (r := r) hn
  rw [List.getElem?_eq_getElem hh] at this
  exact Option.some.inj this
theorem CS.over' (hn : n < 73) {w : Value} (h1 : Y.cell n = w) (h2 : ∀ i, i < 73 → i ≠ n → Y.cell i = X.cell i) : Dx.over (X.cs ++ r) n [w] = Y.cs ++ r := by
  rw [over_set (by simp; omega), List.set_append_left _ _ (by simpa using hn)]
  congr 1
  apply List.ext_getElem?
  intro i
  rw [List.getElem?_set]
  by_cases hi : i < 73
  · by_cases he : n = i
    · subst he
      rw [if_pos rfl, if_pos (by simpa using hn), CS.cs_at hn, h1]
    · rw [if_neg he, CS.cs_at hi, CS.cs_at hi, h2 i hi (fun h => he h.symm)]
  · rw [List.getElem?_eq_none (by simp; omega), if_neg (by omega), List.getElem?_eq_none (by simp; omega)]
@[simp] theorem CS.cell_R (hn : n < 32) : X.cell n = u32 (X.R n) := by simp [CS.cell, hn]
@[simp] theorem CS.cell_C (hn : n < 16) : X.cell (39 + n) = u32 (X.C n) := by
  simp only [CS.cell]
  rw [if_neg (by omega), if_neg (by omega), if_neg (by omega), if_neg (by omega), if_neg (by omega), if_neg (by omega), if_neg (by omega), if_neg (by omega), if_pos (by omega)]
  congr 2; omega
@[simp] theorem CS.cell_T (hn : n < 16) : X.cell (55 + n) = u32 (X.T n) := by
  simp only [CS.cell]
  rw [if_neg (by omega), if_neg (by omega), if_neg (by omega), if_neg (by omega), if_neg (by omega), if_neg (by omega), if_neg (by omega), if_neg (by omega), if_neg (by omega), if_pos (by omega)]
  congr 2; omega
@[simp] theorem CS.cell_32 : X.cell 32 = u32 X.hi := rfl
@[simp] theorem CS.cell_33 : X.cell 33 = u32 X.lo := rfl
@[simp] theorem CS.cell_34 : X.cell 34 = u32 X.pc := rfl
@[simp] theorem CS.cell_35 : X.cell 35 = u32 X.nx := rfl
@[simp] theorem CS.cell_36 : X.cell 36 = .bool X.slot := rfl
@[simp] theorem CS.cell_37 : X.cell 37 = .bool X.link := rfl
@[simp] theorem CS.cell_38 : X.cell 38 = u32 X.lnk := rfl
@[simp] theorem CS.cell_71 : X.cell 71 = .bool X.wt := rfl
@[simp] theorem CS.cell_72 : X.cell 72 = .int .i64 X.tm := rfl
@[simp] theorem CS.cell_39 : X.cell 39 = u32 (X.C 0) := rfl
@[simp] theorem CS.cell_40 : X.cell 40 = u32 (X.C 1) := rfl
@[simp] theorem CS.cell_41 : X.cell 41 = u32 (X.C 2) := rfl
@[simp] theorem CS.cell_42 : X.cell 42 = u32 (X.C 3) := rfl
@[simp] theorem CS.cell_43 : X.cell 43 = u32 (X.C 4) := rfl
@[simp] theorem CS.cell_44 : X.cell 44 = u32 (X.C 5) := rfl
@[simp] theorem CS.cell_45 : X.cell 45 = u32 (X.C 6) := rfl
@[simp] theorem CS.cell_46 : X.cell 46 = u32 (X.C 7) := rfl
@[simp] theorem CS.cell_47 : X.cell 47 = u32 (X.C 8) := rfl
@[simp] theorem CS.cell_48 : X.cell 48 = u32 (X.C 9) := rfl
@[simp] theorem CS.cell_49 : X.cell 49 = u32 (X.C 10) := rfl
@[simp] theorem CS.cell_50 : X.cell 50 = u32 (X.C 11) := rfl
@[simp] theorem CS.cell_51 : X.cell 51 = u32 (X.C 12) := rfl
@[simp] theorem CS.cell_52 : X.cell 52 = u32 (X.C 13) := rfl
@[simp] theorem CS.cell_53 : X.cell 53 = u32 (X.C 14) := rfl
@[simp] theorem CS.cell_54 : X.cell 54 = u32 (X.C 15) := rfl
@[simp] theorem CS.cell_55 : X.cell 55 = u32 (X.T 0) := rfl
@[simp] theorem CS.cell_56 : X.cell 56 = u32 (X.T 1) := rfl
@[simp] theorem CS.cell_57 : X.cell 57 = u32 (X.T 2) := rfl
@[simp] theorem CS.cell_58 : X.cell 58 = u32 (X.T 3) := rfl
@[simp] theorem CS.cell_59 : X.cell 59 = u32 (X.T 4) := rfl
@[simp] theorem CS.cell_60 : X.cell 60 = u32 (X.T 5) := rfl
@[simp] theorem CS.cell_61 : X.cell 61 = u32 (X.T 6) := rfl
@[simp] theorem CS.cell_62 : X.cell 62 = u32 (X.T 7) := rfl
@[simp] theorem CS.cell_63 : X.cell 63 = u32 (X.T 8) := rfl
@[simp] theorem CS.cell_64 : X.cell 64 = u32 (X.T 9) := rfl
@[simp] theorem CS.cell_65 : X.cell 65 = u32 (X.T 10) := rfl
@[simp] theorem CS.cell_66 : X.cell 66 = u32 (X.T 11) := rfl
@[simp] theorem CS.cell_67 : X.cell 67 = u32 (X.T 12) := rfl
@[simp] theorem CS.cell_68 : X.cell 68 = u32 (X.T 13) := rfl
@[simp] theorem CS.cell_69 : X.cell 69 = u32 (X.T 14) := rfl
@[simp] theorem CS.cell_70 : X.cell 70 = u32 (X.T 15) := rfl
@[simp] theorem CS.over_R (hn : n < 32) : Dx.over (X.cs ++ r) n [u32 v] = ({ X with R := setf X.R n v } : CS).cs ++ r := by
  refine CS.over' (by omega) (by simp [CS.cell, hn]) fun i hi hne => ?_
  simp only [CS.cell]
  by_cases h : i < 32
  · rw [if_pos h, if_pos h, setf_ne hne]
  · rw [if_neg h, if_neg h]
theorem CS.over_Cn (hn : n < 16) : Dx.over (X.cs ++ r) (39 + n) [u32 v] = ({ X with C := setf X.C n v } : CS).cs ++ r := by
  refine CS.over' (by omega) (by rw [CS.cell_C hn]; simp) fun i hi hne => ?_
  simp only [CS.cell]
  by_cases h : i < 39
  · have : ∀ a b : Value, (if i < 55 then a else b) = a := fun a b => if_pos (by omega)
    simp only [this]
    repeat' split
    all_goals first | rfl | omega
  · by_cases h2 : i < 55
    · have e : i - 39 ≠ n := by omega
      rw [if_neg (by omega), if_neg (by omega), if_neg (by omega), if_neg (by omega), if_neg (by omega), if_neg (by omega), if_neg (by omega), if_neg (by omega), if_pos h2, if_neg (by omega), if_neg (by omega), if_neg (by omega), if_neg (by omega), if_neg (by omega), if_neg (by omega), if_neg (by omega), if_neg (by omega), if_pos h2, setf_ne e]
    · simp only [if_neg h2]
      repeat' split
      all_goals rfl
theorem CS.over_Tn (hn : n < 16) : Dx.over (X.cs ++ r) (55 + n) [u32 v] = ({ X with T := setf X.T n v } : CS).cs ++ r := by
  refine CS.over' (by omega) (by rw [CS.cell_T hn]; simp) fun i hi hne => ?_
  simp only [CS.cell]
  by_cases h : i < 55
  · simp only [if_pos h]
    repeat' split
    all_goals rfl
  · by_cases h2 : i < 71
    · have e : i - 55 ≠ n := by omega
      simp only [if_neg h, if_pos h2, setf_ne e]
      repeat' split
      all_goals rfl
    · simp only [if_neg h, if_neg h2]
      repeat' split
      all_goals rfl
@[simp] theorem CS.over_hi {v : BitVec 32} : Dx.over (X.cs ++ r) 32 [u32 v] = ({ X with hi := v } : CS).cs ++ r := by
  refine CS.over' (by omega) rfl fun i hi hne => ?_
  simp only [CS.cell]
  repeat' split
  all_goals first | rfl | omega
@[simp] theorem CS.over_lo {v : BitVec 32} : Dx.over (X.cs ++ r) 33 [u32 v] = ({ X with lo := v } : CS).cs ++ r := by
  refine CS.over' (by omega) rfl fun i hi hne => ?_
  simp only [CS.cell]
  repeat' split
  all_goals first | rfl | omega
@[simp] theorem CS.over_pc {v : BitVec 32} : Dx.over (X.cs ++ r) 34 [u32 v] = ({ X with pc := v } : CS).cs ++ r := by
  refine CS.over' (by omega) rfl fun i hi hne => ?_
  simp only [CS.cell]
  repeat' split
  all_goals first | rfl | omega
@[simp] theorem CS.over_nx {v : BitVec 32} : Dx.over (X.cs ++ r) 35 [u32 v] = ({ X with nx := v } : CS).cs ++ r := by
  refine CS.over' (by omega) rfl fun i hi hne => ?_
  simp only [CS.cell]
  repeat' split
  all_goals first | rfl | omega
@[simp] theorem CS.over_slot {v : Bool} : Dx.over (X.cs ++ r) 36 [.bool v] = ({ X with slot := v } : CS).cs ++ r := by
  refine CS.over' (by omega) rfl fun i hi hne => ?_
  simp only [CS.cell]
  repeat' split
  all_goals first | rfl | omega
@[simp] theorem CS.over_link {v : Bool} : Dx.over (X.cs ++ r) 37 [.bool v] = ({ X with link := v } : CS).cs ++ r := by
  refine CS.over' (by omega) rfl fun i hi hne => ?_
  simp only [CS.cell]
  repeat' split
  all_goals first | rfl | omega
@[simp] theorem CS.over_lnk {v : BitVec 32} : Dx.over (X.cs ++ r) 38 [u32 v] = ({ X with lnk := v } : CS).cs ++ r := by
  refine CS.over' (by omega) rfl fun i hi hne => ?_
  simp only [CS.cell]
  repeat' split
  all_goals first | rfl | omega
@[simp] theorem CS.over_wt {v : Bool} : Dx.over (X.cs ++ r) 71 [.bool v] = ({ X with wt := v } : CS).cs ++ r := by
  refine CS.over' (by omega) rfl fun i hi hne => ?_
  simp only [CS.cell]
  repeat' split
  all_goals first | rfl | omega
@[simp] theorem CS.over_tm {v : Int} : Dx.over (X.cs ++ r) 72 [.int .i64 v] = ({ X with tm := v } : CS).cs ++ r := by
  refine CS.over' (by omega) rfl fun i hi hne => ?_
  rcases (by omega : i < 32 ∨ i = 32 ∨ i = 33 ∨ i = 34 ∨ i = 35 ∨ i = 36 ∨ i = 37 ∨ i = 38 ∨ (39 ≤ i ∧ i < 55) ∨ (55 ≤ i ∧ i < 71) ∨ i = 71) with h | rfl | rfl | rfl | rfl | rfl | rfl | rfl | h | h | rfl
  · rw [CS.cell_R h, CS.cell_R h]
  · rfl
  · rfl
  · rfl
  · rfl
  · rfl
  · rfl
  · rfl
  · obtain ⟨j, rfl⟩ : ∃ j, i = 39 + j := ⟨i - 39, by omega⟩
    rw [CS.cell_C (by omega), CS.cell_C (by omega)]
  · obtain ⟨j, rfl⟩ : ∃ j, i = 55 + j := ⟨i - 55, by omega⟩
    rw [CS.cell_T (by omega), CS.cell_T (by omega)]
  · rfl
@[simp] theorem CS.over_39 : Dx.over (X.cs ++ r) 39 [u32 v] = ({ X with C := setf X.C 0 v } : CS).cs ++ r := CS.over_Cn (n := 0) (by omega)
@[simp] theorem CS.over_40 : Dx.over (X.cs ++ r) 40 [u32 v] = ({ X with C := setf X.C 1 v } : CS).cs ++ r := CS.over_Cn (n := 1) (by omega)
@[simp] theorem CS.over_41 : Dx.over (X.cs ++ r) 41 [u32 v] = ({ X with C := setf X.C 2 v } : CS).cs ++ r := CS.over_Cn (n := 2) (by omega)
@[simp] theorem CS.over_42 : Dx.over (X.cs ++ r) 42 [u32 v] = ({ X with C := setf X.C 3 v } : CS).cs ++ r := CS.over_Cn (n := 3) (by omega)
@[simp] theorem CS.over_43 : Dx.over (X.cs ++ r) 43 [u32 v] = ({ X with C := setf X.C 4 v } : CS).cs ++ r := CS.over_Cn (n := 4) (by omega)
@[simp] theorem CS.over_44 : Dx.over (X.cs ++ r) 44 [u32 v] = ({ X with C := setf X.C 5 v } : CS).cs ++ r := CS.over_Cn (n := 5) (by omega)
@[simp] theorem CS.over_45 : Dx.over (X.cs ++ r) 45 [u32 v] = ({ X with C := setf X.C 6 v } : CS).cs ++ r := CS.over_Cn (n := 6) (by omega)
@[simp] theorem CS.over_46 : Dx.over (X.cs ++ r) 46 [u32 v] = ({ X with C := setf X.C 7 v } : CS).cs ++ r := CS.over_Cn (n := 7) (by omega)
@[simp] theorem CS.over_47 : Dx.over (X.cs ++ r) 47 [u32 v] = ({ X with C := setf X.C 8 v } : CS).cs ++ r := CS.over_Cn (n := 8) (by omega)
@[simp] theorem CS.over_48 : Dx.over (X.cs ++ r) 48 [u32 v] = ({ X with C := setf X.C 9 v } : CS).cs ++ r := CS.over_Cn (n := 9) (by omega)
@[simp] theorem CS.over_49 : Dx.over (X.cs ++ r) 49 [u32 v] = ({ X with C := setf X.C 10 v } : CS).cs ++ r := CS.over_Cn (n := 10) (by omega)
@[simp] theorem CS.over_50 : Dx.over (X.cs ++ r) 50 [u32 v] = ({ X with C := setf X.C 11 v } : CS).cs ++ r := CS.over_Cn (n := 11) (by omega)
@[simp] theorem CS.over_51 : Dx.over (X.cs ++ r) 51 [u32 v] = ({ X with C := setf X.C 12 v } : CS).cs ++ r := CS.over_Cn (n := 12) (by omega)
@[simp] theorem CS.over_52 : Dx.over (X.cs ++ r) 52 [u32 v] = ({ X with C := setf X.C 13 v } : CS).cs ++ r := CS.over_Cn (n := 13) (by omega)
@[simp] theorem CS.over_53 : Dx.over (X.cs ++ r) 53 [u32 v] = ({ X with C := setf X.C 14 v } : CS).cs ++ r := CS.over_Cn (n := 14) (by omega)
@[simp] theorem CS.over_54 : Dx.over (X.cs ++ r) 54 [u32 v] = ({ X with C := setf X.C 15 v } : CS).cs ++ r := CS.over_Cn (n := 15) (by omega)
@[simp] theorem CS.over_55 : Dx.over (X.cs ++ r) 55 [u32 v] = ({ X with T := setf X.T 0 v } : CS).cs ++ r := CS.over_Tn (n := 0) (by omega)
@[simp] theorem CS.over_56 : Dx.over (X.cs ++ r) 56 [u32 v] = ({ X with T := setf X.T 1 v } : CS).cs ++ r := CS.over_Tn (n := 1) (by omega)
@[simp] theorem CS.over_57 : Dx.over (X.cs ++ r) 57 [u32 v] = ({ X with T := setf X.T 2 v } : CS).cs ++ r := CS.over_Tn (n := 2) (by omega)
@[simp] theorem CS.over_58 : Dx.over (X.cs ++ r) 58 [u32 v] = ({ X with T := setf X.T 3 v } : CS).cs ++ r := CS.over_Tn (n := 3) (by omega)
@[simp] theorem CS.over_59 : Dx.over (X.cs ++ r) 59 [u32 v] = ({ X with T := setf X.T 4 v } : CS).cs ++ r := CS.over_Tn (n := 4) (by omega)
@[simp] theorem CS.over_60 : Dx.over (X.cs ++ r) 60 [u32 v] = ({ X with T := setf X.T 5 v } : CS).cs ++ r := CS.over_Tn (n := 5) (by omega)
@[simp] theorem CS.over_61 : Dx.over (X.cs ++ r) 61 [u32 v] = ({ X with T := setf X.T 6 v } : CS).cs ++ r := CS.over_Tn (n := 6) (by omega)
@[simp] theorem CS.over_62 : Dx.over (X.cs ++ r) 62 [u32 v] = ({ X with T := setf X.T 7 v } : CS).cs ++ r := CS.over_Tn (n := 7) (by omega)
@[simp] theorem CS.over_63 : Dx.over (X.cs ++ r) 63 [u32 v] = ({ X with T := setf X.T 8 v } : CS).cs ++ r := CS.over_Tn (n := 8) (by omega)
@[simp] theorem CS.over_64 : Dx.over (X.cs ++ r) 64 [u32 v] = ({ X with T := setf X.T 9 v } : CS).cs ++ r := CS.over_Tn (n := 9) (by omega)
@[simp] theorem CS.over_65 : Dx.over (X.cs ++ r) 65 [u32 v] = ({ X with T := setf X.T 10 v } : CS).cs ++ r := CS.over_Tn (n := 10) (by omega)
@[simp] theorem CS.over_66 : Dx.over (X.cs ++ r) 66 [u32 v] = ({ X with T := setf X.T 11 v } : CS).cs ++ r := CS.over_Tn (n := 11) (by omega)
@[simp] theorem CS.over_67 : Dx.over (X.cs ++ r) 67 [u32 v] = ({ X with T := setf X.T 12 v } : CS).cs ++ r := CS.over_Tn (n := 12) (by omega)
@[simp] theorem CS.over_68 : Dx.over (X.cs ++ r) 68 [u32 v] = ({ X with T := setf X.T 13 v } : CS).cs ++ r := CS.over_Tn (n := 13) (by omega)
@[simp] theorem CS.over_69 : Dx.over (X.cs ++ r) 69 [u32 v] = ({ X with T := setf X.T 14 v } : CS).cs ++ r := CS.over_Tn (n := 14) (by omega)
@[simp] theorem CS.over_70 : Dx.over (X.cs ++ r) 70 [u32 v] = ({ X with T := setf X.T 15 v } : CS).cs ++ r := CS.over_Tn (n := 15) (by omega)
end
end Go.Dx

/- Instructions that only reckon: what they give. -/
set_option linter.unusedSimpArgs false
set_option linter.unusedVariables false
namespace Go.Dx
open Go
/-- Does a kind give a number? -/
def aIs (k : Int) : Bool := decide ((1 ≤ k ∧ k ≤ 6) ∨ (22 ≤ k ∧ k ≤ 31) ∨ (46 ≤ k ∧ k ≤ 53) ∨ (63 ≤ k ∧ k ≤ 65))
def aInto (i : Ins) : Int := if aIs i.k = false then 0 else if 46 ≤ i.k ∧ i.k ≤ 53 then i.t else i.d
end Go.Dx
