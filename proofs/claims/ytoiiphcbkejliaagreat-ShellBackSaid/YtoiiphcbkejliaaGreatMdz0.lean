/- Texts of one kind, one behind the other. -/
import Derived.Test.YtoiiphcbkejliaaGreatMcz0
/- Memory in one form: blocks that were pushed, with what they hold now. -/
set_option linter.unusedSimpArgs false
set_option linter.unusedVariables false
namespace Go.Dx
open Go
section
variable {g h : Hp} {o p : Ob} {x y : Option Ob} {b c k n : Nat} {ro : Bool} {C : List Value}
@[simp] theorem put_push_eq (hb : b ≤ h.next ∧ h.next ≤ b) : (h.push o).put b (some p) = h.push p := by
  obtain rfl : b = h.next := by omega
  exact push_put_self
@[simp] theorem put_push_ne (hb : b ≠ h.next) : (h.push o).put b x = (h.put b x).push o := Hp.ext' rfl fun k => by
  by_cases hk : k = h.next
  · subst hk
    have e : (h.put b x).next = h.next := rfl
    rw [get_put_ne (fun h => hb h.symm), get_push_self, ← e, get_push_self]
  · rw [get_push_ne (show k ≠ (h.put b x).next from hk)]
    by_cases hkb : k = b
    · subst hkb
      by_cases hl : k < h.next
      · rw [get_put_self (by simp; omega), get_put_self hl]
      · have e1 : ((h.push o).put k x).get k = none := ((h.push o).put k x).wf k (by simp; omega)
        have e2 : (h.put k x).get k = none := (h.put k x).wf k (by simp; omega)
        rw [e1, e2]
    · rw [get_put_ne hkb, get_put_ne hkb, get_push_ne hk]
@[simp] theorem put_put_s : (h.put b x).put b y = h.put b y := put_put
@[simp] theorem rdn_push_eq (hb : b ≤ h.next ∧ h.next ≤ b) (hn : C.length = n) : (h.push (.cells ro C)).rdn b 0 n = some C := by
  obtain rfl : b = h.next := by omega
  exact rdn_all get_push_self hn
@[simp] theorem rdn_push_ne (hb : b ≠ h.next) : (h.push o).rdn b k n = h.rdn b k n := by simp only [Hp.rdn, Hp.cells, get_push_ne hb]
@[simp] theorem rdn_put_self (hb : b < h.next) (hn : C.length = n) : (h.put b (some (.cells ro C))).rdn b 0 n = some C := rdn_all (get_put_self hb) hn
@[simp] theorem rdn_put_ne (hb : c ≠ b) : (h.put b x).rdn c k n = h.rdn c k n := by simp only [Hp.rdn, Hp.cells, get_put_ne hb]
@[simp] theorem rdn_adv {m : Nat} : (h.adv m).rdn b k n = h.rdn b k n := rfl
@[simp] theorem adv_put_eq (hb : b ≤ h.next ∧ h.next ≤ b) : (h.adv 1).put b (some o) = h.push o := by
  obtain rfl : b = h.next := by omega
  exact adv_put
@[simp] theorem veq_ag (a b : List Value) : veq (.agg a.toArray) (.agg b.toArray) = veqL a b := by simp [veq]
@[simp] theorem veqL_nil : veqL [] [] = true := rfl
@[simp] theorem veqL_cons (a b : Value) (l m : List Value) : veqL (a :: l) (b :: m) = (veqF a b && veqL l m) := rfl
@[simp] theorem veqF_int (k : IntKind) (n : Int) : veqF (.int k n) (.int k n) = true := by simp [veqF]
@[simp] theorem veqF_u32 (x : BitVec 32) : veqF (u32 x) (u32 x) = true := veqF_int _ _
@[simp] theorem veqF_u8 (x : BitVec 8) : veqF (u8 x) (u8 x) = true := veqF_int _ _
@[simp] theorem veqF_bool (x : Bool) : veqF (.bool x) (.bool x) = true := by simp [veqF]
attribute [simp] Kp.refl Kp.push Kp.put Kp.adv
end
end Go.Dx
