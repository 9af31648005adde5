/- Tables of functions, one by one. -/
import Derived.Test.YtppgoobhlcdbbaaSx5
set_option linter.unusedSimpArgs false
set_option linter.unusedVariables false
namespace Go.Dx
open Go

def ins (n : Nat) (x : Fn) (T : Nat → Option Fn) : Nat → Option Fn := fun k => if k = n then some x else T k
section
variable {P : Program} {any : Nat → Array Oper → Option (Nat × List It)} {T : Nat → Option Fn} {n : Nat}
theorem tab_none : TabOK P any fun _ => none := fun f x h => by cases h
theorem tab_ins {F : F} (hc : compF P any n = some (F.body, F.res)) (hT : TabOK P any T) : TabOK P any (ins n (.code F) T) := fun f x h => by
  unfold ins at h
  split at h
  · rename_i e; subst e; cases h; exact hc
  · exact hT f x h
theorem tab_spec {s : Sp} (hc : SpecOK P n s) (hT : TabOK P any T) : TabOK P any (ins n (.spec s) T) := fun f x h => by
  unfold ins at h
  split at h
  · rename_i e; subst e; cases h; exact hc
  · exact hT f x h
end
section
variable {T : Nat → Option Fn} {Q : Ex → Env → Hp → Prop} {k : List Fr} {e : Env} {h : Hp} {a : C}
@[simp] theorem GR_loop_n : GR T Q (.loop a :: k) .n e h ↔ G T Q (.loop a) k e h := Iff.rfl
@[simp] theorem GR_loop_x {j : Nat} : GR T Q (.loop a :: k) (.x j) e h ↔ GR T Q k (.x j) e h := Iff.rfl
@[simp] theorem GR_loop_r : GR T Q (.loop a :: k) .r e h ↔ GR T Q k .r e h := Iff.rfl
theorem Ex.lo_eq : Ex.go (GR T Q k) (fun e h => W T (.loop a) e h (GR T Q k)) = GR T Q (.loop a :: k) := by
  funext x e h; cases x <;> rfl
theorem G_unf {c c' : C} (hc : c = c') : ∀ (T : Nat → Option Fn) (Q : Ex → Env → Hp → Prop) (k : List Fr) (e : Env) (h : Hp), G T Q c k e h ↔ G T Q c' k e h := by
  subst hc
  exact fun _ _ _ _ _ => Iff.rfl
/-- A loop's next round. -/
theorem G_round : G T Q (.loop a) k e h ↔ G T Q a (.loop a :: k) e h := by
  unfold G; rw [W_loop, Ex.lo_eq]
/-- A loop: what holds ahead of each round, with what gets less. -/
theorem G_loop (I : Nat → Env → Hp → Prop) (step : ∀ n, (∀ m, m < n → ∀ e h, I m e h → G T Q (.loop a) k e h) → ∀ e h, I n e h → G T Q a (.loop a :: k) e h) (n : Nat) (e : Env) (h : Hp) (hi : I n e h) : G T Q (.loop a) k e h := by
  induction n using Nat.strongRecOn generalizing e h with
  | _ n ih => exact G_round.2 (step n (fun m hm e h hi => ih m hm e h hi) e h hi)
end
end Go.Dx
