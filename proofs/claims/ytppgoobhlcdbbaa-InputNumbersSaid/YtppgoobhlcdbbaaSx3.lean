/- From a run of the interpreter to the model's call: a law that answers true. -/
import Derived.Test.YtppgoobhlcdbbaaSx2
import Derived.Below
set_option linter.unusedSimpArgs false
set_option linter.unusedVariables false
namespace Go.Dx
open Go Go.RowKit

theorem calls_true {P : Program} {T : Nat → Option Fn} (hT : TabOK P (compAny P) T) {f : Nat} {args args' : List Value} {h : Hp} {φ : Phi} {w : World} (hw : WC T f args h fun v _ => v = .bool true)
    (hl : LR φ args args') (hr : HR φ h w) (hro : ∀ b, h.wrt b = false) : Calls P f args'.toArray w fun e w' => e = .returned (.bool true) ∧ Below w.heap.size w w' := by
  obtain ⟨n, v, h', h1, rfl⟩ := hw
  refine ((calls_ok hT n f args h _ h' h1).2.2 φ w args' hl hr).mono fun e w' ⟨φ', u, he, hx, hv⟩ => ?_
  have : u = .bool true := hv.bool_inv
  subst this
  refine ⟨he, hx.os, hx.tape, hx.output, hx.size, fun k hk => hx.frame k hk fun b m hb => ?_⟩
  rw [hro b] at hb
  cases hb

/-- No block at all. -/
def noH : Hp := ⟨0, fun _ => none, fun _ _ => rfl⟩
def noP : Phi := fun _ => none
theorem noHR (w : World) : HR noP noH w := ⟨fun b o hb => by simp [noH] at hb, fun b c b' n m hb => by simp [noH] at hb, fun b hb => rfl⟩
theorem noW (b : Nat) : noH.wrt b = false := rfl
theorem tab_of {P : Program} {T : Nat → Option Fn} (h : ∀ f x, T f = some x → match x with
    | .code F => compF P (compAny P) f = some (F.body, F.res)
    | .spec s => SpecOK P f s) : TabOK P (compAny P) T := h

/-- One block that is only read: a row that came in. -/
def inH (c : List Value) : Hp := ⟨1, fun b => if b = 0 then some (.cells true c) else none, fun b hb => by rw [if_neg (by omega)]⟩
def inP (b n : Nat) : Phi := fun k => if k = 0 then some (b, n) else none
theorem inW (c : List Value) (b : Nat) : (inH c).wrt b = false := by
  unfold Hp.wrt inH
  by_cases h : b = 0 <;> simp [h]
theorem inHR {w : World} {c : List Value} {b : Nat} {arr : Array Value} {elem : TypeId} {fr : Nat × Nat} (hg : w.heap[b]? = some (.cells arr elem fr)) (hc : c.length ≤ arr.size) (hl : LR (inP b arr.size) c (arr.toList.take c.length)) :
    HR (inP b arr.size) (inH c) w := by
  refine ⟨fun k o hk => ?_, fun k j k' n m hk hj _ _ => ?_, fun k hk => ?_⟩
  · simp only [inH] at hk
    split at hk
    · rename_i e
      subst e
      cases hk
      exact ⟨b, arr.size, rfl, arr, elem, fr, hg, rfl, hc, hl, fun h => by cases h⟩
    · cases hk
  · have aux : ∀ k, ((inH c).get k).isSome = true → k = 0 := fun k hk => by
      simp only [inH] at hk
      split at hk
      · assumption
      · cases hk
    rw [aux k hk, aux j hj]
  · have : 1 ≤ k := hk
    simp only [inP]
    rw [if_neg (by omega)]
end Go.Dx
