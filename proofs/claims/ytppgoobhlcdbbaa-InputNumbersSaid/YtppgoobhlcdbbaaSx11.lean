/- Stable sorting of lists: one is put in behind those that are not above it. -/
import Derived.Test.YtppgoobhlcdbbaaSx8
set_option linter.unusedSimpArgs false
set_option linter.unusedVariables false
namespace Go.Dx
open Go
theorem snocInd {α : Type} {motive : List α → Prop} (l : List α) (nil : motive []) (append_singleton : ∀ l x, motive l → motive (l ++ [x])) : motive l := by
  have : ∀ m : List α, motive m.reverse := by
    intro m
    induction m with
    | nil => exact nil
    | cons x m ih => rw [List.reverse_cons]; exact append_singleton _ _ ih
  have h := this l.reverse
  rwa [List.reverse_reverse] at h
section
variable {α : Type} (key : α → Int)
def insr (x : α) : List α → List α
  | [] => [x]
  | y :: ys => if key x < key y then y :: insr x ys else x :: y :: ys
def insl (x : α) (p : List α) : List α := (insr key x p.reverse).reverse
def isort (l : List α) : List α := l.foldl (fun p x => insl key x p) []
@[simp] theorem insl_nil (x : α) : insl key x [] = [x] := rfl
theorem insl_lt {x y : α} (p : List α) (h : key x < key y) : insl key x (p ++ [y]) = insl key x p ++ [y] := by
  simp [insl, insr, h]
theorem insl_le {x y : α} (p : List α) (h : ¬ key x < key y) : insl key x (p ++ [y]) = p ++ [y, x] := by
  simp [insl, insr, h]
theorem insr_length (x : α) (p : List α) : (insr key x p).length = p.length + 1 := by
  induction p with
  | nil => rfl
  | cons y p ih =>
    simp only [insr]
    split <;> simp [ih]
@[simp] theorem insl_length (x : α) (p : List α) : (insl key x p).length = p.length + 1 := by simp [insl, insr_length]
theorem isort_snoc (l : List α) (x : α) : isort key (l ++ [x]) = insl key x (isort key l) := by simp [isort]
@[simp] theorem isort_nil : isort key ([] : List α) = [] := rfl
@[simp] theorem isort_one (x : α) : isort key [x] = [x] := rfl
@[simp] theorem isort_length (l : List α) : (isort key l).length = l.length := by
  induction l using snocInd with
  | nil => rfl
  | append_singleton l x ih => rw [isort_snoc]; simp [ih]
/-- Rising. -/
def Srt (l : List α) : Prop := l.Pairwise fun a b => key a ≤ key b
theorem srt_snoc {l : List α} {x : α} : Srt key (l ++ [x]) ↔ Srt key l ∧ ∀ y ∈ l, key y ≤ key x := by
  simp [Srt, List.pairwise_append]
theorem mem_insl {x y : α} {p : List α} : y ∈ insl key x p ↔ y = x ∨ y ∈ p := by
  induction p using snocInd with
  | nil => simp
  | append_singleton p z ih =>
    by_cases h : key x < key z
    · rw [insl_lt key p h]; simp [ih, or_assoc]
    · rw [insl_le key p h]; simp; exact ⟨fun h => by rcases h with h | h | h <;> simp [h], fun h => by rcases h with h | h | h <;> simp [h]⟩
theorem srt_insl {x : α} {p : List α} (hp : Srt key p) : Srt key (insl key x p) := by
  induction p using snocInd with
  | nil => simp [Srt]
  | append_singleton p z ih =>
    obtain ⟨h1, h2⟩ := (srt_snoc key).1 hp
    by_cases h : key x < key z
    · rw [insl_lt key p h, srt_snoc]
      refine ⟨ih h1, fun y hy => ?_⟩
      rcases (mem_insl key).1 hy with rfl | hy
      · omega
      · exact h2 y hy
    · rw [insl_le key p h, show p ++ [z, x] = (p ++ [z]) ++ [x] by simp, srt_snoc]
      refine ⟨hp, fun y hy => ?_⟩
      rcases List.mem_append.1 hy with hy | hy
      · have := h2 y hy; omega
      · simp at hy; subst hy; omega
theorem srt_isort (l : List α) : Srt key (isort key l) := by
  induction l using snocInd with
  | nil => simp [Srt]
  | append_singleton l x ih => rw [isort_snoc]; exact srt_insl key ih
theorem insl_of_le {x : α} {p : List α} (h : ∀ y ∈ p, key y ≤ key x) : insl key x p = p ++ [x] := by
  induction p using snocInd with
  | nil => rfl
  | append_singleton p z _ =>
    rw [insl_le key p (by have := h z (by simp); omega)]
    simp
theorem isort_of_srt {l : List α} (h : Srt key l) : isort key l = l := by
  induction l using snocInd with
  | nil => rfl
  | append_singleton l x ih =>
    obtain ⟨h1, h2⟩ := (srt_snoc key).1 h
    rw [isort_snoc, ih h1, insl_of_le key h2]
/-- Where it goes, seen from the left. -/
theorem insl_split {x : α} {p q : List α} (hp : ∀ y ∈ p, key y ≤ key x) (hq : ∀ y ∈ q, key x < key y) : insl key x (p ++ q) = p ++ x :: q := by
  induction q using snocInd with
  | nil => simp [insl_of_le key hp]
  | append_singleton q z ih =>
    rw [← List.append_assoc, insl_lt key _ (hq z (by simp)), ih fun y hy => hq y (by simp [hy])]
    simp
end
/-- cmp.Compare. -/
def cmpI (a b : Int) : Int := if a < b then -1 else if b < a then 1 else 0
theorem cmpI_lt {a b : Int} : cmpI a b < 0 ↔ a < b := by
  unfold cmpI
  split
  · simp; assumption
  · split <;> simp <;> omega
end Go.Dx
