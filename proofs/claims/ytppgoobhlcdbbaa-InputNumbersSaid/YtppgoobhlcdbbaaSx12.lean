/- Stable sorting by parts: what merging by rotation leans on. -/
import Derived.Test.YtppgoobhlcdbbaaSx11
set_option linter.unusedSimpArgs false
set_option linter.unusedVariables false
namespace Go.Dx
open Go
section
variable {α : Type} (key : α → Int)
theorem insl_comm {x y : α} (hxy : key y < key x) {p : List α} (hp : Srt key p) : insl key y (insl key x p) = insl key x (insl key y p) := by
  induction p using snocInd with
  | nil =>
    rw [insl_nil, insl_nil, show [x] = [] ++ [x] from rfl, insl_lt key [] hxy, show [y] = [] ++ [y] from rfl, insl_le key [] (by omega)]
    rfl
  | append_singleton p z ih =>
    obtain ⟨h1, h2⟩ := (srt_snoc key).1 hp
    by_cases hz : key x < key z
    · rw [insl_lt key p hz, insl_lt key p (show key y < key z by omega), insl_lt key _ (show key y < key z by omega), insl_lt key _ hz, ih h1]
    · rw [insl_le key p hz, show p ++ [z, x] = (p ++ [z]) ++ [x] by simp, insl_lt key _ hxy]
      by_cases hy : key y < key z
      · rw [insl_lt key p hy, insl_le key _ hz]
        simp
      · rw [insl_le key p hy, show p ++ [z, y] = (p ++ [z]) ++ [y] by simp, insl_le key _ (by omega)]
        simp
theorem isort_foldl (a b : List α) : isort key (a ++ b) = b.foldl (fun p x => insl key x p) (isort key a) := by simp [isort, List.foldl_append]
theorem isort_swap2 {x y : α} (hxy : key y < key x) (a b : List α) : isort key (a ++ x :: y :: b) = isort key (a ++ y :: x :: b) := by
  rw [isort_foldl, isort_foldl]
  simp only [List.foldl_cons]
  rw [insl_comm key hxy (srt_isort key a)]
theorem isort_move {y : α} (l : List α) (h : ∀ x ∈ l, key y < key x) (a b : List α) : isort key (a ++ (l ++ y :: b)) = isort key (a ++ y :: (l ++ b)) := by
  induction l using snocInd generalizing b with
  | nil => rfl
  | append_singleton l x ih =>
    rw [show a ++ (l ++ [x] ++ y :: b) = (a ++ l) ++ x :: y :: b by simp, isort_swap2 key (h x (by simp)), show (a ++ l) ++ y :: x :: b = a ++ (l ++ y :: (x :: b)) by simp, ih (fun z hz => h z (by simp [hz]))]
    simp
/-- Two blocks change places. -/
theorem isort_blocks (l r : List α) (h : ∀ x ∈ l, ∀ y ∈ r, key y < key x) (a b : List α) : isort key (a ++ (l ++ (r ++ b))) = isort key (a ++ (r ++ (l ++ b))) := by
  induction r generalizing a with
  | nil => rfl
  | cons y r ih =>
    rw [show a ++ (l ++ (y :: r ++ b)) = a ++ (l ++ y :: (r ++ b)) by simp, isort_move key l (fun x hx => h x hx y (by simp)), show a ++ y :: (l ++ (r ++ b)) = (a ++ [y]) ++ (l ++ (r ++ b)) by simp, ih fun x hx z hz => h x hx z (by simp [hz])]
    simp
theorem insl_app {x : α} {p q : List α} (h : ∀ y ∈ p, key y ≤ key x) : insl key x (p ++ q) = p ++ insl key x q := by
  induction q using snocInd with
  | nil => simp [insl_of_le key h]
  | append_singleton q z ih =>
    rw [← List.append_assoc]
    by_cases hz : key x < key z
    · rw [insl_lt key _ hz, insl_lt key _ hz, ih]; simp
    · rw [insl_le key _ hz, insl_le key _ hz]; simp
theorem mem_isort {x : α} {l : List α} : x ∈ isort key l ↔ x ∈ l := by
  induction l using snocInd with
  | nil => simp
  | append_singleton l y ih =>
    rw [isort_snoc, mem_insl, ih]
    simp [or_comm]
/-- What is below all of another part is sorted by itself. -/
theorem isort_parts (a b : List α) (h : ∀ x ∈ a, ∀ y ∈ b, key x ≤ key y) : isort key (a ++ b) = isort key a ++ isort key b := by
  induction b using snocInd with
  | nil => simp
  | append_singleton b y ih =>
    rw [← List.append_assoc, isort_snoc, isort_snoc, ih fun x hx z hz => h x hx z (by simp [hz]), insl_app key fun x hx => h x ((mem_isort key).1 hx) y (by simp)]
/-- Sorting what is sorted in its first part. -/
theorem isort_left (a b : List α) : isort key (isort key a ++ b) = isort key (a ++ b) := by
  rw [isort_foldl, isort_foldl, isort_of_srt key (srt_isort key a)]
/-- How two sorted rows are merged by a rotation. -/
theorem isort_rotate {l1 l2 r1 r2 : List α} (h1 : ∀ x ∈ l2, ∀ y ∈ r1, key y < key x) (h2 : ∀ x ∈ l1, ∀ y ∈ r2, key x ≤ key y) (hl : Srt key (l1 ++ l2)) (hr : Srt key (r1 ++ r2)) :
    isort key (l1 ++ l2 ++ (r1 ++ r2)) = isort key (l1 ++ r1) ++ isort key (l2 ++ r2) := by
  rw [show l1 ++ l2 ++ (r1 ++ r2) = l1 ++ (l2 ++ (r1 ++ r2)) by simp, isort_blocks key l2 r1 h1, show l1 ++ (r1 ++ (l2 ++ r2)) = (l1 ++ r1) ++ (l2 ++ r2) by simp]
  refine isort_parts key _ _ fun x hx y hy => ?_
  have hl' := (List.pairwise_append.1 hl).2.2
  have hr' := (List.pairwise_append.1 hr).2.2
  rcases List.mem_append.1 hx with hx | hx <;> rcases List.mem_append.1 hy with hy | hy
  · exact hl' x hx y hy
  · exact h2 x hx y hy
  · have := h1 y hy x hx; omega
  · exact hr' x hx y hy
end
end Go.Dx
