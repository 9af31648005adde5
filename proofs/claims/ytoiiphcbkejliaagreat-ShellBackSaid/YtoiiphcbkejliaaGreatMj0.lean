/- Texts of one kind, one behind the other. -/
import Derived.Test.YtoiiphcbkejliaaGreatMi0
/- An argument that is a struct that holds slices: cell by cell. -/
set_option linter.unusedSimpArgs false
set_option linter.unusedVariables false
namespace Go.Dx
open Go Go.RowKit Go.ChangeShapes Go.WideShapes Go.ChangeAt
section
variable {H : Type} {enc : TypeId × Value → H} {P : Program} {W : World}
theorem sees_cell {α : Type} {E : Enc α} {t e : TypeId} {v : Value} {n : Nat} {x : DataW H × List MemPlace} {b0 : Nat} (ht : P.underlying t = some (.slice e)) (hD : Dec enc P W E e) (hval : Cell.okWide P W .any b0 t v)
    (h : DataW.trod enc P W 0 (fun _ => true) true n t [v] = some x) : ∃ a c xs, v = .slice a xs.length c ∧ abs1 W.heap.size v = v ∧ Sees E (absH W) a xs ∧ xs.length ≤ c ∧ c ≤ maxLen := by
  have hv : ∃ a l c, v = .slice a l c := by
    simp only [ht, Cell.okWide] at hval
    cases v <;> simp_all [Cell.ok]
  obtain ⟨a, l, c, rfl⟩ := hv
  obtain ⟨a', c', xs, h1, h2, h3⟩ := sees_arg (d := x.1) (ps := x.2) ht hD (by unfold Value.okWide; simp only [ht]; exact hval) ⟨n, by simpa [Value.cells] using h⟩
  exact ⟨a', c', xs, h1, by simpa [absA] using h2, h3⟩
theorem int_cell {k : IntKind} {t : TypeId} {v : Value} {n : Nat} {x : DataW H × List MemPlace} (ht : P.underlying t = some (.int k)) (h : DataW.trod enc P W 0 (fun _ => true) true n t [v] = some x) : ∃ m, v = .int k m ∧ (Lit.int k m).wf = true := by
  obtain ⟨m, h1, _, hw⟩ := DataW.trod_int ht h
  exact ⟨m, by simpa using h1, hw⟩
theorem bool_cell {t : TypeId} {v : Value} {n : Nat} {x : DataW H × List MemPlace} (ht : P.underlying t = some .bool) (h : DataW.trod enc P W 0 (fun _ => true) true n t [v] = some x) : ∃ m, v = .bool m := by
  obtain ⟨m, h1, _⟩ := DataW.trod_bool ht h
  exact ⟨m, by simpa using h1⟩
theorem arg_cells {t : TypeId} {fs : Array Field} {v : Value} {d : DataW H} {ps : List MemPlace} {b0 : Nat} {ts : List TypeId} (ht : P.underlying t = some (.struct fs)) (hts : P.cellTypes P.depth t = some ts) (hn : P.cellsOf t = ts.length) (hval : Value.okWide P W .any b0 t v)
    (h : DataW.Trod enc P W 0 (fun _ => true) true t v d ps) : ∃ cs : List Value, v = .agg cs.toArray ∧ cs.length = ts.length ∧ ∀ (i : Nat) (f : Field), fs[i]? = some f → P.cellsOf f.type = 1 → ts[f.offset]? = some f.type → ∀ x, cs[f.offset]? = some x → Cell.okWide P W .any b0 f.type x ∧ ∃ n y, DataW.trod enc P W 0 (fun _ => true) true n f.type [x] = some y := by
  obtain ⟨fuel, h⟩ := h
  unfold Value.okWide at hval
  simp only [ht] at hval
  obtain ⟨cs, rfl, hsz, ts', hts', _, hr⟩ := hval
  rw [hts] at hts'
  cases hts'
  obtain ⟨xs, n, _, _, hl, hlen, hf⟩ := DataW.trod_struct ht h
  refine ⟨cs.toList, by simp, by simp [hsz, hn], fun i f hi h1 hu x hx => ?_⟩
  have hlt : f.offset < ts.length := (List.getElem?_eq_some_iff.1 hu).1
  have hx' : cs[f.offset]? = some x := by simpa using hx
  obtain ⟨u, hu', ho⟩ := hr f.offset x hx'
  rw [Nat.mod_eq_of_lt hlt, hu] at hu'
  cases hu'
  refine ⟨ho, n, ?_⟩
  have h2 := hf i f hi
  rw [h1] at h2
  have hd : ((Value.agg cs).cells.toList.drop f.offset).take 1 = [x] := by
    have : (Value.agg cs).cells.toList = cs.toList := rfl
    rw [this]
    have hlt2 : f.offset < cs.toList.length := (List.getElem?_eq_some_iff.1 hx).1
    rw [List.drop_eq_getElem_cons hlt2]
    have := (List.getElem?_eq_some_iff.1 hx).2
    simp only [List.take_succ_cons, List.take_zero, this]
  rw [hd] at h2
  have hi' : i < xs.length := by rw [hlen]; exact (Array.getElem?_eq_some_iff.1 hi).1
  rw [List.getElem?_eq_getElem hi'] at h2
  exact ⟨_, h2⟩
theorem len6 {cs : List Value} (h : cs.length = 6) : ∃ a b c d e f, cs = [a, b, c, d, e, f] := by
  match cs, h with
  | [a, b, c, d, e, f], _ => exact ⟨a, b, c, d, e, f, rfl⟩
end
end Go.Dx
