/- Regions whose order is left open: joined; every call of a table's functions. -/
import Derived.Test.YtppgoobhlcdbbaaDx16
set_option linter.unusedSimpArgs false
set_option linter.unusedVariables false
namespace Go.Dx
open Classical

section
variable {P : Program} {cl : Nat → Sp} {n : Nat} {ops : Array Oper} {tab : List O} {b : Array Nat} {k base : Nat} {its : List It} {st : Nat → Env × Hp}
variable {φ φ' φ₀ : Phi} {e e' : Env} {a a₀ : Act} {A h h' h₀ : Hp} {w w' w₀ : World} {v : Value} {L : Nat}

def sS (listed : Array Bool) (k : Nat) : Prop := listed.getD k false = true
def unl (listed : Array Bool) : Nat := listed.toList.countP (! ·)

theorem anc_lt {b : Array Nat} {i k : Nat} (h : anc b i k = true) : i < k := by simp [anc] at h; exact h.1

theorem Ctx.edges (c : Ctx P cl n ops tab b k base its st) {i : Nat} {o : Oper} (ho : ops[i]? = some o) : (∀ e ∈ o.after, Region.binds .any e = true → e.on < i) ∧
    ∀ j, anc b j i = true → ∃ e ∈ o.after, Region.binds .any e = true ∧ (e.on = j ∨ anc b j e.on = true) := by
  have hi : i < ops.size := (Array.getElem?_eq_some_iff.1 ho).1
  have h := List.all_eq_true.1 c.close i (List.mem_range.2 hi)
  rw [ho] at h
  simp only [Bool.and_eq_true, List.all_eq_true] at h
  refine ⟨fun e he hb => anc_lt (imp_of (h.1 e (Array.mem_toList_iff.2 he)) hb), fun j hj => ?_⟩
  have hji := anc_lt hj
  have := imp_of (h.2 j (List.mem_range.2 (by omega))) hj
  obtain ⟨e, he, h2⟩ := List.any_eq_true.1 this
  simp only [Bool.and_eq_true, Bool.or_eq_true, beq_iff_eq] at h2
  exact ⟨e, Array.mem_toList_iff.1 he, h2.1, h2.2.imp id (·.1)⟩

theorem Ctx.ready (c : Ctx P cl n ops tab b k base its st) {listed : Array Bool} (hs : listed.size = ops.size) : ∀ i, i < ops.size → ¬ sS listed i → Region.ready .any ops listed ≠ [] := by
  intro i
  induction i using Nat.strongRecOn with
  | ind i ih =>
    intro hi hns
    have ho : ops[i]? = some ops[i] := Array.getElem?_eq_getElem hi
    by_cases hall : ∀ e ∈ ops[i].after, Region.binds .any e = true → listed.getD e.on false = true
    · have : i ∈ Region.ready .any ops listed := mem_ready.2 ⟨by
        have hl : i < listed.size := by omega
        simp only [sS, Array.getD_eq_getD_getElem?, Array.getElem?_eq_getElem hl, Option.getD_some] at hns ⊢
        simpa using hns, _, ho, hall⟩
      intro hn
      rw [hn] at this
      cases this
    · simp only [Classical.not_forall] at hall
      obtain ⟨e, he, hb, hl⟩ := hall
      have hlt := (c.edges ho).1 e he hb
      exact ih e.on hlt (by omega) hl

theorem sS_set {listed : Array Bool} {i : Nat} (hi : i < listed.size) : sS (listed.setIfInBounds i true) = fun k => sS listed k ∨ k = i := by
  funext k
  simp only [sS]
  by_cases hk : k = i
  · subst hk
    simp [hi]
  · rw [getD_set_ne false fun e => hk e.symm]
    simp [hk]

theorem unl_set {listed : Array Bool} {i : Nat} (hi : i < listed.size) (h : ¬ sS listed i) : unl (listed.setIfInBounds i true) + 1 = unl listed := by
  have hg : listed[i] = false := by
    simpa [sS, Array.getD_eq_getD_getElem?, Array.getElem?_eq_getElem hi] using h
  have key : ∀ (l : List Bool) (i : Nat) (hi : i < l.length), l[i] = false → (l.set i true).countP (! ·) + 1 = l.countP (! ·) := by
    intro l
    induction l with
    | nil => intro i hi; simp at hi
    | cons y l ih =>
      intro i hi hy
      cases i with
      | zero => simp at hy; subst hy; simp
      | succ i =>
        have := ih i (by simpa using hi) (by simpa using hy)
        simp only [List.set_cons_succ, List.countP_cons]
        omega
  unfold unl
  rw [Array.toList_setIfInBounds]
  exact key _ i (by simpa using hi) (by simpa using hg)

theorem unl_zero {listed : Array Bool} (h : unl listed = 0) {i : Nat} (hi : i < listed.size) : sS listed i := by
  have := List.countP_eq_zero.1 h listed[i] (Array.getElem_mem_toList hi)
  simpa [sS, Array.getD_eq_getD_getElem?, Array.getElem?_eq_getElem hi] using this
theorem unl_pos {listed : Array Bool} (h : unl listed ≠ 0) : ∃ i, i < listed.size ∧ ¬ sS listed i := by
  refine Classical.byContradiction fun hn => h (List.countP_eq_zero.2 fun x hx => ?_)
  obtain ⟨i, hi, rfl⟩ := List.getElem_of_mem hx
  have hi' : i < listed.size := by simpa using hi
  have := Classical.byContradiction fun hs => hn ⟨i, hi', hs⟩
  simpa [sS, Array.getD_eq_getD_getElem?, Array.getElem?_eq_getElem hi'] using this

theorem any_wp {Q : Exit → Act → World → Prop} (c : Ctx P cl n ops tab b k base its st) (hr₀ : HR φ₀ h₀ w₀) (hb₀ : h₀.next ≤ base) (hn : n ≤ a₀.tmps.size)
    (hK : Then φ₀ h₀ w₀ (st its.length).1 (st its.length).2 a₀ (Q .normal)) : ∀ (fuel : Nat) (listed : Array Bool) (a : Act) (w : World), listed.size = ops.size → unl listed = fuel →
    (∃ φ A L, InvB b base its st φ₀ h₀ w₀ a₀ (sS listed) a w φ A L) → wpAny P .any ops Q fuel listed a w := by
  intro fuel
  induction fuel with
  | zero =>
    intro listed a w hs hu hI
    have hall : ∀ i, i < ops.size → sS listed i := fun i hi => unl_zero hu (by omega)
    refine ⟨?_, ?_⟩
    · rw [List.eq_nil_iff_forall_not_mem]
      intro j hj
      obtain ⟨h1, o, ho, _⟩ := mem_ready.1 hj
      have hj' : j < ops.size := (Array.getElem?_eq_some_iff.1 ho).1
      have := hall j hj'
      have hl : j < listed.size := by omega
      simp only [sS, Array.getD_eq_getD_getElem?, Array.getElem?_eq_getElem hl, Option.getD_some] at this h1
      rw [this] at h1
      cases h1
    · obtain ⟨φ, A, L, I⟩ := hI
      have hS : ∀ x ∈ its, sS listed x.i := fun x hx => by
        obtain ⟨oper, h1, _⟩ := mapM_get c.tabs (c.src x hx).1
        rw [Array.getElem?_toList] at h1
        exact hall _ (Array.getElem?_eq_some_iff.1 h1).1
      obtain ⟨h1, h2⟩ := c.upto I.next I.inn its.length I.lL (Nat.le_refl _) (fun q x hq _ hx => by
          cases he : x.eff with
          | false => rfl
          | true => exact absurd (hS x (List.mem_of_getElem? hx)) (I.noE q x hq hx he))
        (fun q i j o hq _ hx hg r hr => I.als q i j o hq hx (hS _ (List.mem_of_getElem? hx)) hg r hr)
      have hE : eS its st (sS listed) = (st its.length).1 := by
        funext t
        unfold eS
        split
        · rfl
        · rename_i hh
          refine (c.keep its.length (Nat.zero_le _) (Nat.le_refl _) fun r y _ _ hy hyw => hh ⟨r, y, hy, hyw, hS y (List.mem_of_getElem? hy)⟩).symm
      exact hK φ a w (I.ext.less (by rw [h1]; exact Nat.le_refl _) h2 I.le) (hE ▸ I.er) I.size I.defers
  | succ fuel ih =>
    intro listed a w hs hu hI
    refine ⟨fun hnil => ?_, fun i hi => ?_⟩
    · obtain ⟨i, h1, h2⟩ := unl_pos (listed := listed) (by omega)
      exact absurd hnil (c.ready hs i (by omega) h2)
    · obtain ⟨h1, o, ho, h2⟩ := mem_ready.1 hi
      have hi' : i < ops.size := (Array.getElem?_eq_some_iff.1 ho).1
      have hl : i < listed.size := by omega
      have hns : ¬ sS listed i := by
        simp only [sS, Array.getD_eq_getD_getElem?, Array.getElem?_eq_getElem hl, Option.getD_some] at h1 ⊢
        simp [h1]
      obtain ⟨φ, A, L, I⟩ := hI
      refine wpOp_mono (fun a w hI' => ih _ a w (by simpa using hs) (by have := unl_set hl hns; omega) (by rw [sS_set hl]; exact hI')) (I.step c hr₀ hb₀ hn hi' hns fun j hj => ?_)
      obtain ⟨e, he, hb, hj'⟩ := (c.edges ho).2 j hj
      have hS : sS listed e.on := h2 e he hb
      rcases hj' with rfl | hj'
      · exact hS
      · exact I.dn _ hS _ hj'

theorem compAny_ok (P : Program) (n : Nat) : AnyOK P n (compAny P n) := by
  intro cl hcl ops k l hany id e e' h h' a w φ Q hrun he hr hn hK
  unfold compAny at hany
  split at hany
  case isFalse => cases hany
  rename_i hm
  obtain ⟨tab, htab, hany⟩ := Option.bind_eq_some_iff.1 hany
  simp only [] at hany
  obtain ⟨r, hmk, hany⟩ := Option.bind_eq_some_iff.1 hany
  split at hany
  case isFalse => cases hany
  rename_i hok
  cases hany
  simp only [anyOK, Bool.and_eq_true, List.all_eq_true] at hok
  obtain ⟨⟨⟨⟨h1, h2⟩, h3⟩, h4⟩, h5⟩ := hok
  obtain ⟨st, s0, s1, s2⟩ := its_states hrun
  have c : Ctx P cl n ops tab (Region.before ops) k h.next l st := {
    hcl := hcl
    tabs := htab
    src := made _ _ _ _ hmk
    close := h1
    pairs := h2
    res := h3
    item := h4
    cover := fun i hi => by
      obtain ⟨x, hx, h6⟩ := List.any_eq_true.1 (h5 i (List.mem_range.2 hi))
      simp only [Bool.and_eq_true, Bool.not_eq_true', beq_iff_eq] at h6
      exact ⟨x, hx, h6⟩
    run := s2
    free := fun j hj => by rw [s0]; exact h.wf _ (Nat.le_add_right _ _)
    next := by rw [s0]; exact Nat.le_refl _ }
  refine wp_region_any hm ?_
  have hrr : HR φ h { w with drawn := w.drawn + 1 } := hr.drew _
  refine any_wp c hrr (Nat.le_refl _) hn (by rw [s1]; exact hK.drew _) ops.size _ a _ (by simp) ?_ ⟨φ, h.adv k, 0, ?_⟩
  · simp only [unl, Array.toList_replicate]
    rw [List.countP_replicate]
    simp
  · have hempty : ∀ i, ¬ sS (Array.replicate ops.size false) i := fun i => by
      simp only [sS, Array.getD_eq_getD_getElem?, Array.getElem?_replicate]
      split <;> simp
    refine ⟨(Ext.refl hrr).less (by simp [Hp.adv]) (fun b o hb => hb) (.refl _), Le.adv h k, ?_, rfl, rfl, fun k hk => absurd hk (hempty k), Nat.zero_le _, .inl rfl, fun q x _ _ _ => hempty _, by rw [s0], fun b o hb => by rw [s0] at hb; exact hb, fun q i j o _ _ hs => absurd hs (hempty _), fun q i j o hx _ => ⟨?_, ?_⟩⟩
    · have : eS l st (sS (Array.replicate ops.size false)) = e := by
        funext t
        unfold eS
        rw [if_neg fun ⟨q, x, _, _, hs⟩ => hempty _ hs, s0]
      rw [this]
      exact he
    · exact h.wf _ (Nat.le_add_right _ _)
    · exact hr.fresh _ (Nat.le_add_right _ _)

/-- A table that holds of the program, with the orders that were found. -/
theorem calls_ok {T : Nat → Option Fn} (hT : TabOK P (compAny P) T) (n : Nat) (f : Nat) : SpecOK P f (callN T n f) := callN_ok (fun n => compAny_ok P n) hT n f
end
end Go.Dx
