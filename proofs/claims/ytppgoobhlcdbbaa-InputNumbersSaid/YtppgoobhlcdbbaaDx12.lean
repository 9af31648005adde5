/- Functions and their calls. -/
import Derived.Test.YtppgoobhlcdbbaaDx11
set_option linter.unusedSimpArgs false
set_option linter.unusedVariables false
namespace Go.Dx
open Classical

def compR (P : Program) : ResultVar → Option RV
  | .tmp t => some (.t t)
  | .cell a t => (isAggT P t).map fun b => if b then .ldn (P.cellsOf t) a else .ld a

def compF (P : Program) (any : Nat → Array Oper → Option (Nat × List It)) (f : Nat) : Option (C × List RV) :=
  match P.funcs[f]? with
  | some fn => match fn.body with
    | some c => if callable P f = true then (compC P fn.ntmps (any fn.ntmps) c).bind fun c => (fn.results.toList.mapM (compR P)).map fun r => (c, r) else none
    | none => none
  | none => none

section
variable {P : Program} {φ : Phi} {e e' : Env} {a : Act} {h h' : Hp} {w : World} {v : Value} {cl : Nat → Sp}

theorem rv_sound {r : ResultVar} {x : RV} (hc : compR P r = some x) (he : ER φ e a) (hr : HR φ h w) (hv : rv e h x = some v) :
    ∃ u, ((match r with
      | .tmp t => Pure.pure (a.tmps.getD t undef)
      | .cell b t => do loadVar t (← asAddr (a.tmps.getD b undef))) : Sem Value).run P w = .ok u w ∧ VR φ v u := by
  cases r with
  | tmp t =>
    cases hc
    simp only [rv, Option.some.injEq] at hv
    subst hv
    exact ⟨_, rfl, by simpa [Act.eval] using he t⟩
  | cell b t =>
    obtain ⟨g, hg, rfl⟩ := Option.map_eq_some_iff.1 hc
    have hx : VR φ (e b) (a.tmps.getD b undef) := by simpa [Act.eval] using he b
    cases g with
    | false =>
      simp only [Bool.false_eq_true, if_false] at hv
      obtain ⟨⟨c, o⟩, hp, hv⟩ := Option.bind_eq_some_iff.1 hv
      obtain ⟨b', n, hu, hφ, _⟩ := hx.at hp
      obtain ⟨y, hy, hvy⟩ := hr.rd hv hφ
      refine ⟨y, ?_, hvy⟩
      simp only []
      rw [hu]
      simp [asAddr, loadVar, run_isAgg' hg, hy]
    | true =>
      simp only [if_true] at hv
      obtain ⟨⟨c, o⟩, hp, hv⟩ := Option.bind_eq_some_iff.1 hv
      obtain ⟨l, hl, rfl⟩ := Option.map_eq_some_iff.1 hv
      obtain ⟨b', n, hu, hφ, _⟩ := hx.at hp
      obtain ⟨y, hy, hvy, _, _⟩ := hr.rdn (P := P) hl hφ
      refine ⟨_, ?_, VR.aggL hvy⟩
      simp only []
      rw [hu]
      simp [asAddr, loadVar, run_isAgg' hg, cellsOf_of_isAgg hg, hy w rfl]

theorem rvs_sound {l : List ResultVar} {xs : List RV} (hc : l.mapM (compR P) = some xs) (he : ER φ e a) (hr : HR φ h w) {vs : List Value} (hv : xs.mapM (rv e h) = some vs) :
    ∃ us, (l.mapM fun r => (match r with
      | .tmp t => Pure.pure (a.tmps.getD t undef)
      | .cell b t => do loadVar t (← asAddr (a.tmps.getD b undef)) : Sem Value)).run P w = .ok us w ∧ LR φ vs us := by
  induction l generalizing xs vs with
  | nil =>
    simp at hc
    subst hc
    simp at hv
    subst hv
    exact ⟨[], by simp, .nil _⟩
  | cons r l ih =>
    rw [List.mapM_cons] at hc
    obtain ⟨x, h1, hc⟩ := Option.bind_eq_some_iff.1 hc
    obtain ⟨xs, h2, hc⟩ := Option.bind_eq_some_iff.1 hc
    cases hc
    rw [List.mapM_cons] at hv
    obtain ⟨v, h3, hv⟩ := Option.bind_eq_some_iff.1 hv
    obtain ⟨vs, h4, hv⟩ := Option.bind_eq_some_iff.1 hv
    cases hv
    obtain ⟨u, h5, h6⟩ := rv_sound h1 he hr h3
    obtain ⟨us, h7, h8⟩ := ih h2 h4
    refine ⟨u :: us, ?_, .cons h6 h8⟩
    rw [List.mapM_cons]
    simp only [Sem.run_bind, h5, h7, Result.andThen_ok, Sem.run_pure]

theorem res_sound {fn : Func} {xs : List RV} (hc : fn.results.toList.mapM (compR P) = some xs) (he : ER φ e a) (hr : HR φ h w) (hv : resV e h xs = some v) :
    ∃ u, (results fn a.tmps).run P w = .ok u w ∧ VR φ v u := by
  have key : ∀ vs, xs.mapM (rv e h) = some vs → ∃ us, (fn.results.mapM fun r => (match r with
      | .tmp t => Pure.pure (a.tmps.getD t undef)
      | .cell b t => do loadVar t (← asAddr (a.tmps.getD b undef)) : Sem Value)).run P w = .ok us.toArray w ∧ LR φ vs us := by
    intro vs hvs
    obtain ⟨us, h1, h2⟩ := rvs_sound hc he hr hvs
    refine ⟨us, ?_, h2⟩
    rw [Array.mapM_eq_mapM_toList]
    rw [show ∀ m : Sem (List Value), List.toArray <$> m = (m >>= fun l => Pure.pure l.toArray) from fun _ => rfl]
    simp only [Sem.run_bind, h1, Result.andThen_ok, Sem.run_pure]
  have hres : results fn a.tmps = (fn.results.mapM (fun r => (match r with
      | .tmp t => Pure.pure (a.tmps.getD t undef)
      | .cell b t => do loadVar t (← asAddr (a.tmps.getD b undef)) : Sem Value)) >>= fun vs => Pure.pure (if h : vs.size = 1 then vs[0] else .tuple vs)) := rfl
  unfold resV at hv
  split at hv
  · rename_i x
    obtain ⟨us, h1, h2⟩ := key [v] (by simp [hv])
    obtain ⟨u, us, rfl, h3, h4⟩ := h2.head
    have hus : us = [] := by have := h4.1; simpa using this.symm
    subst hus
    refine ⟨u, ?_, h3⟩
    rw [hres]
    simp only [Sem.run_bind]
    rw [h1]
    simp
  · rename_i hne
    obtain ⟨vs, h0, h5⟩ := Option.map_eq_some_iff.1 hv
    obtain ⟨us, h1, h2⟩ := key vs h0
    subst h5
    have hlen : vs.length = xs.length := by
      clear h1 h2 key hv hc hne
      induction xs generalizing vs with
      | nil => simp at h0; subst h0; rfl
      | cons x xs ih =>
        rw [List.mapM_cons] at h0
        obtain ⟨v, h3, h0⟩ := Option.bind_eq_some_iff.1 h0
        obtain ⟨vs, h4, h0⟩ := Option.bind_eq_some_iff.1 h0
        cases h0
        simp [ih _ h4]
    refine ⟨.tuple us.toArray, ?_, VR.tupleL h2⟩
    rw [hres]
    simp only [Sem.run_bind]
    rw [h1]
    have : us.length ≠ 1 := by
      intro hh
      have h6 := h2.1
      rw [hh, hlen] at h6
      obtain ⟨x, rfl⟩ := List.length_eq_one_iff.1 h6
      exact hne x rfl
    simp [this]

theorem drop_in {n : Nat} (l : List Nat) (h : Hp) : (l.foldl (fun h t => match at? (e t) with
    | some (b, _) => if n ≤ b then h.put b none else h
    | none => h) h).next = h.next ∧ ∀ b o, (l.foldl (fun h t => match at? (e t) with
    | some (b, _) => if n ≤ b then h.put b none else h
    | none => h) h).get b = some o → h.get b = some o := by
  induction l generalizing h with
  | nil => exact ⟨rfl, fun b o hb => hb⟩
  | cons t l ih =>
    simp only [List.foldl_cons]
    have h1 := ih (match at? (e t) with
      | some (b, _) => if n ≤ b then h.put b none else h
      | none => h)
    refine ⟨h1.1.trans ?_, fun b o hb => ?_⟩
    · split
      · split <;> rfl
      · rfl
    · have h2 := h1.2 b o hb
      split at h2
      · split at h2
        · simp only [Hp.put] at h2
          split at h2
          · cases h2
          · exact h2
        · exact h2
      · exact h2
theorem dropB_in {n : Nat} {l : Option (List Nat)} : (dropB n e h l).next = h.next ∧ ∀ b o, (dropB n e h l).get b = some o → h.get b = some o := by
  cases l with
  | none =>
    refine ⟨rfl, fun b o hb => ?_⟩
    simp only [dropB, Hp.only] at hb
    split at hb
    · exact hb
    · cases hb
  | some l => exact drop_in l h

theorem er_args {args args' : List Value} (n : Nat) (hl : LR φ args args') : ER φ (envOf args) { tmps := args'.toArray ++ Array.replicate n undef, defers := [] } := by
  intro t
  simp only [envOf, Act.eval]
  by_cases ht : t < args.length
  · have h1 := hl.2 t ht
    have ht' : t < args'.length := hl.1 ▸ ht
    simpa [List.getD, Array.getElem?_append, ht, ht'] using h1
  · have ht' : ¬ t < args'.length := hl.1 ▸ ht
    have h1 : args[t]? = none := List.getElem?_eq_none (by omega)
    have h2 : ((args'.toArray ++ Array.replicate n undef).getD t undef) = undef := by
      simp only [Array.getD_eq_getD_getElem?, Array.getElem?_append, List.size_toArray, ht', if_false, Array.getElem?_replicate]
      split <;> rfl
    rw [h1]
    have h3 : (args'.toArray ++ Array.replicate n undef)[t]?.getD undef = undef := by rw [← Array.getD_eq_getD_getElem?]; exact h2
    simp only [Option.getD_none]
    first
      | (rw [h2]; exact .undef _)
      | (rw [h3]; exact .undef _)

theorem le_in {g : Hp} (hle : Le h h') (hn : g.next = h'.next) (hg : ∀ b o, g.get b = some o → h'.get b = some o) : Le h g :=
  ⟨hn ▸ hle.1, fun b hb hb0 => by
    cases hgb : g.get b with
    | none => rfl
    | some o => exact absurd (hg b o hgb) (by rw [hle.2 b hb hb0]; simp)⟩

theorem callF_ok {any : Nat → Array Oper → Option (Nat × List It)} (hany : ∀ n, AnyOK P n (any n)) (hcl : ∀ f, SpecOK P f (cl f)) {f : Nat} {F : F} (hF : compF P any f = some (F.body, F.res)) (m : Nat) : SpecOK P f (callF cl m F) := by
  intro args h v g hv
  unfold compF at hF
  split at hF
  case h_2 => cases hF
  rename_i fn hfn
  split at hF
  case h_2 => cases hF
  rename_i c hbody
  split at hF
  case isFalse => cases hF
  rename_i hcal
  obtain ⟨cc, h1, hF⟩ := Option.bind_eq_some_iff.1 hF
  obtain ⟨rr, h2, hF⟩ := Option.map_eq_some_iff.1 hF
  simp only [Prod.mk.injEq] at hF
  obtain ⟨rfl, rfl⟩ := hF
  have main : ∀ (x : Ex) (e' : Env) (h' : Hp), (x = .r ∨ x = .n) → runC cl m F.body (envOf args) h = some (x, e', h') → (resV e' h' F.res).map (fun v => (v, dropB h.next e' h' F.drop)) = some (v, g) →
      callable P f = true ∧ Le h g ∧ ∀ φ w args', LR φ args args' → HR φ h w → Calls P f args'.toArray w fun e w' => ∃ φ' u, e = .returned u ∧ Ext φ h w φ' g w' ∧ VR φ' v u := by
    intro x e' h' hx hrun hres
    obtain ⟨v', h3, h4⟩ := Option.map_eq_some_iff.1 hres
    cases h4
    have hin := dropB_in (n := h.next) (e := e') (h := h') (l := F.drop)
    have hle := runC_le hcl m _ _ _ _ hrun
    refine ⟨hcal, le_in hle hin.1 hin.2, fun φ w args' hl hr => ?_⟩
    refine calls_of_wp hfn hbody ?_
    refine (code_wp hcl (hany _) m).1 c F.body (envOf args) e' h h' x _ w φ _ h1 hrun (er_args _ hl) hr (by simp; omega) fun φ' a' w' hext he hs hd => ?_
    obtain ⟨u, h5, h6⟩ := res_sound h2 he hext.hr h3
    have : bodyPost P fn (fun e w' => ∃ φ' u, e = .returned u ∧ Ext φ h w φ' (dropB h.next e' h' F.drop) w' ∧ VR φ' v u) .normal a' w' :=
      ⟨hd, u, h5, φ', u, rfl, hext.less (by rw [hin.1]; exact Nat.le_refl _) hin.2 hle, h6⟩
    rcases hx with rfl | rfl <;> exact this
  unfold callF at hv
  split at hv
  · rename_i hrun; exact main _ _ _ (.inl rfl) hrun hv
  · rename_i hrun; exact main _ _ _ (.inr rfl) hrun hv
  · cases hv

/-- A table of functions' meanings that holds of the program. -/
def TabOK (P : Program) (any : Nat → Array Oper → Option (Nat × List It)) (T : Nat → Option Fn) : Prop :=
  ∀ f x, T f = some x → match x with
    | .code F => compF P any f = some (F.body, F.res)
    | .spec s => SpecOK P f s

theorem callN_ok {any : Nat → Array Oper → Option (Nat × List It)} (hany : ∀ n, AnyOK P n (any n)) {T : Nat → Option Fn} (hT : TabOK P any T) (n : Nat) : ∀ f, SpecOK P f (callN T n f) := by
  induction n with
  | zero => intro f args h v h' hv; simp [callN] at hv
  | succ n ih =>
    intro f args h v h' hv
    cases hf : T f with
    | none => simp [callN, hf] at hv
    | some x =>
      cases x with
      | code F =>
        simp only [callN, hf] at hv
        exact callF_ok hany ih (hT f _ hf) n args h v h' hv
      | spec s =>
        simp only [callN, hf] at hv
        exact hT f _ hf args h v h' hv
end
end Go.Dx
