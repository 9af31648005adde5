/- Code: its compiling, and that the interpreter stands for the model's run of it. -/
import Derived.Test.YtppgoobhlcdbbaaDx10
set_option linter.unusedSimpArgs false
set_option linter.unusedVariables false
namespace Go.Dx
open Classical

def compC (P : Program) (n : Nat) (any : Array Oper → Option (Nat × List It)) : Code → Option C
  | .skip | .label _ => some .skip
  | .region _ ops false => (ops.toList.mapM (compO P n ops)).map .ops
  | .region _ ops true => (any ops).map fun r => .any r.1 r.2
  | .seq a b => (compC P n any a).bind fun x => (compC P n any b).map fun y => .seq x y
  | .cond c a b => (cx c).bind fun c => (compC P n any a).bind fun x => (compC P n any b).map fun y => .cond c x y
  | .block id a => (compC P n any a).map (.block id)
  | .loop a => (compC P n any a).map .loop
  | .scope a => compC P n any a
  | .exit id => some (.exit id)
  | .ret => some .ret
  | _ => none

def exOf : Ex → Exit
  | .n => .normal
  | .x id => .exit id
  | .r => .ret

section
variable {P : Program} {φ φ₁ : Phi} {e e' e₁ : Env} {a a₁ : Act} {h h' h₁ : Hp} {w w₁ : World} {v : Value} {cl : Nat → Sp}

theorem Then.step {K : Act → World → Prop} (ht : Then φ h w e' h' a K) (hr : HR φ h w) (x : Ext φ h w φ₁ h₁ w₁) (hle : Le h h₁) (hs : a₁.tmps.size = a.tmps.size) (hd : a₁.defers = a.defers) : Then φ₁ h₁ w₁ e' h' a₁ K :=
  fun φ' a' w' y he hs' hd' => ht φ' a' w' (x.trans hr y hle) he (hs'.trans hs) (hd'.trans hd)
theorem Then.drew {K : Act → World → Prop} (ht : Then φ h w e' h' a K) (n : Nat) : Then φ h { w with drawn := n } e' h' a K :=
  fun φ' a' w' y he hs' hd' => ht φ' a' w' y.drew he hs' hd'

theorem ops_le {l : List O} (hcl : ∀ f, SpecOK P f (cl f)) (hrun : runOps cl l e h = some (e', h')) : Le h h' := by
  induction l generalizing e h with
  | nil => cases hrun; exact .refl _
  | cons o l ih =>
    obtain ⟨⟨e₁, h₁⟩, h1, h2⟩ := Option.bind_eq_some_iff.1 hrun
    exact (runO_le hcl h1).trans (ih h2)

theorem ops_wp {ops : Array Oper} {n : Nat} {Q : Exit → Act → World → Prop} (hcl : ∀ f, SpecOK P f (cl f)) (l : List Oper) : ∀ (l' : List O) (e : Env) (h : Hp) (a : Act) (w : World) (φ : Phi),
    l.mapM (compO P n ops) = some l' → runOps cl l' e h = some (e', h') → ER φ e a → HR φ h w → n ≤ a.tmps.size → Then φ h w e' h' a (Q .normal) → wpList P ops Q l a w := by
  induction l with
  | nil =>
    intro l' e h a w φ hc hrun he hr hn hK
    simp at hc
    subst hc
    cases hrun
    exact hK φ a w (.refl hr) he rfl rfl
  | cons o l ih =>
    intro l' e h a w φ hc hrun he hr hn hK
    rw [List.mapM_cons] at hc
    obtain ⟨oo, h1, hc⟩ := Option.bind_eq_some_iff.1 hc
    obtain ⟨l₂, h2, hc⟩ := Option.bind_eq_some_iff.1 hc
    cases hc
    obtain ⟨⟨e₁, h₁⟩, h3, h4⟩ := Option.bind_eq_some_iff.1 hrun
    refine wpList_step fun K hk => step_wp hcl h1 h3 he hr hn fun φ' a' w' hx he' hs hd => hk a' w' ?_
    exact ih l₂ e₁ h₁ a' w' φ' h2 h4 he' hx.hr (by omega) (hK.step hr hx (runO_le hcl h3) hs hd)

theorem its_le {base : Nat} {l : List It} (hcl : ∀ f, SpecOK P f (cl f)) {g : Hp} (hb : g.next ≤ base) (hg : g.next ≤ h.next ∧ ∀ b, b < g.next → g.get b = none → h.get b = none) (hrun : runIts cl base l e h = some (e', h')) : Le g h' := by
  induction l generalizing e h with
  | nil => cases hrun; exact hg
  | cons o l ih =>
    obtain ⟨⟨e₁, h₁⟩, h1, h2⟩ := Option.bind_eq_some_iff.1 hrun
    refine ih ?_ h2
    unfold runIt at h1
    split at h1
    · exact Le.trans hg (runO_le hcl h1)
    · split at h1
      · cases h1
      · cases h1; exact hg
      · obtain ⟨r, hr, hh⟩ := Option.map_eq_some_iff.1 h1
        cases hh
        refine ⟨hg.1, fun b hlt hn => ?_⟩
        simp only [Hp.put]
        rw [if_neg (by omega)]
        exact hg.2 b hlt hn
    · split at h1
      · cases h1
      · cases h1; exact hg
      · split at h1
        · split at h1
          · cases h1; exact hg
          · cases h1
        · cases h1

theorem runC_le (hcl : ∀ f, SpecOK P f (cl f)) (m : Nat) : ∀ (c : C) (e : Env) (h : Hp) (x : Ex) {e' : Env} {h' : Hp}, runC cl m c e h = some (x, e', h') → Le h h' := by
  induction m with
  | zero => intro c e h x e' h' hr; simp [runC] at hr
  | succ m ih =>
    intro c e h x e' h' hr
    cases c with
    | skip => simp only [runC] at hr; cases hr; exact .refl _
    | ops l =>
      simp only [runC] at hr
      obtain ⟨r, h1, h2⟩ := Option.map_eq_some_iff.1 hr
      cases h2
      exact ops_le hcl h1
    | any k l =>
      simp only [runC] at hr
      obtain ⟨r, h1, h2⟩ := Option.map_eq_some_iff.1 hr
      cases h2
      exact its_le hcl (Nat.le_refl _) (Le.adv h k) h1
    | seq c d =>
      simp only [runC] at hr
      split at hr
      · rename_i h1
        exact (ih _ _ _ _ h1).trans (ih _ _ _ _ hr)
      · exact ih _ _ _ _ hr
    | cond c x y =>
      simp only [runC] at hr
      split at hr
      · split at hr <;> exact ih _ _ _ _ hr
      · cases hr
    | block id c =>
      simp only [runC] at hr
      split at hr
      · rename_i h1
        split at hr <;> (cases hr; exact ih _ _ _ _ h1)
      · exact ih _ _ _ _ hr
    | loop c =>
      simp only [runC] at hr
      split at hr
      · rename_i h1
        exact (ih _ _ _ _ h1).trans (ih _ _ _ _ hr)
      · exact ih _ _ _ _ hr
    | exit id => simp only [runC] at hr; cases hr; exact .refl _
    | ret => simp only [runC] at hr; cases hr; exact .refl _

/-- What a region whose order is left open is known to do. -/
def AnyOK (P : Program) (n : Nat) (any : Array Oper → Option (Nat × List It)) : Prop :=
  ∀ (cl : Nat → Sp), (∀ f, SpecOK P f (cl f)) → ∀ (ops : Array Oper) (k : Nat) (l : List It), any ops = some (k, l) → ∀ (id : Nat) (e e' : Env) (h h' : Hp) (a : Act) (w : World) (φ : Phi) (Q : Exit → Act → World → Prop),
    runIts cl h.next l e (h.adv k) = some (e', h') → ER φ e a → HR φ h w → n ≤ a.tmps.size → Then φ h w e' h' a (Q .normal) → (Code.region id ops true).wp P Q a w

variable {n : Nat} {any : Array Oper → Option (Nat × List It)}

theorem code_wp (hcl : ∀ f, SpecOK P f (cl f)) (hany : AnyOK P n any) (m : Nat) :
    (∀ (c : Code) (cc : C) (e e' : Env) (h h' : Hp) (x : Ex) (a : Act) (w : World) (φ : Phi) (Q : Exit → Act → World → Prop), compC P n any c = some cc → runC cl m cc e h = some (x, e', h') → ER φ e a → HR φ h w → n ≤ a.tmps.size →
      Then φ h w e' h' a (Q (exOf x)) → c.wp P Q a w) ∧
    (∀ (c : Code) (cc : C) (e e' : Env) (h h' : Hp) (x : Ex) (a : Act) (w : World) (φ : Phi) (Q : Exit → Act → World → Prop), compC P n any c = some cc → runC cl m (.loop cc) e h = some (x, e', h') → ER φ e a → HR φ h w → n ≤ a.tmps.size →
      Then φ h w e' h' a (Q (exOf x)) → Code.rounds P c Q m a w) := by
  induction m with
  | zero => exact ⟨fun c cc e e' h h' x a w φ Q _ hr => by simp [runC] at hr, fun c cc e e' h h' x a w φ Q _ hr => by simp [runC] at hr⟩
  | succ m ih =>
    have loop : ∀ (c : Code) (cc : C) (e e' : Env) (h h' : Hp) (x : Ex) (a : Act) (w : World) (φ : Phi) (Q : Exit → Act → World → Prop), compC P n any c = some cc → runC cl (m + 1) (.loop cc) e h = some (x, e', h') → ER φ e a → HR φ h w → n ≤ a.tmps.size →
      Then φ h w e' h' a (Q (exOf x)) → Code.rounds P c Q (m + 1) a w := by
      intro c cc e e' h h' x a w φ Q hc hrun he hr hn hK
      rw [rounds_succ]
      simp only [runC] at hrun
      split at hrun
      · rename_i e₁ h₁ h1
        refine ih.1 c cc e e₁ h h₁ .n a w φ _ hc h1 he hr hn fun φ' a' w' hx he' hs hd => ?_
        exact ih.2 c cc e₁ e' h₁ h' x a' w' φ' Q hc hrun he' hx.hr (by omega) (hK.step hr hx (runC_le hcl m _ _ _ _ h1) hs hd)
      · rename_i hne
        cases x with
        | n => exact absurd hrun (hne _ _)
        | x id => exact ih.1 c cc e e' h h' _ a w φ _ hc hrun he hr hn hK
        | r => exact ih.1 c cc e e' h h' _ a w φ _ hc hrun he hr hn hK
    refine ⟨?_, loop⟩
    intro c
    induction c with
    | skip =>
      intro cc e e' h h' x a w φ Q hc hrun he hr hn hK
      cases hc
      simp only [runC] at hrun
      cases hrun
      exact wp_skip (hK φ a w (.refl hr) he rfl rfl)
    | label l =>
      intro cc e e' h h' x a w φ Q hc hrun he hr hn hK
      cases hc
      simp only [runC] at hrun
      cases hrun
      exact wp_label (hK φ a w (.refl hr) he rfl rfl)
    | region id ops d =>
      intro cc e e' h h' x a w φ Q hc hrun he hr hn hK
      cases d with
      | false =>
        obtain ⟨l, h1, rfl⟩ := Option.map_eq_some_iff.1 hc
        simp only [runC] at hrun
        obtain ⟨r, h2, h3⟩ := Option.map_eq_some_iff.1 hrun
        cases h3
        exact wp_region_list (ops_wp hcl _ l e h a w φ h1 h2 he hr hn hK)
      | true =>
        obtain ⟨⟨k, l⟩, h1, rfl⟩ := Option.map_eq_some_iff.1 hc
        simp only [runC] at hrun
        obtain ⟨r, h2, h3⟩ := Option.map_eq_some_iff.1 hrun
        cases h3
        exact hany cl hcl ops k l h1 id e _ h _ a w φ Q h2 he hr hn hK
    | seq c d ihc ihd =>
      intro cc e e' h h' x a w φ Q hc hrun he hr hn hK
      obtain ⟨c', h1, hc⟩ := Option.bind_eq_some_iff.1 hc
      obtain ⟨d', h2, rfl⟩ := Option.map_eq_some_iff.1 hc
      simp only [runC] at hrun
      refine wp_seq ?_
      split at hrun
      · rename_i e₁ h₁ h3
        refine ih.1 c c' e e₁ h h₁ .n a w φ _ h1 h3 he hr hn fun φ' a' w' hx he' hs hd => ?_
        exact ih.1 d d' e₁ e' h₁ h' x a' w' φ' Q h2 hrun he' hx.hr (by omega) (hK.step hr hx (runC_le hcl m _ _ _ _ h3) hs hd)
      · rename_i hne
        cases x with
        | n => exact absurd hrun (hne _ _)
        | x id => exact ih.1 c c' e e' h h' _ a w φ _ h1 hrun he hr hn hK
        | r => exact ih.1 c c' e e' h h' _ a w φ _ h1 hrun he hr hn hK
    | cond c t f iht ihf =>
      intro cc e e' h h' x a w φ Q hc hrun he hr hn hK
      obtain ⟨c', h0, hc⟩ := Option.bind_eq_some_iff.1 hc
      obtain ⟨t', h1, hc⟩ := Option.bind_eq_some_iff.1 hc
      obtain ⟨f', h2, rfl⟩ := Option.map_eq_some_iff.1 hc
      simp only [runC] at hrun
      split at hrun
      case h_2 => cases hrun
      rename_i b hb
      have hv := cx_ev h0 he
      rw [hb] at hv
      refine wp_cond hv.bool_inv ?_
      cases b
      · simp only [Bool.false_eq_true, if_false] at hrun ⊢
        exact ih.1 f f' e e' h h' x a w φ Q h2 hrun he hr hn hK
      · simp only [if_true] at hrun ⊢
        exact ih.1 t t' e e' h h' x a w φ Q h1 hrun he hr hn hK
    | block id c ihc =>
      intro cc e e' h h' x a w φ Q hc hrun he hr hn hK
      obtain ⟨c', h1, rfl⟩ := Option.map_eq_some_iff.1 hc
      simp only [runC] at hrun
      refine wp_block ?_
      split at hrun
      · rename_i j e₁ h₁ h3
        split at hrun
        · rename_i hj
          cases hrun
          refine ih.1 c c' e _ h _ (.x j) a w φ _ h1 h3 he hr hn fun φ' a' w' hx he' hs hd => ?_
          simp only [exOf, Exit.inBlock, hj, if_true]
          exact hK φ' a' w' hx he' hs hd
        · rename_i hj
          cases hrun
          refine ih.1 c c' e _ h _ (.x j) a w φ _ h1 h3 he hr hn fun φ' a' w' hx he' hs hd => ?_
          simp only [exOf, Exit.inBlock, hj, if_false]
          exact hK φ' a' w' hx he' hs hd
      · rename_i hne
        cases x with
        | n => exact ih.1 c c' e e' h h' _ a w φ _ h1 hrun he hr hn hK
        | x id => exact absurd hrun (hne _ _ _)
        | r => exact ih.1 c c' e e' h h' _ a w φ _ h1 hrun he hr hn hK
    | loop c ihc =>
      intro cc e e' h h' x a w φ Q hc hrun he hr hn hK
      obtain ⟨c', h1, rfl⟩ := Option.map_eq_some_iff.1 hc
      exact wp_loop_rounds (m + 1) (loop c c' e e' h h' x a w φ Q h1 hrun he hr hn hK)
    | scope c ihc =>
      intro cc e e' h h' x a w φ Q hc hrun he hr hn hK
      refine wp_scope_straight (ihc cc e e' h h' x a w φ _ hc hrun he hr hn fun φ' a' w' hx he' hs hd => ?_)
      have := hK φ' a' w' hx he' hs hd
      cases x <;> exact this
    | exit id =>
      intro cc e e' h h' x a w φ Q hc hrun he hr hn hK
      cases hc
      simp only [runC] at hrun
      cases hrun
      exact wp_exit (hK φ a w (.refl hr) he rfl rfl)
    | ret =>
      intro cc e e' h h' x a w φ Q hc hrun he hr hn hK
      cases hc
      simp only [runC] at hrun
      cases hrun
      exact wp_ret (hK φ a w (.refl hr) he rfl rfl)
    | rangeFunc f ps asg body _ _ => intro cc e e' h h' x a w φ Q hc; cases hc
    | goto l => intro cc e e' h h' x a w φ Q hc; cases hc
    | refuse s => intro cc e e' h h' x a w φ Q hc; cases hc
end
end Go.Dx
