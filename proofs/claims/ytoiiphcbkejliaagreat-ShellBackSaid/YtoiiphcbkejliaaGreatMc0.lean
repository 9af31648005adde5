/- Texts of one kind, one behind the other. -/
import Derived.Test.YtoiiphcbkejliaaGreatMb0
import Derived.Below
/- Runs of code with the fuel hidden: what holds behind them, rule by rule. -/
set_option linter.unusedSimpArgs false
set_option linter.unusedVariables false
namespace Go.Dx

/-- More is known of calls. -/
def Leq (cl cl' : Nat → Sp) : Prop := ∀ f args h r, cl f args h = some r → cl' f args h = some r
section
variable {cl cl' : Nat → Sp} {e e' : Env} {h h' : Hp}

theorem act_mono (hl : Leq cl cl') {op : Op} {r : Value × Hp} (hr : act cl e h op = some r) : act cl' e h op = some r := by
  unfold act at hr ⊢
  split at hr
  · exact hl _ _ _ _ hr
  · split at hr
    · rename_i h0
      split at hr
      · rename_i h1; simp only [h0, h1, if_true]; exact hl _ _ _ _ hr
      · cases hr
    · cases hr
  · exact hr
theorem runO_mono (hl : Leq cl cl') {o : O} {r : Env × Hp} (hr : runO cl o e h = some r) : runO cl' o e h = some r := by
  unfold runO at hr ⊢
  split at hr
  · cases hr
  · exact hr
  · obtain ⟨q, h1, h2⟩ := Option.map_eq_some_iff.1 hr
    rw [act_mono hl h1]
    exact congrArg some h2
theorem runOps_mono (hl : Leq cl cl') : ∀ {l : List O} {e : Env} {h : Hp} {r : Env × Hp}, runOps cl l e h = some r → runOps cl' l e h = some r := by
  intro l
  induction l with
  | nil => intro e h r hr; exact hr
  | cons o l ih =>
    intro e h r hr
    obtain ⟨q, h1, h2⟩ := Option.bind_eq_some_iff.1 hr
    exact Option.bind_eq_some_iff.2 ⟨q, runO_mono hl h1, ih h2⟩
theorem runIt_mono (hl : Leq cl cl') {base : Nat} {o : It} {r : Env × Hp} (hr : runIt cl base e h o = some r) : runIt cl' base e h o = some r := by
  cases o with
  | op i o => exact runO_mono hl hr
  | al i j o => exact hr
  | re i o => exact hr
theorem runIts_mono (hl : Leq cl cl') {base : Nat} : ∀ {l : List It} {e : Env} {h : Hp} {r : Env × Hp}, runIts cl base l e h = some r → runIts cl' base l e h = some r := by
  intro l
  induction l with
  | nil => intro e h r hr; exact hr
  | cons o l ih =>
    intro e h r hr
    obtain ⟨q, h1, h2⟩ := Option.bind_eq_some_iff.1 hr
    exact Option.bind_eq_some_iff.2 ⟨q, runIt_mono hl h1, ih h2⟩
theorem runC_mono (hl : Leq cl cl') (n : Nat) : ∀ (c : C) (e : Env) (h : Hp) (r : Ex × Env × Hp), runC cl n c e h = some r → runC cl' (n + 1) c e h = some r := by
  induction n with
  | zero => intro c e h r hr; simp [runC] at hr
  | succ n ih =>
    intro c e h r hr
    cases c with
    | skip => simpa only [runC] using hr
    | exit id => simpa only [runC] using hr
    | ret => simpa only [runC] using hr
    | ops l =>
      simp only [runC] at hr ⊢
      obtain ⟨q, h1, h2⟩ := Option.map_eq_some_iff.1 hr
      rw [runOps_mono hl h1]
      exact congrArg some h2
    | any k l =>
      simp only [runC] at hr ⊢
      obtain ⟨q, h1, h2⟩ := Option.map_eq_some_iff.1 hr
      rw [runIts_mono hl h1]
      exact congrArg some h2
    | cond c a b =>
      rw [runC] at hr ⊢
      split at hr
      · rename_i t _
        cases t
        · simp only [Bool.false_eq_true, if_false] at hr ⊢; exact ih _ _ _ _ hr
        · simp only [if_true] at hr ⊢; exact ih _ _ _ _ hr
      · cases hr
    | seq a b =>
      rw [runC] at hr ⊢
      cases hq : runC cl n a e h with
      | none => rw [hq] at hr; cases hr
      | some q =>
        rw [ih _ _ _ _ hq]
        obtain ⟨x, e1, h1⟩ := q
        rw [hq] at hr
        cases x with
        | n => exact ih _ _ _ _ hr
        | x id => exact hr
        | r => exact hr
    | block id a =>
      rw [runC] at hr ⊢
      cases hq : runC cl n a e h with
      | none => rw [hq] at hr; cases hr
      | some q =>
        rw [ih _ _ _ _ hq]
        obtain ⟨x, e1, h1⟩ := q
        rw [hq] at hr
        cases x <;> exact hr
    | loop a =>
      rw [runC] at hr ⊢
      cases hq : runC cl n a e h with
      | none => rw [hq] at hr; cases hr
      | some q =>
        rw [ih _ _ _ _ hq]
        obtain ⟨x, e1, h1⟩ := q
        rw [hq] at hr
        cases x with
        | n => exact ih _ _ _ _ hr
        | x id => exact hr
        | r => exact hr
theorem callN_succ {T : Nat → Option Fn} (n : Nat) : Leq (callN T n) (callN T (n + 1)) := by
  induction n with
  | zero => intro f args h r hr; simp [callN] at hr
  | succ n ih =>
    intro f args h r hr
    cases hf : T f with
    | none => simp [callN, hf] at hr
    | some x =>
      cases x with
      | spec s => simp only [callN, hf] at hr ⊢; exact hr
      | code F =>
        rw [callN, hf] at hr ⊢
        simp only [callF] at hr ⊢
        cases hq : runC (callN T n) n F.body (envOf args) h with
        | none => rw [hq] at hr; cases hr
        | some q =>
          rw [runC_mono ih n _ _ _ _ hq]
          rw [hq] at hr
          exact hr
theorem Leq.refl (cl : Nat → Sp) : Leq cl cl := fun _ _ _ _ h => h
theorem callN_mono {T : Nat → Option Fn} {m n : Nat} (hm : m ≤ n) : Leq (callN T m) (callN T n) := by
  induction n with
  | zero => rw [Nat.le_zero.1 hm]; exact .refl _
  | succ n ih =>
    rcases Nat.lt_or_ge m (n + 1) with hl | hl
    · exact fun f args h r hr => callN_succ n f args h r (ih (by omega) f args h r hr)
    · rw [show m = n + 1 by omega]; exact .refl _
theorem runC_cl (hl : Leq cl cl') (n : Nat) : ∀ (c : C) (e : Env) (h : Hp) (r : Ex × Env × Hp), runC cl n c e h = some r → runC cl' n c e h = some r := by
  induction n with
  | zero => intro c e h r hr; simp [runC] at hr
  | succ n ih =>
    intro c e h r hr
    cases c with
    | skip => simpa only [runC] using hr
    | exit id => simpa only [runC] using hr
    | ret => simpa only [runC] using hr
    | ops l =>
      simp only [runC] at hr ⊢
      obtain ⟨q, h1, h2⟩ := Option.map_eq_some_iff.1 hr
      rw [runOps_mono hl h1]
      exact congrArg some h2
    | any k l =>
      simp only [runC] at hr ⊢
      obtain ⟨q, h1, h2⟩ := Option.map_eq_some_iff.1 hr
      rw [runIts_mono hl h1]
      exact congrArg some h2
    | cond c a b =>
      rw [runC] at hr ⊢
      split at hr
      · rename_i t _
        cases t
        · simp only [Bool.false_eq_true, if_false] at hr ⊢; exact ih _ _ _ _ hr
        · simp only [if_true] at hr ⊢; exact ih _ _ _ _ hr
      · cases hr
    | seq a b =>
      rw [runC] at hr ⊢
      cases hq : runC cl n a e h with
      | none => rw [hq] at hr; cases hr
      | some q =>
        rw [ih _ _ _ _ hq]
        obtain ⟨x, e1, h1⟩ := q
        rw [hq] at hr
        cases x with
        | n => exact ih _ _ _ _ hr
        | x id => exact hr
        | r => exact hr
    | block id a =>
      rw [runC] at hr ⊢
      cases hq : runC cl n a e h with
      | none => rw [hq] at hr; cases hr
      | some q =>
        rw [ih _ _ _ _ hq]
        obtain ⟨x, e1, h1⟩ := q
        rw [hq] at hr
        cases x <;> exact hr
    | loop a =>
      rw [runC] at hr ⊢
      cases hq : runC cl n a e h with
      | none => rw [hq] at hr; cases hr
      | some q =>
        rw [ih _ _ _ _ hq]
        obtain ⟨x, e1, h1⟩ := q
        rw [hq] at hr
        cases x with
        | n => exact ih _ _ _ _ hr
        | x id => exact hr
        | r => exact hr
theorem runC_more {T : Nat → Option Fn} {m m' n n' : Nat} (hm : m ≤ m') (hn : n ≤ n') {c : C} {e : Env} {h : Hp} {r : Ex × Env × Hp} (hr : runC (callN T m) n c e h = some r) : runC (callN T m') n' c e h = some r := by
  refine runC_cl (callN_mono hm) n' _ _ _ _ ?_
  induction n' with
  | zero => rw [Nat.le_zero.1 hn] at hr; exact hr
  | succ n' ih =>
    rcases Nat.lt_or_ge n (n' + 1) with hl | hl
    · exact runC_mono (.refl _) n' _ _ _ _ (ih (by omega))
    · rw [show n' + 1 = n by omega]; exact hr
end

section
variable (T : Nat → Option Fn)
def W (c : C) (e : Env) (h : Hp) (Q : Ex → Env → Hp → Prop) : Prop := ∃ m n x e' h', runC (callN T m) n c e h = some (x, e', h') ∧ Q x e' h'
def WO (l : List O) (e : Env) (h : Hp) (Q : Env → Hp → Prop) : Prop := ∃ n e' h', runOps (callN T n) l e h = some (e', h') ∧ Q e' h'
def WI (base : Nat) (l : List It) (e : Env) (h : Hp) (Q : Env → Hp → Prop) : Prop := ∃ n e' h', runIts (callN T n) base l e h = some (e', h') ∧ Q e' h'
def WC (f : Nat) (args : List Value) (h : Hp) (Q : Value → Hp → Prop) : Prop := ∃ n v h', callN T n f args h = some (v, h') ∧ Q v h'
end

/-- What a piece of code leaves goes on. -/
def Ex.go (Q : Ex → Env → Hp → Prop) (K : Env → Hp → Prop) : Ex → Env → Hp → Prop
  | .n, e, h => K e h
  | .x i, e, h => Q (.x i) e h
  | .r, e, h => Q .r e h
def Ex.out (id : Nat) (Q : Ex → Env → Hp → Prop) : Ex → Env → Hp → Prop
  | .x j, e, h => if j = id then Q .n e h else Q (.x j) e h
  | .n, e, h => Q .n e h
  | .r, e, h => Q .r e h
def isC : Op → Bool
  | .call .. | .callv .. => true
  | _ => false

section
variable {T : Nat → Option Fn} {e : Env} {h : Hp} {Q : Ex → Env → Hp → Prop} {K : Env → Hp → Prop}

theorem W.mono {c : C} {Q' : Ex → Env → Hp → Prop} (hw : W T c e h Q) (hq : ∀ x e h, Q x e h → Q' x e h) : W T c e h Q' :=
  let ⟨m, n, x, e', h', h1, h2⟩ := hw; ⟨m, n, x, e', h', h1, hq _ _ _ h2⟩
theorem WO.mono {l : List O} {K' : Env → Hp → Prop} (hw : WO T l e h K) (hq : ∀ e h, K e h → K' e h) : WO T l e h K' :=
  let ⟨n, e', h', h1, h2⟩ := hw; ⟨n, e', h', h1, hq _ _ h2⟩
theorem WC.mono {f : Nat} {args : List Value} {q q' : Value → Hp → Prop} (hw : WC T f args h q) (hq : ∀ v h, q v h → q' v h) : WC T f args h q' :=
  let ⟨n, e', h', h1, h2⟩ := hw; ⟨n, e', h', h1, hq _ _ h2⟩

theorem W_skip : W T .skip e h Q ↔ Q .n e h := ⟨fun ⟨m, n, x, e', h', h1, h2⟩ => by cases n <;> simp [runC] at h1; obtain ⟨rfl, rfl, rfl⟩ := h1; exact h2, fun hq => ⟨1, 1, _, _, _, rfl, hq⟩⟩
theorem W_ret : W T .ret e h Q ↔ Q .r e h := ⟨fun ⟨m, n, x, e', h', h1, h2⟩ => by cases n <;> simp [runC] at h1; obtain ⟨rfl, rfl, rfl⟩ := h1; exact h2, fun hq => ⟨1, 1, _, _, _, rfl, hq⟩⟩
theorem W_exit {id : Nat} : W T (.exit id) e h Q ↔ Q (.x id) e h := ⟨fun ⟨m, n, x, e', h', h1, h2⟩ => by cases n <;> simp [runC] at h1; obtain ⟨rfl, rfl, rfl⟩ := h1; exact h2, fun hq => ⟨1, 1, _, _, _, rfl, hq⟩⟩
theorem W_ops {l : List O} : W T (.ops l) e h Q ↔ WO T l e h (Q .n) := by
  constructor
  · rintro ⟨m, n, x, e', h', h1, h2⟩
    cases n with
    | zero => simp [runC] at h1
    | succ n =>
      simp only [runC] at h1
      obtain ⟨q, h3, h4⟩ := Option.map_eq_some_iff.1 h1
      cases h4
      exact ⟨m, _, _, h3, h2⟩
  · rintro ⟨m, e', h', h1, h2⟩
    refine ⟨m, 1, _, _, _, ?_, h2⟩
    simp only [runC, h1]
    rfl
theorem W_any {k : Nat} {l : List It} : W T (.any k l) e h Q ↔ WI T h.next l e (h.adv k) (Q .n) := by
  constructor
  · rintro ⟨m, n, x, e', h', h1, h2⟩
    cases n with
    | zero => simp [runC] at h1
    | succ n =>
      simp only [runC] at h1
      obtain ⟨q, h3, h4⟩ := Option.map_eq_some_iff.1 h1
      cases h4
      exact ⟨m, _, _, h3, h2⟩
  · rintro ⟨m, e', h', h1, h2⟩
    refine ⟨m, 1, _, _, _, ?_, h2⟩
    simp only [runC, h1]
    rfl
theorem W_seq {a b : C} : W T (.seq a b) e h Q ↔ W T a e h (Ex.go Q fun e h => W T b e h Q) := by
  constructor
  · rintro ⟨m, n, x, e', h', h1, h2⟩
    cases n with
    | zero => simp [runC] at h1
    | succ n =>
      rw [runC] at h1
      cases hq : runC (callN T m) n a e h with
      | none => rw [hq] at h1; cases h1
      | some q =>
        obtain ⟨y, e1, h3⟩ := q
        rw [hq] at h1
        cases y with
        | n => exact ⟨m, n, _, _, _, hq, m, n, x, e', h', h1, h2⟩
        | x id => cases h1; exact ⟨m, n, _, _, _, hq, h2⟩
        | r => cases h1; exact ⟨m, n, _, _, _, hq, h2⟩
  · rintro ⟨m, n, x, e', h', h1, h2⟩
    cases x with
    | n =>
      obtain ⟨m', n', y, e1, h3, h4, h5⟩ := h2
      refine ⟨max m m', max n n' + 1, y, e1, h3, ?_, h5⟩
      rw [runC, runC_more (Nat.le_max_left m m') (Nat.le_max_left n n') h1]
      exact runC_more (Nat.le_max_right m m') (Nat.le_max_right n n') h4
    | x id => exact ⟨m, n + 1, _, _, _, by rw [runC, h1], h2⟩
    | r => exact ⟨m, n + 1, _, _, _, by rw [runC, h1], h2⟩
theorem W_cond {c : X} {a b : C} {t : Bool} (hc : c.ev e = .bool t) : W T (.cond c a b) e h Q ↔ if t then W T a e h Q else W T b e h Q := by
  constructor
  · rintro ⟨m, n, x, e', h', h1, h2⟩
    cases n with
    | zero => simp [runC] at h1
    | succ n =>
      rw [runC, hc] at h1
      cases t
      · exact ⟨m, n, _, _, _, h1, h2⟩
      · exact ⟨m, n, _, _, _, h1, h2⟩
  · intro hw
    cases t
    · obtain ⟨m, n, x, e', h', h1, h2⟩ := hw
      exact ⟨m, n + 1, _, _, _, by rw [runC, hc]; exact h1, h2⟩
    · obtain ⟨m, n, x, e', h', h1, h2⟩ := hw
      exact ⟨m, n + 1, _, _, _, by rw [runC, hc]; exact h1, h2⟩
theorem W_block {id : Nat} {a : C} : W T (.block id a) e h Q ↔ W T a e h (Ex.out id Q) := by
  constructor
  · rintro ⟨m, n, x, e', h', h1, h2⟩
    cases n with
    | zero => simp [runC] at h1
    | succ n =>
      rw [runC] at h1
      cases hq : runC (callN T m) n a e h with
      | none => rw [hq] at h1; cases h1
      | some q =>
        obtain ⟨y, e1, h3⟩ := q
        rw [hq] at h1
        refine ⟨m, n, y, e1, h3, hq, ?_⟩
        cases y with
        | n => cases h1; exact h2
        | r => cases h1; exact h2
        | x j =>
          simp only [] at h1
          simp only [Ex.out]
          split at h1
          · rename_i hj; cases h1; rw [if_pos hj]; exact h2
          · rename_i hj; cases h1; rw [if_neg hj]; exact h2
  · rintro ⟨m, n, x, e', h', h1, h2⟩
    cases x with
    | n => exact ⟨m, n + 1, .n, e', h', by rw [runC, h1], h2⟩
    | r => exact ⟨m, n + 1, .r, e', h', by rw [runC, h1], h2⟩
    | x j =>
      simp only [Ex.out] at h2
      split at h2
      · rename_i hj; exact ⟨m, n + 1, .n, e', h', by rw [runC, h1]; simp [hj], h2⟩
      · rename_i hj; exact ⟨m, n + 1, .x j, e', h', by rw [runC, h1]; simp [hj], h2⟩
theorem W_loop {a : C} : W T (.loop a) e h Q ↔ W T a e h (Ex.go Q fun e h => W T (.loop a) e h Q) := by
  constructor
  · rintro ⟨m, n, x, e', h', h1, h2⟩
    cases n with
    | zero => simp [runC] at h1
    | succ n =>
      rw [runC] at h1
      cases hq : runC (callN T m) n a e h with
      | none => rw [hq] at h1; cases h1
      | some q =>
        obtain ⟨y, e1, h3⟩ := q
        rw [hq] at h1
        cases y with
        | n => exact ⟨m, n, _, _, _, hq, m, n, x, e', h', h1, h2⟩
        | x id => cases h1; exact ⟨m, n, _, _, _, hq, h2⟩
        | r => cases h1; exact ⟨m, n, _, _, _, hq, h2⟩
  · rintro ⟨m, n, x, e', h', h1, h2⟩
    cases x with
    | n =>
      obtain ⟨m', n', y, e1, h3, h4, h5⟩ := h2
      refine ⟨max m m', max n n' + 1, y, e1, h3, ?_, h5⟩
      rw [runC, runC_more (Nat.le_max_left m m') (Nat.le_max_left n n') h1]
      exact runC_more (Nat.le_max_right m m') (Nat.le_max_right n n') h4
    | x id => exact ⟨m, n + 1, _, _, _, by rw [runC, h1], h2⟩
    | r => exact ⟨m, n + 1, _, _, _, by rw [runC, h1], h2⟩
theorem WO_nil : WO T [] e h K ↔ K e h := ⟨fun ⟨n, e', h', h1, h2⟩ => by cases h1; exact h2, fun hk => ⟨0, _, _, rfl, hk⟩⟩
theorem WO_cons {o : O} {l : List O} : WO T (o :: l) e h K ↔ ∃ n e' h', runO (callN T n) o e h = some (e', h') ∧ WO T l e' h' K := by
  constructor
  · rintro ⟨n, e', h', h1, h2⟩
    obtain ⟨q, h3, h4⟩ := Option.bind_eq_some_iff.1 h1
    exact ⟨n, _, _, h3, n, e', h', h4, h2⟩
  · rintro ⟨n, e1, h1, h3, m, e', h', h4, h5⟩
    exact ⟨max n m, e', h', Option.bind_eq_some_iff.2 ⟨(e1, h1), runO_mono (callN_mono (Nat.le_max_left _ _)) h3, runOps_mono (callN_mono (Nat.le_max_right _ _)) h4⟩, h5⟩
theorem WO_op {d : Option Nat} {op : Op} {l : List O} (hop : isC op = false) : WO T (⟨d, none, op⟩ :: l) e h K ↔ ∃ v h', opV e h op = some (v, h') ∧ WO T l (put e d v) h' K := by
  have hact : ∀ cl, act cl e h op = opV e h op := fun cl => by cases op <;> first | rfl | (simp [isC] at hop)
  rw [WO_cons]
  constructor
  · rintro ⟨n, e', h', h1, h2⟩
    simp only [runO, gd, hact] at h1
    obtain ⟨r, h3, h4⟩ := Option.map_eq_some_iff.1 h1
    cases h4
    exact ⟨_, _, h3, h2⟩
  · rintro ⟨v, h', h1, h2⟩
    exact ⟨0, _, _, by simp only [runO, gd, hact, h1, Option.map_some], h2⟩
theorem WO_gd {d : Option Nat} {t : Nat} {want b : Bool} {op : Op} {l : List O} (ht : e t = .bool b) :
    WO T (⟨d, some (t, want), op⟩ :: l) e h K ↔ if b = want then WO T (⟨d, none, op⟩ :: l) e h K else WO T l (put e d undef) h K := by
  rw [WO_cons, WO_cons]
  simp only [runO, gd, ht]
  cases b <;> cases want <;> simp
  · exact ⟨fun ⟨_, _, ⟨h1, h2⟩, h3⟩ => by subst h1 h2; exact h3, fun hk => ⟨_, _, ⟨rfl, rfl⟩, hk⟩⟩
  · exact ⟨fun ⟨_, _, ⟨h1, h2⟩, h3⟩ => by subst h1 h2; exact h3, fun hk => ⟨_, _, ⟨rfl, rfl⟩, hk⟩⟩
theorem WO_call {d : Option Nat} {f : Nat} {xs : List X} {l : List O} : WO T (⟨d, none, .call f xs⟩ :: l) e h K ↔ WC T f (evs e xs) h fun v h => WO T l (put e d v) h K := by
  rw [WO_cons]
  constructor
  · rintro ⟨n, e', h', h1, h2⟩
    simp only [runO, gd, act] at h1
    obtain ⟨r, h3, h4⟩ := Option.map_eq_some_iff.1 h1
    cases h4
    exact ⟨n, _, _, h3, h2⟩
  · rintro ⟨n, v, h', h1, h2⟩
    exact ⟨n, _, _, by simp only [runO, gd, act, h1, Option.map_some], h2⟩
/-- A function of which the code is known. -/
theorem WC_code {f : Nat} {F : F} {args : List Value} {q : Value → Hp → Prop} (hf : T f = some (.code F)) : WC T f args h q ↔ W T F.body (envOf args) h fun x e h' => match x with
    | .x _ => False
    | _ => ∃ v, resV e h' F.res = some v ∧ q v (dropB h.next e h' F.drop) := by
  constructor
  · rintro ⟨n, v, h', h1, h2⟩
    cases n with
    | zero => simp [callN] at h1
    | succ n =>
      rw [callN, hf] at h1
      simp only [callF] at h1
      split at h1
      · rename_i hrun
        obtain ⟨u, h3, h4⟩ := Option.map_eq_some_iff.1 h1
        cases h4
        exact ⟨n, n, _, _, _, hrun, _, h3, h2⟩
      · rename_i hrun
        obtain ⟨u, h3, h4⟩ := Option.map_eq_some_iff.1 h1
        cases h4
        exact ⟨n, n, _, _, _, hrun, _, h3, h2⟩
      · cases h1
  · rintro ⟨m, n, x, e', h', h1, h2⟩
    have h3 := runC_more (Nat.le_max_left m n) (Nat.le_max_right m n) h1
    cases x with
    | x id => exact h2.elim
    | n => obtain ⟨v, h4, h5⟩ := h2; exact ⟨max m n + 1, _, _, by rw [callN, hf]; simp only [callF, h3, h4, Option.map_some], h5⟩
    | r => obtain ⟨v, h4, h5⟩ := h2; exact ⟨max m n + 1, _, _, by rw [callN, hf]; simp only [callF, h3, h4, Option.map_some], h5⟩
end
end Go.Dx

/- Numbers of a kind without sign, as rows of bits: what the operations do to them. -/
set_option linter.unusedSimpArgs false
set_option linter.unusedVariables false
namespace Go.Dx
open Go

/-- A number turned into a kind. -/
def cvt (k : IntKind) : Value → Option Value
  | .int _ n => some (.int k (k.wrap n))
  | _ => none
theorem opV_conv {e : Env} {h : Hp} {k : IntKind} {x : X} : opV e h (.conv k x) = (cvt k (x.ev e)).map fun v => (v, h) := by
  simp only [opV, cvt]
  generalize x.ev e = v
  cases v <;> rfl


def u8 (x : BitVec 8) : Value := .int .u8 (x.toNat : Int)
theorem wrap_u8 (n : Int) : IntKind.wrap .u8 n = ((BitVec.ofInt 8 n).toNat : Int) := by
  have h : (0 : Int) ≤ n % 256 := Int.emod_nonneg _ (by decide)
  simp only [IntKind.wrap, IntKind.signed, IntKind.bits, Bool.false_and, Bool.false_eq_true, if_false, BitVec.toNat_ofInt]
  norm_cast
  omega
theorem int_u8 (n : Int) : Value.int .u8 (IntKind.wrap .u8 n) = u8 (BitVec.ofInt 8 n) := by rw [wrap_u8]; rfl
theorem lit_u8 (n : Nat) (h : n < 256) : Value.int .u8 (n : Int) = u8 (BitVec.ofNat 8 n) := by
  unfold u8
  rw [BitVec.toNat_ofNat, Nat.mod_eq_of_lt h]
theorem add_u8 (x y : BitVec 8) : binV .add (u8 x) (u8 y) = some (u8 (x + y)) := by
  have h : BitVec.ofInt 8 ((x.toNat : Int) + y.toNat) = x + y := by
    apply BitVec.eq_of_toNat_eq
    have h1 := x.isLt
    have h2 := y.isLt
    simp only [BitVec.toNat_ofInt, BitVec.toNat_add]
    omega
  simp only [binV, u8, binI, wrap_u8, h, if_true]
theorem sub_u8 (x y : BitVec 8) : binV .sub (u8 x) (u8 y) = some (u8 (x - y)) := by
  have h : BitVec.ofInt 8 ((x.toNat : Int) - y.toNat) = x - y := by
    apply BitVec.eq_of_toNat_eq
    have h1 := x.isLt
    have h2 := y.isLt
    simp only [BitVec.toNat_ofInt, BitVec.toNat_sub]
    omega
  simp only [binV, u8, binI, wrap_u8, h, if_true]
theorem mul_u8 (x y : BitVec 8) : binV .mul (u8 x) (u8 y) = some (u8 (x * y)) := by
  have h : BitVec.ofInt 8 ((x.toNat : Int) * y.toNat) = x * y := by
    rw [← Int.natCast_mul, BitVec.ofInt_natCast]
    apply BitVec.eq_of_toNat_eq
    simp [BitVec.toNat_mul]
  simp only [binV, u8, binI, wrap_u8, h, if_true]
theorem and_u8 (x y : BitVec 8) : binV .and (u8 x) (u8 y) = some (u8 (x &&& y)) := by
  simp only [binV, u8, binI, wrap_u8, IntKind.bits, BitVec.ofInt_natCast, BitVec.ofNat_toNat, BitVec.setWidth_eq, if_true]
  rfl
theorem or_u8 (x y : BitVec 8) : binV .or (u8 x) (u8 y) = some (u8 (x ||| y)) := by
  simp only [binV, u8, binI, wrap_u8, IntKind.bits, BitVec.ofInt_natCast, BitVec.ofNat_toNat, BitVec.setWidth_eq, if_true]
  rfl
theorem xor_u8 (x y : BitVec 8) : binV .xor (u8 x) (u8 y) = some (u8 (x ^^^ y)) := by
  simp only [binV, u8, binI, wrap_u8, IntKind.bits, BitVec.ofInt_natCast, BitVec.ofNat_toNat, BitVec.setWidth_eq, if_true]
  rfl
theorem andNot_u8 (x y : BitVec 8) : binV .andNot (u8 x) (u8 y) = some (u8 (x &&& ~~~ y)) := by
  simp only [binV, u8, binI, wrap_u8, IntKind.bits, BitVec.ofInt_natCast, BitVec.ofNat_toNat, BitVec.setWidth_eq, if_true]
  rfl
theorem quo_u8 (x y : BitVec 8) (h : y ≠ 0) : binV .quo (u8 x) (u8 y) = some (u8 (x / y)) := by
  have hy : ¬ ((y.toNat : Int) = 0) := fun hh => h (BitVec.eq_of_toNat_eq (by simpa using hh))
  have : BitVec.ofInt 8 ((x.toNat : Int).tdiv y.toNat) = x / y := by
    apply BitVec.eq_of_toNat_eq
    have h1 : x.toNat / y.toNat < 256 := Nat.lt_of_le_of_lt (Nat.div_le_self _ _) x.isLt
    rw [← Int.ofNat_tdiv, BitVec.ofInt_natCast, BitVec.toNat_ofNat, BitVec.toNat_udiv, Nat.mod_eq_of_lt h1]
  simp only [binV, u8, binI, wrap_u8, this, if_true, hy, if_false]
theorem rem_u8 (x y : BitVec 8) (h : y ≠ 0) : binV .rem (u8 x) (u8 y) = some (u8 (x % y)) := by
  have hy : ¬ ((y.toNat : Int) = 0) := fun hh => h (BitVec.eq_of_toNat_eq (by simpa using hh))
  have : (x.toNat : Int).tmod y.toNat = ((x % y).toNat : Int) := by
    rw [← Int.ofNat_tmod, BitVec.toNat_umod]
  simp only [binV, u8, binI, this, if_true, hy, if_false]
theorem eql_u8 (x y : BitVec 8) : binV .eql (u8 x) (u8 y) = some (.bool (x == y)) := by
  have : ((x.toNat : Int) == (y.toNat : Int)) = (x == y) := by
    rw [Bool.eq_iff_iff]
    simp only [beq_iff_eq]
    exact ⟨fun h => BitVec.eq_of_toNat_eq (by omega), fun h => by rw [h]⟩
  simp only [binV, u8, binI, this, if_true]
theorem neq_u8 (x y : BitVec 8) : binV .neq (u8 x) (u8 y) = some (.bool (x != y)) := by
  have : ((x.toNat : Int) == (y.toNat : Int)) = (x == y) := by
    rw [Bool.eq_iff_iff]
    simp only [beq_iff_eq]
    exact ⟨fun h => BitVec.eq_of_toNat_eq (by omega), fun h => by rw [h]⟩
  simp only [binV, u8, binI, bne, this, if_true]
theorem lss_u8 (x y : BitVec 8) : binV .lss (u8 x) (u8 y) = some (.bool (decide (x < y))) := by
  simp only [binV, u8, binI, if_true, BitVec.lt_def, Int.ofNat_lt]
theorem leq_u8 (x y : BitVec 8) : binV .leq (u8 x) (u8 y) = some (.bool (decide (x ≤ y))) := by
  simp only [binV, u8, binI, if_true, BitVec.le_def, Int.ofNat_le]
theorem gtr_u8 (x y : BitVec 8) : binV .gtr (u8 x) (u8 y) = some (.bool (decide (y < x))) := by
  simp only [binV, u8, binI, if_true, BitVec.lt_def, gt_iff_lt, Int.ofNat_lt]
theorem geq_u8 (x y : BitVec 8) : binV .geq (u8 x) (u8 y) = some (.bool (decide (y ≤ x))) := by
  simp only [binV, u8, binI, if_true, BitVec.le_def, ge_iff_le, Int.ofNat_le]
theorem shl_u8_n (x : BitVec 8) (k : IntKind) (n : Nat) : binV .shl (u8 x) (.int k (n : Int)) = some (u8 (x <<< n)) := by
  have hn : ¬ ((n : Int) < 0) := by omega
  have : BitVec.ofInt 8 ((x.toNat : Int) * 2 ^ (min n 8)) = x <<< n := by
    apply BitVec.eq_of_toNat_eq
    have e : ((x.toNat : Int) * 2 ^ (min n 8)) = ((x.toNat * 2 ^ (min n 8) : Nat) : Int) := by simp
    rw [e, BitVec.ofInt_natCast, BitVec.toNat_ofNat, BitVec.toNat_shiftLeft, Nat.shiftLeft_eq]
    rcases Nat.le_total n 8 with hh | hh
    · rw [Nat.min_eq_left hh]
    · rw [Nat.min_eq_right hh, show n = 8 + (n - 8) by omega, Nat.pow_add]
      rw [Nat.mul_mod_left, ← Nat.mul_assoc, Nat.mul_right_comm, Nat.mul_mod_left]
  simp only [binV, u8, shiftI, hn, if_false, wrap_u8, IntKind.bits, Int.toNat_natCast, this]
theorem shr_u8_n (x : BitVec 8) (k : IntKind) (n : Nat) : binV .shr (u8 x) (.int k (n : Int)) = some (u8 (x >>> n)) := by
  have hn : ¬ ((n : Int) < 0) := by omega
  have : (x.toNat : Int).fdiv (2 ^ (min n 8)) = ((x >>> n).toNat : Int) := by
    have e : (x.toNat : Int).fdiv (2 ^ (min n 8)) = ((x.toNat / 2 ^ (min n 8) : Nat) : Int) := by
      rw [Int.fdiv_eq_ediv_of_nonneg _ (by exact_mod_cast Nat.zero_le _)]
      norm_cast
    rw [e, BitVec.toNat_ushiftRight, Nat.shiftRight_eq_div_pow]
    rcases Nat.le_total n 8 with hh | hh
    · rw [Nat.min_eq_left hh]
    · rw [Nat.min_eq_right hh, Nat.div_eq_of_lt x.isLt, Nat.div_eq_of_lt (Nat.lt_of_lt_of_le x.isLt (Nat.pow_le_pow_right (by decide) hh))]
  simp only [binV, u8, shiftI, hn, if_false, IntKind.bits, Int.toNat_natCast, this]
theorem not_u8 (x : BitVec 8) : unV .xor (u8 x) = some (u8 (~~~ x)) := by
  simp only [unV, u8, IntKind.signed, Bool.false_eq_true, if_false, IntKind.max, IntKind.bits, BitVec.ofInt_natCast, BitVec.ofNat_toNat, BitVec.setWidth_eq, wrap_u8]
  have h : BitVec.ofInt 8 (2 ^ 8 - 1) = BitVec.allOnes 8 := by decide
  rw [h]
  have g : (BitVec.allOnes 8 ^^^ x) = ~~~ x := by rw [BitVec.xor_comm, BitVec.xor_allOnes]
  exact congrArg (fun y : BitVec 8 => some (Value.int .u8 (y.toNat : Int))) g

def u16 (x : BitVec 16) : Value := .int .u16 (x.toNat : Int)
theorem wrap_u16 (n : Int) : IntKind.wrap .u16 n = ((BitVec.ofInt 16 n).toNat : Int) := by
  have h : (0 : Int) ≤ n % 65536 := Int.emod_nonneg _ (by decide)
  simp only [IntKind.wrap, IntKind.signed, IntKind.bits, Bool.false_and, Bool.false_eq_true, if_false, BitVec.toNat_ofInt]
  norm_cast
  omega
theorem int_u16 (n : Int) : Value.int .u16 (IntKind.wrap .u16 n) = u16 (BitVec.ofInt 16 n) := by rw [wrap_u16]; rfl
theorem lit_u16 (n : Nat) (h : n < 65536) : Value.int .u16 (n : Int) = u16 (BitVec.ofNat 16 n) := by
  unfold u16
  rw [BitVec.toNat_ofNat, Nat.mod_eq_of_lt h]
theorem add_u16 (x y : BitVec 16) : binV .add (u16 x) (u16 y) = some (u16 (x + y)) := by
  have h : BitVec.ofInt 16 ((x.toNat : Int) + y.toNat) = x + y := by
    apply BitVec.eq_of_toNat_eq
    have h1 := x.isLt
    have h2 := y.isLt
    simp only [BitVec.toNat_ofInt, BitVec.toNat_add]
    omega
  simp only [binV, u16, binI, wrap_u16, h, if_true]
theorem sub_u16 (x y : BitVec 16) : binV .sub (u16 x) (u16 y) = some (u16 (x - y)) := by
  have h : BitVec.ofInt 16 ((x.toNat : Int) - y.toNat) = x - y := by
    apply BitVec.eq_of_toNat_eq
    have h1 := x.isLt
    have h2 := y.isLt
    simp only [BitVec.toNat_ofInt, BitVec.toNat_sub]
    omega
  simp only [binV, u16, binI, wrap_u16, h, if_true]
theorem mul_u16 (x y : BitVec 16) : binV .mul (u16 x) (u16 y) = some (u16 (x * y)) := by
  have h : BitVec.ofInt 16 ((x.toNat : Int) * y.toNat) = x * y := by
    rw [← Int.natCast_mul, BitVec.ofInt_natCast]
    apply BitVec.eq_of_toNat_eq
    simp [BitVec.toNat_mul]
  simp only [binV, u16, binI, wrap_u16, h, if_true]
theorem and_u16 (x y : BitVec 16) : binV .and (u16 x) (u16 y) = some (u16 (x &&& y)) := by
  simp only [binV, u16, binI, wrap_u16, IntKind.bits, BitVec.ofInt_natCast, BitVec.ofNat_toNat, BitVec.setWidth_eq, if_true]
  rfl
theorem or_u16 (x y : BitVec 16) : binV .or (u16 x) (u16 y) = some (u16 (x ||| y)) := by
  simp only [binV, u16, binI, wrap_u16, IntKind.bits, BitVec.ofInt_natCast, BitVec.ofNat_toNat, BitVec.setWidth_eq, if_true]
  rfl
theorem xor_u16 (x y : BitVec 16) : binV .xor (u16 x) (u16 y) = some (u16 (x ^^^ y)) := by
  simp only [binV, u16, binI, wrap_u16, IntKind.bits, BitVec.ofInt_natCast, BitVec.ofNat_toNat, BitVec.setWidth_eq, if_true]
  rfl
theorem andNot_u16 (x y : BitVec 16) : binV .andNot (u16 x) (u16 y) = some (u16 (x &&& ~~~ y)) := by
  simp only [binV, u16, binI, wrap_u16, IntKind.bits, BitVec.ofInt_natCast, BitVec.ofNat_toNat, BitVec.setWidth_eq, if_true]
  rfl
theorem quo_u16 (x y : BitVec 16) (h : y ≠ 0) : binV .quo (u16 x) (u16 y) = some (u16 (x / y)) := by
  have hy : ¬ ((y.toNat : Int) = 0) := fun hh => h (BitVec.eq_of_toNat_eq (by simpa using hh))
  have : BitVec.ofInt 16 ((x.toNat : Int).tdiv y.toNat) = x / y := by
    apply BitVec.eq_of_toNat_eq
    have h1 : x.toNat / y.toNat < 65536 := Nat.lt_of_le_of_lt (Nat.div_le_self _ _) x.isLt
    rw [← Int.ofNat_tdiv, BitVec.ofInt_natCast, BitVec.toNat_ofNat, BitVec.toNat_udiv, Nat.mod_eq_of_lt h1]
  simp only [binV, u16, binI, wrap_u16, this, if_true, hy, if_false]
theorem rem_u16 (x y : BitVec 16) (h : y ≠ 0) : binV .rem (u16 x) (u16 y) = some (u16 (x % y)) := by
  have hy : ¬ ((y.toNat : Int) = 0) := fun hh => h (BitVec.eq_of_toNat_eq (by simpa using hh))
  have : (x.toNat : Int).tmod y.toNat = ((x % y).toNat : Int) := by
    rw [← Int.ofNat_tmod, BitVec.toNat_umod]
  simp only [binV, u16, binI, this, if_true, hy, if_false]
theorem eql_u16 (x y : BitVec 16) : binV .eql (u16 x) (u16 y) = some (.bool (x == y)) := by
  have : ((x.toNat : Int) == (y.toNat : Int)) = (x == y) := by
    rw [Bool.eq_iff_iff]
    simp only [beq_iff_eq]
    exact ⟨fun h => BitVec.eq_of_toNat_eq (by omega), fun h => by rw [h]⟩
  simp only [binV, u16, binI, this, if_true]
theorem neq_u16 (x y : BitVec 16) : binV .neq (u16 x) (u16 y) = some (.bool (x != y)) := by
  have : ((x.toNat : Int) == (y.toNat : Int)) = (x == y) := by
    rw [Bool.eq_iff_iff]
    simp only [beq_iff_eq]
    exact ⟨fun h => BitVec.eq_of_toNat_eq (by omega), fun h => by rw [h]⟩
  simp only [binV, u16, binI, bne, this, if_true]
theorem lss_u16 (x y : BitVec 16) : binV .lss (u16 x) (u16 y) = some (.bool (decide (x < y))) := by
  simp only [binV, u16, binI, if_true, BitVec.lt_def, Int.ofNat_lt]
theorem leq_u16 (x y : BitVec 16) : binV .leq (u16 x) (u16 y) = some (.bool (decide (x ≤ y))) := by
  simp only [binV, u16, binI, if_true, BitVec.le_def, Int.ofNat_le]
theorem gtr_u16 (x y : BitVec 16) : binV .gtr (u16 x) (u16 y) = some (.bool (decide (y < x))) := by
  simp only [binV, u16, binI, if_true, BitVec.lt_def, gt_iff_lt, Int.ofNat_lt]
theorem geq_u16 (x y : BitVec 16) : binV .geq (u16 x) (u16 y) = some (.bool (decide (y ≤ x))) := by
  simp only [binV, u16, binI, if_true, BitVec.le_def, ge_iff_le, Int.ofNat_le]
theorem shl_u16_n (x : BitVec 16) (k : IntKind) (n : Nat) : binV .shl (u16 x) (.int k (n : Int)) = some (u16 (x <<< n)) := by
  have hn : ¬ ((n : Int) < 0) := by omega
  have : BitVec.ofInt 16 ((x.toNat : Int) * 2 ^ (min n 16)) = x <<< n := by
    apply BitVec.eq_of_toNat_eq
    have e : ((x.toNat : Int) * 2 ^ (min n 16)) = ((x.toNat * 2 ^ (min n 16) : Nat) : Int) := by simp
    rw [e, BitVec.ofInt_natCast, BitVec.toNat_ofNat, BitVec.toNat_shiftLeft, Nat.shiftLeft_eq]
    rcases Nat.le_total n 16 with hh | hh
    · rw [Nat.min_eq_left hh]
    · rw [Nat.min_eq_right hh, show n = 16 + (n - 16) by omega, Nat.pow_add]
      rw [Nat.mul_mod_left, ← Nat.mul_assoc, Nat.mul_right_comm, Nat.mul_mod_left]
  simp only [binV, u16, shiftI, hn, if_false, wrap_u16, IntKind.bits, Int.toNat_natCast, this]
theorem shr_u16_n (x : BitVec 16) (k : IntKind) (n : Nat) : binV .shr (u16 x) (.int k (n : Int)) = some (u16 (x >>> n)) := by
  have hn : ¬ ((n : Int) < 0) := by omega
  have : (x.toNat : Int).fdiv (2 ^ (min n 16)) = ((x >>> n).toNat : Int) := by
    have e : (x.toNat : Int).fdiv (2 ^ (min n 16)) = ((x.toNat / 2 ^ (min n 16) : Nat) : Int) := by
      rw [Int.fdiv_eq_ediv_of_nonneg _ (by exact_mod_cast Nat.zero_le _)]
      norm_cast
    rw [e, BitVec.toNat_ushiftRight, Nat.shiftRight_eq_div_pow]
    rcases Nat.le_total n 16 with hh | hh
    · rw [Nat.min_eq_left hh]
    · rw [Nat.min_eq_right hh, Nat.div_eq_of_lt x.isLt, Nat.div_eq_of_lt (Nat.lt_of_lt_of_le x.isLt (Nat.pow_le_pow_right (by decide) hh))]
  simp only [binV, u16, shiftI, hn, if_false, IntKind.bits, Int.toNat_natCast, this]
theorem not_u16 (x : BitVec 16) : unV .xor (u16 x) = some (u16 (~~~ x)) := by
  simp only [unV, u16, IntKind.signed, Bool.false_eq_true, if_false, IntKind.max, IntKind.bits, BitVec.ofInt_natCast, BitVec.ofNat_toNat, BitVec.setWidth_eq, wrap_u16]
  have h : BitVec.ofInt 16 (2 ^ 16 - 1) = BitVec.allOnes 16 := by decide
  rw [h]
  have g : (BitVec.allOnes 16 ^^^ x) = ~~~ x := by rw [BitVec.xor_comm, BitVec.xor_allOnes]
  exact congrArg (fun y : BitVec 16 => some (Value.int .u16 (y.toNat : Int))) g

def u32 (x : BitVec 32) : Value := .int .u32 (x.toNat : Int)
theorem wrap_u32 (n : Int) : IntKind.wrap .u32 n = ((BitVec.ofInt 32 n).toNat : Int) := by
  have h : (0 : Int) ≤ n % 4294967296 := Int.emod_nonneg _ (by decide)
  simp only [IntKind.wrap, IntKind.signed, IntKind.bits, Bool.false_and, Bool.false_eq_true, if_false, BitVec.toNat_ofInt]
  norm_cast
  omega
theorem int_u32 (n : Int) : Value.int .u32 (IntKind.wrap .u32 n) = u32 (BitVec.ofInt 32 n) := by rw [wrap_u32]; rfl
theorem lit_u32 (n : Nat) (h : n < 4294967296) : Value.int .u32 (n : Int) = u32 (BitVec.ofNat 32 n) := by
  unfold u32
  rw [BitVec.toNat_ofNat, Nat.mod_eq_of_lt h]
theorem add_u32 (x y : BitVec 32) : binV .add (u32 x) (u32 y) = some (u32 (x + y)) := by
  have h : BitVec.ofInt 32 ((x.toNat : Int) + y.toNat) = x + y := by
    apply BitVec.eq_of_toNat_eq
    have h1 := x.isLt
    have h2 := y.isLt
    simp only [BitVec.toNat_ofInt, BitVec.toNat_add]
    omega
  simp only [binV, u32, binI, wrap_u32, h, if_true]
theorem sub_u32 (x y : BitVec 32) : binV .sub (u32 x) (u32 y) = some (u32 (x - y)) := by
  have h : BitVec.ofInt 32 ((x.toNat : Int) - y.toNat) = x - y := by
    apply BitVec.eq_of_toNat_eq
    have h1 := x.isLt
    have h2 := y.isLt
    simp only [BitVec.toNat_ofInt, BitVec.toNat_sub]
    omega
  simp only [binV, u32, binI, wrap_u32, h, if_true]
theorem mul_u32 (x y : BitVec 32) : binV .mul (u32 x) (u32 y) = some (u32 (x * y)) := by
  have h : BitVec.ofInt 32 ((x.toNat : Int) * y.toNat) = x * y := by
    rw [← Int.natCast_mul, BitVec.ofInt_natCast]
    apply BitVec.eq_of_toNat_eq
    simp [BitVec.toNat_mul]
  simp only [binV, u32, binI, wrap_u32, h, if_true]
theorem and_u32 (x y : BitVec 32) : binV .and (u32 x) (u32 y) = some (u32 (x &&& y)) := by
  simp only [binV, u32, binI, wrap_u32, IntKind.bits, BitVec.ofInt_natCast, BitVec.ofNat_toNat, BitVec.setWidth_eq, if_true]
  rfl
theorem or_u32 (x y : BitVec 32) : binV .or (u32 x) (u32 y) = some (u32 (x ||| y)) := by
  simp only [binV, u32, binI, wrap_u32, IntKind.bits, BitVec.ofInt_natCast, BitVec.ofNat_toNat, BitVec.setWidth_eq, if_true]
  rfl
theorem xor_u32 (x y : BitVec 32) : binV .xor (u32 x) (u32 y) = some (u32 (x ^^^ y)) := by
  simp only [binV, u32, binI, wrap_u32, IntKind.bits, BitVec.ofInt_natCast, BitVec.ofNat_toNat, BitVec.setWidth_eq, if_true]
  rfl
theorem andNot_u32 (x y : BitVec 32) : binV .andNot (u32 x) (u32 y) = some (u32 (x &&& ~~~ y)) := by
  simp only [binV, u32, binI, wrap_u32, IntKind.bits, BitVec.ofInt_natCast, BitVec.ofNat_toNat, BitVec.setWidth_eq, if_true]
  rfl
theorem quo_u32 (x y : BitVec 32) (h : y ≠ 0) : binV .quo (u32 x) (u32 y) = some (u32 (x / y)) := by
  have hy : ¬ ((y.toNat : Int) = 0) := fun hh => h (BitVec.eq_of_toNat_eq (by simpa using hh))
  have : BitVec.ofInt 32 ((x.toNat : Int).tdiv y.toNat) = x / y := by
    apply BitVec.eq_of_toNat_eq
    have h1 : x.toNat / y.toNat < 4294967296 := Nat.lt_of_le_of_lt (Nat.div_le_self _ _) x.isLt
    rw [← Int.ofNat_tdiv, BitVec.ofInt_natCast, BitVec.toNat_ofNat, BitVec.toNat_udiv, Nat.mod_eq_of_lt h1]
  simp only [binV, u32, binI, wrap_u32, this, if_true, hy, if_false]
theorem rem_u32 (x y : BitVec 32) (h : y ≠ 0) : binV .rem (u32 x) (u32 y) = some (u32 (x % y)) := by
  have hy : ¬ ((y.toNat : Int) = 0) := fun hh => h (BitVec.eq_of_toNat_eq (by simpa using hh))
  have : (x.toNat : Int).tmod y.toNat = ((x % y).toNat : Int) := by
    rw [← Int.ofNat_tmod, BitVec.toNat_umod]
  simp only [binV, u32, binI, this, if_true, hy, if_false]
theorem eql_u32 (x y : BitVec 32) : binV .eql (u32 x) (u32 y) = some (.bool (x == y)) := by
  have : ((x.toNat : Int) == (y.toNat : Int)) = (x == y) := by
    rw [Bool.eq_iff_iff]
    simp only [beq_iff_eq]
    exact ⟨fun h => BitVec.eq_of_toNat_eq (by omega), fun h => by rw [h]⟩
  simp only [binV, u32, binI, this, if_true]
theorem neq_u32 (x y : BitVec 32) : binV .neq (u32 x) (u32 y) = some (.bool (x != y)) := by
  have : ((x.toNat : Int) == (y.toNat : Int)) = (x == y) := by
    rw [Bool.eq_iff_iff]
    simp only [beq_iff_eq]
    exact ⟨fun h => BitVec.eq_of_toNat_eq (by omega), fun h => by rw [h]⟩
  simp only [binV, u32, binI, bne, this, if_true]
theorem lss_u32 (x y : BitVec 32) : binV .lss (u32 x) (u32 y) = some (.bool (decide (x < y))) := by
  simp only [binV, u32, binI, if_true, BitVec.lt_def, Int.ofNat_lt]
theorem leq_u32 (x y : BitVec 32) : binV .leq (u32 x) (u32 y) = some (.bool (decide (x ≤ y))) := by
  simp only [binV, u32, binI, if_true, BitVec.le_def, Int.ofNat_le]
theorem gtr_u32 (x y : BitVec 32) : binV .gtr (u32 x) (u32 y) = some (.bool (decide (y < x))) := by
  simp only [binV, u32, binI, if_true, BitVec.lt_def, gt_iff_lt, Int.ofNat_lt]
theorem geq_u32 (x y : BitVec 32) : binV .geq (u32 x) (u32 y) = some (.bool (decide (y ≤ x))) := by
  simp only [binV, u32, binI, if_true, BitVec.le_def, ge_iff_le, Int.ofNat_le]
theorem shl_u32_n (x : BitVec 32) (k : IntKind) (n : Nat) : binV .shl (u32 x) (.int k (n : Int)) = some (u32 (x <<< n)) := by
  have hn : ¬ ((n : Int) < 0) := by omega
  have : BitVec.ofInt 32 ((x.toNat : Int) * 2 ^ (min n 32)) = x <<< n := by
    apply BitVec.eq_of_toNat_eq
    have e : ((x.toNat : Int) * 2 ^ (min n 32)) = ((x.toNat * 2 ^ (min n 32) : Nat) : Int) := by simp
    rw [e, BitVec.ofInt_natCast, BitVec.toNat_ofNat, BitVec.toNat_shiftLeft, Nat.shiftLeft_eq]
    rcases Nat.le_total n 32 with hh | hh
    · rw [Nat.min_eq_left hh]
    · rw [Nat.min_eq_right hh, show n = 32 + (n - 32) by omega, Nat.pow_add]
      rw [Nat.mul_mod_left, ← Nat.mul_assoc, Nat.mul_right_comm, Nat.mul_mod_left]
  simp only [binV, u32, shiftI, hn, if_false, wrap_u32, IntKind.bits, Int.toNat_natCast, this]
theorem shr_u32_n (x : BitVec 32) (k : IntKind) (n : Nat) : binV .shr (u32 x) (.int k (n : Int)) = some (u32 (x >>> n)) := by
  have hn : ¬ ((n : Int) < 0) := by omega
  have : (x.toNat : Int).fdiv (2 ^ (min n 32)) = ((x >>> n).toNat : Int) := by
    have e : (x.toNat : Int).fdiv (2 ^ (min n 32)) = ((x.toNat / 2 ^ (min n 32) : Nat) : Int) := by
      rw [Int.fdiv_eq_ediv_of_nonneg _ (by exact_mod_cast Nat.zero_le _)]
      norm_cast
    rw [e, BitVec.toNat_ushiftRight, Nat.shiftRight_eq_div_pow]
    rcases Nat.le_total n 32 with hh | hh
    · rw [Nat.min_eq_left hh]
    · rw [Nat.min_eq_right hh, Nat.div_eq_of_lt x.isLt, Nat.div_eq_of_lt (Nat.lt_of_lt_of_le x.isLt (Nat.pow_le_pow_right (by decide) hh))]
  simp only [binV, u32, shiftI, hn, if_false, IntKind.bits, Int.toNat_natCast, this]
theorem not_u32 (x : BitVec 32) : unV .xor (u32 x) = some (u32 (~~~ x)) := by
  simp only [unV, u32, IntKind.signed, Bool.false_eq_true, if_false, IntKind.max, IntKind.bits, BitVec.ofInt_natCast, BitVec.ofNat_toNat, BitVec.setWidth_eq, wrap_u32]
  have h : BitVec.ofInt 32 (2 ^ 32 - 1) = BitVec.allOnes 32 := by decide
  rw [h]
  have g : (BitVec.allOnes 32 ^^^ x) = ~~~ x := by rw [BitVec.xor_comm, BitVec.xor_allOnes]
  exact congrArg (fun y : BitVec 32 => some (Value.int .u32 (y.toNat : Int))) g

def u64 (x : BitVec 64) : Value := .int .u64 (x.toNat : Int)
theorem wrap_u64 (n : Int) : IntKind.wrap .u64 n = ((BitVec.ofInt 64 n).toNat : Int) := by
  have h : (0 : Int) ≤ n % 18446744073709551616 := Int.emod_nonneg _ (by decide)
  simp only [IntKind.wrap, IntKind.signed, IntKind.bits, Bool.false_and, Bool.false_eq_true, if_false, BitVec.toNat_ofInt]
  norm_cast
  omega
theorem int_u64 (n : Int) : Value.int .u64 (IntKind.wrap .u64 n) = u64 (BitVec.ofInt 64 n) := by rw [wrap_u64]; rfl
theorem lit_u64 (n : Nat) (h : n < 18446744073709551616) : Value.int .u64 (n : Int) = u64 (BitVec.ofNat 64 n) := by
  unfold u64
  rw [BitVec.toNat_ofNat, Nat.mod_eq_of_lt h]
theorem add_u64 (x y : BitVec 64) : binV .add (u64 x) (u64 y) = some (u64 (x + y)) := by
  have h : BitVec.ofInt 64 ((x.toNat : Int) + y.toNat) = x + y := by
    apply BitVec.eq_of_toNat_eq
    have h1 := x.isLt
    have h2 := y.isLt
    simp only [BitVec.toNat_ofInt, BitVec.toNat_add]
    omega
  simp only [binV, u64, binI, wrap_u64, h, if_true]
theorem sub_u64 (x y : BitVec 64) : binV .sub (u64 x) (u64 y) = some (u64 (x - y)) := by
  have h : BitVec.ofInt 64 ((x.toNat : Int) - y.toNat) = x - y := by
    apply BitVec.eq_of_toNat_eq
    have h1 := x.isLt
    have h2 := y.isLt
    simp only [BitVec.toNat_ofInt, BitVec.toNat_sub]
    omega
  simp only [binV, u64, binI, wrap_u64, h, if_true]
theorem mul_u64 (x y : BitVec 64) : binV .mul (u64 x) (u64 y) = some (u64 (x * y)) := by
  have h : BitVec.ofInt 64 ((x.toNat : Int) * y.toNat) = x * y := by
    rw [← Int.natCast_mul, BitVec.ofInt_natCast]
    apply BitVec.eq_of_toNat_eq
    simp [BitVec.toNat_mul]
  simp only [binV, u64, binI, wrap_u64, h, if_true]
theorem and_u64 (x y : BitVec 64) : binV .and (u64 x) (u64 y) = some (u64 (x &&& y)) := by
  simp only [binV, u64, binI, wrap_u64, IntKind.bits, BitVec.ofInt_natCast, BitVec.ofNat_toNat, BitVec.setWidth_eq, if_true]
  rfl
theorem or_u64 (x y : BitVec 64) : binV .or (u64 x) (u64 y) = some (u64 (x ||| y)) := by
  simp only [binV, u64, binI, wrap_u64, IntKind.bits, BitVec.ofInt_natCast, BitVec.ofNat_toNat, BitVec.setWidth_eq, if_true]
  rfl
theorem xor_u64 (x y : BitVec 64) : binV .xor (u64 x) (u64 y) = some (u64 (x ^^^ y)) := by
  simp only [binV, u64, binI, wrap_u64, IntKind.bits, BitVec.ofInt_natCast, BitVec.ofNat_toNat, BitVec.setWidth_eq, if_true]
  rfl
theorem andNot_u64 (x y : BitVec 64) : binV .andNot (u64 x) (u64 y) = some (u64 (x &&& ~~~ y)) := by
  simp only [binV, u64, binI, wrap_u64, IntKind.bits, BitVec.ofInt_natCast, BitVec.ofNat_toNat, BitVec.setWidth_eq, if_true]
  rfl
theorem quo_u64 (x y : BitVec 64) (h : y ≠ 0) : binV .quo (u64 x) (u64 y) = some (u64 (x / y)) := by
  have hy : ¬ ((y.toNat : Int) = 0) := fun hh => h (BitVec.eq_of_toNat_eq (by simpa using hh))
  have : BitVec.ofInt 64 ((x.toNat : Int).tdiv y.toNat) = x / y := by
    apply BitVec.eq_of_toNat_eq
    have h1 : x.toNat / y.toNat < 18446744073709551616 := Nat.lt_of_le_of_lt (Nat.div_le_self _ _) x.isLt
    rw [← Int.ofNat_tdiv, BitVec.ofInt_natCast, BitVec.toNat_ofNat, BitVec.toNat_udiv, Nat.mod_eq_of_lt h1]
  simp only [binV, u64, binI, wrap_u64, this, if_true, hy, if_false]
theorem rem_u64 (x y : BitVec 64) (h : y ≠ 0) : binV .rem (u64 x) (u64 y) = some (u64 (x % y)) := by
  have hy : ¬ ((y.toNat : Int) = 0) := fun hh => h (BitVec.eq_of_toNat_eq (by simpa using hh))
  have : (x.toNat : Int).tmod y.toNat = ((x % y).toNat : Int) := by
    rw [← Int.ofNat_tmod, BitVec.toNat_umod]
  simp only [binV, u64, binI, this, if_true, hy, if_false]
theorem eql_u64 (x y : BitVec 64) : binV .eql (u64 x) (u64 y) = some (.bool (x == y)) := by
  have : ((x.toNat : Int) == (y.toNat : Int)) = (x == y) := by
    rw [Bool.eq_iff_iff]
    simp only [beq_iff_eq]
    exact ⟨fun h => BitVec.eq_of_toNat_eq (by omega), fun h => by rw [h]⟩
  simp only [binV, u64, binI, this, if_true]
theorem neq_u64 (x y : BitVec 64) : binV .neq (u64 x) (u64 y) = some (.bool (x != y)) := by
  have : ((x.toNat : Int) == (y.toNat : Int)) = (x == y) := by
    rw [Bool.eq_iff_iff]
    simp only [beq_iff_eq]
    exact ⟨fun h => BitVec.eq_of_toNat_eq (by omega), fun h => by rw [h]⟩
  simp only [binV, u64, binI, bne, this, if_true]
theorem lss_u64 (x y : BitVec 64) : binV .lss (u64 x) (u64 y) = some (.bool (decide (x < y))) := by
  simp only [binV, u64, binI, if_true, BitVec.lt_def, Int.ofNat_lt]
theorem leq_u64 (x y : BitVec 64) : binV .leq (u64 x) (u64 y) = some (.bool (decide (x ≤ y))) := by
  simp only [binV, u64, binI, if_true, BitVec.le_def, Int.ofNat_le]
theorem gtr_u64 (x y : BitVec 64) : binV .gtr (u64 x) (u64 y) = some (.bool (decide (y < x))) := by
  simp only [binV, u64, binI, if_true, BitVec.lt_def, gt_iff_lt, Int.ofNat_lt]
theorem geq_u64 (x y : BitVec 64) : binV .geq (u64 x) (u64 y) = some (.bool (decide (y ≤ x))) := by
  simp only [binV, u64, binI, if_true, BitVec.le_def, ge_iff_le, Int.ofNat_le]
theorem shl_u64_n (x : BitVec 64) (k : IntKind) (n : Nat) : binV .shl (u64 x) (.int k (n : Int)) = some (u64 (x <<< n)) := by
  have hn : ¬ ((n : Int) < 0) := by omega
  have : BitVec.ofInt 64 ((x.toNat : Int) * 2 ^ (min n 64)) = x <<< n := by
    apply BitVec.eq_of_toNat_eq
    have e : ((x.toNat : Int) * 2 ^ (min n 64)) = ((x.toNat * 2 ^ (min n 64) : Nat) : Int) := by simp
    rw [e, BitVec.ofInt_natCast, BitVec.toNat_ofNat, BitVec.toNat_shiftLeft, Nat.shiftLeft_eq]
    rcases Nat.le_total n 64 with hh | hh
    · rw [Nat.min_eq_left hh]
    · rw [Nat.min_eq_right hh, show n = 64 + (n - 64) by omega, Nat.pow_add]
      rw [Nat.mul_mod_left, ← Nat.mul_assoc, Nat.mul_right_comm, Nat.mul_mod_left]
  simp only [binV, u64, shiftI, hn, if_false, wrap_u64, IntKind.bits, Int.toNat_natCast, this]
theorem shr_u64_n (x : BitVec 64) (k : IntKind) (n : Nat) : binV .shr (u64 x) (.int k (n : Int)) = some (u64 (x >>> n)) := by
  have hn : ¬ ((n : Int) < 0) := by omega
  have : (x.toNat : Int).fdiv (2 ^ (min n 64)) = ((x >>> n).toNat : Int) := by
    have e : (x.toNat : Int).fdiv (2 ^ (min n 64)) = ((x.toNat / 2 ^ (min n 64) : Nat) : Int) := by
      rw [Int.fdiv_eq_ediv_of_nonneg _ (by exact_mod_cast Nat.zero_le _)]
      norm_cast
    rw [e, BitVec.toNat_ushiftRight, Nat.shiftRight_eq_div_pow]
    rcases Nat.le_total n 64 with hh | hh
    · rw [Nat.min_eq_left hh]
    · rw [Nat.min_eq_right hh, Nat.div_eq_of_lt x.isLt, Nat.div_eq_of_lt (Nat.lt_of_lt_of_le x.isLt (Nat.pow_le_pow_right (by decide) hh))]
  simp only [binV, u64, shiftI, hn, if_false, IntKind.bits, Int.toNat_natCast, this]
theorem not_u64 (x : BitVec 64) : unV .xor (u64 x) = some (u64 (~~~ x)) := by
  simp only [unV, u64, IntKind.signed, Bool.false_eq_true, if_false, IntKind.max, IntKind.bits, BitVec.ofInt_natCast, BitVec.ofNat_toNat, BitVec.setWidth_eq, wrap_u64]
  have h : BitVec.ofInt 64 (2 ^ 64 - 1) = BitVec.allOnes 64 := by decide
  rw [h]
  have g : (BitVec.allOnes 64 ^^^ x) = ~~~ x := by rw [BitVec.xor_comm, BitVec.xor_allOnes]
  exact congrArg (fun y : BitVec 64 => some (Value.int .u64 (y.toNat : Int))) g

theorem shl_u8_u8 (x : BitVec 8) (y : BitVec 8) : binV .shl (u8 x) (u8 y) = some (u8 (x <<< y.toNat)) := shl_u8_n x .u8 y.toNat
theorem shr_u8_u8 (x : BitVec 8) (y : BitVec 8) : binV .shr (u8 x) (u8 y) = some (u8 (x >>> y.toNat)) := shr_u8_n x .u8 y.toNat
theorem cvt_u8_u8 (y : BitVec 8) : cvt .u8 (u8 y) = some (u8 (y.setWidth 8)) := by
  simp only [cvt, u8, int_u8, BitVec.ofInt_natCast, BitVec.ofNat_toNat]
theorem shl_u8_u16 (x : BitVec 8) (y : BitVec 16) : binV .shl (u8 x) (u16 y) = some (u8 (x <<< y.toNat)) := shl_u8_n x .u16 y.toNat
theorem shr_u8_u16 (x : BitVec 8) (y : BitVec 16) : binV .shr (u8 x) (u16 y) = some (u8 (x >>> y.toNat)) := shr_u8_n x .u16 y.toNat
theorem cvt_u8_u16 (y : BitVec 16) : cvt .u8 (u16 y) = some (u8 (y.setWidth 8)) := by
  simp only [cvt, u16, int_u8, BitVec.ofInt_natCast, BitVec.ofNat_toNat]
theorem shl_u8_u32 (x : BitVec 8) (y : BitVec 32) : binV .shl (u8 x) (u32 y) = some (u8 (x <<< y.toNat)) := shl_u8_n x .u32 y.toNat
theorem shr_u8_u32 (x : BitVec 8) (y : BitVec 32) : binV .shr (u8 x) (u32 y) = some (u8 (x >>> y.toNat)) := shr_u8_n x .u32 y.toNat
theorem cvt_u8_u32 (y : BitVec 32) : cvt .u8 (u32 y) = some (u8 (y.setWidth 8)) := by
  simp only [cvt, u32, int_u8, BitVec.ofInt_natCast, BitVec.ofNat_toNat]
theorem shl_u8_u64 (x : BitVec 8) (y : BitVec 64) : binV .shl (u8 x) (u64 y) = some (u8 (x <<< y.toNat)) := shl_u8_n x .u64 y.toNat
theorem shr_u8_u64 (x : BitVec 8) (y : BitVec 64) : binV .shr (u8 x) (u64 y) = some (u8 (x >>> y.toNat)) := shr_u8_n x .u64 y.toNat
theorem cvt_u8_u64 (y : BitVec 64) : cvt .u8 (u64 y) = some (u8 (y.setWidth 8)) := by
  simp only [cvt, u64, int_u8, BitVec.ofInt_natCast, BitVec.ofNat_toNat]
theorem cvt_u8_int (k : IntKind) (n : Int) : cvt .u8 (.int k n) = some (u8 (BitVec.ofInt 8 n)) := by
  simp only [cvt, int_u8]
theorem shl_u16_u8 (x : BitVec 16) (y : BitVec 8) : binV .shl (u16 x) (u8 y) = some (u16 (x <<< y.toNat)) := shl_u16_n x .u8 y.toNat
theorem shr_u16_u8 (x : BitVec 16) (y : BitVec 8) : binV .shr (u16 x) (u8 y) = some (u16 (x >>> y.toNat)) := shr_u16_n x .u8 y.toNat
theorem cvt_u16_u8 (y : BitVec 8) : cvt .u16 (u8 y) = some (u16 (y.setWidth 16)) := by
  simp only [cvt, u8, int_u16, BitVec.ofInt_natCast, BitVec.ofNat_toNat]
theorem shl_u16_u16 (x : BitVec 16) (y : BitVec 16) : binV .shl (u16 x) (u16 y) = some (u16 (x <<< y.toNat)) := shl_u16_n x .u16 y.toNat
theorem shr_u16_u16 (x : BitVec 16) (y : BitVec 16) : binV .shr (u16 x) (u16 y) = some (u16 (x >>> y.toNat)) := shr_u16_n x .u16 y.toNat
theorem cvt_u16_u16 (y : BitVec 16) : cvt .u16 (u16 y) = some (u16 (y.setWidth 16)) := by
  simp only [cvt, u16, int_u16, BitVec.ofInt_natCast, BitVec.ofNat_toNat]
theorem shl_u16_u32 (x : BitVec 16) (y : BitVec 32) : binV .shl (u16 x) (u32 y) = some (u16 (x <<< y.toNat)) := shl_u16_n x .u32 y.toNat
theorem shr_u16_u32 (x : BitVec 16) (y : BitVec 32) : binV .shr (u16 x) (u32 y) = some (u16 (x >>> y.toNat)) := shr_u16_n x .u32 y.toNat
theorem cvt_u16_u32 (y : BitVec 32) : cvt .u16 (u32 y) = some (u16 (y.setWidth 16)) := by
  simp only [cvt, u32, int_u16, BitVec.ofInt_natCast, BitVec.ofNat_toNat]
theorem shl_u16_u64 (x : BitVec 16) (y : BitVec 64) : binV .shl (u16 x) (u64 y) = some (u16 (x <<< y.toNat)) := shl_u16_n x .u64 y.toNat
theorem shr_u16_u64 (x : BitVec 16) (y : BitVec 64) : binV .shr (u16 x) (u64 y) = some (u16 (x >>> y.toNat)) := shr_u16_n x .u64 y.toNat
theorem cvt_u16_u64 (y : BitVec 64) : cvt .u16 (u64 y) = some (u16 (y.setWidth 16)) := by
  simp only [cvt, u64, int_u16, BitVec.ofInt_natCast, BitVec.ofNat_toNat]
theorem cvt_u16_int (k : IntKind) (n : Int) : cvt .u16 (.int k n) = some (u16 (BitVec.ofInt 16 n)) := by
  simp only [cvt, int_u16]
theorem shl_u32_u8 (x : BitVec 32) (y : BitVec 8) : binV .shl (u32 x) (u8 y) = some (u32 (x <<< y.toNat)) := shl_u32_n x .u8 y.toNat
theorem shr_u32_u8 (x : BitVec 32) (y : BitVec 8) : binV .shr (u32 x) (u8 y) = some (u32 (x >>> y.toNat)) := shr_u32_n x .u8 y.toNat
theorem cvt_u32_u8 (y : BitVec 8) : cvt .u32 (u8 y) = some (u32 (y.setWidth 32)) := by
  simp only [cvt, u8, int_u32, BitVec.ofInt_natCast, BitVec.ofNat_toNat]
theorem shl_u32_u16 (x : BitVec 32) (y : BitVec 16) : binV .shl (u32 x) (u16 y) = some (u32 (x <<< y.toNat)) := shl_u32_n x .u16 y.toNat
theorem shr_u32_u16 (x : BitVec 32) (y : BitVec 16) : binV .shr (u32 x) (u16 y) = some (u32 (x >>> y.toNat)) := shr_u32_n x .u16 y.toNat
theorem cvt_u32_u16 (y : BitVec 16) : cvt .u32 (u16 y) = some (u32 (y.setWidth 32)) := by
  simp only [cvt, u16, int_u32, BitVec.ofInt_natCast, BitVec.ofNat_toNat]
theorem shl_u32_u32 (x : BitVec 32) (y : BitVec 32) : binV .shl (u32 x) (u32 y) = some (u32 (x <<< y.toNat)) := shl_u32_n x .u32 y.toNat
theorem shr_u32_u32 (x : BitVec 32) (y : BitVec 32) : binV .shr (u32 x) (u32 y) = some (u32 (x >>> y.toNat)) := shr_u32_n x .u32 y.toNat
theorem cvt_u32_u32 (y : BitVec 32) : cvt .u32 (u32 y) = some (u32 (y.setWidth 32)) := by
  simp only [cvt, u32, int_u32, BitVec.ofInt_natCast, BitVec.ofNat_toNat]
theorem shl_u32_u64 (x : BitVec 32) (y : BitVec 64) : binV .shl (u32 x) (u64 y) = some (u32 (x <<< y.toNat)) := shl_u32_n x .u64 y.toNat
theorem shr_u32_u64 (x : BitVec 32) (y : BitVec 64) : binV .shr (u32 x) (u64 y) = some (u32 (x >>> y.toNat)) := shr_u32_n x .u64 y.toNat
theorem cvt_u32_u64 (y : BitVec 64) : cvt .u32 (u64 y) = some (u32 (y.setWidth 32)) := by
  simp only [cvt, u64, int_u32, BitVec.ofInt_natCast, BitVec.ofNat_toNat]
theorem cvt_u32_int (k : IntKind) (n : Int) : cvt .u32 (.int k n) = some (u32 (BitVec.ofInt 32 n)) := by
  simp only [cvt, int_u32]
theorem shl_u64_u8 (x : BitVec 64) (y : BitVec 8) : binV .shl (u64 x) (u8 y) = some (u64 (x <<< y.toNat)) := shl_u64_n x .u8 y.toNat
theorem shr_u64_u8 (x : BitVec 64) (y : BitVec 8) : binV .shr (u64 x) (u8 y) = some (u64 (x >>> y.toNat)) := shr_u64_n x .u8 y.toNat
theorem cvt_u64_u8 (y : BitVec 8) : cvt .u64 (u8 y) = some (u64 (y.setWidth 64)) := by
  simp only [cvt, u8, int_u64, BitVec.ofInt_natCast, BitVec.ofNat_toNat]
theorem shl_u64_u16 (x : BitVec 64) (y : BitVec 16) : binV .shl (u64 x) (u16 y) = some (u64 (x <<< y.toNat)) := shl_u64_n x .u16 y.toNat
theorem shr_u64_u16 (x : BitVec 64) (y : BitVec 16) : binV .shr (u64 x) (u16 y) = some (u64 (x >>> y.toNat)) := shr_u64_n x .u16 y.toNat
theorem cvt_u64_u16 (y : BitVec 16) : cvt .u64 (u16 y) = some (u64 (y.setWidth 64)) := by
  simp only [cvt, u16, int_u64, BitVec.ofInt_natCast, BitVec.ofNat_toNat]
theorem shl_u64_u32 (x : BitVec 64) (y : BitVec 32) : binV .shl (u64 x) (u32 y) = some (u64 (x <<< y.toNat)) := shl_u64_n x .u32 y.toNat
theorem shr_u64_u32 (x : BitVec 64) (y : BitVec 32) : binV .shr (u64 x) (u32 y) = some (u64 (x >>> y.toNat)) := shr_u64_n x .u32 y.toNat
theorem cvt_u64_u32 (y : BitVec 32) : cvt .u64 (u32 y) = some (u64 (y.setWidth 64)) := by
  simp only [cvt, u32, int_u64, BitVec.ofInt_natCast, BitVec.ofNat_toNat]
theorem shl_u64_u64 (x : BitVec 64) (y : BitVec 64) : binV .shl (u64 x) (u64 y) = some (u64 (x <<< y.toNat)) := shl_u64_n x .u64 y.toNat
theorem shr_u64_u64 (x : BitVec 64) (y : BitVec 64) : binV .shr (u64 x) (u64 y) = some (u64 (x >>> y.toNat)) := shr_u64_n x .u64 y.toNat
theorem cvt_u64_u64 (y : BitVec 64) : cvt .u64 (u64 y) = some (u64 (y.setWidth 64)) := by
  simp only [cvt, u64, int_u64, BitVec.ofInt_natCast, BitVec.ofNat_toNat]
theorem cvt_u64_int (k : IntKind) (n : Int) : cvt .u64 (.int k n) = some (u64 (BitVec.ofInt 64 n)) := by
  simp only [cvt, int_u64]

theorem wrap_i64_eq (n : Int) : IntKind.wrap .i64 n = if n % 18446744073709551616 ≥ 9223372036854775808 then n % 18446744073709551616 - 18446744073709551616 else n % 18446744073709551616 := by
  simp [IntKind.wrap, IntKind.signed, IntKind.bits]
theorem wrap_i64 {n : Int} (h : -9223372036854775808 ≤ n) (h' : n < 9223372036854775808) : IntKind.wrap .i64 n = n := by
  rw [wrap_i64_eq]
  split <;> omega
theorem cvt_i64_u8 (y : BitVec 8) : cvt .i64 (u8 y) = some (.int .i64 (y.toNat : Int)) := by
  have h := y.isLt
  have : IntKind.wrap .i64 (y.toNat : Int) = y.toNat := wrap_i64 (by omega) (by omega)
  simp only [cvt, u8, this]
theorem cvt_i64_u16 (y : BitVec 16) : cvt .i64 (u16 y) = some (.int .i64 (y.toNat : Int)) := by
  have h := y.isLt
  have : IntKind.wrap .i64 (y.toNat : Int) = y.toNat := wrap_i64 (by omega) (by omega)
  simp only [cvt, u16, this]
theorem cvt_i64_u32 (y : BitVec 32) : cvt .i64 (u32 y) = some (.int .i64 (y.toNat : Int)) := by
  have h := y.isLt
  have : IntKind.wrap .i64 (y.toNat : Int) = y.toNat := wrap_i64 (by omega) (by omega)
  simp only [cvt, u32, this]

end Go.Dx

/- Rules by which simp runs code. -/
set_option linter.unusedSimpArgs false
set_option linter.unusedVariables false
namespace Go.Dx
open Go

/-- Go on by a bool. -/
def brn (v : Value) (p q : Prop) : Prop :=
  match v with
  | .bool t => if t = true then p else q
  | _ => False
/-- Go on by a guard. -/
def gdn (v : Value) (want : Bool) (p q : Prop) : Prop :=
  match v with
  | .bool t => if t = want then p else q
  | .tuple _ => q
  | _ => False
section
variable {T : Nat → Option Fn} {e : Env} {h : Hp} {Q : Ex → Env → Hp → Prop} {K : Env → Hp → Prop}
@[simp] theorem brn_bool {t : Bool} {p q : Prop} : brn (.bool t) p q ↔ if t = true then p else q := Iff.rfl
@[simp] theorem gdn_bool {t w : Bool} {p q : Prop} : gdn (.bool t) w p q ↔ if t = w then p else q := Iff.rfl
theorem W_brn {c : X} {a b : C} : W T (.cond c a b) e h Q ↔ brn (c.ev e) (W T a e h Q) (W T b e h Q) := by
  cases hc : c.ev e with
  | bool t => rw [W_cond hc]; rfl
  | _ =>
    refine ⟨fun ⟨m, n, x, e', h', h1, h2⟩ => ?_, fun hf => hf.elim⟩
    cases n <;> simp [runC, hc] at h1
theorem WO_gdn {d : Option Nat} {t : Nat} {want : Bool} {op : Op} {l : List O} :
    WO T (⟨d, some (t, want), op⟩ :: l) e h K ↔ gdn (e t) want (WO T (⟨d, none, op⟩ :: l) e h K) (WO T l (put e d undef) h K) := by
  cases ht : e t with
  | bool b => rw [WO_gd ht]; rfl
  | tuple a =>
    rw [WO_cons]
    simp only [runO, gd, ht]
    exact ⟨fun ⟨n, e', h', h1, h2⟩ => by cases h1; exact h2, fun hk => ⟨0, _, _, rfl, hk⟩⟩
  | _ =>
    rw [WO_cons]
    simp only [runO, gd, ht, gdn]
    exact ⟨fun ⟨n, e', h', h1, h2⟩ => (by cases h1), fun hf => hf.elim⟩
theorem WI_nil {base : Nat} : WI T base [] e h K ↔ K e h := ⟨fun ⟨n, e', h', h1, h2⟩ => by cases h1; exact h2, fun hk => ⟨0, _, _, rfl, hk⟩⟩
theorem WI_cons {base : Nat} {o : It} {l : List It} : WI T base (o :: l) e h K ↔ ∃ n e' h', runIt (callN T n) base e h o = some (e', h') ∧ WI T base l e' h' K := by
  constructor
  · rintro ⟨n, e', h', h1, h2⟩
    obtain ⟨q, h3, h4⟩ := Option.bind_eq_some_iff.1 h1
    exact ⟨n, _, _, h3, n, e', h', h4, h2⟩
  · rintro ⟨n, e1, h1, h3, m, e', h', h4, h5⟩
    exact ⟨max n m, e', h', Option.bind_eq_some_iff.2 ⟨(e1, h1), runIt_mono (callN_mono (Nat.le_max_left _ _)) h3, runIts_mono (callN_mono (Nat.le_max_right _ _)) h4⟩, h5⟩
theorem WI_op {base i : Nat} {o : O} {l : List It} : WI T base (.op i o :: l) e h K ↔ WO T [o] e h fun e h => WI T base l e h K := by
  rw [WI_cons, WO_cons]
  simp only [WO_nil, runIt]
theorem WI_al {base i j : Nat} {d : Option Nat} {op : Op} {l : List It} : WI T base (.al i j ⟨d, none, op⟩ :: l) e h K ↔ ∃ v ob, opA (base + j) e op = some (v, ob) ∧ WI T base l (put e d v) (h.put (base + j) (some ob)) K := by
  rw [WI_cons]
  simp only [runIt, gd]
  constructor
  · rintro ⟨n, e', h', h1, h2⟩
    obtain ⟨r, h3, h4⟩ := Option.map_eq_some_iff.1 h1
    cases h4
    exact ⟨_, _, h3, h2⟩
  · rintro ⟨v, ob, h1, h2⟩
    exact ⟨0, _, _, by rw [h1]; rfl, h2⟩
theorem WI_re {base i t : Nat} {op : Op} {l : List It} : WI T base (.re i ⟨some t, none, op⟩ :: l) e h K ↔ ∃ v h', opV e h op = some (v, h') ∧ veq v (e t) = true ∧ WI T base l e h K := by
  rw [WI_cons]
  simp only [runIt, gd]
  constructor
  · rintro ⟨n, e', h', h1, h2⟩
    cases hv : opV e h op with
    | none => rw [hv] at h1; cases h1
    | some r =>
      rw [hv] at h1
      simp only [] at h1
      split at h1
      · rename_i hq; cases h1; exact ⟨_, _, rfl, hq, h2⟩
      · cases h1
  · rintro ⟨v, h', h1, h2, h3⟩
    exact ⟨0, _, _, by simp only [h1, h2, if_true], h3⟩
@[simp] theorem adv_zero (h : Hp) : h.adv 0 = h := rfl
@[simp] theorem adv_get (h : Hp) (k b : Nat) : (h.adv k).get b = h.get b := rfl
@[simp] theorem adv_next (h : Hp) (k : Nat) : (h.adv k).next = h.next + k := rfl
@[simp] theorem put_next (h : Hp) (b : Nat) (o : Option Ob) : (h.put b o).next = h.next := rfl
@[simp] theorem push_next (h : Hp) (o : Ob) : (h.push o).next = h.next + 1 := rfl
theorem nX : (∀ (h : Hp) (o : Ob), (h.push o).next = h.next + 1) ∧ (∀ (h : Hp) (b : Nat) (o : Option Ob), (h.put b o).next = h.next) ∧ (∀ (h : Hp) (n : Nat), (h.adv n).next = h.next + n) ∧ (∀ (α : Type) (x : α) (l : List α), (x :: l).length = l.length + 1) ∧ (∀ (α : Type), ([] : List α).length = 0) ∧ (∀ (α β : Type) (l : List α) (f : α → β), (l.map f).length = l.length) ∧ (∀ (α : Type) (l : List α) (i : Nat) (x : α), (l.set i x).length = l.length) :=
  ⟨push_next, put_next, adv_next, fun _ _ _ => rfl, fun _ => rfl, fun _ _ _ _ => List.length_map _, fun _ _ _ _ => List.length_set⟩
theorem get_put_self {b : Nat} {o : Option Ob} (hb : b < h.next) : (h.put b o).get b = o := by simp [Hp.put, hb]
theorem get_put_ne {b c : Nat} {o : Option Ob} (hb : c ≠ b) : (h.put b o).get c = h.get c := by simp [Hp.put, hb]
@[simp] theorem put_put {b : Nat} {o p : Option Ob} : (h.put b o).put b p = h.put b p := Hp.ext' rfl fun k => by
  simp only [Hp.put]
  split <;> rfl
theorem get_push_self {o : Ob} : (h.push o).get h.next = some o := by simp [Hp.push]
theorem get_push_ne {b : Nat} {o : Ob} (hb : b ≠ h.next) : (h.push o).get b = h.get b := by simp [Hp.push, hb]
theorem lt_of_get {b : Nat} {o : Ob} (hg : h.get b = some o) : b < h.next := by
  rcases Nat.lt_or_ge b h.next with hl | hl
  · exact hl
  · rw [h.wf b hl] at hg; cases hg
@[simp] theorem at_ptr (b o : Nat) : at? (ptr b o) = some (b, o) := rfl
@[simp] theorem one_u8 (x : BitVec 8) : one (u8 x) = true := rfl
@[simp] theorem one_u16 (x : BitVec 16) : one (u16 x) = true := rfl
@[simp] theorem one_u32 (x : BitVec 32) : one (u32 x) = true := rfl
@[simp] theorem one_u64 (x : BitVec 64) : one (u64 x) = true := rfl
@[simp] theorem one_int (k : IntKind) (n : Int) : one (.int k n) = true := rfl
@[simp] theorem one_bool (b : Bool) : one (.bool b) = true := rfl
@[simp] theorem one_ptr (b o : Nat) : one (ptr b o) = true := rfl
theorem wr_ok {b o : Nat} {c vs : List Value} (hg : h.get b = some (.cells false c)) (hle : o + vs.length ≤ c.length) (h1 : vs.all one = true) : h.wr b o vs = some (h.put b (some (.cells false (over c o vs)))) := by
  simp only [Hp.wr, hg, hle, h1, true_and, if_true]
end
/-- Go on with what an operation tells. -/
def runK (o : Option (Value × Hp)) (k : Value → Hp → Prop) : Prop :=
  match o with
  | some r => k r.1 r.2
  | none => False
@[simp] theorem runK_some {v : Value} {h : Hp} {k : Value → Hp → Prop} : runK (some (v, h)) k ↔ k v h := Iff.rfl
@[congr] theorem runK_congr {o o' : Option (Value × Hp)} {k : Value → Hp → Prop} (h : o = o') : runK o k = runK o' k := by rw [h]
@[congr] theorem brn_congr {v v' : Value} {p q : Prop} (h : v = v') : brn v p q = brn v' p q := by rw [h]
@[congr] theorem gdn_congr {v v' : Value} {w : Bool} {p q : Prop} (h : v = v') : gdn v w p q = gdn v' w p q := by rw [h]
@[congr] theorem WC_congr {T : Nat → Option Fn} {f : Nat} {args args' : List Value} {h : Hp} {q : Value → Hp → Prop} (ha : args = args') : WC T f args h q = WC T f args' h q := by rw [ha]
@[congr] theorem W_congr {T : Nat → Option Fn} {c : C} {e : Env} {h : Hp} {Q : Ex → Env → Hp → Prop} : W T c e h Q = W T c e h Q := rfl
@[congr] theorem WO_congr {T : Nat → Option Fn} {l : List O} {e : Env} {h : Hp} {K : Env → Hp → Prop} : WO T l e h K = WO T l e h K := rfl
@[congr] theorem WI_congr {T : Nat → Option Fn} {base : Nat} {l : List It} {e : Env} {h : Hp} {K : Env → Hp → Prop} : WI T base l e h K = WI T base l e h K := rfl
section
variable {T : Nat → Option Fn} {e : Env} {h : Hp} {K : Env → Hp → Prop} {dd : Option Nat} {ll : List O}
end
end Go.Dx

/- From a run of the interpreter to the model's call: a law that answers true. -/
set_option linter.unusedSimpArgs false
set_option linter.unusedVariables false
namespace Go.Dx
open Go Go.RowKit

theorem calls_true {P : Program} {T : Nat → Option Fn} (hT : TabOK P (compAny P) T) {f : Nat} {args args' : List Value} {h : Hp} {φ : Phi} {w : World} (hw : WC T f args h fun v _ => v = .bool true)
    (hl : LR φ args args') (hr : HR φ h w) (hro : ∀ b, h.wrt b = false) : Calls P f args'.toArray w fun e w' => e = .returned (.bool true) ∧ Below w.heap.size w w' := by
  obtain ⟨n, v, h', h1, rfl⟩ := hw
  refine ((calls_ok hT n f args h _ h' h1).2.2 φ w args' hl hr).mono fun e w' ⟨φ', u, he, hx, hv⟩ => ?_
  have : u = .bool true := hv.bool_inv
  subst this
  refine ⟨he, hx.os, hx.tape, hx.output, hx.size, fun k hk => hx.frame k hk fun b m hb => ?_⟩
  rw [hro b] at hb
  cases hb

end Go.Dx

/- Runs of code with what is left to do as data: simp has nothing to do but the next step. -/
set_option linter.unusedSimpArgs false
set_option linter.unusedVariables false
namespace Go.Dx
open Go

/-- What is left. -/
inductive Fr where
  | seq (b : C)
  | block (id : Nat)
  | loop (a : C)

section
variable (T : Nat → Option Fn)
/-- Behind a piece of code. -/
def GR (Q : Ex → Env → Hp → Prop) : List Fr → Ex → Env → Hp → Prop
  | [], x, e, h => Q x e h
  | .seq b :: k, .n, e, h => W T b e h (GR Q k)
  | .seq _ :: k, x, e, h => GR Q k x e h
  | .block id :: k, .x j, e, h => if j = id then GR Q k .n e h else GR Q k (.x j) e h
  | .block _ :: k, x, e, h => GR Q k x e h
  | .loop a :: k, .n, e, h => W T (.loop a) e h (GR Q k)
  | .loop _ :: k, x, e, h => GR Q k x e h
def G (Q : Ex → Env → Hp → Prop) (c : C) (k : List Fr) (e : Env) (h : Hp) : Prop := W T c e h (GR T Q k)
def GO (Q : Ex → Env → Hp → Prop) (l : List O) (k : List Fr) (e : Env) (h : Hp) : Prop := WO T l e h (GR T Q k .n)
def GI (Q : Ex → Env → Hp → Prop) (base : Nat) (l : List It) (k : List Fr) (e : Env) (h : Hp) : Prop := WI T base l e h (GR T Q k .n)
/-- Behind an operation: its value and memory. -/
def GV (Q : Ex → Env → Hp → Prop) (o : Option (Value × Hp)) (d : Option Nat) (l : List O) (k : List Fr) (e : Env) : Prop :=
  match o with
  | some r => GO T Q l k (put e d r.1) r.2
  | none => False
def GVI (Q : Ex → Env → Hp → Prop) (o : Option (Value × Hp)) (d : Option Nat) (base : Nat) (l : List It) (k : List Fr) (e : Env) : Prop :=
  match o with
  | some r => GI T Q base l k (put e d r.1) r.2
  | none => False
def GB (Q : Ex → Env → Hp → Prop) (v : Value) (a b : C) (k : List Fr) (e : Env) (h : Hp) : Prop :=
  match v with
  | .bool t => if t = true then G T Q a k e h else G T Q b k e h
  | _ => False
def GG (Q : Ex → Env → Hp → Prop) (v : Value) (w : Bool) (d : Option Nat) (op : Op) (l : List O) (k : List Fr) (e : Env) (h : Hp) : Prop :=
  match v with
  | .bool t => if t = w then GO T Q (⟨d, none, op⟩ :: l) k e h else GO T Q l k (put e d undef) h
  | .tuple _ => GO T Q l k (put e d undef) h
  | _ => False
def GC (Q : Ex → Env → Hp → Prop) (f : Nat) (args : List Value) (d : Option Nat) (l : List O) (k : List Fr) (e : Env) (h : Hp) : Prop :=
  WC T f args h fun v h => GO T Q l k (put e d v) h
end

section
variable {T : Nat → Option Fn} {Q : Ex → Env → Hp → Prop} {k : List Fr} {e : Env} {h : Hp} {d : Option Nat} {l : List O}

theorem Ex.go_eq {b : C} : Ex.go (GR T Q k) (fun e h => W T b e h (GR T Q k)) = GR T Q (.seq b :: k) := by
  funext x e h; cases x <;> rfl
theorem Ex.out_eq {id : Nat} : Ex.out id (GR T Q k) = GR T Q (.block id :: k) := by
  funext x e h; cases x <;> rfl
@[simp] theorem G_seq {a b : C} : G T Q (.seq a b) k e h ↔ G T Q a (.seq b :: k) e h := by
  unfold G; rw [W_seq, Ex.go_eq]
@[simp] theorem G_block {id : Nat} {a : C} : G T Q (.block id a) k e h ↔ G T Q a (.block id :: k) e h := by
  unfold G; rw [W_block, Ex.out_eq]
@[simp] theorem G_skip : G T Q .skip k e h ↔ GR T Q k .n e h := W_skip
@[simp] theorem G_ret : G T Q .ret k e h ↔ GR T Q k .r e h := W_ret
@[simp] theorem G_exit {id : Nat} : G T Q (.exit id) k e h ↔ GR T Q k (.x id) e h := W_exit
@[simp] theorem G_ops : G T Q (.ops l) k e h ↔ GO T Q l k e h := W_ops
theorem G_any {m : Nat} {l : List It} : G T Q (.any m l) k e h ↔ GI T Q h.next l k e (h.adv m) := W_any
@[simp] theorem G_cond {c : X} {a b : C} : G T Q (.cond c a b) k e h ↔ GB T Q (c.ev e) a b k e h := by
  unfold G; rw [W_brn]; cases c.ev e <;> rfl
@[simp] theorem GB_bool {t : Bool} {a b : C} : GB T Q (.bool t) a b k e h ↔ if t = true then G T Q a k e h else G T Q b k e h := Iff.rfl
@[simp] theorem GR_nil {x : Ex} : GR T Q [] x e h ↔ Q x e h := by cases x <;> exact Iff.rfl
@[simp] theorem GR_seq_n {b : C} : GR T Q (.seq b :: k) .n e h ↔ G T Q b k e h := Iff.rfl
@[simp] theorem GR_seq_x {b : C} {j : Nat} : GR T Q (.seq b :: k) (.x j) e h ↔ GR T Q k (.x j) e h := Iff.rfl
@[simp] theorem GR_seq_r {b : C} : GR T Q (.seq b :: k) .r e h ↔ GR T Q k .r e h := Iff.rfl
@[simp] theorem GR_block_n {id : Nat} : GR T Q (.block id :: k) .n e h ↔ GR T Q k .n e h := Iff.rfl
@[simp] theorem GR_block_x {id j : Nat} : GR T Q (.block id :: k) (.x j) e h ↔ if j = id then GR T Q k .n e h else GR T Q k (.x j) e h := Iff.rfl
@[simp] theorem GR_block_r {id : Nat} : GR T Q (.block id :: k) .r e h ↔ GR T Q k .r e h := Iff.rfl
@[simp] theorem GO_nil : GO T Q [] k e h ↔ GR T Q k .n e h := WO_nil
theorem GO_op {op : Op} (hop : isC op = false) : GO T Q (⟨d, none, op⟩ :: l) k e h ↔ GV T Q (opV e h op) d l k e := by
  unfold GO GV
  rw [WO_op hop]
  cases opV e h op with
  | none => exact ⟨fun ⟨_, _, hh, _⟩ => (by cases hh), fun hf => hf.elim⟩
  | some r => exact ⟨fun ⟨_, _, hh, hk⟩ => by cases hh; exact hk, fun hk => ⟨r.1, r.2, rfl, hk⟩⟩
@[simp] theorem GO_gd {t : Nat} {w : Bool} {op : Op} : GO T Q (⟨d, some (t, w), op⟩ :: l) k e h ↔ GG T Q (e t) w d op l k e h := by
  unfold GO; rw [WO_gdn]; cases e t <;> rfl
@[simp] theorem GG_bool {t w : Bool} {op : Op} : GG T Q (.bool t) w d op l k e h ↔ if t = w then GO T Q (⟨d, none, op⟩ :: l) k e h else GO T Q l k (put e d undef) h := Iff.rfl
@[simp] theorem GO_call {f : Nat} {xs : List X} : GO T Q (⟨d, none, .call f xs⟩ :: l) k e h ↔ GC T Q f (evs e xs) d l k e h := WO_call
@[simp] theorem GV_some {v : Value} : GV T Q (some (v, h)) d l k e ↔ GO T Q l k (put e d v) h := Iff.rfl
theorem GC_of {f : Nat} {args : List Value} {v : Value} {h' : Hp} (H : ∀ q : Value → Hp → Prop, WC T f args h q ↔ q v h') : GC T Q f args d l k e h ↔ GO T Q l k (put e d v) h' := H _
@[simp] theorem GI_nil {base : Nat} : GI T Q base [] k e h ↔ GR T Q k .n e h := WI_nil
theorem GI_op {base i : Nat} {op : Op} {l : List It} (hop : isC op = false) : GI T Q base (.op i ⟨d, none, op⟩ :: l) k e h ↔ GVI T Q (opV e h op) d base l k e := by
  unfold GI GVI
  rw [WI_op, WO_op hop]
  cases opV e h op with
  | none => exact ⟨fun ⟨_, _, hh, _⟩ => (by cases hh), fun hf => hf.elim⟩
  | some r => exact ⟨fun ⟨_, _, hh, hk⟩ => by cases hh; exact WO_nil.1 hk, fun hk => ⟨r.1, r.2, rfl, WO_nil.2 hk⟩⟩
@[simp] theorem GVI_some {v : Value} {base : Nat} {l : List It} : GVI T Q (some (v, h)) d base l k e ↔ GI T Q base l k (put e d v) h := Iff.rfl
/-- How a function ends. -/
def fin (res : List RV) (drop : Option (List Nat)) (n : Nat) (q : Value → Hp → Prop) : Ex → Env → Hp → Prop
  | .x _, _, _ => False
  | _, e, h' => ∃ v, resV e h' res = some v ∧ q v (dropB n e h' drop)
theorem WC_G {f : Nat} {F : F} {args : List Value} {q : Value → Hp → Prop} (hf : T f = some (.code F)) : WC T f args h q ↔ G T (fin F.res F.drop h.next q) F.body [] (envOf args) h := by
  rw [WC_code hf]
  unfold G
  constructor
  · exact fun hw => hw.mono fun x e h hq => by cases x <;> exact hq
  · exact fun hw => hw.mono fun x e h hq => by cases x <;> exact hq
end
section
variable {T : Nat → Option Fn} {Q : Ex → Env → Hp → Prop} {kk : List Fr} {e : Env} {h : Hp} {dd : Option Nat} {ll : List O} {base ii : Nat} {li : List It}
@[simp] theorem GO_mov {x : X} : GO T Q (⟨dd, none, .mov x⟩ :: ll) kk e h ↔ GV T Q (opV e h (.mov x)) dd ll kk e := GO_op rfl
@[simp] theorem GI_mov {x : X} : GI T Q base (.op ii ⟨dd, none, .mov x⟩ :: li) kk e h ↔ GVI T Q (opV e h (.mov x)) dd base li kk e := GI_op rfl
@[simp] theorem GO_pick {c a b : X} : GO T Q (⟨dd, none, .pick c a b⟩ :: ll) kk e h ↔ GV T Q (opV e h (.pick c a b)) dd ll kk e := GO_op rfl
@[simp] theorem GI_pick {c a b : X} : GI T Q base (.op ii ⟨dd, none, .pick c a b⟩ :: li) kk e h ↔ GVI T Q (opV e h (.pick c a b)) dd base li kk e := GI_op rfl
@[simp] theorem GO_new {zero : List Value} : GO T Q (⟨dd, none, .new zero⟩ :: ll) kk e h ↔ GV T Q (opV e h (.new zero)) dd ll kk e := GO_op rfl
@[simp] theorem GI_new {zero : List Value} : GI T Q base (.op ii ⟨dd, none, .new zero⟩ :: li) kk e h ↔ GVI T Q (opV e h (.new zero)) dd base li kk e := GI_op rfl
@[simp] theorem GO_box {x : X} : GO T Q (⟨dd, none, .box x⟩ :: ll) kk e h ↔ GV T Q (opV e h (.box x)) dd ll kk e := GO_op rfl
@[simp] theorem GI_box {x : X} : GI T Q base (.op ii ⟨dd, none, .box x⟩ :: li) kk e h ↔ GVI T Q (opV e h (.box x)) dd base li kk e := GI_op rfl
@[simp] theorem GO_build {zero : List Value} {parts : List (Nat × Nat × X)} : GO T Q (⟨dd, none, .build zero parts⟩ :: ll) kk e h ↔ GV T Q (opV e h (.build zero parts)) dd ll kk e := GO_op rfl
@[simp] theorem GI_build {zero : List Value} {parts : List (Nat × Nat × X)} : GI T Q base (.op ii ⟨dd, none, .build zero parts⟩ :: li) kk e h ↔ GVI T Q (opV e h (.build zero parts)) dd base li kk e := GI_op rfl
@[simp] theorem GO_bsl {len : Nat} {zero : List Value} {parts : List (Nat × Nat × X)} : GO T Q (⟨dd, none, .bsl len zero parts⟩ :: ll) kk e h ↔ GV T Q (opV e h (.bsl len zero parts)) dd ll kk e := GO_op rfl
@[simp] theorem GI_bsl {len : Nat} {zero : List Value} {parts : List (Nat × Nat × X)} : GI T Q base (.op ii ⟨dd, none, .bsl len zero parts⟩ :: li) kk e h ↔ GVI T Q (opV e h (.bsl len zero parts)) dd base li kk e := GI_op rfl
@[simp] theorem GO_ld {x : X} : GO T Q (⟨dd, none, .ld x⟩ :: ll) kk e h ↔ GV T Q (opV e h (.ld x)) dd ll kk e := GO_op rfl
@[simp] theorem GI_ld {x : X} : GI T Q base (.op ii ⟨dd, none, .ld x⟩ :: li) kk e h ↔ GVI T Q (opV e h (.ld x)) dd base li kk e := GI_op rfl
@[simp] theorem GO_ldn {n : Nat} {x : X} : GO T Q (⟨dd, none, .ldn n x⟩ :: ll) kk e h ↔ GV T Q (opV e h (.ldn n x)) dd ll kk e := GO_op rfl
@[simp] theorem GI_ldn {n : Nat} {x : X} : GI T Q base (.op ii ⟨dd, none, .ldn n x⟩ :: li) kk e h ↔ GVI T Q (opV e h (.ldn n x)) dd base li kk e := GI_op rfl
@[simp] theorem GO_st {a x : X} : GO T Q (⟨dd, none, .st a x⟩ :: ll) kk e h ↔ GV T Q (opV e h (.st a x)) dd ll kk e := GO_op rfl
@[simp] theorem GI_st {a x : X} : GI T Q base (.op ii ⟨dd, none, .st a x⟩ :: li) kk e h ↔ GVI T Q (opV e h (.st a x)) dd base li kk e := GI_op rfl
@[simp] theorem GO_stn {n : Nat} {a x : X} : GO T Q (⟨dd, none, .stn n a x⟩ :: ll) kk e h ↔ GV T Q (opV e h (.stn n a x)) dd ll kk e := GO_op rfl
@[simp] theorem GI_stn {n : Nat} {a x : X} : GI T Q base (.op ii ⟨dd, none, .stn n a x⟩ :: li) kk e h ↔ GVI T Q (opV e h (.stn n a x)) dd base li kk e := GI_op rfl
@[simp] theorem GO_nilc {x : X} : GO T Q (⟨dd, none, .nilc x⟩ :: ll) kk e h ↔ GV T Q (opV e h (.nilc x)) dd ll kk e := GO_op rfl
@[simp] theorem GI_nilc {x : X} : GI T Q base (.op ii ⟨dd, none, .nilc x⟩ :: li) kk e h ↔ GVI T Q (opV e h (.nilc x)) dd base li kk e := GI_op rfl
@[simp] theorem GO_bin {op : BinOp} {x y : X} : GO T Q (⟨dd, none, .bin op x y⟩ :: ll) kk e h ↔ GV T Q (opV e h (.bin op x y)) dd ll kk e := GO_op rfl
@[simp] theorem GI_bin {op : BinOp} {x y : X} : GI T Q base (.op ii ⟨dd, none, .bin op x y⟩ :: li) kk e h ↔ GVI T Q (opV e h (.bin op x y)) dd base li kk e := GI_op rfl
@[simp] theorem GO_eqb {neg : Bool} {x y : X} : GO T Q (⟨dd, none, .eqb neg x y⟩ :: ll) kk e h ↔ GV T Q (opV e h (.eqb neg x y)) dd ll kk e := GO_op rfl
@[simp] theorem GI_eqb {neg : Bool} {x y : X} : GI T Q base (.op ii ⟨dd, none, .eqb neg x y⟩ :: li) kk e h ↔ GVI T Q (opV e h (.eqb neg x y)) dd base li kk e := GI_op rfl
@[simp] theorem GO_eqn {kd : Nat} {neg : Bool} {x : X} : GO T Q (⟨dd, none, .eqn kd neg x⟩ :: ll) kk e h ↔ GV T Q (opV e h (.eqn kd neg x)) dd ll kk e := GO_op rfl
@[simp] theorem GI_eqn {kd : Nat} {neg : Bool} {x : X} : GI T Q base (.op ii ⟨dd, none, .eqn kd neg x⟩ :: li) kk e h ↔ GVI T Q (opV e h (.eqn kd neg x)) dd base li kk e := GI_op rfl
@[simp] theorem GO_eqt {neg : Bool} {ty : Ty} {x y : X} : GO T Q (⟨dd, none, .eqt neg ty x y⟩ :: ll) kk e h ↔ GV T Q (opV e h (.eqt neg ty x y)) dd ll kk e := GO_op rfl
@[simp] theorem GI_eqt {neg : Bool} {ty : Ty} {x y : X} : GI T Q base (.op ii ⟨dd, none, .eqt neg ty x y⟩ :: li) kk e h ↔ GVI T Q (opV e h (.eqt neg ty x y)) dd base li kk e := GI_op rfl
@[simp] theorem GO_un {op : UnOp} {x : X} : GO T Q (⟨dd, none, .un op x⟩ :: ll) kk e h ↔ GV T Q (opV e h (.un op x)) dd ll kk e := GO_op rfl
@[simp] theorem GI_un {op : UnOp} {x : X} : GI T Q base (.op ii ⟨dd, none, .un op x⟩ :: li) kk e h ↔ GVI T Q (opV e h (.un op x)) dd base li kk e := GI_op rfl
@[simp] theorem GO_conv {k : IntKind} {x : X} : GO T Q (⟨dd, none, .conv k x⟩ :: ll) kk e h ↔ GV T Q (opV e h (.conv k x)) dd ll kk e := GO_op rfl
@[simp] theorem GI_conv {k : IntKind} {x : X} : GI T Q base (.op ii ⟨dd, none, .conv k x⟩ :: li) kk e h ↔ GVI T Q (opV e h (.conv k x)) dd base li kk e := GI_op rfl
@[simp] theorem GO_b2s {x : X} : GO T Q (⟨dd, none, .b2s x⟩ :: ll) kk e h ↔ GV T Q (opV e h (.b2s x)) dd ll kk e := GO_op rfl
@[simp] theorem GI_b2s {x : X} : GI T Q base (.op ii ⟨dd, none, .b2s x⟩ :: li) kk e h ↔ GVI T Q (opV e h (.b2s x)) dd base li kk e := GI_op rfl
@[simp] theorem GO_s2b {x : X} : GO T Q (⟨dd, none, .s2b x⟩ :: ll) kk e h ↔ GV T Q (opV e h (.s2b x)) dd ll kk e := GO_op rfl
@[simp] theorem GI_s2b {x : X} : GI T Q base (.op ii ⟨dd, none, .s2b x⟩ :: li) kk e h ↔ GVI T Q (opV e h (.s2b x)) dd base li kk e := GI_op rfl
@[simp] theorem GO_ms {x : X} : GO T Q (⟨dd, none, .ms x⟩ :: ll) kk e h ↔ GV T Q (opV e h (.ms x)) dd ll kk e := GO_op rfl
@[simp] theorem GI_ms {x : X} : GI T Q base (.op ii ⟨dd, none, .ms x⟩ :: li) kk e h ↔ GVI T Q (opV e h (.ms x)) dd base li kk e := GI_op rfl
@[simp] theorem GO_mkf {id : Nat} {caps : List X} : GO T Q (⟨dd, none, .mkf id caps⟩ :: ll) kk e h ↔ GV T Q (opV e h (.mkf id caps)) dd ll kk e := GO_op rfl
@[simp] theorem GI_mkf {id : Nat} {caps : List X} : GI T Q base (.op ii ⟨dd, none, .mkf id caps⟩ :: li) kk e h ↔ GVI T Q (opV e h (.mkf id caps)) dd base li kk e := GI_op rfl
@[simp] theorem GO_mkm : GO T Q (⟨dd, none, .mkm ⟩ :: ll) kk e h ↔ GV T Q (opV e h (.mkm )) dd ll kk e := GO_op rfl
@[simp] theorem GI_mkm : GI T Q base (.op ii ⟨dd, none, .mkm ⟩ :: li) kk e h ↔ GVI T Q (opV e h (.mkm )) dd base li kk e := GI_op rfl
@[simp] theorem GO_mkc {bytes : Nat} {x : X} : GO T Q (⟨dd, none, .mkc bytes x⟩ :: ll) kk e h ↔ GV T Q (opV e h (.mkc bytes x)) dd ll kk e := GO_op rfl
@[simp] theorem GI_mkc {bytes : Nat} {x : X} : GI T Q base (.op ii ⟨dd, none, .mkc bytes x⟩ :: li) kk e h ↔ GVI T Q (opV e h (.mkc bytes x)) dd base li kk e := GI_op rfl
@[simp] theorem GO_mks {zero : List Value} {bytes : Nat} {l c : X} : GO T Q (⟨dd, none, .mks zero bytes l c⟩ :: ll) kk e h ↔ GV T Q (opV e h (.mks zero bytes l c)) dd ll kk e := GO_op rfl
@[simp] theorem GI_mks {zero : List Value} {bytes : Nat} {l c : X} : GI T Q base (.op ii ⟨dd, none, .mks zero bytes l c⟩ :: li) kk e h ↔ GVI T Q (opV e h (.mks zero bytes l c)) dd base li kk e := GI_op rfl
@[simp] theorem GO_sls {x : X} {lo hi : Option X} : GO T Q (⟨dd, none, .sls x lo hi⟩ :: ll) kk e h ↔ GV T Q (opV e h (.sls x lo hi)) dd ll kk e := GO_op rfl
@[simp] theorem GI_sls {x : X} {lo hi : Option X} : GI T Q base (.op ii ⟨dd, none, .sls x lo hi⟩ :: li) kk e h ↔ GVI T Q (opV e h (.sls x lo hi)) dd base li kk e := GI_op rfl
@[simp] theorem GO_sl {sz : Nat} {x : X} {lo hi mx : Option X} : GO T Q (⟨dd, none, .sl sz x lo hi mx⟩ :: ll) kk e h ↔ GV T Q (opV e h (.sl sz x lo hi mx)) dd ll kk e := GO_op rfl
@[simp] theorem GI_sl {sz : Nat} {x : X} {lo hi mx : Option X} : GI T Q base (.op ii ⟨dd, none, .sl sz x lo hi mx⟩ :: li) kk e h ↔ GVI T Q (opV e h (.sl sz x lo hi mx)) dd base li kk e := GI_op rfl
@[simp] theorem GO_sla {n sz : Nat} {x : X} {lo hi mx : Option X} : GO T Q (⟨dd, none, .sla n sz x lo hi mx⟩ :: ll) kk e h ↔ GV T Q (opV e h (.sla n sz x lo hi mx)) dd ll kk e := GO_op rfl
@[simp] theorem GI_sla {n sz : Nat} {x : X} {lo hi mx : Option X} : GI T Q base (.op ii ⟨dd, none, .sla n sz x lo hi mx⟩ :: li) kk e h ↔ GVI T Q (opV e h (.sla n sz x lo hi mx)) dd base li kk e := GI_op rfl
@[simp] theorem GO_fa {off : Nat} {x : X} : GO T Q (⟨dd, none, .fa off x⟩ :: ll) kk e h ↔ GV T Q (opV e h (.fa off x)) dd ll kk e := GO_op rfl
@[simp] theorem GI_fa {off : Nat} {x : X} : GI T Q base (.op ii ⟨dd, none, .fa off x⟩ :: li) kk e h ↔ GVI T Q (opV e h (.fa off x)) dd base li kk e := GI_op rfl
@[simp] theorem GO_fld {off : Nat} {x : X} : GO T Q (⟨dd, none, .fld off x⟩ :: ll) kk e h ↔ GV T Q (opV e h (.fld off x)) dd ll kk e := GO_op rfl
@[simp] theorem GI_fld {off : Nat} {x : X} : GI T Q base (.op ii ⟨dd, none, .fld off x⟩ :: li) kk e h ↔ GVI T Q (opV e h (.fld off x)) dd base li kk e := GI_op rfl
@[simp] theorem GO_fldn {off n : Nat} {x : X} : GO T Q (⟨dd, none, .fldn off n x⟩ :: ll) kk e h ↔ GV T Q (opV e h (.fldn off n x)) dd ll kk e := GO_op rfl
@[simp] theorem GI_fldn {off n : Nat} {x : X} : GI T Q base (.op ii ⟨dd, none, .fldn off n x⟩ :: li) kk e h ↔ GVI T Q (opV e h (.fldn off n x)) dd base li kk e := GI_op rfl
@[simp] theorem GO_ia {sz : Nat} {x i : X} : GO T Q (⟨dd, none, .ia sz x i⟩ :: ll) kk e h ↔ GV T Q (opV e h (.ia sz x i)) dd ll kk e := GO_op rfl
@[simp] theorem GI_ia {sz : Nat} {x i : X} : GI T Q base (.op ii ⟨dd, none, .ia sz x i⟩ :: li) kk e h ↔ GVI T Q (opV e h (.ia sz x i)) dd base li kk e := GI_op rfl
@[simp] theorem GO_iaa {n sz : Nat} {x i : X} : GO T Q (⟨dd, none, .iaa n sz x i⟩ :: ll) kk e h ↔ GV T Q (opV e h (.iaa n sz x i)) dd ll kk e := GO_op rfl
@[simp] theorem GI_iaa {n sz : Nat} {x i : X} : GI T Q base (.op ii ⟨dd, none, .iaa n sz x i⟩ :: li) kk e h ↔ GVI T Q (opV e h (.iaa n sz x i)) dd base li kk e := GI_op rfl
@[simp] theorem GO_ixs {x i : X} : GO T Q (⟨dd, none, .ixs x i⟩ :: ll) kk e h ↔ GV T Q (opV e h (.ixs x i)) dd ll kk e := GO_op rfl
@[simp] theorem GI_ixs {x i : X} : GI T Q base (.op ii ⟨dd, none, .ixs x i⟩ :: li) kk e h ↔ GVI T Q (opV e h (.ixs x i)) dd base li kk e := GI_op rfl
@[simp] theorem GO_ixa {n : Nat} {x i : X} : GO T Q (⟨dd, none, .ixa n x i⟩ :: ll) kk e h ↔ GV T Q (opV e h (.ixa n x i)) dd ll kk e := GO_op rfl
@[simp] theorem GI_ixa {n : Nat} {x i : X} : GI T Q base (.op ii ⟨dd, none, .ixa n x i⟩ :: li) kk e h ↔ GVI T Q (opV e h (.ixa n x i)) dd base li kk e := GI_op rfl
@[simp] theorem GO_ixan {n sz : Nat} {x i : X} : GO T Q (⟨dd, none, .ixan n sz x i⟩ :: ll) kk e h ↔ GV T Q (opV e h (.ixan n sz x i)) dd ll kk e := GO_op rfl
@[simp] theorem GI_ixan {n sz : Nat} {x i : X} : GI T Q base (.op ii ⟨dd, none, .ixan n sz x i⟩ :: li) kk e h ↔ GVI T Q (opV e h (.ixan n sz x i)) dd base li kk e := GI_op rfl
@[simp] theorem GO_look {ty : Ty} {zero : Value} {ok : Bool} {m k : X} : GO T Q (⟨dd, none, .look ty zero ok m k⟩ :: ll) kk e h ↔ GV T Q (opV e h (.look ty zero ok m k)) dd ll kk e := GO_op rfl
@[simp] theorem GI_look {ty : Ty} {zero : Value} {ok : Bool} {m k : X} : GI T Q base (.op ii ⟨dd, none, .look ty zero ok m k⟩ :: li) kk e h ↔ GVI T Q (opV e h (.look ty zero ok m k)) dd base li kk e := GI_op rfl
@[simp] theorem GO_mset {ty : Ty} {m k v : X} : GO T Q (⟨dd, none, .mset ty m k v⟩ :: ll) kk e h ↔ GV T Q (opV e h (.mset ty m k v)) dd ll kk e := GO_op rfl
@[simp] theorem GI_mset {ty : Ty} {m k v : X} : GI T Q base (.op ii ⟨dd, none, .mset ty m k v⟩ :: li) kk e h ↔ GVI T Q (opV e h (.mset ty m k v)) dd base li kk e := GI_op rfl
@[simp] theorem GO_ext {x : X} {i : Nat} : GO T Q (⟨dd, none, .ext x i⟩ :: ll) kk e h ↔ GV T Q (opV e h (.ext x i)) dd ll kk e := GO_op rfl
@[simp] theorem GI_ext {x : X} {i : Nat} : GI T Q base (.op ii ⟨dd, none, .ext x i⟩ :: li) kk e h ↔ GVI T Q (opV e h (.ext x i)) dd base li kk e := GI_op rfl
@[simp] theorem GO_len {kd : Nat} {x : X} : GO T Q (⟨dd, none, .len kd x⟩ :: ll) kk e h ↔ GV T Q (opV e h (.len kd x)) dd ll kk e := GO_op rfl
@[simp] theorem GI_len {kd : Nat} {x : X} : GI T Q base (.op ii ⟨dd, none, .len kd x⟩ :: li) kk e h ↔ GVI T Q (opV e h (.len kd x)) dd base li kk e := GI_op rfl
@[simp] theorem GO_lenk {n : Nat} : GO T Q (⟨dd, none, .lenk n⟩ :: ll) kk e h ↔ GV T Q (opV e h (.lenk n)) dd ll kk e := GO_op rfl
@[simp] theorem GI_lenk {n : Nat} : GI T Q base (.op ii ⟨dd, none, .lenk n⟩ :: li) kk e h ↔ GVI T Q (opV e h (.lenk n)) dd base li kk e := GI_op rfl
@[simp] theorem GO_app {sz bytes : Nat} {x y : X} : GO T Q (⟨dd, none, .app sz bytes x y⟩ :: ll) kk e h ↔ GV T Q (opV e h (.app sz bytes x y)) dd ll kk e := GO_op rfl
@[simp] theorem GI_app {sz bytes : Nat} {x y : X} : GI T Q base (.op ii ⟨dd, none, .app sz bytes x y⟩ :: li) kk e h ↔ GVI T Q (opV e h (.app sz bytes x y)) dd base li kk e := GI_op rfl
@[simp] theorem GO_cpy {sz : Nat} {x y : X} : GO T Q (⟨dd, none, .cpy sz x y⟩ :: ll) kk e h ↔ GV T Q (opV e h (.cpy sz x y)) dd ll kk e := GO_op rfl
@[simp] theorem GI_cpy {sz : Nat} {x y : X} : GI T Q base (.op ii ⟨dd, none, .cpy sz x y⟩ :: li) kk e h ↔ GVI T Q (opV e h (.cpy sz x y)) dd base li kk e := GI_op rfl
@[simp] theorem GO_del {ty : Ty} {m k : X} : GO T Q (⟨dd, none, .del ty m k⟩ :: ll) kk e h ↔ GV T Q (opV e h (.del ty m k)) dd ll kk e := GO_op rfl
@[simp] theorem GI_del {ty : Ty} {m k : X} : GI T Q base (.op ii ⟨dd, none, .del ty m k⟩ :: li) kk e h ↔ GVI T Q (opV e h (.del ty m k)) dd base li kk e := GI_op rfl
@[simp] theorem GO_clr {zero : List Value} {x : X} : GO T Q (⟨dd, none, .clr zero x⟩ :: ll) kk e h ↔ GV T Q (opV e h (.clr zero x)) dd ll kk e := GO_op rfl
@[simp] theorem GI_clr {zero : List Value} {x : X} : GI T Q base (.op ii ⟨dd, none, .clr zero x⟩ :: li) kk e h ↔ GVI T Q (opV e h (.clr zero x)) dd base li kk e := GI_op rfl
@[simp] theorem GO_clrm {x : X} : GO T Q (⟨dd, none, .clrm x⟩ :: ll) kk e h ↔ GV T Q (opV e h (.clrm x)) dd ll kk e := GO_op rfl
@[simp] theorem GI_clrm {x : X} : GI T Q base (.op ii ⟨dd, none, .clrm x⟩ :: li) kk e h ↔ GVI T Q (opV e h (.clrm x)) dd base li kk e := GI_op rfl
@[simp] theorem GO_mx {x y : X} : GO T Q (⟨dd, none, .mx x y⟩ :: ll) kk e h ↔ GV T Q (opV e h (.mx x y)) dd ll kk e := GO_op rfl
@[simp] theorem GI_mx {x y : X} : GI T Q base (.op ii ⟨dd, none, .mx x y⟩ :: li) kk e h ↔ GVI T Q (opV e h (.mx x y)) dd base li kk e := GI_op rfl
@[simp] theorem GO_mn {x y : X} : GO T Q (⟨dd, none, .mn x y⟩ :: ll) kk e h ↔ GV T Q (opV e h (.mn x y)) dd ll kk e := GO_op rfl
@[simp] theorem GI_mn {x y : X} : GI T Q base (.op ii ⟨dd, none, .mn x y⟩ :: li) kk e h ↔ GVI T Q (opV e h (.mn x y)) dd base li kk e := GI_op rfl
end
/-- An end where nothing is let go. -/
@[simp] theorem fin_n {res : List RV} {n : Nat} {q : Value → Hp → Prop} {e : Env} {h : Hp} : fin res (some []) n q .n e h ↔ ∃ v, resV e h res = some v ∧ q v h := Iff.rfl
@[simp] theorem fin_r {res : List RV} {n : Nat} {q : Value → Hp → Prop} {e : Env} {h : Hp} : fin res (some []) n q .r e h ↔ ∃ v, resV e h res = some v ∧ q v h := Iff.rfl
@[simp] theorem resV_none {e : Env} {h : Hp} : resV e h [] = some (.tuple #[]) := rfl
@[simp] theorem resV_t {e : Env} {h : Hp} {n : Nat} : resV e h [.t n] = some (e n) := rfl
@[simp] theorem resV_tt {e : Env} {h : Hp} {n m : Nat} : resV e h [.t n, .t m] = some (.tuple #[e n, e m]) := rfl
@[simp] theorem evs_nil {e : Env} : evs e [] = [] := rfl
@[simp] theorem evs_cons {e : Env} {x : X} {l : List X} : evs e (x :: l) = x.ev e :: evs e l := rfl
@[simp] theorem envOf_at {l : List Value} {t : Nat} : envOf l t = (l[t]?).getD undef := rfl
end Go.Dx

/- What single operations tell, value by value: rules for simp that unfold nothing else. -/
set_option linter.unusedSimpArgs false
set_option linter.unusedVariables false
namespace Go.Dx
open Go

def nilV : Value → Option Value
  | .pointer (some a) => some (.pointer (some a))
  | .func (.func f) a b => some (.func (.func f) a b)
  | _ => none
def pickV (a b : Value) : Value → Option Value
  | .bool t => some (if t then a else b)
  | _ => none
def eqbV (neg : Bool) : Value → Value → Option Value
  | .bool a, .bool b => some (.bool ((a == b) != neg))
  | _, _ => none
def extV (i : Nat) : Value → Option Value
  | .tuple vs => vs.toList[i]?
  | _ => none
def fldV (i : Nat) : Value → Option Value
  | .agg cs => cs.toList[i]?
  | _ => none
def lenS : Value → Option Value
  | .slice _ n _ => some (goInt n)
  | _ => none
def iaV (sz : Nat) (i : Value) : Value → Option Value
  | .slice (some a) n _ => (indexA n i).map fun k => ptr a.block (a.off + k * sz)
  | _ => none
section
variable {e : Env} {h : Hp} {x y z : X}
@[simp] theorem opV_mov : opV e h (.mov x) = some (x.ev e, h) := rfl
@[simp] theorem opV_pick : opV e h (.pick x y z) = (pickV (y.ev e) (z.ev e) (x.ev e)).map fun v => (v, h) := by
  simp only [opV, pickV]
  generalize x.ev e = v
  cases v <;> rfl
@[simp] theorem opV_new {l : List Value} : opV e h (.new l) = some (ptr h.next 0, h.push (.cells false l)) := rfl
@[simp] theorem opV_box : opV e h (.box x) = if isJ (x.ev e) = true then none else some (ptr h.next 0, h.push (.cells false (x.ev e).cells.toList)) := by
  simp only [opV, opA]
  split <;> rfl
@[simp] theorem opV_build {l : List Value} {ps : List (Nat × Nat × X)} : opV e h (.build l ps) = (fillIn l (evp e ps)).map fun c => (.agg c.toArray, h) := rfl
@[simp] theorem opV_bsl {n : Nat} {l : List Value} {ps : List (Nat × Nat × X)} : opV e h (.bsl n l ps) = (fillIn l (evp e ps)).map fun c => (.slice (some ⟨h.next, 0, none⟩) n n, h.push (.cells false c)) := by
  simp only [opV, opA]
  cases fillIn l (evp e ps) <;> rfl
@[simp] theorem opV_ld : opV e h (.ld x) = (at? (x.ev e)).bind fun p => (h.rd p.1 p.2).map fun v => (v, h) := rfl
@[simp] theorem opV_ldn {n : Nat} : opV e h (.ldn n x) = (at? (x.ev e)).bind fun p => (h.rdn p.1 p.2 n).map fun c => (.agg c.toArray, h) := rfl
@[simp] theorem opV_st : opV e h (.st x y) = (at? (x.ev e)).bind fun p => if one (y.ev e) = true then (h.wr p.1 p.2 [y.ev e]).map fun h => (undef, h) else none := rfl
@[simp] theorem opV_nilc : opV e h (.nilc x) = (nilV (x.ev e)).map fun v => (v, h) := by
  simp only [opV, nilV]
  generalize x.ev e = v
  cases v <;> first | rfl | skip
  · rename_i p; cases p <;> rfl
  · rename_i f _ _; cases f <;> rfl
@[simp] theorem opV_bin {op : BinOp} : opV e h (.bin op x y) = (binV op (x.ev e) (y.ev e)).map fun v => (v, h) := rfl
@[simp] theorem opV_eqb {n : Bool} : opV e h (.eqb n x y) = (eqbV n (x.ev e) (y.ev e)).map fun v => (v, h) := by
  simp only [opV, eqbV]
  generalize x.ev e = v
  generalize y.ev e = u
  cases v <;> cases u <;> rfl
@[simp] theorem opV_eqn {k : Nat} {n : Bool} : opV e h (.eqn k n x) = (isNil k (x.ev e)).map fun b => (.bool (b != n), h) := rfl
@[simp] theorem opV_eqt {t : Ty} {n : Bool} : opV e h (.eqt n t x y) = (eqV t (x.ev e) (y.ev e)).map fun b => (.bool (b != n), h) := rfl
@[simp] theorem opV_un {op : UnOp} : opV e h (.un op x) = (unV op (x.ev e)).map fun v => (v, h) := rfl
attribute [simp] opV_conv
@[simp] theorem opV_fa {n : Nat} : opV e h (.fa n x) = (at? (x.ev e)).map fun p => (ptr p.1 (p.2 + n), h) := rfl
@[simp] theorem opV_fld {n : Nat} : opV e h (.fld n x) = (fldV n (x.ev e)).map fun v => (v, h) := by
  simp only [opV, fldV]
  generalize x.ev e = v
  cases v <;> rfl
@[simp] theorem opV_ext {n : Nat} : opV e h (.ext x n) = (extV n (x.ev e)).map fun v => (v, h) := by
  simp only [opV, extV]
  generalize x.ev e = v
  cases v <;> rfl
@[simp] theorem opV_ia {n : Nat} : opV e h (.ia n x y) = (iaV n (y.ev e) (x.ev e)).map fun v => (v, h) := by
  simp only [opV, iaV]
  generalize x.ev e = v
  cases v <;> first | rfl | skip
  rename_i p _ _; cases p
  · rfl
  · simp only []; cases indexA _ (y.ev e) <;> rfl
@[simp] theorem opV_len1 : opV e h (.len 1 x) = (lenS (x.ev e)).map fun v => (v, h) := by
  simp only [opV, lenS]
  generalize x.ev e = v
  cases v <;> rfl
@[simp] theorem opV_app {n m : Nat} : opV e h (.app n m x y) = appendV h n m (x.ev e) (y.ev e) := rfl
@[simp] theorem opV_cpy {n : Nat} : opV e h (.cpy n x y) = copyV h n (x.ev e) (y.ev e) := rfl
@[simp] theorem opV_mks {l : List Value} {n : Nat} : opV e h (.mks l n x y) = (makeS h.next l n (x.ev e) (y.ev e)).map fun r => (r.1, h.push r.2) := rfl
@[simp] theorem opV_mkf {n : Nat} {l : List X} : opV e h (.mkf n l) = some (.func (.func n) #[] (evs e l).toArray, h) := rfl
@[simp] theorem opV_sl {n : Nat} {a b c : Option X} : opV e h (.sl n x a b c) = (sliceV n (x.ev e) (a.map (·.ev e)) (b.map (·.ev e)) (c.map (·.ev e))).map fun v => (v, h) := rfl
@[simp] theorem pickV_bool {a b : Value} {t : Bool} : pickV a b (.bool t) = some (if t then a else b) := rfl
@[simp] theorem nilV_ptr {b o : Nat} : nilV (ptr b o) = some (ptr b o) := rfl
@[simp] theorem isNil_ptr {b o : Nat} : isNil 0 (ptr b o) = some false := rfl
@[simp] theorem isNil_pnil : isNil 0 (.pointer none) = some true := rfl
@[simp] theorem eqbV_bool {n a b : Bool} : eqbV n (.bool a) (.bool b) = some (.bool ((a == b) != n)) := rfl
@[simp] theorem extV_tuple {l : List Value} {i : Nat} : extV i (.tuple l.toArray) = l[i]? := rfl
@[simp] theorem lenS_slice {a : Option Addr} {n c : Nat} : lenS (.slice a n c) = some (goInt n) := rfl
@[simp] theorem ev_t {n : Nat} : X.ev e (.t n) = e n := rfl
@[simp] theorem ev_c {v : Value} : X.ev e (.c v) = v := rfl
@[simp] theorem ev_f {n : Nat} : X.ev e (.f n) = .func (.func n) #[] #[] := rfl
@[simp] theorem put_some {d : Nat} {v : Value} : put e (some d) v = upd e d v := rfl
@[simp] theorem put_none {v : Value} : put e none v = e := rfl
@[simp] theorem upd_at {d t : Nat} {v : Value} : upd e d v t = if t = d then v else e t := rfl
@[simp] theorem not_bool {b : Bool} : unV .not (.bool b) = some (.bool !b) := rfl
end
end Go.Dx

/- Tables of functions, one by one. -/
set_option linter.unusedSimpArgs false
set_option linter.unusedVariables false
namespace Go.Dx
open Go

def ins (n : Nat) (x : Fn) (T : Nat → Option Fn) : Nat → Option Fn := fun k => if k = n then some x else T k
section
variable {P : Program} {any : Nat → Array Oper → Option (Nat × List It)} {T : Nat → Option Fn} {n : Nat}
theorem tab_none : TabOK P any fun _ => none := fun f x h => by cases h
theorem tab_ins {F : F} (hc : compF P any n = some (F.body, F.res)) (hT : TabOK P any T) : TabOK P any (ins n (.code F) T) := fun f x h => by
  unfold ins at h
  split at h
  · rename_i e; subst e; cases h; exact hc
  · exact hT f x h
theorem tab_spec {s : Sp} (hc : SpecOK P n s) (hT : TabOK P any T) : TabOK P any (ins n (.spec s) T) := fun f x h => by
  unfold ins at h
  split at h
  · rename_i e; subst e; cases h; exact hc
  · exact hT f x h
end
section
variable {T : Nat → Option Fn} {Q : Ex → Env → Hp → Prop} {k : List Fr} {e : Env} {h : Hp} {a : C}
@[simp] theorem GR_loop_n : GR T Q (.loop a :: k) .n e h ↔ G T Q (.loop a) k e h := Iff.rfl
@[simp] theorem GR_loop_x {j : Nat} : GR T Q (.loop a :: k) (.x j) e h ↔ GR T Q k (.x j) e h := Iff.rfl
@[simp] theorem GR_loop_r : GR T Q (.loop a :: k) .r e h ↔ GR T Q k .r e h := Iff.rfl
theorem Ex.lo_eq : Ex.go (GR T Q k) (fun e h => W T (.loop a) e h (GR T Q k)) = GR T Q (.loop a :: k) := by
  funext x e h; cases x <;> rfl
theorem G_unf {c c' : C} (hc : c = c') : ∀ (T : Nat → Option Fn) (Q : Ex → Env → Hp → Prop) (k : List Fr) (e : Env) (h : Hp), G T Q c k e h ↔ G T Q c' k e h := by
  subst hc
  exact fun _ _ _ _ _ => Iff.rfl
/-- A loop's next round. -/
theorem G_round : G T Q (.loop a) k e h ↔ G T Q a (.loop a :: k) e h := by
  unfold G; rw [W_loop, Ex.lo_eq]
/-- A loop: what holds ahead of each round, with what gets less. -/
theorem G_loop (I : Nat → Env → Hp → Prop) (step : ∀ n, (∀ m, m < n → ∀ e h, I m e h → G T Q (.loop a) k e h) → ∀ e h, I n e h → G T Q a (.loop a :: k) e h) (n : Nat) (e : Env) (h : Hp) (hi : I n e h) : G T Q (.loop a) k e h := by
  induction n using Nat.strongRecOn generalizing e h with
  | _ n ih => exact G_round.2 (step n (fun m hm e h hi => ih m hm e h hi) e h hi)
end
section
variable {T : Nat → Option Fn} {Q : Ex → Env → Hp → Prop} {k : List Fr} {e : Env} {h : Hp} {K : Env → Hp → Prop}
/-- A function value that is called. -/
def callv (T : Nat → Option Fn) (args : List Value) (h : Hp) (q : Value → Hp → Prop) : Value → Prop
  | .func (.func f) a caps => a.size = 0 ∧ WC T f (args ++ caps.toList) h q
  | _ => False
theorem WO_callv {d : Option Nat} {x : X} {xs : List X} {l : List O} : WO T (⟨d, none, .callv x xs⟩ :: l) e h K ↔ callv T (evs e xs) h (fun v h => WO T l (put e d v) h K) (x.ev e) := by
  rw [WO_cons]
  cases hx : x.ev e with
  | func f a caps =>
    cases f with
    | func f =>
      constructor
      · rintro ⟨n, e', h', h1, h2⟩
        simp only [runO, gd, act, hx] at h1
        split at h1
        · rename_i ha
          obtain ⟨r, h3, h4⟩ := Option.map_eq_some_iff.1 h1
          cases h4
          exact ⟨ha, n, _, _, h3, h2⟩
        · cases h1
      · rintro ⟨ha, n, v, h', h1, h2⟩
        exact ⟨n, _, _, by simp only [runO, gd, act, hx, ha, if_true, h1, Option.map_some], h2⟩
    | _ => exact ⟨fun ⟨n, e', h', h1, h2⟩ => by simp [runO, gd, act, hx] at h1, fun hf => hf.elim⟩
  | _ => exact ⟨fun ⟨n, e', h', h1, h2⟩ => by simp [runO, gd, act, hx] at h1, fun hf => hf.elim⟩
def GCV (T : Nat → Option Fn) (Q : Ex → Env → Hp → Prop) (args : List Value) (d : Option Nat) (l : List O) (k : List Fr) (e : Env) (h : Hp) : Value → Prop
  | .func (.func f) a caps => a.size = 0 ∧ GC T Q f (args ++ caps.toList) d l k e h
  | _ => False
@[simp] theorem GO_callv {d : Option Nat} {x : X} {xs : List X} {l : List O} : GO T Q (⟨d, none, .callv x xs⟩ :: l) k e h ↔ GCV T Q (evs e xs) d l k e h (x.ev e) := by
  unfold GO
  rw [WO_callv]
  cases x.ev e with
  | func f a caps => cases f <;> rfl
  | _ => rfl
@[simp] theorem GCV_func {args : List Value} {d : Option Nat} {l : List O} {f : Nat} {a caps : Array Value} : GCV T Q args d l k e h (.func (.func f) a caps) ↔ a.size = 0 ∧ GC T Q f (args ++ caps.toList) d l k e h := Iff.rfl

/-- A region's operations, where none makes a block ahead of its turn. -/
def opsOf : List It → Option (List O)
  | [] => some []
  | .op _ o :: l => (opsOf l).map (o :: ·)
  | _ :: _ => none
@[simp] theorem opsOf_nil : opsOf [] = some [] := rfl
@[simp] theorem opsOf_op {i : Nat} {o : O} {l : List It} : opsOf (.op i o :: l) = (opsOf l).map (o :: ·) := rfl
@[simp] theorem opsOf_al {i j : Nat} {o : O} {l : List It} : opsOf (.al i j o :: l) = none := rfl
@[simp] theorem opsOf_re {i : Nat} {o : O} {l : List It} : opsOf (.re i o :: l) = none := rfl
theorem WI_ops {base : Nat} : ∀ {l : List It} {os : List O} {e : Env} {h : Hp}, opsOf l = some os → (WI T base l e h K ↔ WO T os e h K)
  | [], _, e, h, ho => by cases ho; rw [WI_nil, WO_nil]
  | .op i o :: l, os, e, h, ho => by
    obtain ⟨os', h1, rfl⟩ := Option.map_eq_some_iff.1 ho
    rw [WI_op, WO_cons, WO_cons]
    constructor
    · rintro ⟨n, e', h', h2, h3⟩
      rw [WO_nil] at h3
      exact ⟨n, e', h', h2, (WI_ops h1).1 h3⟩
    · rintro ⟨n, e', h', h2, h3⟩
      exact ⟨n, e', h', h2, WO_nil.2 ((WI_ops h1).2 h3)⟩
  | .al .. :: _, _, _, _, ho => by cases ho
  | .re .. :: _, _, _, _, ho => by cases ho
def GAny (T : Nat → Option Fn) (Q : Ex → Env → Hp → Prop) (m : Nat) (l : List It) (k : List Fr) (e : Env) (h : Hp) : Option (List O) → Prop
  | some os => GO T Q os k e (h.adv m)
  | none => GI T Q h.next l k e (h.adv m)
@[simp] theorem G_anyo {m : Nat} {l : List It} : G T Q (.any m l) k e h ↔ GAny T Q m l k e h (opsOf l) := by
  rw [G_any]
  cases ho : opsOf l with
  | none => rfl
  | some os => exact WI_ops ho
@[simp] theorem GAny_some {m : Nat} {l : List It} {os : List O} : GAny T Q m l k e h (some os) ↔ GO T Q os k e (h.adv m) := Iff.rfl
@[simp] theorem GAny_none {m : Nat} {l : List It} : GAny T Q m l k e h none ↔ GI T Q h.next l k e (h.adv m) := Iff.rfl
def GGI (T : Nat → Option Fn) (Q : Ex → Env → Hp → Prop) (w : Bool) (base i : Nat) (d : Option Nat) (op : Op) (l : List It) (k : List Fr) (e : Env) (h : Hp) : Value → Prop
  | .bool t => if t = w then GI T Q base (.op i ⟨d, none, op⟩ :: l) k e h else GI T Q base l k (put e d undef) h
  | .tuple _ => GI T Q base l k (put e d undef) h
  | _ => False
@[simp] theorem GI_gd {base i : Nat} {d : Option Nat} {t : Nat} {w : Bool} {op : Op} {l : List It} : GI T Q base (.op i ⟨d, some (t, w), op⟩ :: l) k e h ↔ GGI T Q w base i d op l k e h (e t) := by
  unfold GI
  rw [WI_op, WO_gdn]
  cases hv : e t with
  | bool b =>
    by_cases hb : b = w
    · subst hb; simp only [gdn, GGI, if_true]; exact WI_op.symm
    · simp only [gdn, GGI, hb, if_false]; exact WO_nil
  | tuple vs => exact WO_nil
  | _ => exact Iff.rfl
@[simp] theorem GGI_bool {base i : Nat} {d : Option Nat} {t w : Bool} {op : Op} {l : List It} : GGI T Q w base i d op l k e h (.bool t) ↔ if t = w then GI T Q base (.op i ⟨d, none, op⟩ :: l) k e h else GI T Q base l k (put e d undef) h := Iff.rfl
def GCI (T : Nat → Option Fn) (Q : Ex → Env → Hp → Prop) (f : Nat) (args : List Value) (d : Option Nat) (base : Nat) (l : List It) (k : List Fr) (e : Env) (h : Hp) : Prop :=
  WC T f args h fun v h => GI T Q base l k (put e d v) h
@[simp] theorem GI_call {base i : Nat} {d : Option Nat} {f : Nat} {xs : List X} {l : List It} : GI T Q base (.op i ⟨d, none, .call f xs⟩ :: l) k e h ↔ GCI T Q f (evs e xs) d base l k e h := by
  unfold GI GCI
  rw [WI_op, WO_call]
  exact ⟨fun hw => hw.mono fun v h hq => WO_nil.1 hq, fun hw => hw.mono fun v h hq => WO_nil.2 hq⟩
theorem GCI_of {f : Nat} {args : List Value} {v : Value} {h' : Hp} {d : Option Nat} {base : Nat} {l : List It} (H : ∀ q : Value → Hp → Prop, WC T f args h q ↔ q v h') : GCI T Q f args d base l k e h ↔ GI T Q base l k (put e d v) h' := H _
theorem GCI_intro {f : Nat} {args : List Value} {d : Option Nat} {base : Nat} {l : List It} {q : Value → Hp → Prop} (h1 : WC T f args h q) (h2 : ∀ v h, q v h → GI T Q base l k (put e d v) h) : GCI T Q f args d base l k e h := h1.mono h2
def GAl (T : Nat → Option Fn) (Q : Ex → Env → Hp → Prop) (b : Nat) (d : Option Nat) (base : Nat) (l : List It) (k : List Fr) (e : Env) (h : Hp) : Option (Value × Ob) → Prop
  | some r => GI T Q base l k (put e d r.1) (h.put b (some r.2))
  | none => False
@[simp] theorem GI_al {base i j : Nat} {d : Option Nat} {op : Op} {l : List It} : GI T Q base (.al i j ⟨d, none, op⟩ :: l) k e h ↔ GAl T Q (base + j) d base l k e h (opA (base + j) e op) := by
  unfold GI
  rw [WI_al]
  cases opA (base + j) e op with
  | none => exact ⟨fun ⟨_, _, h1, _⟩ => (by cases h1), fun hf => hf.elim⟩
  | some r => exact ⟨fun ⟨_, _, h1, h2⟩ => (by cases h1; exact h2), fun hk => ⟨_, _, rfl, hk⟩⟩
@[simp] theorem GAl_some {b : Nat} {d : Option Nat} {base : Nat} {l : List It} {r : Value × Ob} : GAl T Q b d base l k e h (some r) ↔ GI T Q base l k (put e d r.1) (h.put b (some r.2)) := Iff.rfl
def GRe (T : Nat → Option Fn) (Q : Ex → Env → Hp → Prop) (u : Value) (base : Nat) (l : List It) (k : List Fr) (e : Env) (h : Hp) : Option (Value × Hp) → Prop
  | some r => veq r.1 u = true ∧ GI T Q base l k e h
  | none => False
@[simp] theorem GI_re {base i t : Nat} {op : Op} {l : List It} : GI T Q base (.re i ⟨some t, none, op⟩ :: l) k e h ↔ GRe T Q (e t) base l k e h (opV e h op) := by
  unfold GI
  rw [WI_re]
  cases opV e h op with
  | none => exact ⟨fun ⟨_, _, h1, _⟩ => (by cases h1), fun hf => hf.elim⟩
  | some r => exact ⟨fun ⟨_, _, h1, h2⟩ => (by cases h1; exact h2), fun hk => ⟨_, _, rfl, hk⟩⟩
@[simp] theorem GRe_some {u : Value} {base : Nat} {l : List It} {r : Value × Hp} : GRe T Q u base l k e h (some r) ↔ veq r.1 u = true ∧ GI T Q base l k e h := Iff.rfl
theorem WI_re_gd {base i t g : Nat} {w : Bool} {op : Op} {l : List It} : WI T base (.re i ⟨some t, some (g, w), op⟩ :: l) e h K ↔ gdn (e g) w (WI T base (.re i ⟨some t, none, op⟩ :: l) e h K) (WI T base l e h K) := by
  rw [WI_cons]
  cases hv : e g with
  | bool b =>
    by_cases hb : b = w
    · subst hb
      simp only [gdn, if_true]
      rw [WI_cons]
      simp only [runIt, gd, hv, beq_self_eq_true]
    · have hbw : (b == w) = false := by simpa using hb
      simp only [gdn, hb, if_false, runIt, gd, hv, hbw]
      exact ⟨fun ⟨_, _, _, h1, h2⟩ => (by cases h1; exact h2), fun hk => ⟨0, _, _, rfl, hk⟩⟩
  | tuple vs =>
    simp only [gdn, runIt, gd, hv]
    exact ⟨fun ⟨_, _, _, h1, h2⟩ => (by cases h1; exact h2), fun hk => ⟨0, _, _, rfl, hk⟩⟩
  | _ => exact ⟨fun ⟨_, _, _, h1, _⟩ => (by simp [runIt, gd, hv] at h1), fun hf => hf.elim⟩
def GGR (T : Nat → Option Fn) (Q : Ex → Env → Hp → Prop) (w : Bool) (base i t : Nat) (op : Op) (l : List It) (k : List Fr) (e : Env) (h : Hp) : Value → Prop
  | .bool b => if b = w then GI T Q base (.re i ⟨some t, none, op⟩ :: l) k e h else GI T Q base l k e h
  | .tuple _ => GI T Q base l k e h
  | _ => False
@[simp] theorem GI_re_gd {base i t g : Nat} {w : Bool} {op : Op} {l : List It} : GI T Q base (.re i ⟨some t, some (g, w), op⟩ :: l) k e h ↔ GGR T Q w base i t op l k e h (e g) := by
  unfold GI
  rw [WI_re_gd]
  cases e g <;> rfl
@[simp] theorem GGR_bool {base i t : Nat} {w b : Bool} {op : Op} {l : List It} : GGR T Q w base i t op l k e h (.bool b) ↔ if b = w then GI T Q base (.re i ⟨some t, none, op⟩ :: l) k e h else GI T Q base l k e h := Iff.rfl
@[simp] theorem veq_int (k : IntKind) (n : Int) : veq (.int k n) (.int k n) = true := by simp [veq, veqF]
@[simp] theorem veq_bool (b : Bool) : veq (.bool b) (.bool b) = true := by simp [veq, veqF]
@[simp] theorem veq_u8 (x : BitVec 8) : veq (u8 x) (u8 x) = true := veq_int _ _
@[simp] theorem veq_u32 (x : BitVec 32) : veq (u32 x) (u32 x) = true := veq_int _ _
@[simp] theorem veq_u64 (x : BitVec 64) : veq (u64 x) (u64 x) = true := veq_int _ _
@[simp] theorem veq_ptr (b o : Nat) : veq (ptr b o) (ptr b o) = true := by simp [veq, veqF, ptr]
@[simp] theorem veq_slice (a : Option Addr) (n c : Nat) : veq (.slice a n c) (.slice a n c) = true := by
  cases a with
  | none => simp [veq, veqF]
  | some a => obtain ⟨b, o, s⟩ := a; simp [veq, veqF]
@[simp] theorem GG_undef {w : Bool} {d : Option Nat} {op : Op} {l : List O} : GG T Q undef w d op l k e h ↔ GO T Q l k (put e d undef) h := Iff.rfl
@[simp] theorem GGI_undef {base i : Nat} {d : Option Nat} {w : Bool} {op : Op} {l : List It} : GGI T Q w base i d op l k e h undef ↔ GI T Q base l k (put e d undef) h := Iff.rfl
@[simp] theorem GGR_undef {base i t : Nat} {w : Bool} {op : Op} {l : List It} : GGR T Q w base i t op l k e h undef ↔ GI T Q base l k e h := Iff.rfl
end
end Go.Dx

/- The rules that simp runs code by, beside those of Sx4, Sx5. -/
set_option linter.unusedSimpArgs false
set_option linter.unusedVariables false
namespace Go.Dx
open Go

attribute [simp] Hp.rd Hp.cells Hp.wr over goInt get_put_self get_put_ne get_push_self get_push_ne
attribute [simp] add_u8 sub_u8 mul_u8 and_u8 or_u8 xor_u8 andNot_u8 quo_u8 rem_u8 eql_u8 neq_u8 lss_u8 leq_u8 gtr_u8 geq_u8 not_u8 cvt_u8_int shl_u8_u8 shr_u8_u8 cvt_u8_u8 shl_u8_u16 shr_u8_u16 cvt_u8_u16 shl_u8_u32 shr_u8_u32 cvt_u8_u32 shl_u8_u64 shr_u8_u64 cvt_u8_u64
@[simp] theorem k_u8 (n : Nat) (h : n < 256) : Value.int .u8 (no_index (OfNat.ofNat n)) = u8 (BitVec.ofNat 8 n) := lit_u8 n h
attribute [simp] add_u16 sub_u16 mul_u16 and_u16 or_u16 xor_u16 andNot_u16 quo_u16 rem_u16 eql_u16 neq_u16 lss_u16 leq_u16 gtr_u16 geq_u16 not_u16 cvt_u16_int shl_u16_u8 shr_u16_u8 cvt_u16_u8 shl_u16_u16 shr_u16_u16 cvt_u16_u16 shl_u16_u32 shr_u16_u32 cvt_u16_u32 shl_u16_u64 shr_u16_u64 cvt_u16_u64
@[simp] theorem k_u16 (n : Nat) (h : n < 65536) : Value.int .u16 (no_index (OfNat.ofNat n)) = u16 (BitVec.ofNat 16 n) := lit_u16 n h
attribute [simp] add_u32 sub_u32 mul_u32 and_u32 or_u32 xor_u32 andNot_u32 quo_u32 rem_u32 eql_u32 neq_u32 lss_u32 leq_u32 gtr_u32 geq_u32 not_u32 cvt_u32_int shl_u32_u8 shr_u32_u8 cvt_u32_u8 shl_u32_u16 shr_u32_u16 cvt_u32_u16 shl_u32_u32 shr_u32_u32 cvt_u32_u32 shl_u32_u64 shr_u32_u64 cvt_u32_u64
@[simp] theorem k_u32 (n : Nat) (h : n < 4294967296) : Value.int .u32 (no_index (OfNat.ofNat n)) = u32 (BitVec.ofNat 32 n) := lit_u32 n h
attribute [simp] add_u64 sub_u64 mul_u64 and_u64 or_u64 xor_u64 andNot_u64 quo_u64 rem_u64 eql_u64 neq_u64 lss_u64 leq_u64 gtr_u64 geq_u64 not_u64 cvt_u64_int shl_u64_u8 shr_u64_u8 cvt_u64_u8 shl_u64_u16 shr_u64_u16 cvt_u64_u16 shl_u64_u32 shr_u64_u32 cvt_u64_u32 shl_u64_u64 shr_u64_u64 cvt_u64_u64
@[simp] theorem k_u64 (n : Nat) (h : n < 18446744073709551616) : Value.int .u64 (no_index (OfNat.ofNat n)) = u64 (BitVec.ofNat 64 n) := lit_u64 n h
attribute [simp] cvt_i64_u8 cvt_i64_u16 cvt_i64_u32
section
variable (a b : Int)
@[simp] theorem add_i64 : binV .add (.int .i64 a) (.int .i64 b) = some (.int .i64 (IntKind.i64.wrap (a + b))) := rfl
@[simp] theorem sub_i64 : binV .sub (.int .i64 a) (.int .i64 b) = some (.int .i64 (IntKind.i64.wrap (a - b))) := rfl
@[simp] theorem mul_i64 : binV .mul (.int .i64 a) (.int .i64 b) = some (.int .i64 (IntKind.i64.wrap (a * b))) := rfl
@[simp] theorem quo_i64 (h : b ≠ 0) : binV .quo (.int .i64 a) (.int .i64 b) = some (.int .i64 (IntKind.i64.wrap (a.tdiv b))) := by simp [binV, binI, h]
@[simp] theorem rem_i64 (h : b ≠ 0) : binV .rem (.int .i64 a) (.int .i64 b) = some (.int .i64 (a.tmod b)) := by simp [binV, binI, h]
@[simp] theorem eql_i64 : binV .eql (.int .i64 a) (.int .i64 b) = some (.bool (decide (a = b))) := rfl
@[simp] theorem neq_i64 : binV .neq (.int .i64 a) (.int .i64 b) = some (.bool (!decide (a = b))) := rfl
@[simp] theorem lss_i64 : binV .lss (.int .i64 a) (.int .i64 b) = some (.bool (decide (a < b))) := rfl
@[simp] theorem leq_i64 : binV .leq (.int .i64 a) (.int .i64 b) = some (.bool (decide (a ≤ b))) := rfl
@[simp] theorem gtr_i64 : binV .gtr (.int .i64 a) (.int .i64 b) = some (.bool (decide (b < a))) := rfl
@[simp] theorem geq_i64 : binV .geq (.int .i64 a) (.int .i64 b) = some (.bool (decide (b ≤ a))) := rfl
@[simp] theorem neg_i64 : unV .neg (.int .i64 a) = some (.int .i64 (IntKind.i64.wrap (0 - a))) := rfl
@[simp] theorem cvt_i64_int (k : IntKind) : cvt .i64 (.int k a) = some (.int .i64 (IntKind.i64.wrap a)) := rfl
end
attribute [simp] wrap_i64
theorem shl_i64_n (a : Int) (k : IntKind) (n : Nat) : binV .shl (.int .i64 a) (.int k (n : Int)) = some (.int .i64 (IntKind.i64.wrap (a * 2 ^ (min n 64)))) := by
  have hn : ¬ ((n : Int) < 0) := by omega
  simp [binV, shiftI, hn, IntKind.bits]
theorem shr_i64_n (a : Int) (k : IntKind) (n : Nat) : binV .shr (.int .i64 a) (.int k (n : Int)) = some (.int .i64 (a.fdiv (2 ^ (min n 64)))) := by
  have hn : ¬ ((n : Int) < 0) := by omega
  simp [binV, shiftI, hn, IntKind.bits]
@[simp] theorem shl_i64_u64 (a : Int) (y : BitVec 64) : binV .shl (.int .i64 a) (u64 y) = some (.int .i64 (IntKind.i64.wrap (a * 2 ^ (min y.toNat 64)))) := shl_i64_n a .u64 y.toNat
@[simp] theorem shr_i64_u64 (a : Int) (y : BitVec 64) : binV .shr (.int .i64 a) (u64 y) = some (.int .i64 (a.fdiv (2 ^ (min y.toNat 64)))) := shr_i64_n a .u64 y.toNat

theorem eqAt_int {n : Nat} {k : IntKind} {a b : Int} : eqAt (n + 1) (.int k) (.int k a) (.int k b) = some (decide (a = b)) := by
  simp [eqAt]
  rfl
@[simp] theorem eqAt_int20 (k : IntKind) (a b : Int) : eqAt 20 (.int k) (.int k a) (.int k b) = some (decide (a = b)) := eqAt_int (n := 19)
@[simp] theorem eqAt_bool20 (a b : Bool) : eqAt 20 .bool (.bool a) (.bool b) = some (decide (a = b)) := rfl
@[simp] theorem eqAt_u820 (a b : BitVec 8) : eqAt 20 (.int .u8) (u8 a) (u8 b) = some (decide (a = b)) := by
  have h := eqAt_int (n := 19) (k := .u8) (a := (a.toNat : Int)) (b := (b.toNat : Int))
  have e : decide ((a.toNat : Int) = (b.toNat : Int)) = decide (a = b) := by
    rw [decide_eq_decide]
    exact ⟨fun h => BitVec.eq_of_toNat_eq (by omega), fun h => by rw [h]⟩
  rw [e] at h
  exact h
@[simp] theorem eqAt_u3220 (a b : BitVec 32) : eqAt 20 (.int .u32) (u32 a) (u32 b) = some (decide (a = b)) := by
  have h := eqAt_int (n := 19) (k := .u32) (a := (a.toNat : Int)) (b := (b.toNat : Int))
  have e : decide ((a.toNat : Int) = (b.toNat : Int)) = decide (a = b) := by
    rw [decide_eq_decide]
    exact ⟨fun h => BitVec.eq_of_toNat_eq (by omega), fun h => by rw [h]⟩
  rw [e] at h
  exact h
@[simp] theorem eqAt_u6420 (a b : BitVec 64) : eqAt 20 (.int .u64) (u64 a) (u64 b) = some (decide (a = b)) := by
  have h := eqAt_int (n := 19) (k := .u64) (a := (a.toNat : Int)) (b := (b.toNat : Int))
  have e : decide ((a.toNat : Int) = (b.toNat : Int)) = decide (a = b) := by
    rw [decide_eq_decide]
    exact ⟨fun h => BitVec.eq_of_toNat_eq (by omega), fun h => by rw [h]⟩
  rw [e] at h
  exact h
@[simp] theorem eqAt_int19 (k : IntKind) (a b : Int) : eqAt 19 (.int k) (.int k a) (.int k b) = some (decide (a = b)) := eqAt_int (n := 18)
@[simp] theorem eqAt_bool19 (a b : Bool) : eqAt 19 .bool (.bool a) (.bool b) = some (decide (a = b)) := rfl
@[simp] theorem eqAt_u819 (a b : BitVec 8) : eqAt 19 (.int .u8) (u8 a) (u8 b) = some (decide (a = b)) := by
  have h := eqAt_int (n := 18) (k := .u8) (a := (a.toNat : Int)) (b := (b.toNat : Int))
  have e : decide ((a.toNat : Int) = (b.toNat : Int)) = decide (a = b) := by
    rw [decide_eq_decide]
    exact ⟨fun h => BitVec.eq_of_toNat_eq (by omega), fun h => by rw [h]⟩
  rw [e] at h
  exact h
@[simp] theorem eqAt_u3219 (a b : BitVec 32) : eqAt 19 (.int .u32) (u32 a) (u32 b) = some (decide (a = b)) := by
  have h := eqAt_int (n := 18) (k := .u32) (a := (a.toNat : Int)) (b := (b.toNat : Int))
  have e : decide ((a.toNat : Int) = (b.toNat : Int)) = decide (a = b) := by
    rw [decide_eq_decide]
    exact ⟨fun h => BitVec.eq_of_toNat_eq (by omega), fun h => by rw [h]⟩
  rw [e] at h
  exact h
@[simp] theorem eqAt_u6419 (a b : BitVec 64) : eqAt 19 (.int .u64) (u64 a) (u64 b) = some (decide (a = b)) := by
  have h := eqAt_int (n := 18) (k := .u64) (a := (a.toNat : Int)) (b := (b.toNat : Int))
  have e : decide ((a.toNat : Int) = (b.toNat : Int)) = decide (a = b) := by
    rw [decide_eq_decide]
    exact ⟨fun h => BitVec.eq_of_toNat_eq (by omega), fun h => by rw [h]⟩
  rw [e] at h
  exact h
@[simp] theorem eqAt_int18 (k : IntKind) (a b : Int) : eqAt 18 (.int k) (.int k a) (.int k b) = some (decide (a = b)) := eqAt_int (n := 17)
@[simp] theorem eqAt_bool18 (a b : Bool) : eqAt 18 .bool (.bool a) (.bool b) = some (decide (a = b)) := rfl
@[simp] theorem eqAt_u818 (a b : BitVec 8) : eqAt 18 (.int .u8) (u8 a) (u8 b) = some (decide (a = b)) := by
  have h := eqAt_int (n := 17) (k := .u8) (a := (a.toNat : Int)) (b := (b.toNat : Int))
  have e : decide ((a.toNat : Int) = (b.toNat : Int)) = decide (a = b) := by
    rw [decide_eq_decide]
    exact ⟨fun h => BitVec.eq_of_toNat_eq (by omega), fun h => by rw [h]⟩
  rw [e] at h
  exact h
@[simp] theorem eqAt_u3218 (a b : BitVec 32) : eqAt 18 (.int .u32) (u32 a) (u32 b) = some (decide (a = b)) := by
  have h := eqAt_int (n := 17) (k := .u32) (a := (a.toNat : Int)) (b := (b.toNat : Int))
  have e : decide ((a.toNat : Int) = (b.toNat : Int)) = decide (a = b) := by
    rw [decide_eq_decide]
    exact ⟨fun h => BitVec.eq_of_toNat_eq (by omega), fun h => by rw [h]⟩
  rw [e] at h
  exact h
@[simp] theorem eqAt_u6418 (a b : BitVec 64) : eqAt 18 (.int .u64) (u64 a) (u64 b) = some (decide (a = b)) := by
  have h := eqAt_int (n := 17) (k := .u64) (a := (a.toNat : Int)) (b := (b.toNat : Int))
  have e : decide ((a.toNat : Int) = (b.toNat : Int)) = decide (a = b) := by
    rw [decide_eq_decide]
    exact ⟨fun h => BitVec.eq_of_toNat_eq (by omega), fun h => by rw [h]⟩
  rw [e] at h
  exact h
@[simp] theorem eqAt_int17 (k : IntKind) (a b : Int) : eqAt 17 (.int k) (.int k a) (.int k b) = some (decide (a = b)) := eqAt_int (n := 16)
@[simp] theorem eqAt_bool17 (a b : Bool) : eqAt 17 .bool (.bool a) (.bool b) = some (decide (a = b)) := rfl
@[simp] theorem eqAt_u817 (a b : BitVec 8) : eqAt 17 (.int .u8) (u8 a) (u8 b) = some (decide (a = b)) := by
  have h := eqAt_int (n := 16) (k := .u8) (a := (a.toNat : Int)) (b := (b.toNat : Int))
  have e : decide ((a.toNat : Int) = (b.toNat : Int)) = decide (a = b) := by
    rw [decide_eq_decide]
    exact ⟨fun h => BitVec.eq_of_toNat_eq (by omega), fun h => by rw [h]⟩
  rw [e] at h
  exact h
@[simp] theorem eqAt_u3217 (a b : BitVec 32) : eqAt 17 (.int .u32) (u32 a) (u32 b) = some (decide (a = b)) := by
  have h := eqAt_int (n := 16) (k := .u32) (a := (a.toNat : Int)) (b := (b.toNat : Int))
  have e : decide ((a.toNat : Int) = (b.toNat : Int)) = decide (a = b) := by
    rw [decide_eq_decide]
    exact ⟨fun h => BitVec.eq_of_toNat_eq (by omega), fun h => by rw [h]⟩
  rw [e] at h
  exact h
@[simp] theorem eqAt_u6417 (a b : BitVec 64) : eqAt 17 (.int .u64) (u64 a) (u64 b) = some (decide (a = b)) := by
  have h := eqAt_int (n := 16) (k := .u64) (a := (a.toNat : Int)) (b := (b.toNat : Int))
  have e : decide ((a.toNat : Int) = (b.toNat : Int)) = decide (a = b) := by
    rw [decide_eq_decide]
    exact ⟨fun h => BitVec.eq_of_toNat_eq (by omega), fun h => by rw [h]⟩
  rw [e] at h
  exact h
def mnV : Value → Value → Option Value
  | .int k a, .int j b => if k = j then some (.int k (if b < a then b else a)) else none
  | _, _ => none
def mxV : Value → Value → Option Value
  | .int k a, .int j b => if k = j then some (.int k (if b > a then b else a)) else none
  | _, _ => none
@[simp] theorem opV_mn {e : Env} {h : Hp} {x y : X} : opV e h (.mn x y) = (mnV (x.ev e) (y.ev e)).map fun v => (v, h) := by
  simp only [opV]
  generalize x.ev e = a
  generalize y.ev e = b
  cases a <;> first | rfl | (cases b <;> first | rfl | (simp only [mnV]; split <;> rfl))
@[simp] theorem opV_mx {e : Env} {h : Hp} {x y : X} : opV e h (.mx x y) = (mxV (x.ev e) (y.ev e)).map fun v => (v, h) := by
  simp only [opV]
  generalize x.ev e = a
  generalize y.ev e = b
  cases a <;> first | rfl | (cases b <;> first | rfl | (simp only [mxV]; split <;> rfl))
@[simp] theorem mnV_i64 (a b : Int) : mnV (.int .i64 a) (.int .i64 b) = some (.int .i64 (if b < a then b else a)) := rfl
@[simp] theorem mxV_u32 (a b : BitVec 32) : mxV (u32 a) (u32 b) = some (u32 (if a < b then b else a)) := by
  simp only [mxV, u32, if_true]
  by_cases h : a < b
  · have h' : (b.toNat : Int) > a.toNat := by have := BitVec.lt_def.1 h; omega
    rw [if_pos h', if_pos h]
  · have h' : ¬ (b.toNat : Int) > a.toNat := by have := mt BitVec.lt_def.2 h; omega
    rw [if_neg h', if_neg h]
@[simp] theorem mnV_u32 (a b : BitVec 32) : mnV (u32 a) (u32 b) = some (u32 (if b < a then b else a)) := by
  simp only [mnV, u32, if_true]
  by_cases h : b < a
  · have h' : (b.toNat : Int) < a.toNat := by have := BitVec.lt_def.1 h; omega
    rw [if_pos h', if_pos h]
  · have h' : ¬ (b.toNat : Int) < a.toNat := by have := mt BitVec.lt_def.2 h; omega
    rw [if_neg h', if_neg h]
@[simp] theorem mxV_i64 (a b : Int) : mxV (.int .i64 a) (.int .i64 b) = some (.int .i64 (if b > a then b else a)) := rfl
def stnV (n : Nat) (h : Hp) (p : Nat × Nat) : Value → Option (Value × Hp)
  | .agg cs => if cs.size = n then (h.wr p.1 p.2 cs.toList).map fun h => (undef, h) else none
  | _ => none
section
variable {e : Env} {h : Hp} {x y z : X}
@[simp] theorem opV_stn {n : Nat} : opV e h (.stn n x y) = (at? (x.ev e)).bind fun p => stnV n h p (y.ev e) := by
  simp only [opV, stnV]
  generalize y.ev e = v
  cases v <;> rfl
@[simp] theorem stnV_agg {n : Nat} {p : Nat × Nat} {cs : Array Value} : stnV n h p (.agg cs) = if cs.size = n then (h.wr p.1 p.2 cs.toList).map fun h => (undef, h) else none := rfl
end
attribute [simp] opA fillIn evp
@[simp] theorem one_slice (a : Option Addr) (n c : Nat) : one (.slice a n c) = true := rfl
@[simp] theorem one_pointer (a : Option Addr) : one (.pointer a) = true := rfl
@[simp] theorem one_string (s : ByteArray) : one (.string s) = true := rfl
@[simp] theorem one_chan (r : Option Nat) : one (.chan r) = true := rfl
@[simp] theorem one_func (f : Go.Fn) (a b : Array Value) : one (.func f a b) = true := rfl
@[simp] theorem rv_t {e : Env} {h : Hp} {n : Nat} : rv e h (.t n) = some (e n) := rfl
@[simp] theorem rv_ld {e : Env} {h : Hp} {n : Nat} : rv e h (.ld n) = (at? (e n)).bind fun p => h.rd p.1 p.2 := rfl
@[simp] theorem rv_ldn {e : Env} {h : Hp} {k n : Nat} : rv e h (.ldn k n) = (at? (e n)).bind fun p => (h.rdn p.1 p.2 k).map fun c => .agg c.toArray := rfl
@[simp] theorem resV_1 {e : Env} {h : Hp} {a : RV} : resV e h [a] = rv e h a := rfl
@[simp] theorem resV_2 {e : Env} {h : Hp} {a b : RV} : resV e h [a, b] = (rv e h a).bind fun x => (rv e h b).map fun y => .tuple #[x, y] := by
  simp only [resV, List.mapM_cons, List.mapM_nil]
  cases rv e h a <;> cases rv e h b <;> rfl
@[simp] theorem resV_3 {e : Env} {h : Hp} {a b c : RV} : resV e h [a, b, c] = (rv e h a).bind fun x => (rv e h b).bind fun y => (rv e h c).map fun z => .tuple #[x, y, z] := by
  simp only [resV, List.mapM_cons, List.mapM_nil]
  cases rv e h a <;> cases rv e h b <;> cases rv e h c <;> rfl
@[simp] theorem get_push_at {h : Hp} {b : Nat} {o : Ob} (hb : b ≤ h.next) (hc : h.next ≤ b) : (h.push o).get b = some o := by
  rw [Nat.le_antisymm hb hc]
  exact get_push_self
@[simp] theorem isJ_int (k : IntKind) (n : Int) : isJ (.int k n) = false := rfl
@[simp] theorem isJ_bool (b : Bool) : isJ (.bool b) = false := rfl
@[simp] theorem isJ_agg (a : Array Value) : isJ (.agg a) = false := rfl
@[simp] theorem isJ_tuple (a : Array Value) : isJ (.tuple a) = false := rfl
@[simp] theorem isJ_slice (a : Option Addr) (n c : Nat) : isJ (.slice a n c) = false := rfl
@[simp] theorem isJ_pointer (a : Option Addr) : isJ (.pointer a) = false := rfl
@[simp] theorem isJ_string (s : ByteArray) : isJ (.string s) = false := rfl
@[simp] theorem isJ_chan (r : Option Nat) : isJ (.chan r) = false := rfl
@[simp] theorem isJ_map (r : Option Nat) : isJ (.map r) = false := rfl
@[simp] theorem isJ_func (f : Go.Fn) (a b : Array Value) : isJ (.func f a b) = false := rfl
@[simp] theorem isJ_u8 (x : BitVec 8) : isJ (u8 x) = false := rfl
@[simp] theorem isJ_u16 (x : BitVec 16) : isJ (u16 x) = false := rfl
@[simp] theorem isJ_u32 (x : BitVec 32) : isJ (u32 x) = false := rfl
@[simp] theorem isJ_u64 (x : BitVec 64) : isJ (u64 x) = false := rfl
@[simp] theorem isJ_ptr (b o : Nat) : isJ (ptr b o) = false := rfl
@[simp] theorem cells_int (k : IntKind) (n : Int) : (Value.int k n).cells = #[.int k n] := rfl
@[simp] theorem cells_u8 (x : BitVec 8) : (u8 x).cells = #[u8 x] := rfl
@[simp] theorem cells_u16 (x : BitVec 16) : (u16 x).cells = #[u16 x] := rfl
@[simp] theorem cells_u32 (x : BitVec 32) : (u32 x).cells = #[u32 x] := rfl
@[simp] theorem cells_u64 (x : BitVec 64) : (u64 x).cells = #[u64 x] := rfl
@[simp] theorem cells_bool (b : Bool) : (Value.bool b).cells = #[.bool b] := rfl
@[simp] theorem cells_ptr (b o : Nat) : (ptr b o).cells = #[ptr b o] := rfl
@[simp] theorem cells_pointer (a : Option Addr) : (Value.pointer a).cells = #[.pointer a] := rfl
@[simp] theorem cells_slice (a : Option Addr) (n c : Nat) : (Value.slice a n c).cells = #[.slice a n c] := rfl
@[simp] theorem cells_string (s : ByteArray) : (Value.string s).cells = #[.string s] := rfl
@[simp] theorem cells_agg (a : Array Value) : (Value.agg a).cells = a := rfl

section
variable {T : Nat → Option Fn} {Q : Ex → Env → Hp → Prop} {k : List Fr} {e : Env} {h : Hp} {c : C}
theorem G.mono {Q' : Ex → Env → Hp → Prop} (hw : G T Q c [] e h) (hq : ∀ x e h, Q x e h → Q' x e h) : G T Q' c [] e h :=
  W.mono hw fun x e h hx => by simp at hx ⊢; exact hq _ _ _ hx
def EndN (S : Env → Hp → Prop) : Ex → Env → Hp → Prop
  | .n, e, h => S e h
  | _, _, _ => False
@[simp] theorem EndN_n {S : Env → Hp → Prop} : EndN S .n e h ↔ S e h := Iff.rfl
@[simp] theorem EndN_r {S : Env → Hp → Prop} : EndN S .r e h ↔ False := Iff.rfl
@[simp] theorem EndN_x {S : Env → Hp → Prop} {j : Nat} : EndN S (.x j) e h ↔ False := Iff.rfl
theorem GC_intro {f : Nat} {args : List Value} {d : Option Nat} {l : List O} {q : Value → Hp → Prop} (h1 : WC T f args h q) (h2 : ∀ v h, q v h → GO T Q l k (put e d v) h) : GC T Q f args d l k e h :=
  h1.mono h2
end

/-- All that was there is there. -/
structure Kp (g h : Hp) : Prop where
  le : g.next ≤ h.next
  get : ∀ b, b < g.next → h.get b = g.get b
theorem Kp.refl (h : Hp) : Kp h h := ⟨Nat.le_refl _, fun _ _ => rfl⟩
theorem Kp.trans {a b c : Hp} (x : Kp a b) (y : Kp b c) : Kp a c := ⟨Nat.le_trans x.le y.le, fun k hk => (y.get k (Nat.lt_of_lt_of_le hk x.le)).trans (x.get k hk)⟩
theorem Kp.push {g h : Hp} (x : Kp g h) (o : Ob) : Kp g (h.push o) := ⟨Nat.le_succ_of_le x.le, fun k hk => by
  have := x.le
  rw [get_push_ne (by omega)]
  exact x.get k hk⟩
theorem Kp.put {g h : Hp} (x : Kp g h) {b : Nat} (hb : g.next ≤ b) (o : Option Ob) : Kp g (h.put b o) := ⟨x.le, fun k hk => by
  rw [get_put_ne (by omega)]
  exact x.get k hk⟩
theorem Kp.adv {g h : Hp} (x : Kp g h) (n : Nat) : Kp g (h.adv n) := ⟨Nat.le_trans x.le (Nat.le_add_right _ _), x.get⟩

theorem lt_of_rdn {h : Hp} {b o n : Nat} {c : List Value} (hr : h.rdn b o n = some c) : b < h.next := by
  rcases Nat.lt_or_ge b h.next with hl | hl
  · exact hl
  · simp [Hp.rdn, h.wf b hl] at hr
@[simp] theorem iaV_int {sz n c : Nat} {i : Int} {k : IntKind} {A : Addr} (h0 : 0 ≤ i) (hi : i < n) : iaV sz (.int k i) (.slice (some A) n c) = some (ptr A.block (A.off + i.toNat * sz)) := by
  simp [iaV, indexA, hi, h0]
end Go.Dx

/- Rows of things in memory: those that are read, those that are owned. -/
set_option linter.unusedSimpArgs false
set_option linter.unusedVariables false
namespace Go.Dx
open Go

/-- How a thing lies in cells. -/
structure Enc (α : Type) where
  sz : Nat
  enc : α → List Value
  len : ∀ x, (enc x).length = sz
  one : ∀ x, (enc x).all one = true
  pos : 0 < sz
section
variable {α : Type} (E : Enc α)
def Enc.all (xs : List α) : List Value := xs.flatMap E.enc
@[simp] theorem Enc.all_nil : E.all [] = [] := rfl
@[simp] theorem Enc.all_cons (x : α) (xs : List α) : E.all (x :: xs) = E.enc x ++ E.all xs := rfl
@[simp] theorem Enc.all_append (xs ys : List α) : E.all (xs ++ ys) = E.all xs ++ E.all ys := by simp [Enc.all]
@[simp] theorem Enc.all_length (xs : List α) : (E.all xs).length = xs.length * E.sz := by
  induction xs with
  | nil => simp
  | cons x xs ih => simp [ih, E.len, Nat.add_mul, Nat.add_comm]
theorem Enc.all_one (xs : List α) : (E.all xs).all Dx.one = true := by
  induction xs with
  | nil => rfl
  | cons x xs ih => simp only [Enc.all_cons, List.all_append, ih, E.one, Bool.and_true]
theorem Enc.take (xs : List α) (r : List Value) (k : Nat) (hk : k ≤ xs.length) : (E.all xs ++ r).take (k * E.sz) = E.all (xs.take k) := by
  have h1 : (E.all (xs.take k)).length = k * E.sz := by simp [Nat.min_eq_left hk]
  have h2 : E.all xs = E.all (xs.take k) ++ E.all (xs.drop k) := by rw [← Enc.all_append, List.take_append_drop]
  rw [h2, List.append_assoc, ← h1, List.take_left]
theorem Enc.drop (xs : List α) (r : List Value) (k : Nat) (hk : k ≤ xs.length) : (E.all xs ++ r).drop (k * E.sz) = E.all (xs.drop k) ++ r := by
  have h1 : (E.all (xs.take k)).length = k * E.sz := by simp [Nat.min_eq_left hk]
  have h2 : E.all xs = E.all (xs.take k) ++ E.all (xs.drop k) := by rw [← Enc.all_append, List.take_append_drop]
  rw [h2, List.append_assoc, ← h1, List.drop_left]
theorem Enc.part (xs : List α) (r : List Value) (k n : Nat) (hk : k + n ≤ xs.length) : ((E.all xs ++ r).drop (k * E.sz)).take (n * E.sz) = E.all ((xs.drop k).take n) := by
  rw [E.drop _ _ _ (by omega), E.take _ _ _ (by simp; omega)]
theorem Enc.at' (xs : List α) (r : List Value) (k : Nat) (hk : k < xs.length) : ((E.all xs ++ r).drop (k * E.sz)).take E.sz = E.enc xs[k] := by
  have := E.part xs r k 1 (by omega)
  rw [Nat.one_mul] at this
  rw [this, List.drop_eq_getElem_cons hk, List.take_succ_cons, List.take_zero]
  simp
theorem Enc.over (xs ys : List α) (r : List Value) (k : Nat) (hk : k + ys.length ≤ xs.length) : over (E.all xs ++ r) (k * E.sz) (E.all ys) = E.all (xs.take k ++ ys ++ xs.drop (k + ys.length)) ++ r := by
  unfold Dx.over
  rw [E.all_length, ← Nat.add_mul, E.take _ _ _ (by omega), E.drop _ _ _ hk]
  simp
theorem Enc.set (xs : List α) (y : α) (r : List Value) (k : Nat) (hk : k < xs.length) : Dx.over (E.all xs ++ r) (k * E.sz) (E.enc y) = E.all (xs.set k y) ++ r := by
  have := E.over xs [y] r k (by simp; omega)
  simp only [Enc.all_cons, Enc.all_nil, List.append_nil, List.length_cons, List.length_nil, Nat.zero_add] at this
  rw [this, List.set_eq_take_append_cons_drop, if_pos hk]
  simp
end

/-- What changed: only these blocks, which became those, and new ones. -/
structure Upd (h h' : Hp) (fp fp' : List Nat) : Prop where
  le : h.next ≤ h'.next
  get : ∀ b, b < h.next → b ∉ fp → h'.get b = h.get b
  sub : ∀ b, b ∈ fp' → b ∈ fp ∨ h.next ≤ b
theorem Upd.refl {h : Hp} {fp : List Nat} : Upd h h fp fp := ⟨Nat.le_refl _, fun _ _ _ => rfl, fun _ hb => .inl hb⟩
theorem Upd.trans {a b c : Hp} {p q r : List Nat} (x : Upd a b p q) (y : Upd b c q r) : Upd a c p r := ⟨Nat.le_trans x.le y.le, fun k hk hn => by
  rw [y.get k (Nat.lt_of_lt_of_le hk x.le), x.get k hk hn]
  intro hq
  rcases x.sub k hq with h1 | h1
  · exact hn h1
  · omega, fun k hk => by
  rcases y.sub k hk with h1 | h1
  · exact x.sub k h1
  · exact .inr (Nat.le_trans x.le h1)⟩
theorem Upd.kp {h h' : Hp} {fp' : List Nat} (x : Upd h h' [] fp') : Kp h h' := ⟨x.le, fun b hb => x.get b hb (by simp)⟩
theorem Upd.kp' {g h h' : Hp} {fp fp' : List Nat} (x : Upd h h' fp fp') (k : Kp g h) (hfp : ∀ b ∈ fp, g.next ≤ b) : Kp g h' := ⟨Nat.le_trans k.le x.le, fun b hb => by
  rw [x.get b (Nat.lt_of_lt_of_le hb k.le) (fun hm => by have := hfp b hm; omega), k.get b hb]⟩

/-- A slice that is read. -/
structure Sees {α : Type} (E : Enc α) (h : Hp) (a : Option Addr) (xs : List α) : Prop where
  nil : a = none → xs = []
  get : ∀ A, a = some A → h.rdn A.block A.off (xs.length * E.sz) = some (E.all xs)
  sp : ∀ A, a = some A → A.spot = none ∨ A.spot = some E.sz
theorem rdn_kp {g h : Hp} {b o n : Nat} {c : List Value} (hr : g.rdn b o n = some c) (hg : h.get b = g.get b) : h.rdn b o n = some c := by
  rw [← hr]
  simp only [Hp.rdn, Hp.cells, hg]
theorem rdn_part {h : Hp} {b o m : Nat} {c : List Value} (hr : h.rdn b o m = some c) {k n : Nat} (hk : k + n ≤ m) : h.rdn b (o + k) n = some ((c.drop k).take n) := by
  simp only [Hp.rdn, Option.bind_eq_some_iff] at hr ⊢
  obtain ⟨l, h1, h2⟩ := hr
  split at h2
  · cases h2
    refine ⟨l, h1, ?_⟩
    rw [if_pos (by omega)]
    congr 1
    rw [List.drop_take, List.drop_drop, List.take_take, Nat.min_eq_left (by omega)]
  · cases h2
theorem Sees.at' {α : Type} {E : Enc α} {h : Hp} {a : Option Addr} {xs : List α} (x : Sees E h a xs) (i : Nat) (hi : i < xs.length) : ∃ A, a = some A ∧ h.rdn A.block (A.off + i * E.sz) E.sz = some (E.enc xs[i]) := by
  cases a with
  | none => rw [x.nil rfl] at hi; cases hi
  | some A =>
    refine ⟨A, rfl, ?_⟩
    have hm : (i + 1) * E.sz ≤ xs.length * E.sz := Nat.mul_le_mul_right _ hi
    rw [Nat.add_mul, Nat.one_mul] at hm
    rw [rdn_part (x.get A rfl) hm]
    have := E.at' xs [] i hi
    rw [List.append_nil] at this
    rw [this]
theorem Sees.kp {α : Type} {E : Enc α} {g h : Hp} {a : Option Addr} {xs : List α} (x : Sees E g a xs) (f : Kp g h) : Sees E h a xs := ⟨x.nil, fun A hA => by
  have hr := x.get A hA
  exact rdn_kp hr (f.get _ (lt_of_rdn hr)), x.sp⟩
theorem Sees.nul {α : Type} {E : Enc α} {h : Hp} : Sees E h none [] := ⟨fun _ => rfl, fun A hA => (by cases hA), fun A hA => (by cases hA)⟩
/-- A part of it. -/
theorem Sees.part {α : Type} {E : Enc α} {h : Hp} {a : Option Addr} {xs : List α} {c : Nat} (x : Sees E h a xs) {lo hi : Nat} (h1 : lo ≤ hi) (h2 : hi ≤ xs.length) (hc : xs.length ≤ c) {l u : Option Value} (hl : (l = none ∧ lo = 0) ∨ ∃ k, l = some (.int k lo)) (hu : (u = none ∧ hi = xs.length) ∨ ∃ k, u = some (.int k hi)) :
    ∃ a' c', sliceV E.sz (.slice a xs.length c) l u none = some (.slice a' (hi - lo) c') ∧ hi - lo ≤ c' ∧ Sees E h a' ((xs.drop lo).take (hi - lo)) := by
  have hb : bounds xs.length c l u none = some (lo, hi, c) := by
    have h3 : hi ≤ c := by omega
    rcases hl with ⟨rfl, rfl⟩ | ⟨k, rfl⟩ <;> rcases hu with ⟨rfl, rfl⟩ | ⟨j, rfl⟩ <;> simp [bounds, asN, h1, h3]
  have hlen : ((xs.drop lo).take (hi - lo)).length = hi - lo := by simp; omega
  cases a with
  | none =>
    have := x.nil rfl
    subst this
    refine ⟨none, c - lo, by simp only [sliceV, hb], by simp at h2; omega, ?_⟩
    simp
    exact .nul
  | some A =>
    have hg := x.get A rfl
    have hm : lo * E.sz + (hi - lo) * E.sz ≤ xs.length * E.sz := by
      rw [← Nat.add_mul]
      exact Nat.mul_le_mul_right _ (by omega)
    have hp : h.rdn A.block (A.off + lo * E.sz) ((hi - lo) * E.sz) = some (E.all ((xs.drop lo).take (hi - lo))) := by
      rw [rdn_part hg hm]
      have := E.part xs [] lo (hi - lo) (by omega)
      rw [List.append_nil] at this
      rw [this]
    obtain ⟨b, o, sp⟩ := A
    rcases x.sp _ rfl with hs | hs
    · simp only at hs
      subst hs
      by_cases hcl : c = lo
      · have h4 : hi - lo = 0 := by omega
        refine ⟨some ⟨b, o, none⟩, c - lo, by simp only [sliceV, hb]; rw [if_pos hcl], by omega, ⟨fun hA => (by cases hA), fun A hA => ?_, fun A hA => ?_⟩⟩
        · cases hA
          rw [hlen, h4]
          have := rdn_part hg (k := 0) (n := 0) (by omega)
          simpa using this
        · cases hA; exact .inl rfl
      · refine ⟨some ⟨b, o + lo * E.sz, none⟩, c - lo, by simp only [sliceV, hb]; rw [if_neg hcl], by omega, ⟨fun hA => (by cases hA), fun A hA => ?_, fun A hA => ?_⟩⟩
        · cases hA; rw [hlen]; exact hp
        · cases hA; exact .inl rfl
    · simp only at hs
      subst hs
      refine ⟨some ⟨b, o + lo * E.sz, some E.sz⟩, c - lo, by simp [sliceV, hb], by omega, ⟨fun hA => (by cases hA), fun A hA => ?_, fun A hA => ?_⟩⟩
      · cases hA; rw [hlen]; exact hp
      · cases hA; exact .inr rfl
theorem Sees.elems {α : Type} {E : Enc α} {h : Hp} {a : Option Addr} {c : Nat} {xs : List α} (x : Sees E h a xs) : elems h E.sz xs.length (.slice a xs.length c) = some (E.all xs) := by
  cases a with
  | none => rw [x.nil rfl]; rfl
  | some A => exact x.get A rfl

/-- A slice that owns its block. -/
inductive Own {α : Type} (E : Enc α) (h : Hp) : Value → List α → List Nat → Prop where
  | nul : Own E h (.slice none 0 0) [] []
  | blk {b n c : Nat} {xs : List α} {r : List Value} (hg : h.get b = some (.cells false (E.all xs ++ r))) (hn : n = xs.length) (hc : n ≤ c) (h0 : 0 < c) (hr : r.length = (c - n) * E.sz) :
      Own E h (.slice (some ⟨b, 0, some E.sz⟩) n c) xs [b]
  | emp {b : Nat} (hg : h.get b = some (.cells false [])) : Own E h (.slice (some ⟨b, 0, none⟩) 0 0) [] [b]
section
variable {α : Type} {E : Enc α} {h h' : Hp} {v : Value} {xs : List α} {fp : List Nat}
theorem Own.live (o : Own E h v xs fp) : ∀ b ∈ fp, b < h.next := by
  cases o with
  | nul => simp
  | blk hg => simp; exact lt_of_get hg
  | emp hg => simp; exact lt_of_get hg
theorem Own.keep (o : Own E h v xs fp) (hk : ∀ b ∈ fp, h'.get b = h.get b) : Own E h' v xs fp := by
  cases o with
  | nul => exact .nul
  | blk hg hn hc h0 hr => exact .blk (by rw [hk _ (by simp), hg]) hn hc h0 hr
  | emp hg => exact .emp (by rw [hk _ (by simp), hg])
theorem Own.kp (o : Own E h v xs fp) (hk : Kp h h') : Own E h' v xs fp := o.keep fun b hb => hk.get b (o.live b hb)
theorem Own.len (o : Own E h v xs fp) : ∃ a c, v = .slice a xs.length c ∧ Sees E h a xs ∧ xs.length ≤ c ∧ ∀ A, a = some A → A.block ∈ fp := by
  cases o with
  | nul => exact ⟨_, _, rfl, .nul, Nat.le_refl _, fun A hA => (by cases hA)⟩
  | blk hg hn hc h0 hr =>
    subst hn
    refine ⟨_, _, rfl, ⟨fun hA => (by cases hA), fun A hA => ?_, fun A hA => (by cases hA; exact .inr rfl)⟩, hc, fun A hA => (by cases hA; simp)⟩
    cases hA
    simp only [Hp.rdn, Hp.cells, hg, Option.bind_some, Nat.zero_add]
    rw [if_pos (by simp), List.drop_zero, E.take _ _ _ (Nat.le_refl _), List.take_length]
  | emp hg =>
    refine ⟨_, _, rfl, ⟨fun hA => (by cases hA), fun A hA => ?_, fun A hA => (by cases hA; exact .inl rfl)⟩, Nat.le_refl _, fun A hA => (by cases hA; simp)⟩
    cases hA
    simp [Hp.rdn, hg]
/-- What is appended. -/
theorem Own.app (o : Own E h v xs fp) {y : Value} {ys : List α} {bytes : Nat} (hl : lenV y = some ys.length) (he : elems h E.sz ys.length y = some (E.all ys)) (hs : (2 * (xs.length + ys.length) + 1000) * bytes ≤ 2 ^ 47)
    (hn : xs.length + ys.length < 2 ^ 62) : ∃ v' h' fp', appendV h E.sz bytes v y = some (v', h') ∧ Own E h' v' (xs ++ ys) fp' ∧ Upd h h' fp fp' := by
  have hlen : (E.all ys).length = ys.length * E.sz := by simp
  cases o with
  | nul =>
    simp only [List.length_nil, Nat.zero_add] at hs hn
    by_cases h0 : ys.length = 0
    · have : ys = [] := List.length_eq_zero_iff.1 h0
      subst this
      simp only [List.length_nil, Enc.all_nil] at he hl
      exact ⟨_, _, [], by simp [appendV, hl, he], .nul, .refl⟩
    · have e : appendV h E.sz bytes (.slice none 0 0) y = some (.slice (some ⟨h.next, 0, some E.sz⟩) ys.length ys.length, h.push (.cells false (E.all ys))) := by
        simp only [appendV, hl, he, hlen, if_true, Nat.zero_add]
        rw [if_neg (by omega), if_pos ⟨hs, hn⟩]
      refine ⟨_, _, [h.next], e, .blk (r := []) (by simp [get_push_self]) rfl (Nat.le_refl _) (by omega) (by simp), ⟨by simp, fun b hb _ => by rw [get_push_ne (by omega)], fun b hb => by simp at hb; omega⟩⟩
  | blk hg hn' hc h0 hr =>
    rename_i b n c r
    subst hn'
    have hlt := lt_of_get hg
    by_cases hfit : xs.length + ys.length ≤ c
    · by_cases hy0 : ys.length = 0
      · have : ys = [] := List.length_eq_zero_iff.1 hy0
        subst this
        have e : appendV h E.sz bytes (.slice (some ⟨b, 0, some E.sz⟩) xs.length c) y = some (.slice (some ⟨b, 0, some E.sz⟩) xs.length c, h) := by
          simp only [appendV, hl, he, hlen, if_true]
          rw [if_pos hfit]
          rfl
        exact ⟨_, _, [b], e, by simpa using Own.blk hg rfl hc h0 hr, .refl⟩
      · have hm : (xs.length + ys.length) * E.sz ≤ c * E.sz := Nat.mul_le_mul_right _ hfit
        rw [Nat.add_mul] at hm
        have hr' : r.length = c * E.sz - xs.length * E.sz := by rw [hr, Nat.sub_mul]
        have hle : xs.length * E.sz ≤ c * E.sz := Nat.mul_le_mul_right _ hc
        have ho : Dx.over (E.all xs ++ r) (xs.length * E.sz) (E.all ys) = E.all (xs ++ ys) ++ r.drop (ys.length * E.sz) := by
          unfold Dx.over
          rw [E.take _ _ _ (Nat.le_refl _), List.take_length, hlen, ← List.drop_drop, E.drop _ _ _ (Nat.le_refl _)]
          simp
        have e : appendV h E.sz bytes (.slice (some ⟨b, 0, some E.sz⟩) xs.length c) y = some (.slice (some ⟨b, 0, some E.sz⟩) (xs.length + ys.length) c, h.put b (some (.cells false (E.all (xs ++ ys) ++ r.drop (ys.length * E.sz))))) := by
          simp only [appendV, hl, he, hlen, if_true]
          rw [if_pos hfit, if_neg hy0, if_pos (by simp), wr_ok hg (by simp; omega) (E.all_one ys)]
          simp only [Option.map_some, Nat.zero_add, ho]
        exact ⟨_, _, [b], e, .blk (r := r.drop (ys.length * E.sz)) (by rw [get_put_self hlt]) (by simp) hfit h0 (by rw [List.length_drop, hr', Nat.sub_mul, Nat.add_mul]; omega),
          ⟨by simp, fun k hk hn => by rw [get_put_ne (by simpa using hn)], fun k hk => .inl hk⟩⟩
    · have hm : xs.length * E.sz ≤ c * E.sz := Nat.mul_le_mul_right _ hc
      have hrd : h.rdn b 0 (xs.length * E.sz) = some (E.all xs) := by
        simp only [Hp.rdn, Hp.cells, hg, Option.bind_some, Nat.zero_add]
        rw [if_pos (by simp), List.drop_zero, E.take _ _ _ (Nat.le_refl _), List.take_length]
      have e : appendV h E.sz bytes (.slice (some ⟨b, 0, some E.sz⟩) xs.length c) y = some (.slice (some ⟨h.next, 0, some E.sz⟩) (xs.length + ys.length) (xs.length + ys.length), (h.put b none).push (.cells false (E.all xs ++ E.all ys))) := by
        simp only [appendV, hl, he, hlen, if_true]
        rw [if_neg hfit, if_pos ⟨hs, hn⟩]
        simp only [hrd, hg, E.all_one, true_and, and_true, h0, if_true]
      exact ⟨_, _, [h.next], e, .blk (r := []) (by rw [show h.next = (h.put b none).next from rfl, get_push_self]; simp) (by simp) (Nat.le_refl _) (by omega) (by simp), ⟨by simp, fun k hk hn => by
        rw [get_push_ne (by simp; omega), get_put_ne (by simpa using hn)], fun k hk => by simp at hk; omega⟩⟩
  | emp hg =>
    rename_i b
    have hlt := lt_of_get hg
    simp only [List.length_nil, Nat.zero_add] at hs hn
    by_cases h0 : ys.length = 0
    · have : ys = [] := List.length_eq_zero_iff.1 h0
      subst this
      simp only [List.length_nil, Enc.all_nil] at he hl
      exact ⟨_, _, [b], by simp [appendV, hl, he], .emp hg, .refl⟩
    · have e : appendV h E.sz bytes (.slice (some ⟨b, 0, none⟩) 0 0) y = some (.slice (some ⟨h.next, 0, some E.sz⟩) ys.length ys.length, h.push (.cells false (E.all ys))) := by
        simp only [appendV, hl, he, hlen, if_true, Nat.zero_add]
        rw [if_neg (by omega), if_pos ⟨hs, hn⟩]
        simp [Hp.rdn, hg]
      refine ⟨_, _, [h.next], e, .blk (r := []) (by simp [get_push_self]) rfl (Nat.le_refl _) (by omega) (by simp), ⟨by simp, fun b hb _ => by rw [get_push_ne (by omega)], fun b hb => by simp at hb; omega⟩⟩
end
/-- What a new row of one thing is as something that is appended. -/
theorem elems_one {α : Type} {E : Enc α} {h : Hp} {b : Nat} {x : α} {s : Option Nat} {ro : Bool} (hg : h.get b = some (.cells ro (E.enc x))) : elems h E.sz 1 (.slice (some ⟨b, 0, s⟩) 1 1) = some (E.all [x]) := by
  simp [elems, Hp.rdn, hg, E.len]
  rw [List.take_of_length_le (by simp [E.len])]
section
variable {sz b o n c : Nat} {k j m : IntKind} {lo hi mx : Int}
/-- Slices of slices. -/
@[simp] theorem sliceV_hi (h0 : 0 ≤ hi) (h1 : hi ≤ c) : sliceV sz (.slice (some ⟨b, o, some sz⟩) n c) none (some (.int k hi)) none = some (.slice (some ⟨b, o, some sz⟩) hi.toNat c) := by
  have : hi.toNat ≤ c := by omega
  simp [sliceV, bounds, asN, h0, this]
@[simp] theorem sliceV_lo (h0 : 0 ≤ lo) (h1 : lo ≤ n) (h2 : n ≤ c) : sliceV sz (.slice (some ⟨b, o, some sz⟩) n c) (some (.int k lo)) none none = some (.slice (some ⟨b, o + lo.toNat * sz, some sz⟩) (n - lo.toNat) (c - lo.toNat)) := by
  have : lo.toNat ≤ n := by omega
  simp [sliceV, bounds, asN, h0, this]
@[simp] theorem sliceV_lohi (h0 : 0 ≤ lo) (h1 : lo ≤ hi) (h2 : hi ≤ c) : sliceV sz (.slice (some ⟨b, o, some sz⟩) n c) (some (.int k lo)) (some (.int j hi)) none = some (.slice (some ⟨b, o + lo.toNat * sz, some sz⟩) (hi.toNat - lo.toNat) (c - lo.toNat)) := by
  have h3 : 0 ≤ hi := by omega
  obtain ⟨l, rfl⟩ := Int.eq_ofNat_of_zero_le h0
  obtain ⟨m, rfl⟩ := Int.eq_ofNat_of_zero_le h3
  have h4 : m ≤ c := by omega
  have h5 : l ≤ m := by omega
  simp [sliceV, bounds, asN, h4, h5]
end
def clrV (zero : List Value) (h : Hp) : Value → Option (Value × Hp)
  | .slice none _ _ => some (.tuple #[], h)
  | .slice (some a) n _ => if n = 0 then some (.tuple #[], h) else (h.wr a.block a.off (List.replicate n zero).flatten).map fun h => (.tuple #[], h)
  | _ => none
@[simp] theorem opV_clr {e : Env} {h : Hp} {z : List Value} {x : X} : opV e h (.clr z x) = clrV z h (x.ev e) := by
  simp only [opV, clrV]
  generalize x.ev e = v
  cases v <;> rfl
@[simp] theorem clrV_slice {z : List Value} {h : Hp} {a : Addr} {n c : Nat} : clrV z h (.slice (some a) n c) = if n = 0 then some (.tuple #[], h) else (h.wr a.block a.off (List.replicate n z).flatten).map fun h => (.tuple #[], h) := rfl
section
variable {α : Type} {E : Enc α} {h : Hp} {b : Nat} {A B : List α} {x y : α} {r : List Value}
theorem rdn_cells {o n : Nat} {c : List Value} (hr : h.rdn b o n = some c) : ∃ ro C, h.get b = some (.cells ro C) ∧ ∀ k, k < n → C[o + k]? = c[k]? := by
  simp only [Hp.rdn, Option.bind_eq_some_iff] at hr
  obtain ⟨l, h1, h2⟩ := hr
  unfold Hp.cells at h1
  split at h1
  · rename_i ro C hg
    cases h1
    split at h2
    · cases h2
      exact ⟨ro, _, hg, fun k hk => by rw [List.getElem?_take_of_lt hk, List.getElem?_drop]⟩
    · cases h2
  · cases h1
/-- An element of a slice that is read, by its place. -/
theorem Sees.mid {a : Option Addr} (hs : Sees E h a (A ++ x :: B)) : ∃ A0, a = some A0 ∧ h.rdn A0.block (A0.off + A.length * E.sz) E.sz = some (E.enc x) := by
  obtain ⟨A0, h1, h2⟩ := hs.at' A.length (by simp)
  refine ⟨A0, h1, ?_⟩
  rw [h2]
  simp
end
section
variable {α : Type} {E : Enc α} {T : Nat → Option Fn} {Q : Ex → Env → Hp → Prop} {k : List Fr} {e : Env} {h : Hp} {d : Option Nat} {l : List O} {v : Value} {xs : List α} {fp : List Nat}
theorem Own.app1 (o : Own E h v xs fp) (x : α) {bytes : Nat} (hs : (2 * (xs.length + 1) + 1000) * bytes ≤ 2 ^ 47) (hn : xs.length + 1 < 2 ^ 62) :
    ∃ v' h' fp', appendV (h.push (.cells false (E.enc x))) E.sz bytes v (.slice (some ⟨h.next, 0, none⟩) 1 1) = some (v', h') ∧ Own E h' v' (xs ++ [x]) fp' ∧ Upd h h' fp fp' := by
  have hk : Kp h (h.push (.cells false (E.enc x))) := (Kp.refl h).push _
  obtain ⟨v', h', fp', ha, ho, hu⟩ := (o.kp hk).app (ys := [x]) (y := .slice (some ⟨h.next, 0, none⟩) 1 1) (bytes := bytes) rfl (elems_one get_push_self) hs hn
  refine ⟨v', h', fp', ha, ho, ⟨Nat.le_trans hk.le hu.le, fun b hb hf => ?_, fun b hb => ?_⟩⟩
  · rw [hu.get b (by simp; omega) hf, get_push_ne (by omega)]
  · rcases hu.sub b hb with h1 | h1
    · exact .inl h1
    · exact .inr (Nat.le_trans hk.le h1)
/-- One thing is appended. -/
theorem GV_app1 (o : Own E h v xs fp) {x : α} {bytes : Nat} (hs : (2 * (xs.length + 1) + 1000) * bytes ≤ 2 ^ 47) (hn : xs.length + 1 < 2 ^ 62)
    (H : ∀ v' h' fp', Own E h' v' (xs ++ [x]) fp' → Upd h h' fp fp' → GO T Q l k (put e d v') h') : GV T Q (appendV (h.push (.cells false (E.enc x))) E.sz bytes v (.slice (some ⟨h.next, 0, none⟩) 1 1)) d l k e := by
  obtain ⟨v', h', fp', ha, ho, hu⟩ := o.app1 x hs hn
  rw [ha]
  exact H _ _ _ ho hu
@[simp] theorem adv_put {o : Ob} : (h.adv 1).put h.next (some o) = h.push o := Hp.ext' rfl fun b => by
  simp only [Hp.put, Hp.adv, Hp.push]
  by_cases hb : b = h.next <;> simp [hb]
/-- A row that is seen is appended. -/
theorem GV_app (o : Own E h v xs fp) {ys : List α} {a : Option Addr} {n c : Nat} (hy : Sees E h a ys) (hn' : n = ys.length) {bytes : Nat} (hs : (2 * (xs.length + ys.length) + 1000) * bytes ≤ 2 ^ 47) (hn : xs.length + ys.length < 2 ^ 62)
    (H : ∀ v' h' fp', Own E h' v' (xs ++ ys) fp' → Upd h h' fp fp' → GO T Q l k (put e d v') h') : GV T Q (appendV h E.sz bytes v (.slice a n c)) d l k e := by
  subst hn'
  obtain ⟨v', h', fp', ha, ho, hu⟩ := o.app (y := .slice a ys.length c) rfl hy.elems hs hn
  rw [ha]
  exact H _ _ _ ho hu
end
end Go.Dx

/- Stable sorting of lists: one is put in behind those that are not above it. -/
set_option linter.unusedSimpArgs false
set_option linter.unusedVariables false
namespace Go.Dx
open Go
theorem snocInd {α : Type} {motive : List α → Prop} (l : List α) (nil : motive []) (append_singleton : ∀ l x, motive l → motive (l ++ [x])) : motive l := by
  have : ∀ m : List α, motive m.reverse := by
    intro m
    induction m with
    | nil => exact nil
    | cons x m ih => rw [List.reverse_cons]; exact append_singleton _ _ ih
  have h := this l.reverse
  rwa [List.reverse_reverse] at h
section
variable {α : Type} (key : α → Int)
def insr (x : α) : List α → List α
  | [] => [x]
  | y :: ys => if key x < key y then y :: insr x ys else x :: y :: ys
def insl (x : α) (p : List α) : List α := (insr key x p.reverse).reverse
def isort (l : List α) : List α := l.foldl (fun p x => insl key x p) []
@[simp] theorem insl_nil (x : α) : insl key x [] = [x] := rfl
theorem insr_length (x : α) (p : List α) : (insr key x p).length = p.length + 1 := by
  induction p with
  | nil => rfl
  | cons y p ih =>
    simp only [insr]
    split <;> simp [ih]
@[simp] theorem insl_length (x : α) (p : List α) : (insl key x p).length = p.length + 1 := by simp [insl, insr_length]
theorem isort_snoc (l : List α) (x : α) : isort key (l ++ [x]) = insl key x (isort key l) := by simp [isort]
@[simp] theorem isort_nil : isort key ([] : List α) = [] := rfl
@[simp] theorem isort_one (x : α) : isort key [x] = [x] := rfl
@[simp] theorem isort_length (l : List α) : (isort key l).length = l.length := by
  induction l using snocInd with
  | nil => rfl
  | append_singleton l x ih => rw [isort_snoc]; simp [ih]
end
end Go.Dx

/- Stable sorting by parts: what merging by rotation leans on. -/
set_option linter.unusedSimpArgs false
set_option linter.unusedVariables false
namespace Go.Dx
open Go
section
variable {α : Type} (key : α → Int)
end
end Go.Dx

/- Words of 32 bits: what the program and the document reckon, as one. -/
set_option linter.unusedSimpArgs false
set_option linter.unusedVariables false
namespace Go.Dx
open Go
/-- How many bits a number has. -/
def lenN (n : Nat) : Nat := if n = 0 then 0 else n.log2 + 1
/-- Bits 0 ahead of the highest 1. -/
def clz (v : BitVec 32) : Nat := 32 - lenN v.toNat
/-- The halves of a product. -/
def mulI (a b : BitVec 32) (s : Bool) : Int := if s then a.toInt * b.toInt else a.toNat * b.toNat
def mulHi (a b : BitVec 32) (s : Bool) : BitVec 32 := BitVec.ofInt 32 (mulI a b s / 4294967296)
/-- A quotient, and a remainder. -/
def divQ (a b : BitVec 32) (s : Bool) : BitVec 32 := if b = 0#32 then 4294967295#32 else if s then BitVec.ofInt 32 (a.toInt.tdiv b.toInt) else a / b
def divR (a b : BitVec 32) (s : Bool) : BitVec 32 := if b = 0#32 then a else if s then BitVec.ofInt 32 (a.toInt.tmod b.toInt) else a % b
/-- Shifted right, the sign following. -/
def sar (v : BitVec 32) (n : Nat) : BitVec 32 := v.sshiftRight n
def less (a b : BitVec 32) (s : Bool) : Bool := if s then decide (a.toInt < b.toInt) else decide (a.toNat < b.toNat)
theorem wrap_i32 (v : BitVec 32) : IntKind.i32.wrap (v.toNat : Int) = v.toInt := by
  rw [BitVec.toInt_eq_toNat_cond]
  have := v.isLt
  simp [IntKind.wrap, IntKind.bits, IntKind.signed]
  split <;> omega
theorem toInt_bound (v : BitVec 32) : -2147483648 ≤ v.toInt ∧ v.toInt < 2147483648 := by
  rw [BitVec.toInt_eq_toNat_cond]
  have := v.isLt
  split <;> omega
/- Tests that are left open: each way by itself, with what it knows. -/
section
variable (a b : Int)
@[simp] theorem cvt_i32_u32 (v : BitVec 32) : cvt .i32 (u32 v) = some (.int .i32 v.toInt) := by
  simp only [cvt, u32]
  rw [← wrap_i32]
@[simp] theorem cvt_i64_i32 (v : BitVec 32) : cvt .i64 (.int .i32 v.toInt) = some (.int .i64 v.toInt) := by
  have := toInt_bound v
  have h : IntKind.i64.wrap v.toInt = v.toInt := wrap_i64 (by omega) (by omega)
  simp only [cvt, h]
@[simp] theorem lss_i32 : binV .lss (.int .i32 a) (.int .i32 b) = some (.bool (decide (a < b))) := rfl
@[simp] theorem leq_i32 : binV .leq (.int .i32 a) (.int .i32 b) = some (.bool (decide (a ≤ b))) := rfl
@[simp] theorem gtr_i32 : binV .gtr (.int .i32 a) (.int .i32 b) = some (.bool (decide (b < a))) := rfl
@[simp] theorem geq_i32 : binV .geq (.int .i32 a) (.int .i32 b) = some (.bool (decide (b ≤ a))) := rfl
theorem and_i64 : binV .and (.int .i64 a) (.int .i64 b) = some (.int .i64 (IntKind.i64.wrap (BitVec.ofInt 64 a &&& BitVec.ofInt 64 b).toNat)) := rfl
end
section
variable (a b : BitVec 32)
@[simp] theorem wrap64_toInt : IntKind.i64.wrap a.toInt = a.toInt := by
  have := toInt_bound a
  exact wrap_i64 (by omega) (by omega)
@[simp] theorem wrap64_nat : IntKind.i64.wrap (a.toNat : Int) = a.toNat := by
  have := a.isLt
  exact wrap_i64 (by omega) (by omega)
end
end Go.Dx

/- Small operations: what one does, a row does, what it asks and writes. -/
set_option linter.unusedSimpArgs false
set_option linter.unusedVariables false
namespace Go.Dx
open Go
structure IOp where
  k : Int
  d : Int
  a : Int
  b : Int
  imm : BitVec 32
instance (x y : IOp) : Decidable (x = y) :=
  if h : x.k = y.k ∧ x.d = y.d ∧ x.a = y.a ∧ x.b = y.b ∧ x.imm = y.imm then .isTrue (by cases x; cases y; simp_all) else .isFalse (fun e => h (by subst e; simp))
/-- Is it right? -/
def IOp.ok (o : IOp) : Prop := (0 ≤ o.d ∧ o.d < 40) ∧ (0 ≤ o.a ∧ o.a < 40) ∧ (0 ≤ o.b ∧ o.b < 40) ∧ 0 ≤ o.k ∧ o.k ≤ 22
instance (o : IOp) : Decidable o.ok := by unfold IOp.ok; exact inferInstance
def b1 (t : Bool) : BitVec 32 := if t then 1#32 else 0#32
/-- The number that one of one cell gives. -/
def iof (o : IOp) (a b : BitVec 32) : BitVec 32 :=
  if o.k = 1 then o.imm else if o.k = 3 then a + b else if o.k = 4 then a - b else if o.k = 5 then a &&& b else if o.k = 6 then a ||| b
  else if o.k = 7 then a ^^^ b else if o.k = 8 then ~~~ (a ||| b) else if o.k = 9 then a <<< (b.toNat % 32) else if o.k = 10 then a >>> (b.toNat % 32)
  else if o.k = 11 then sar a (b.toNat % 32) else if o.k = 12 then b1 (less a b true) else if o.k = 13 then b1 (less a b false) else if o.k = 14 then a * b
  else if o.k = 15 then BitVec.ofNat 32 (clz a) else if o.k = 16 then BitVec.ofNat 32 (clz (~~~ a)) else a
abbrev Regs := List (BitVec 32)
def rg (R : Regs) (i : Int) : BitVec 32 := R.getD i.toNat 0#32
def ido (R : Regs) (o : IOp) : Regs :=
  if o.k = 17 ∨ o.k = 18 then (R.set 32 (mulHi (rg R o.a) (rg R o.b) (o.k = 17))).set 33 (rg R o.a * rg R o.b)
  else if o.k = 19 ∨ o.k = 20 then (R.set 33 (divQ (rg R o.a) (rg R o.b) (o.k = 19))).set 32 (divR (rg R o.a) (rg R o.b) (o.k = 19))
  else if o.k = 0 ∨ o.d = 0 ∨ (o.k = 21 ∧ rg R o.b ≠ 0#32) ∨ (o.k = 22 ∧ rg R o.b = 0#32) then R
  else R.set o.d.toNat (iof o (rg R o.a) (rg R o.b))
def irun (R : Regs) (L : List IOp) : Regs := L.foldl ido R
def oks (L : List IOp) : Prop := ∀ o ∈ L, o.ok
instance (L : List IOp) : Decidable (oks L) := by unfold oks; exact inferInstance
@[simp] theorem ido_length (R : Regs) (o : IOp) : (ido R o).length = R.length := by
  unfold ido
  split
  · simp
  · split
    · simp
    · split <;> simp
@[simp] theorem irun_length (R : Regs) (L : List IOp) : (irun R L).length = R.length := by
  unfold irun
  induction L generalizing R with
  | nil => rfl
  | cons o L ih => rw [List.foldl_cons, ih, ido_length]
@[simp] theorem irun_nil (R : Regs) : irun R [] = R := rfl
@[simp] theorem irun_cons (R : Regs) (o : IOp) (L : List IOp) : irun R (o :: L) = irun (ido R o) L := rfl
/-- Cells, rising, each once. -/
def srtd (l : List Int) : List Int := ((List.range 40).map Int.ofNat).filter fun c => decide (c ∈ l)
def ireads (o : IOp) : List Int :=
  if ¬ o.ok ∨ o.k = 0 ∨ o.k = 1 then [] else if o.k = 2 ∨ o.k = 15 ∨ o.k = 16 then srtd [o.a] else if o.k = 21 ∨ o.k = 22 then srtd [o.a, o.b, o.d] else srtd [o.a, o.b]
def iwrites (o : IOp) : List Int :=
  if ¬ o.ok ∨ o.k = 0 then [] else if 17 ≤ o.k ∧ o.k ≤ 20 then [32, 33] else if o.d = 0 then [] else [o.d]
end Go.Dx

/- Rows of small operations made shorter: what is dead, what is known. -/
set_option linter.unusedSimpArgs false
set_option linter.unusedVariables false
namespace Go.Dx
open Go
/-- It writes in any case. -/
def isure (o : IOp) : Bool := decide (o.k ≠ 21) && decide (o.k ≠ 22)
abbrev Live := Int → Bool
def lkeep (o : IOp) (lv : Live) : Live := fun c => if c ∈ ireads o then true else if c ∈ iwrites o then lv c && !isure o else lv c
def lany (o : IOp) (lv : Live) : Bool := (iwrites o).any lv
/-- One more operation ahead. -/
def dstep (o : IOp) (s : Live × List IOp) : Live × List IOp := if lany o s.1 = true then (lkeep o s.1, o :: s.2) else s
def live0 : Live := fun c => decide (0 ≤ c ∧ c < 34)
def drun (L : List IOp) : Live × List IOp := L.foldr dstep (live0, [])
@[simp] theorem drun_nil : drun [] = (live0, []) := rfl
@[simp] theorem drun_cons (o : IOp) (L : List IOp) : drun (o :: L) = dstep o (drun L) := rfl
/-- The document's look at it: which cells are asked behind a row; does each operation write one that is? -/
def ask0 : Live := fun c => decide (1 ≤ c ∧ c < 34)
def astep (o : IOp) (a : Live) : Live := fun c => if c ∈ ireads o then true else if c ∈ iwrites o then false else a c
def asks (L : List IOp) : Live := L.foldr astep ask0
@[simp] theorem asks_cons (o : IOp) (L : List IOp) : asks (o :: L) = astep o (asks L) := rfl
/-- What is known of cells. -/
structure Facts where
  is : Live
  v : Regs
structure FI (f : Facts) (R : Regs) : Prop where
  len : f.v.length = 40
  eq : ∀ c, 0 ≤ c → c < 40 → f.is c = true → rg f.v c = rg R c
/-- What a row leaves in cells 0 to 33. -/
def leaves (R : Regs) (L : List IOp) : Regs := (irun R L).take 34
end Go.Dx
