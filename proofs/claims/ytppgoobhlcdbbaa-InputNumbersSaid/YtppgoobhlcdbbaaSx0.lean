/- Runs of code with the fuel hidden: what holds behind them, rule by rule. -/
import Derived.Test.YtppgoobhlcdbbaaDx17
set_option linter.unusedSimpArgs false
set_option linter.unusedVariables false
namespace Go.Dx

/-- More is known of calls. -/
def Leq (cl cl' : Nat → Sp) : Prop := ∀ f args h r, cl f args h = some r → cl' f args h = some r
section
variable {cl cl' : Nat → Sp} {e e' : Env} {h h' : Hp}

theorem act_mono (hl : Leq cl cl') {op : Op} {r : Value × Hp} (hr : act cl e h op = some r) : act cl' e h op = some r := by
  unfold act at hr ⊢
  split at hr
  · exact hl _ _ _ _ hr
  · split at hr
    · rename_i h0
      split at hr
      · rename_i h1; simp only [h0, h1, if_true]; exact hl _ _ _ _ hr
      · cases hr
    · cases hr
  · exact hr
theorem runO_mono (hl : Leq cl cl') {o : O} {r : Env × Hp} (hr : runO cl o e h = some r) : runO cl' o e h = some r := by
  unfold runO at hr ⊢
  split at hr
  · cases hr
  · exact hr
  · obtain ⟨q, h1, h2⟩ := Option.map_eq_some_iff.1 hr
    rw [act_mono hl h1]
    exact congrArg some h2
theorem runOps_mono (hl : Leq cl cl') : ∀ {l : List O} {e : Env} {h : Hp} {r : Env × Hp}, runOps cl l e h = some r → runOps cl' l e h = some r := by
  intro l
  induction l with
  | nil => intro e h r hr; exact hr
  | cons o l ih =>
    intro e h r hr
    obtain ⟨q, h1, h2⟩ := Option.bind_eq_some_iff.1 hr
    exact Option.bind_eq_some_iff.2 ⟨q, runO_mono hl h1, ih h2⟩
theorem runIt_mono (hl : Leq cl cl') {base : Nat} {o : It} {r : Env × Hp} (hr : runIt cl base e h o = some r) : runIt cl' base e h o = some r := by
  cases o with
  | op i o => exact runO_mono hl hr
  | al i j o => exact hr
  | re i o => exact hr
theorem runIts_mono (hl : Leq cl cl') {base : Nat} : ∀ {l : List It} {e : Env} {h : Hp} {r : Env × Hp}, runIts cl base l e h = some r → runIts cl' base l e h = some r := by
  intro l
  induction l with
  | nil => intro e h r hr; exact hr
  | cons o l ih =>
    intro e h r hr
    obtain ⟨q, h1, h2⟩ := Option.bind_eq_some_iff.1 hr
    exact Option.bind_eq_some_iff.2 ⟨q, runIt_mono hl h1, ih h2⟩
theorem runC_mono (hl : Leq cl cl') (n : Nat) : ∀ (c : C) (e : Env) (h : Hp) (r : Ex × Env × Hp), runC cl n c e h = some r → runC cl' (n + 1) c e h = some r := by
  induction n with
  | zero => intro c e h r hr; simp [runC] at hr
  | succ n ih =>
    intro c e h r hr
    cases c with
    | skip => simpa only [runC] using hr
    | exit id => simpa only [runC] using hr
    | ret => simpa only [runC] using hr
    | ops l =>
      simp only [runC] at hr ⊢
      obtain ⟨q, h1, h2⟩ := Option.map_eq_some_iff.1 hr
      rw [runOps_mono hl h1]
      exact congrArg some h2
    | any k l =>
      simp only [runC] at hr ⊢
      obtain ⟨q, h1, h2⟩ := Option.map_eq_some_iff.1 hr
      rw [runIts_mono hl h1]
      exact congrArg some h2
    | cond c a b =>
      rw [runC] at hr ⊢
      split at hr
      · rename_i t _
        cases t
        · simp only [Bool.false_eq_true, if_false] at hr ⊢; exact ih _ _ _ _ hr
        · simp only [if_true] at hr ⊢; exact ih _ _ _ _ hr
      · cases hr
    | seq a b =>
      rw [runC] at hr ⊢
      cases hq : runC cl n a e h with
      | none => rw [hq] at hr; cases hr
      | some q =>
        rw [ih _ _ _ _ hq]
        obtain ⟨x, e1, h1⟩ := q
        rw [hq] at hr
        cases x with
        | n => exact ih _ _ _ _ hr
        | x id => exact hr
        | r => exact hr
    | block id a =>
      rw [runC] at hr ⊢
      cases hq : runC cl n a e h with
      | none => rw [hq] at hr; cases hr
      | some q =>
        rw [ih _ _ _ _ hq]
        obtain ⟨x, e1, h1⟩ := q
        rw [hq] at hr
        cases x <;> exact hr
    | loop a =>
      rw [runC] at hr ⊢
      cases hq : runC cl n a e h with
      | none => rw [hq] at hr; cases hr
      | some q =>
        rw [ih _ _ _ _ hq]
        obtain ⟨x, e1, h1⟩ := q
        rw [hq] at hr
        cases x with
        | n => exact ih _ _ _ _ hr
        | x id => exact hr
        | r => exact hr
theorem callN_succ {T : Nat → Option Fn} (n : Nat) : Leq (callN T n) (callN T (n + 1)) := by
  induction n with
  | zero => intro f args h r hr; simp [callN] at hr
  | succ n ih =>
    intro f args h r hr
    cases hf : T f with
    | none => simp [callN, hf] at hr
    | some x =>
      cases x with
      | spec s => simp only [callN, hf] at hr ⊢; exact hr
      | code F =>
        rw [callN, hf] at hr ⊢
        simp only [callF] at hr ⊢
        cases hq : runC (callN T n) n F.body (envOf args) h with
        | none => rw [hq] at hr; cases hr
        | some q =>
          rw [runC_mono ih n _ _ _ _ hq]
          rw [hq] at hr
          exact hr
theorem Leq.refl (cl : Nat → Sp) : Leq cl cl := fun _ _ _ _ h => h
theorem callN_mono {T : Nat → Option Fn} {m n : Nat} (hm : m ≤ n) : Leq (callN T m) (callN T n) := by
  induction n with
  | zero => rw [Nat.le_zero.1 hm]; exact .refl _
  | succ n ih =>
    rcases Nat.lt_or_ge m (n + 1) with hl | hl
    · exact fun f args h r hr => callN_succ n f args h r (ih (by omega) f args h r hr)
    · rw [show m = n + 1 by omega]; exact .refl _
theorem runC_cl (hl : Leq cl cl') (n : Nat) : ∀ (c : C) (e : Env) (h : Hp) (r : Ex × Env × Hp), runC cl n c e h = some r → runC cl' n c e h = some r := by
  induction n with
  | zero => intro c e h r hr; simp [runC] at hr
  | succ n ih =>
    intro c e h r hr
    cases c with
    | skip => simpa only [runC] using hr
    | exit id => simpa only [runC] using hr
    | ret => simpa only [runC] using hr
    | ops l =>
      simp only [runC] at hr ⊢
      obtain ⟨q, h1, h2⟩ := Option.map_eq_some_iff.1 hr
      rw [runOps_mono hl h1]
      exact congrArg some h2
    | any k l =>
      simp only [runC] at hr ⊢
      obtain ⟨q, h1, h2⟩ := Option.map_eq_some_iff.1 hr
      rw [runIts_mono hl h1]
      exact congrArg some h2
    | cond c a b =>
      rw [runC] at hr ⊢
      split at hr
      · rename_i t _
        cases t
        · simp only [Bool.false_eq_true, if_false] at hr ⊢; exact ih _ _ _ _ hr
        · simp only [if_true] at hr ⊢; exact ih _ _ _ _ hr
      · cases hr
    | seq a b =>
      rw [runC] at hr ⊢
      cases hq : runC cl n a e h with
      | none => rw [hq] at hr; cases hr
      | some q =>
        rw [ih _ _ _ _ hq]
        obtain ⟨x, e1, h1⟩ := q
        rw [hq] at hr
        cases x with
        | n => exact ih _ _ _ _ hr
        | x id => exact hr
        | r => exact hr
    | block id a =>
      rw [runC] at hr ⊢
      cases hq : runC cl n a e h with
      | none => rw [hq] at hr; cases hr
      | some q =>
        rw [ih _ _ _ _ hq]
        obtain ⟨x, e1, h1⟩ := q
        rw [hq] at hr
        cases x <;> exact hr
    | loop a =>
      rw [runC] at hr ⊢
      cases hq : runC cl n a e h with
      | none => rw [hq] at hr; cases hr
      | some q =>
        rw [ih _ _ _ _ hq]
        obtain ⟨x, e1, h1⟩ := q
        rw [hq] at hr
        cases x with
        | n => exact ih _ _ _ _ hr
        | x id => exact hr
        | r => exact hr
theorem runC_more {T : Nat → Option Fn} {m m' n n' : Nat} (hm : m ≤ m') (hn : n ≤ n') {c : C} {e : Env} {h : Hp} {r : Ex × Env × Hp} (hr : runC (callN T m) n c e h = some r) : runC (callN T m') n' c e h = some r := by
  refine runC_cl (callN_mono hm) n' _ _ _ _ ?_
  induction n' with
  | zero => rw [Nat.le_zero.1 hn] at hr; exact hr
  | succ n' ih =>
    rcases Nat.lt_or_ge n (n' + 1) with hl | hl
    · exact runC_mono (.refl _) n' _ _ _ _ (ih (by omega))
    · rw [show n' + 1 = n by omega]; exact hr
end

section
variable (T : Nat → Option Fn)
def W (c : C) (e : Env) (h : Hp) (Q : Ex → Env → Hp → Prop) : Prop := ∃ m n x e' h', runC (callN T m) n c e h = some (x, e', h') ∧ Q x e' h'
def WO (l : List O) (e : Env) (h : Hp) (Q : Env → Hp → Prop) : Prop := ∃ n e' h', runOps (callN T n) l e h = some (e', h') ∧ Q e' h'
def WI (base : Nat) (l : List It) (e : Env) (h : Hp) (Q : Env → Hp → Prop) : Prop := ∃ n e' h', runIts (callN T n) base l e h = some (e', h') ∧ Q e' h'
def WC (f : Nat) (args : List Value) (h : Hp) (Q : Value → Hp → Prop) : Prop := ∃ n v h', callN T n f args h = some (v, h') ∧ Q v h'
end

/-- What a piece of code leaves goes on. -/
def Ex.go (Q : Ex → Env → Hp → Prop) (K : Env → Hp → Prop) : Ex → Env → Hp → Prop
  | .n, e, h => K e h
  | .x i, e, h => Q (.x i) e h
  | .r, e, h => Q .r e h
def Ex.out (id : Nat) (Q : Ex → Env → Hp → Prop) : Ex → Env → Hp → Prop
  | .x j, e, h => if j = id then Q .n e h else Q (.x j) e h
  | .n, e, h => Q .n e h
  | .r, e, h => Q .r e h
def isC : Op → Bool
  | .call .. | .callv .. => true
  | _ => false

section
variable {T : Nat → Option Fn} {e : Env} {h : Hp} {Q : Ex → Env → Hp → Prop} {K : Env → Hp → Prop}

theorem W.mono {c : C} {Q' : Ex → Env → Hp → Prop} (hw : W T c e h Q) (hq : ∀ x e h, Q x e h → Q' x e h) : W T c e h Q' :=
  let ⟨m, n, x, e', h', h1, h2⟩ := hw; ⟨m, n, x, e', h', h1, hq _ _ _ h2⟩
theorem WO.mono {l : List O} {K' : Env → Hp → Prop} (hw : WO T l e h K) (hq : ∀ e h, K e h → K' e h) : WO T l e h K' :=
  let ⟨n, e', h', h1, h2⟩ := hw; ⟨n, e', h', h1, hq _ _ h2⟩
theorem WC.mono {f : Nat} {args : List Value} {q q' : Value → Hp → Prop} (hw : WC T f args h q) (hq : ∀ v h, q v h → q' v h) : WC T f args h q' :=
  let ⟨n, e', h', h1, h2⟩ := hw; ⟨n, e', h', h1, hq _ _ h2⟩

theorem W_skip : W T .skip e h Q ↔ Q .n e h := ⟨fun ⟨m, n, x, e', h', h1, h2⟩ => by cases n <;> simp [runC] at h1; obtain ⟨rfl, rfl, rfl⟩ := h1; exact h2, fun hq => ⟨1, 1, _, _, _, rfl, hq⟩⟩
theorem W_ret : W T .ret e h Q ↔ Q .r e h := ⟨fun ⟨m, n, x, e', h', h1, h2⟩ => by cases n <;> simp [runC] at h1; obtain ⟨rfl, rfl, rfl⟩ := h1; exact h2, fun hq => ⟨1, 1, _, _, _, rfl, hq⟩⟩
theorem W_exit {id : Nat} : W T (.exit id) e h Q ↔ Q (.x id) e h := ⟨fun ⟨m, n, x, e', h', h1, h2⟩ => by cases n <;> simp [runC] at h1; obtain ⟨rfl, rfl, rfl⟩ := h1; exact h2, fun hq => ⟨1, 1, _, _, _, rfl, hq⟩⟩
theorem W_ops {l : List O} : W T (.ops l) e h Q ↔ WO T l e h (Q .n) := by
  constructor
  · rintro ⟨m, n, x, e', h', h1, h2⟩
    cases n with
    | zero => simp [runC] at h1
    | succ n =>
      simp only [runC] at h1
      obtain ⟨q, h3, h4⟩ := Option.map_eq_some_iff.1 h1
      cases h4
      exact ⟨m, _, _, h3, h2⟩
  · rintro ⟨m, e', h', h1, h2⟩
    refine ⟨m, 1, _, _, _, ?_, h2⟩
    simp only [runC, h1]
    rfl
theorem W_any {k : Nat} {l : List It} : W T (.any k l) e h Q ↔ WI T h.next l e (h.adv k) (Q .n) := by
  constructor
  · rintro ⟨m, n, x, e', h', h1, h2⟩
    cases n with
    | zero => simp [runC] at h1
    | succ n =>
      simp only [runC] at h1
      obtain ⟨q, h3, h4⟩ := Option.map_eq_some_iff.1 h1
      cases h4
      exact ⟨m, _, _, h3, h2⟩
  · rintro ⟨m, e', h', h1, h2⟩
    refine ⟨m, 1, _, _, _, ?_, h2⟩
    simp only [runC, h1]
    rfl
theorem W_seq {a b : C} : W T (.seq a b) e h Q ↔ W T a e h (Ex.go Q fun e h => W T b e h Q) := by
  constructor
  · rintro ⟨m, n, x, e', h', h1, h2⟩
    cases n with
    | zero => simp [runC] at h1
    | succ n =>
      rw [runC] at h1
      cases hq : runC (callN T m) n a e h with
      | none => rw [hq] at h1; cases h1
      | some q =>
        obtain ⟨y, e1, h3⟩ := q
        rw [hq] at h1
        cases y with
        | n => exact ⟨m, n, _, _, _, hq, m, n, x, e', h', h1, h2⟩
        | x id => cases h1; exact ⟨m, n, _, _, _, hq, h2⟩
        | r => cases h1; exact ⟨m, n, _, _, _, hq, h2⟩
  · rintro ⟨m, n, x, e', h', h1, h2⟩
    cases x with
    | n =>
      obtain ⟨m', n', y, e1, h3, h4, h5⟩ := h2
      refine ⟨max m m', max n n' + 1, y, e1, h3, ?_, h5⟩
      rw [runC, runC_more (Nat.le_max_left m m') (Nat.le_max_left n n') h1]
      exact runC_more (Nat.le_max_right m m') (Nat.le_max_right n n') h4
    | x id => exact ⟨m, n + 1, _, _, _, by rw [runC, h1], h2⟩
    | r => exact ⟨m, n + 1, _, _, _, by rw [runC, h1], h2⟩
theorem W_cond {c : X} {a b : C} {t : Bool} (hc : c.ev e = .bool t) : W T (.cond c a b) e h Q ↔ if t then W T a e h Q else W T b e h Q := by
  constructor
  · rintro ⟨m, n, x, e', h', h1, h2⟩
    cases n with
    | zero => simp [runC] at h1
    | succ n =>
      rw [runC, hc] at h1
      cases t
      · exact ⟨m, n, _, _, _, h1, h2⟩
      · exact ⟨m, n, _, _, _, h1, h2⟩
  · intro hw
    cases t
    · obtain ⟨m, n, x, e', h', h1, h2⟩ := hw
      exact ⟨m, n + 1, _, _, _, by rw [runC, hc]; exact h1, h2⟩
    · obtain ⟨m, n, x, e', h', h1, h2⟩ := hw
      exact ⟨m, n + 1, _, _, _, by rw [runC, hc]; exact h1, h2⟩
theorem W_block {id : Nat} {a : C} : W T (.block id a) e h Q ↔ W T a e h (Ex.out id Q) := by
  constructor
  · rintro ⟨m, n, x, e', h', h1, h2⟩
    cases n with
    | zero => simp [runC] at h1
    | succ n =>
      rw [runC] at h1
      cases hq : runC (callN T m) n a e h with
      | none => rw [hq] at h1; cases h1
      | some q =>
        obtain ⟨y, e1, h3⟩ := q
        rw [hq] at h1
        refine ⟨m, n, y, e1, h3, hq, ?_⟩
        cases y with
        | n => cases h1; exact h2
        | r => cases h1; exact h2
        | x j =>
          simp only [] at h1
          simp only [Ex.out]
          split at h1
          · rename_i hj; cases h1; rw [if_pos hj]; exact h2
          · rename_i hj; cases h1; rw [if_neg hj]; exact h2
  · rintro ⟨m, n, x, e', h', h1, h2⟩
    cases x with
    | n => exact ⟨m, n + 1, .n, e', h', by rw [runC, h1], h2⟩
    | r => exact ⟨m, n + 1, .r, e', h', by rw [runC, h1], h2⟩
    | x j =>
      simp only [Ex.out] at h2
      split at h2
      · rename_i hj; exact ⟨m, n + 1, .n, e', h', by rw [runC, h1]; simp [hj], h2⟩
      · rename_i hj; exact ⟨m, n + 1, .x j, e', h', by rw [runC, h1]; simp [hj], h2⟩
theorem W_loop {a : C} : W T (.loop a) e h Q ↔ W T a e h (Ex.go Q fun e h => W T (.loop a) e h Q) := by
  constructor
  · rintro ⟨m, n, x, e', h', h1, h2⟩
    cases n with
    | zero => simp [runC] at h1
    | succ n =>
      rw [runC] at h1
      cases hq : runC (callN T m) n a e h with
      | none => rw [hq] at h1; cases h1
      | some q =>
        obtain ⟨y, e1, h3⟩ := q
        rw [hq] at h1
        cases y with
        | n => exact ⟨m, n, _, _, _, hq, m, n, x, e', h', h1, h2⟩
        | x id => cases h1; exact ⟨m, n, _, _, _, hq, h2⟩
        | r => cases h1; exact ⟨m, n, _, _, _, hq, h2⟩
  · rintro ⟨m, n, x, e', h', h1, h2⟩
    cases x with
    | n =>
      obtain ⟨m', n', y, e1, h3, h4, h5⟩ := h2
      refine ⟨max m m', max n n' + 1, y, e1, h3, ?_, h5⟩
      rw [runC, runC_more (Nat.le_max_left m m') (Nat.le_max_left n n') h1]
      exact runC_more (Nat.le_max_right m m') (Nat.le_max_right n n') h4
    | x id => exact ⟨m, n + 1, _, _, _, by rw [runC, h1], h2⟩
    | r => exact ⟨m, n + 1, _, _, _, by rw [runC, h1], h2⟩
/-- A loop, by what holds at its head and a number that goes down. -/
theorem W_loop_inv {a : C} (I : Nat → Env → Hp → Prop) (step : ∀ k e h, I k e h → W T a e h (Ex.go Q fun e h => ∃ j, j < k ∧ I j e h)) : ∀ k e h, I k e h → W T (.loop a) e h Q := by
  intro k
  induction k using Nat.strongRecOn with
  | ind k ih =>
    intro e h hI
    refine W_loop.2 ((step k e h hI).mono fun x e h hq => ?_)
    cases x with
    | n => obtain ⟨j, hj, hI⟩ := hq; exact ih j hj e h hI
    | x id => exact hq
    | r => exact hq
theorem WO_nil : WO T [] e h K ↔ K e h := ⟨fun ⟨n, e', h', h1, h2⟩ => by cases h1; exact h2, fun hk => ⟨0, _, _, rfl, hk⟩⟩
theorem WO_cons {o : O} {l : List O} : WO T (o :: l) e h K ↔ ∃ n e' h', runO (callN T n) o e h = some (e', h') ∧ WO T l e' h' K := by
  constructor
  · rintro ⟨n, e', h', h1, h2⟩
    obtain ⟨q, h3, h4⟩ := Option.bind_eq_some_iff.1 h1
    exact ⟨n, _, _, h3, n, e', h', h4, h2⟩
  · rintro ⟨n, e1, h1, h3, m, e', h', h4, h5⟩
    exact ⟨max n m, e', h', Option.bind_eq_some_iff.2 ⟨(e1, h1), runO_mono (callN_mono (Nat.le_max_left _ _)) h3, runOps_mono (callN_mono (Nat.le_max_right _ _)) h4⟩, h5⟩
theorem WO_op {d : Option Nat} {op : Op} {l : List O} (hop : isC op = false) : WO T (⟨d, none, op⟩ :: l) e h K ↔ ∃ v h', opV e h op = some (v, h') ∧ WO T l (put e d v) h' K := by
  have hact : ∀ cl, act cl e h op = opV e h op := fun cl => by cases op <;> first | rfl | (simp [isC] at hop)
  rw [WO_cons]
  constructor
  · rintro ⟨n, e', h', h1, h2⟩
    simp only [runO, gd, hact] at h1
    obtain ⟨r, h3, h4⟩ := Option.map_eq_some_iff.1 h1
    cases h4
    exact ⟨_, _, h3, h2⟩
  · rintro ⟨v, h', h1, h2⟩
    exact ⟨0, _, _, by simp only [runO, gd, hact, h1, Option.map_some], h2⟩
theorem WO_gd {d : Option Nat} {t : Nat} {want b : Bool} {op : Op} {l : List O} (ht : e t = .bool b) :
    WO T (⟨d, some (t, want), op⟩ :: l) e h K ↔ if b = want then WO T (⟨d, none, op⟩ :: l) e h K else WO T l (put e d undef) h K := by
  rw [WO_cons, WO_cons]
  simp only [runO, gd, ht]
  cases b <;> cases want <;> simp
  · exact ⟨fun ⟨_, _, ⟨h1, h2⟩, h3⟩ => by subst h1 h2; exact h3, fun hk => ⟨_, _, ⟨rfl, rfl⟩, hk⟩⟩
  · exact ⟨fun ⟨_, _, ⟨h1, h2⟩, h3⟩ => by subst h1 h2; exact h3, fun hk => ⟨_, _, ⟨rfl, rfl⟩, hk⟩⟩
theorem WO_call {d : Option Nat} {f : Nat} {xs : List X} {l : List O} : WO T (⟨d, none, .call f xs⟩ :: l) e h K ↔ WC T f (evs e xs) h fun v h => WO T l (put e d v) h K := by
  rw [WO_cons]
  constructor
  · rintro ⟨n, e', h', h1, h2⟩
    simp only [runO, gd, act] at h1
    obtain ⟨r, h3, h4⟩ := Option.map_eq_some_iff.1 h1
    cases h4
    exact ⟨n, _, _, h3, h2⟩
  · rintro ⟨n, v, h', h1, h2⟩
    exact ⟨n, _, _, by simp only [runO, gd, act, h1, Option.map_some], h2⟩
/-- A function of which the code is known. -/
theorem WC_code {f : Nat} {F : F} {args : List Value} {q : Value → Hp → Prop} (hf : T f = some (.code F)) : WC T f args h q ↔ W T F.body (envOf args) h fun x e h' => match x with
    | .x _ => False
    | _ => ∃ v, resV e h' F.res = some v ∧ q v (dropB h.next e h' F.drop) := by
  constructor
  · rintro ⟨n, v, h', h1, h2⟩
    cases n with
    | zero => simp [callN] at h1
    | succ n =>
      rw [callN, hf] at h1
      simp only [callF] at h1
      split at h1
      · rename_i hrun
        obtain ⟨u, h3, h4⟩ := Option.map_eq_some_iff.1 h1
        cases h4
        exact ⟨n, n, _, _, _, hrun, _, h3, h2⟩
      · rename_i hrun
        obtain ⟨u, h3, h4⟩ := Option.map_eq_some_iff.1 h1
        cases h4
        exact ⟨n, n, _, _, _, hrun, _, h3, h2⟩
      · cases h1
  · rintro ⟨m, n, x, e', h', h1, h2⟩
    have h3 := runC_more (Nat.le_max_left m n) (Nat.le_max_right m n) h1
    cases x with
    | x id => exact h2.elim
    | n => obtain ⟨v, h4, h5⟩ := h2; exact ⟨max m n + 1, _, _, by rw [callN, hf]; simp only [callF, h3, h4, Option.map_some], h5⟩
    | r => obtain ⟨v, h4, h5⟩ := h2; exact ⟨max m n + 1, _, _, by rw [callN, hf]; simp only [callF, h3, h4, Option.map_some], h5⟩
end
end Go.Dx
