/- Tables of functions, one by one. -/
import Derived.Test.YtppgoobhlcdbbaaSx5
set_option linter.unusedSimpArgs false
set_option linter.unusedVariables false
namespace Go.Dx
open Go

def ins (n : Nat) (x : Fn) (T : Nat → Option Fn) : Nat → Option Fn := fun k => if k = n then some x else T k
section
variable {P : Program} {any : Nat → Array Oper → Option (Nat × List It)} {T : Nat → Option Fn} {n : Nat}
theorem tab_none : TabOK P any fun _ => none := fun f x h => by cases h
theorem tab_ins {F : F} (hc : compF P any n = some (F.body, F.res)) (hT : TabOK P any T) : TabOK P any (ins n (.code F) T) := fun f x h => by
  unfold ins at h
  split at h
  · rename_i e; subst e; cases h; exact hc
  · exact hT f x h
theorem tab_spec {s : Sp} (hc : SpecOK P n s) (hT : TabOK P any T) : TabOK P any (ins n (.spec s) T) := fun f x h => by
  unfold ins at h
  split at h
  · rename_i e; subst e; cases h; exact hc
  · exact hT f x h
end
section
variable {T : Nat → Option Fn} {Q : Ex → Env → Hp → Prop} {k : List Fr} {e : Env} {h : Hp} {a : C}
@[simp] theorem GR_loop_n : GR T Q (.loop a :: k) .n e h ↔ G T Q (.loop a) k e h := Iff.rfl
@[simp] theorem GR_loop_x {j : Nat} : GR T Q (.loop a :: k) (.x j) e h ↔ GR T Q k (.x j) e h := Iff.rfl
@[simp] theorem GR_loop_r : GR T Q (.loop a :: k) .r e h ↔ GR T Q k .r e h := Iff.rfl
theorem Ex.lo_eq : Ex.go (GR T Q k) (fun e h => W T (.loop a) e h (GR T Q k)) = GR T Q (.loop a :: k) := by
  funext x e h; cases x <;> rfl
theorem G_unf {c c' : C} (hc : c = c') : ∀ (T : Nat → Option Fn) (Q : Ex → Env → Hp → Prop) (k : List Fr) (e : Env) (h : Hp), G T Q c k e h ↔ G T Q c' k e h := by
  subst hc
  exact fun _ _ _ _ _ => Iff.rfl
/-- A loop's next round. -/
theorem G_round : G T Q (.loop a) k e h ↔ G T Q a (.loop a :: k) e h := by
  unfold G; rw [W_loop, Ex.lo_eq]
/-- A loop: what holds ahead of each round, with what gets less. -/
theorem G_loop (I : Nat → Env → Hp → Prop) (step : ∀ n, (∀ m, m < n → ∀ e h, I m e h → G T Q (.loop a) k e h) → ∀ e h, I n e h → G T Q a (.loop a :: k) e h) (n : Nat) (e : Env) (h : Hp) (hi : I n e h) : G T Q (.loop a) k e h := by
  induction n using Nat.strongRecOn generalizing e h with
  | _ n ih => exact G_round.2 (step n (fun m hm e h hi => ih m hm e h hi) e h hi)
end
section
variable {T : Nat → Option Fn} {Q : Ex → Env → Hp → Prop} {k : List Fr} {e : Env} {h : Hp} {K : Env → Hp → Prop}
/-- A function value that is called. -/
def callv (T : Nat → Option Fn) (args : List Value) (h : Hp) (q : Value → Hp → Prop) : Value → Prop
  | .func (.func f) a caps => a.size = 0 ∧ WC T f (args ++ caps.toList) h q
  | _ => False
theorem WO_callv {d : Option Nat} {x : X} {xs : List X} {l : List O} : WO T (⟨d, none, .callv x xs⟩ :: l) e h K ↔ callv T (evs e xs) h (fun v h => WO T l (put e d v) h K) (x.ev e) := by
  rw [WO_cons]
  cases hx : x.ev e with
  | func f a caps =>
    cases f with
    | func f =>
      constructor
      · rintro ⟨n, e', h', h1, h2⟩
        simp only [runO, gd, act, hx] at h1
        split at h1
        · rename_i ha
          obtain ⟨r, h3, h4⟩ := Option.map_eq_some_iff.1 h1
          cases h4
          exact ⟨ha, n, _, _, h3, h2⟩
        · cases h1
      · rintro ⟨ha, n, v, h', h1, h2⟩
        exact ⟨n, _, _, by simp only [runO, gd, act, hx, ha, if_true, h1, Option.map_some], h2⟩
    | _ => exact ⟨fun ⟨n, e', h', h1, h2⟩ => by simp [runO, gd, act, hx] at h1, fun hf => hf.elim⟩
  | _ => exact ⟨fun ⟨n, e', h', h1, h2⟩ => by simp [runO, gd, act, hx] at h1, fun hf => hf.elim⟩
def GCV (T : Nat → Option Fn) (Q : Ex → Env → Hp → Prop) (args : List Value) (d : Option Nat) (l : List O) (k : List Fr) (e : Env) (h : Hp) : Value → Prop
  | .func (.func f) a caps => a.size = 0 ∧ GC T Q f (args ++ caps.toList) d l k e h
  | _ => False
@[simp] theorem GO_callv {d : Option Nat} {x : X} {xs : List X} {l : List O} : GO T Q (⟨d, none, .callv x xs⟩ :: l) k e h ↔ GCV T Q (evs e xs) d l k e h (x.ev e) := by
  unfold GO
  rw [WO_callv]
  cases x.ev e with
  | func f a caps => cases f <;> rfl
  | _ => rfl
@[simp] theorem GCV_func {args : List Value} {d : Option Nat} {l : List O} {f : Nat} {a caps : Array Value} : GCV T Q args d l k e h (.func (.func f) a caps) ↔ a.size = 0 ∧ GC T Q f (args ++ caps.toList) d l k e h := Iff.rfl

/-- A region's operations, where none makes a block ahead of its turn. -/
def opsOf : List It → Option (List O)
  | [] => some []
  | .op _ o :: l => (opsOf l).map (o :: ·)
  | _ :: _ => none
@[simp] theorem opsOf_nil : opsOf [] = some [] := rfl
@[simp] theorem opsOf_op {i : Nat} {o : O} {l : List It} : opsOf (.op i o :: l) = (opsOf l).map (o :: ·) := rfl
@[simp] theorem opsOf_al {i j : Nat} {o : O} {l : List It} : opsOf (.al i j o :: l) = none := rfl
@[simp] theorem opsOf_re {i : Nat} {o : O} {l : List It} : opsOf (.re i o :: l) = none := rfl
theorem WI_ops {base : Nat} : ∀ {l : List It} {os : List O} {e : Env} {h : Hp}, opsOf l = some os → (WI T base l e h K ↔ WO T os e h K)
  | [], _, e, h, ho => by cases ho; rw [WI_nil, WO_nil]
  | .op i o :: l, os, e, h, ho => by
    obtain ⟨os', h1, rfl⟩ := Option.map_eq_some_iff.1 ho
    rw [WI_op, WO_cons, WO_cons]
    constructor
    · rintro ⟨n, e', h', h2, h3⟩
      rw [WO_nil] at h3
      exact ⟨n, e', h', h2, (WI_ops h1).1 h3⟩
    · rintro ⟨n, e', h', h2, h3⟩
      exact ⟨n, e', h', h2, WO_nil.2 ((WI_ops h1).2 h3)⟩
  | .al .. :: _, _, _, _, ho => by cases ho
  | .re .. :: _, _, _, _, ho => by cases ho
def GAny (T : Nat → Option Fn) (Q : Ex → Env → Hp → Prop) (m : Nat) (l : List It) (k : List Fr) (e : Env) (h : Hp) : Option (List O) → Prop
  | some os => GO T Q os k e (h.adv m)
  | none => GI T Q h.next l k e (h.adv m)
@[simp] theorem G_anyo {m : Nat} {l : List It} : G T Q (.any m l) k e h ↔ GAny T Q m l k e h (opsOf l) := by
  rw [G_any]
  cases ho : opsOf l with
  | none => rfl
  | some os => exact WI_ops ho
@[simp] theorem GAny_some {m : Nat} {l : List It} {os : List O} : GAny T Q m l k e h (some os) ↔ GO T Q os k e (h.adv m) := Iff.rfl
@[simp] theorem GAny_none {m : Nat} {l : List It} : GAny T Q m l k e h none ↔ GI T Q h.next l k e (h.adv m) := Iff.rfl
def GGI (T : Nat → Option Fn) (Q : Ex → Env → Hp → Prop) (w : Bool) (base i : Nat) (d : Option Nat) (op : Op) (l : List It) (k : List Fr) (e : Env) (h : Hp) : Value → Prop
  | .bool t => if t = w then GI T Q base (.op i ⟨d, none, op⟩ :: l) k e h else GI T Q base l k (put e d undef) h
  | .tuple _ => GI T Q base l k (put e d undef) h
  | _ => False
@[simp] theorem GI_gd {base i : Nat} {d : Option Nat} {t : Nat} {w : Bool} {op : Op} {l : List It} : GI T Q base (.op i ⟨d, some (t, w), op⟩ :: l) k e h ↔ GGI T Q w base i d op l k e h (e t) := by
  unfold GI
  rw [WI_op, WO_gdn]
  cases hv : e t with
  | bool b =>
    by_cases hb : b = w
    · subst hb; simp only [gdn, GGI, if_true]; exact WI_op.symm
    · simp only [gdn, GGI, hb, if_false]; exact WO_nil
  | tuple vs => exact WO_nil
  | _ => exact Iff.rfl
@[simp] theorem GGI_bool {base i : Nat} {d : Option Nat} {t w : Bool} {op : Op} {l : List It} : GGI T Q w base i d op l k e h (.bool t) ↔ if t = w then GI T Q base (.op i ⟨d, none, op⟩ :: l) k e h else GI T Q base l k (put e d undef) h := Iff.rfl
def GCI (T : Nat → Option Fn) (Q : Ex → Env → Hp → Prop) (f : Nat) (args : List Value) (d : Option Nat) (base : Nat) (l : List It) (k : List Fr) (e : Env) (h : Hp) : Prop :=
  WC T f args h fun v h => GI T Q base l k (put e d v) h
@[simp] theorem GI_call {base i : Nat} {d : Option Nat} {f : Nat} {xs : List X} {l : List It} : GI T Q base (.op i ⟨d, none, .call f xs⟩ :: l) k e h ↔ GCI T Q f (evs e xs) d base l k e h := by
  unfold GI GCI
  rw [WI_op, WO_call]
  exact ⟨fun hw => hw.mono fun v h hq => WO_nil.1 hq, fun hw => hw.mono fun v h hq => WO_nil.2 hq⟩
theorem GCI_of {f : Nat} {args : List Value} {v : Value} {h' : Hp} {d : Option Nat} {base : Nat} {l : List It} (H : ∀ q : Value → Hp → Prop, WC T f args h q ↔ q v h') : GCI T Q f args d base l k e h ↔ GI T Q base l k (put e d v) h' := H _
theorem GCI_intro {f : Nat} {args : List Value} {d : Option Nat} {base : Nat} {l : List It} {q : Value → Hp → Prop} (h1 : WC T f args h q) (h2 : ∀ v h, q v h → GI T Q base l k (put e d v) h) : GCI T Q f args d base l k e h := h1.mono h2
def GAl (T : Nat → Option Fn) (Q : Ex → Env → Hp → Prop) (b : Nat) (d : Option Nat) (base : Nat) (l : List It) (k : List Fr) (e : Env) (h : Hp) : Option (Value × Ob) → Prop
  | some r => GI T Q base l k (put e d r.1) (h.put b (some r.2))
  | none => False
@[simp] theorem GI_al {base i j : Nat} {d : Option Nat} {op : Op} {l : List It} : GI T Q base (.al i j ⟨d, none, op⟩ :: l) k e h ↔ GAl T Q (base + j) d base l k e h (opA (base + j) e op) := by
  unfold GI
  rw [WI_al]
  cases opA (base + j) e op with
  | none => exact ⟨fun ⟨_, _, h1, _⟩ => (by cases h1), fun hf => hf.elim⟩
  | some r => exact ⟨fun ⟨_, _, h1, h2⟩ => (by cases h1; exact h2), fun hk => ⟨_, _, rfl, hk⟩⟩
@[simp] theorem GAl_some {b : Nat} {d : Option Nat} {base : Nat} {l : List It} {r : Value × Ob} : GAl T Q b d base l k e h (some r) ↔ GI T Q base l k (put e d r.1) (h.put b (some r.2)) := Iff.rfl
def GRe (T : Nat → Option Fn) (Q : Ex → Env → Hp → Prop) (u : Value) (base : Nat) (l : List It) (k : List Fr) (e : Env) (h : Hp) : Option (Value × Hp) → Prop
  | some r => veq r.1 u = true ∧ GI T Q base l k e h
  | none => False
@[simp] theorem GI_re {base i t : Nat} {op : Op} {l : List It} : GI T Q base (.re i ⟨some t, none, op⟩ :: l) k e h ↔ GRe T Q (e t) base l k e h (opV e h op) := by
  unfold GI
  rw [WI_re]
  cases opV e h op with
  | none => exact ⟨fun ⟨_, _, h1, _⟩ => (by cases h1), fun hf => hf.elim⟩
  | some r => exact ⟨fun ⟨_, _, h1, h2⟩ => (by cases h1; exact h2), fun hk => ⟨_, _, rfl, hk⟩⟩
@[simp] theorem GRe_some {u : Value} {base : Nat} {l : List It} {r : Value × Hp} : GRe T Q u base l k e h (some r) ↔ veq r.1 u = true ∧ GI T Q base l k e h := Iff.rfl
theorem WI_re_gd {base i t g : Nat} {w : Bool} {op : Op} {l : List It} : WI T base (.re i ⟨some t, some (g, w), op⟩ :: l) e h K ↔ gdn (e g) w (WI T base (.re i ⟨some t, none, op⟩ :: l) e h K) (WI T base l e h K) := by
  rw [WI_cons]
  cases hv : e g with
  | bool b =>
    by_cases hb : b = w
    · subst hb
      simp only [gdn, if_true]
      rw [WI_cons]
      simp only [runIt, gd, hv, beq_self_eq_true]
    · have hbw : (b == w) = false := by simpa using hb
      simp only [gdn, hb, if_false, runIt, gd, hv, hbw]
      exact ⟨fun ⟨_, _, _, h1, h2⟩ => (by cases h1; exact h2), fun hk => ⟨0, _, _, rfl, hk⟩⟩
  | tuple vs =>
    simp only [gdn, runIt, gd, hv]
    exact ⟨fun ⟨_, _, _, h1, h2⟩ => (by cases h1; exact h2), fun hk => ⟨0, _, _, rfl, hk⟩⟩
  | _ => exact ⟨fun ⟨_, _, _, h1, _⟩ => (by simp [runIt, gd, hv] at h1), fun hf => hf.elim⟩
def GGR (T : Nat → Option Fn) (Q : Ex → Env → Hp → Prop) (w : Bool) (base i t : Nat) (op : Op) (l : List It) (k : List Fr) (e : Env) (h : Hp) : Value → Prop
  | .bool b => if b = w then GI T Q base (.re i ⟨some t, none, op⟩ :: l) k e h else GI T Q base l k e h
  | .tuple _ => GI T Q base l k e h
  | _ => False
@[simp] theorem GI_re_gd {base i t g : Nat} {w : Bool} {op : Op} {l : List It} : GI T Q base (.re i ⟨some t, some (g, w), op⟩ :: l) k e h ↔ GGR T Q w base i t op l k e h (e g) := by
  unfold GI
  rw [WI_re_gd]
  cases e g <;> rfl
@[simp] theorem GGR_bool {base i t : Nat} {w b : Bool} {op : Op} {l : List It} : GGR T Q w base i t op l k e h (.bool b) ↔ if b = w then GI T Q base (.re i ⟨some t, none, op⟩ :: l) k e h else GI T Q base l k e h := Iff.rfl
@[simp] theorem veq_int (k : IntKind) (n : Int) : veq (.int k n) (.int k n) = true := by simp [veq, veqF]
@[simp] theorem veq_bool (b : Bool) : veq (.bool b) (.bool b) = true := by simp [veq, veqF]
@[simp] theorem veq_u8 (x : BitVec 8) : veq (u8 x) (u8 x) = true := veq_int _ _
@[simp] theorem veq_u32 (x : BitVec 32) : veq (u32 x) (u32 x) = true := veq_int _ _
@[simp] theorem veq_u64 (x : BitVec 64) : veq (u64 x) (u64 x) = true := veq_int _ _
@[simp] theorem veq_ptr (b o : Nat) : veq (ptr b o) (ptr b o) = true := by simp [veq, veqF, ptr]
@[simp] theorem veq_slice (a : Option Addr) (n c : Nat) : veq (.slice a n c) (.slice a n c) = true := by
  cases a with
  | none => simp [veq, veqF]
  | some a => obtain ⟨b, o, s⟩ := a; simp [veq, veqF]
@[simp] theorem GG_undef {w : Bool} {d : Option Nat} {op : Op} {l : List O} : GG T Q undef w d op l k e h ↔ GO T Q l k (put e d undef) h := Iff.rfl
@[simp] theorem GGI_undef {base i : Nat} {d : Option Nat} {w : Bool} {op : Op} {l : List It} : GGI T Q w base i d op l k e h undef ↔ GI T Q base l k (put e d undef) h := Iff.rfl
@[simp] theorem GGR_undef {base i t : Nat} {w : Bool} {op : Op} {l : List It} : GGR T Q w base i t op l k e h undef ↔ GI T Q base l k e h := Iff.rfl
end
end Go.Dx
