/- The interpreter: regions, code, calls; and that it stands for the model's. -/
import Derived.Test.YtppgoobhlcdbbaaDx9
import Derived.LoopN
import Derived.Scope
set_option linter.unusedSimpArgs false
set_option linter.unusedVariables false
namespace Go.Dx
open Classical

/-- A call's meaning. -/
abbrev Sp := List Value → Hp → Option (Value × Hp)

def gd (e : Env) : Option (Nat × Bool) → Option Bool
  | none => some true
  | some (t, want) => match e t with
    | .bool b => some (b == want)
    | .tuple _ => some false
    | _ => none

def act (cl : Nat → Sp) (e : Env) (h : Hp) : Op → Option (Value × Hp)
  | .call f xs => cl f (evs e xs) h
  | .callv x xs => match x.ev e with
    | .func (.func f) a caps => if a.size = 0 then cl f (evs e xs ++ caps.toList) h else none
    | _ => none
  | op => opV e h op

def runO (cl : Nat → Sp) (o : O) (e : Env) (h : Hp) : Option (Env × Hp) :=
  match gd e o.g with
  | none => none
  | some false => some (put e o.d undef, h)
  | some true => (act cl e h o.o).map fun r => (put e o.d r.1, r.2)

def runOps (cl : Nat → Sp) : List O → Env → Hp → Option (Env × Hp)
  | [], e, h => some (e, h)
  | o :: l, e, h => (runO cl o e h).bind fun r => runOps cl l r.1 r.2

/-- The same value, seen to be so. -/
def veqF : Value → Value → Bool
  | .bool a, .bool b => a == b
  | .int j a, .int k b => j == k && a == b
  | .string a, .string b => a.data == b.data
  | .pointer none, .pointer none => true
  | .pointer (some ⟨b, o, s⟩), .pointer (some ⟨b', o', s'⟩) => b == b' && o == o' && s == s'
  | .slice none n c, .slice none n' c' => n == n' && c == c'
  | .slice (some ⟨b, o, s⟩) n c, .slice (some ⟨b', o', s'⟩) n' c' => b == b' && o == o' && s == s' && n == n' && c == c'
  | .map a, .map b => a == b
  | .chan a, .chan b => a == b
  | .nilFunc, .nilFunc => true
  | _, _ => false
def veqL : List Value → List Value → Bool
  | [], [] => true
  | a :: l, b :: m => veqF a b && veqL l m
  | _, _ => false
def veq : Value → Value → Bool
  | .agg a, .agg b => veqL a.toList b.toList
  | .tuple a, .tuple b => veqL a.toList b.toList
  | a, b => veqF a b
theorem veqF_eq {a b : Value} (h : veqF a b = true) : a = b := by
  unfold veqF at h
  split at h <;> simp_all
  apply ByteArray.ext
  simpa using h
theorem veqL_eq : ∀ {l m : List Value}, veqL l m = true → l = m := by
  intro l
  induction l with
  | nil => intro m h; cases m <;> simp_all [veqL]
  | cons a l ih =>
    intro m h
    cases m with
    | nil => simp [veqL] at h
    | cons b m =>
      simp only [veqL, Bool.and_eq_true] at h
      rw [veqF_eq h.1, ih h.2]
theorem veq_eq {a b : Value} (h : veq a b = true) : a = b := by
  unfold veq at h
  split at h
  · rw [Array.ext' (veqL_eq h)]
  · rw [Array.ext' (veqL_eq h)]
  · exact veqF_eq h

/-- An item of an open region; base: the first of the numbers that are let by. -/
def runIt (cl : Nat → Sp) (base : Nat) (e : Env) (h : Hp) : It → Option (Env × Hp)
  | .op _ o => runO cl o e h
  | .al _ j o => match gd e o.g with
    | none => none
    | some false => some (put e o.d undef, h)
    | some true => (opA (base + j) e o.o).map fun r => (put e o.d r.1, h.put (base + j) (some r.2))
  | .re _ o => match gd e o.g with
    | none => none
    | some false => some (e, h)
    | some true => match o.d, opV e h o.o with
      | some t, some (v, _) => if veq v (e t) = true then some (e, h) else none
      | _, _ => none
def runIts (cl : Nat → Sp) (base : Nat) : List It → Env → Hp → Option (Env × Hp)
  | [], e, h => some (e, h)
  | o :: l, e, h => (runIt cl base e h o).bind fun r => runIts cl base l r.1 r.2

/-- How a piece of code ends. -/
inductive Ex where
  | n
  | x (id : Nat)
  | r

def runC (cl : Nat → Sp) : Nat → C → Env → Hp → Option (Ex × Env × Hp)
  | 0, _, _, _ => none
  | _ + 1, .skip, e, h => some (.n, e, h)
  | _ + 1, .ops l, e, h => (runOps cl l e h).map fun r => (.n, r.1, r.2)
  | _ + 1, .any k l, e, h => (runIts cl h.next l e (h.adv k)).map fun r => (.n, r.1, r.2)
  | n + 1, .seq a b, e, h => match runC cl n a e h with
    | some (.n, e, h) => runC cl n b e h
    | r => r
  | n + 1, .cond c a b, e, h => match c.ev e with
    | .bool t => if t then runC cl n a e h else runC cl n b e h
    | _ => none
  | n + 1, .block id a, e, h => match runC cl n a e h with
    | some (.x j, e, h) => if j = id then some (.n, e, h) else some (.x j, e, h)
    | r => r
  | n + 1, .loop a, e, h => match runC cl n a e h with
    | some (.n, e, h) => runC cl n (.loop a) e h
    | r => r
  | _ + 1, .exit id, e, h => some (.x id, e, h)
  | _ + 1, .ret, e, h => some (.r, e, h)

def envOf (args : List Value) : Env := fun t => (args[t]?).getD undef

def rv (e : Env) (h : Hp) : RV → Option Value
  | .t n => some (e n)
  | .ld n => (at? (e n)).bind fun p => h.rd p.1 p.2
  | .ldn k n => (at? (e n)).bind fun p => (h.rdn p.1 p.2 k).map fun c => .agg c.toArray

def resV (e : Env) (h : Hp) : List RV → Option Value
  | [x] => rv e h x
  | l => (l.mapM (rv e h)).map fun vs => .tuple vs.toArray

/-- What is let go behind a call that began with n. -/
def dropB (n : Nat) (e : Env) (h : Hp) : Option (List Nat) → Hp
  | none => h.only n []
  | some l => l.foldl (fun h t => match at? (e t) with
    | some (b, _) => if n ≤ b then h.put b none else h
    | none => h) h

def callF (cl : Nat → Sp) (n : Nat) (f : F) : Sp := fun args h =>
  match runC cl n f.body (envOf args) h with
  | some (.r, e, h') | some (.n, e, h') => (resV e h' f.res).map fun v => (v, dropB h.next e h' f.drop)
  | _ => none

/-- A function's meaning: its code, or a meaning that was proved. -/
inductive Fn where
  | code (f : F)
  | spec (s : Sp)

def callN (T : Nat → Option Fn) : Nat → Nat → Sp
  | 0, _ => fun _ _ => none
  | n + 1, f => match T f with
    | some (.code F) => callF (callN T n) n F
    | some (.spec s) => s
    | none => fun _ _ => none

def SpecOK (P : Program) (f : Nat) (s : Sp) : Prop := ∀ args h v h', s args h = some (v, h') → callable P f = true ∧ Le h h' ∧
  ∀ φ w args', LR φ args args' → HR φ h w → Calls P f args'.toArray w fun e w' => ∃ φ' u, e = .returned u ∧ Ext φ h w φ' h' w' ∧ VR φ' v u

section
variable {P : Program} {φ : Phi} {e e' : Env} {a : Act} {h h' : Hp} {w : World} {v : Value} {cl : Nat → Sp}

theorem wr_le {b o : Nat} {vs : List Value} (hw : h.wr b o vs = some h') : Le h h' := by
  unfold Hp.wr at hw
  split at hw
  case h_2 => cases hw
  rename_i c hg
  split at hw
  · cases hw; exact .put (.inl (by simp [hg]))
  · cases hw

/-- The operations that turn memory (but the calls), those that read it. -/
def isE : Op → Bool
  | .st .. | .stn .. | .s2b .. | .mset .. | .app .. | .cpy .. | .del .. | .clr .. | .clrm .. | .call .. | .callv .. => true
  | _ => false
def isR : Op → Bool
  | .ld .. | .ldn .. | .b2s .. | .look .. | .len .. | .ms .. => true
  | _ => false

theorem someP {x : Value} (hv : some (x, h) = some (v, h')) : h' = h ∧ ∀ g : Hp, some (x, g) = some (v, g) := by cases hv; exact ⟨rfl, fun g => rfl⟩
theorem mapP {α : Type} {f : Option α} {k : α → Value} (hv : f.map (fun x => (k x, h)) = some (v, h')) : h' = h ∧ ∀ g : Hp, f.map (fun x => (k x, g)) = some (v, g) := by
  cases f with
  | none => cases hv
  | some x => cases hv; exact ⟨rfl, fun g => rfl⟩
theorem bindP {α β : Type} {f : Option α} {q : α → Option β} {k : α → β → Value} (hv : (f.bind fun x => (q x).map fun y => (k x y, h)) = some (v, h')) : h' = h ∧ ∀ g : Hp, (f.bind fun x => (q x).map fun y => (k x y, g)) = some (v, g) := by
  cases f with
  | none => cases hv
  | some x => exact mapP (k := k x) hv
theorem iteP {c : Prop} [Decidable c] {x : Value} (hv : (if c then some (x, h) else none) = some (v, h')) : h' = h ∧ ∀ g : Hp, (if c then some (x, g) else none) = some (v, g) := by
  split at hv
  · rename_i hc; cases hv; exact ⟨rfl, fun g => by rw [if_pos hc]⟩
  · cases hv
theorem bindIteP {α : Type} {f : Option α} {c : α → Prop} [∀ x, Decidable (c x)] {k : α → Value} (hv : (f.bind fun x => if c x then some (k x, h) else none) = some (v, h')) : h' = h ∧ ∀ g : Hp, (f.bind fun x => if c x then some (k x, g) else none) = some (v, g) := by
  cases f with
  | none => cases hv
  | some x => exact iteP (x := k x) hv

theorem opV_pure {op : Op} (h1 : isE op = false) (h2 : isA op = false) (h3 : isR op = false) (hv : opV e h op = some (v, h')) : h' = h ∧ ∀ g, opV e g op = some (v, g) := by
  cases op <;> simp [isE] at h1 <;> simp [isA] at h2 <;> simp [isR] at h3 <;> simp only [opV] at hv ⊢
  case mov => exact someP hv
  case mkf => exact someP hv
  case lenk => exact someP hv
  case build => exact mapP hv
  case bin => exact mapP hv
  case eqn => exact mapP hv
  case eqt => exact mapP hv
  case un => exact mapP hv
  case sl => exact mapP hv
  case fa => exact mapP hv
  case sla => exact bindP hv
  case iaa => exact bindP hv
  case pick c x y => generalize c.ev e = cv at *; cases cv <;> first | (cases hv; done) | exact someP hv
  case nilc x =>
    generalize x.ev e = cv at *
    cases cv <;> first | (cases hv; done) | skip
    · rename_i p; cases p <;> first | (cases hv; done) | exact someP hv
    · rename_i f _ _; cases f <;> first | (cases hv; done) | exact someP hv
  case eqb n x y => generalize x.ev e = xv at *; generalize y.ev e = yv at *; cases xv <;> cases yv <;> first | (cases hv; done) | exact someP hv
  case conv k x => generalize x.ev e = cv at *; cases cv <;> first | (cases hv; done) | exact someP hv
  case sls x lo hi => generalize x.ev e = cv at *; cases cv <;> first | (cases hv; done) | exact mapP hv
  case fld o x => generalize x.ev e = cv at *; cases cv <;> first | (cases hv; done) | exact mapP hv
  case ext x i => generalize x.ev e = cv at *; cases cv <;> first | (cases hv; done) | exact mapP hv
  case fldn o n x => generalize x.ev e = cv at *; cases cv <;> first | (cases hv; done) | exact iteP hv
  case ia sz x i =>
    generalize x.ev e = cv at *
    cases cv <;> first | (cases hv; done) | skip
    rename_i p _ _; cases p <;> first | (cases hv; done) | exact mapP hv
  case ixs x i => generalize x.ev e = cv at *; cases cv <;> first | (cases hv; done) | exact bindP hv
  case ixa n x i => generalize x.ev e = cv at *; cases cv <;> first | (cases hv; done) | exact bindP hv
  case ixan n sz x i => generalize x.ev e = cv at *; cases cv <;> first | (cases hv; done) | exact bindIteP (k := fun k => _) hv
  case mx x y => generalize x.ev e = xv at *; generalize y.ev e = yv at *; cases xv <;> cases yv <;> first | (cases hv; done) | exact iteP hv
  case mn x y => generalize x.ev e = xv at *; generalize y.ev e = yv at *; cases xv <;> cases yv <;> first | (cases hv; done) | exact iteP hv

/-- More memory: what is read there is the same. -/
def Hp.In (h g : Hp) : Prop := ∀ b o, h.get b = some o → g.get b = some o
theorem In.cells {g : Hp} (hi : h.In g) {b : Nat} {c : List Value} (hb : h.cells b = some c) : g.cells b = some c := by
  obtain ⟨ro, hg⟩ := cells_of hb
  simp [Hp.cells, hi _ _ hg]
theorem In.rd {g : Hp} (hi : h.In g) {b o : Nat} {x : Value} (hb : h.rd b o = some x) : g.rd b o = some x := by
  obtain ⟨c, hc, hx⟩ := Option.bind_eq_some_iff.1 hb
  exact Option.bind_eq_some_iff.2 ⟨c, In.cells hi hc, hx⟩
theorem In.rdn {g : Hp} (hi : h.In g) {b o n : Nat} {x : List Value} (hb : h.rdn b o n = some x) : g.rdn b o n = some x := by
  obtain ⟨c, hc, hx⟩ := Option.bind_eq_some_iff.1 hb
  exact Option.bind_eq_some_iff.2 ⟨c, In.cells hi hc, hx⟩

theorem opV_read {op : Op} (h3 : isR op = true) (hv : opV e h op = some (v, h')) : h' = h ∧ ∀ g, h.In g → opV e g op = some (v, g) := by
  cases op <;> simp [isR] at h3 <;> simp only [opV] at hv ⊢
  case ld x =>
    obtain ⟨p, hp, hv⟩ := Option.bind_eq_some_iff.1 hv
    obtain ⟨u, hu, hh⟩ := Option.map_eq_some_iff.1 hv
    cases hh
    exact ⟨rfl, fun g hi => by rw [hp]; simp [In.rd hi hu]⟩
  case ldn n x =>
    obtain ⟨p, hp, hv⟩ := Option.bind_eq_some_iff.1 hv
    obtain ⟨u, hu, hh⟩ := Option.map_eq_some_iff.1 hv
    cases hh
    exact ⟨rfl, fun g hi => by rw [hp]; simp [In.rdn hi hu]⟩
  case b2s x =>
    generalize x.ev e = cv at *
    cases cv <;> first | (cases hv; done) | skip
    rename_i p n c
    cases p with
    | none => exact ⟨(someP hv).1, fun g _ => (someP hv).2 g⟩
    | some p =>
      obtain ⟨l, hl, hh⟩ := Option.map_eq_some_iff.1 hv
      cases hh
      obtain ⟨cs, hcs, hm⟩ := Option.bind_eq_some_iff.1 hl
      refine ⟨rfl, fun g hi => Option.map_eq_some_iff.2 ⟨l, Option.bind_eq_some_iff.2 ⟨cs, ?_, hm⟩, rfl⟩⟩
      split at hcs
      · rename_i h0; rw [if_pos h0]; exact hcs
      · rename_i h0; rw [if_neg h0]; exact In.rdn hi hcs
  case look t z ok m k =>
    generalize m.ev e = mv at *
    cases mv <;> first | (cases hv; done) | skip
    rename_i p
    cases p with
    | none => exact ⟨(mapP hv).1, fun g _ => (mapP hv).2 g⟩
    | some r =>
      cases hg : h.get r with
      | none => simp [hg] at hv
      | some ob =>
        cases ob <;> simp only [hg] at hv <;> first | (cases hv; done) | skip
        rename_i es
        exact ⟨(mapP hv).1, fun g hi => by simp only [hi _ _ hg]; exact (mapP hv).2 g⟩
  case ms x =>
    generalize x.ev e = cv at *
    split at hv
    case h_2 => cases hv
    split at hv
    case h_2 => cases hv
    rename_i hg
    exact ⟨(someP hv).1, fun g hi => by simp only [hi _ _ hg]; exact (someP hv).2 g⟩
  case len kd x =>
    generalize x.ev e = cv at *
    split at hv
    · exact ⟨(someP hv).1, fun g _ => (someP hv).2 g⟩
    · exact ⟨(someP hv).1, fun g _ => (someP hv).2 g⟩
    · exact ⟨(someP hv).1, fun g _ => (someP hv).2 g⟩
    · split at hv
      case h_2 => cases hv
      rename_i hg
      exact ⟨(someP hv).1, fun g hi => by simp only [hi _ _ hg]; exact (someP hv).2 g⟩
    · split at hv
      case h_2 => cases hv
      rename_i hg
      exact ⟨(someP hv).1, fun g hi => by simp only [hi _ _ hg]; exact (someP hv).2 g⟩
    · cases hv

theorem opV_le {op : Op} (hv : opV e h op = some (v, h')) : Le h h' := by
  by_cases hR : isR op = true
  · rw [(opV_read hR hv).1]; exact .refl _
  by_cases hE : isE op = true ∨ isA op = true
  case neg =>
    rw [(opV_pure (by simpa using fun hh => hE (.inl hh)) (by simpa using fun hh => hE (.inr hh)) (by simpa using hR) hv).1]
    exact .refl _
  cases op <;> simp [isE, isA] at hE <;> simp only [opV] at hv
  case new => obtain ⟨r, _, hh⟩ := Option.map_eq_some_iff.1 hv; cases hh; exact .push _ _
  case box => obtain ⟨r, _, hh⟩ := Option.map_eq_some_iff.1 hv; cases hh; exact .push _ _
  case bsl => obtain ⟨r, _, hh⟩ := Option.map_eq_some_iff.1 hv; cases hh; exact .push _ _
  case mkm => obtain ⟨r, _, hh⟩ := Option.map_eq_some_iff.1 hv; cases hh; exact .push _ _
  case mkc => obtain ⟨r, _, hh⟩ := Option.map_eq_some_iff.1 hv; cases hh; exact .push _ _
  case mks => obtain ⟨r, _, hh⟩ := Option.map_eq_some_iff.1 hv; cases hh; exact .push _ _
  case st =>
    obtain ⟨p, _, hv⟩ := Option.bind_eq_some_iff.1 hv
    split at hv
    · obtain ⟨g, hg, hh⟩ := Option.map_eq_some_iff.1 hv; cases hh; exact wr_le hg
    · cases hv
  case stn =>
    obtain ⟨p, _, hv⟩ := Option.bind_eq_some_iff.1 hv
    split at hv
    · split at hv
      · obtain ⟨g, hg, hh⟩ := Option.map_eq_some_iff.1 hv; cases hh; exact wr_le hg
      · cases hv
    · cases hv
  case app =>
    unfold appendV at hv
    repeat' split at hv
    all_goals first
      | (cases hv; done)
      | (cases hv; exact .refl _)
      | (cases hv; exact .push _ _)
      | (obtain ⟨g, hg, hh⟩ := Option.map_eq_some_iff.1 hv; cases hh; exact wr_le hg)
      | (cases hv; exact (Le.put (.inr rfl)).trans (.push _ _))
  case cpy =>
    unfold copyV at hv
    repeat' split at hv
    all_goals first
      | (cases hv; done)
      | (cases hv; exact .refl _)
      | (obtain ⟨g, hg, hh⟩ := Option.map_eq_some_iff.1 hv; cases hh; exact wr_le hg)
  case s2b => split at hv <;> first | (cases hv; exact .push _ _) | (cases hv; done)
  case mset =>
    repeat' split at hv
    all_goals first
      | (cases hv; done)
      | (cases hv; exact .put (.inl (by simp [*])))
  case del =>
    repeat' split at hv
    all_goals first
      | (cases hv; done)
      | (obtain ⟨g, hg, hh⟩ := Option.map_eq_some_iff.1 hv; cases hh; split <;> first | exact .refl _ | exact .put (.inl (by simp [*])))
  case clrm =>
    repeat' split at hv
    all_goals first
      | (cases hv; done)
      | (cases hv; exact .put (.inl (by simp [*])))
  case clr =>
    repeat' split at hv
    all_goals first
      | (cases hv; done)
      | (cases hv; exact .refl _)
      | (obtain ⟨g, hg, hh⟩ := Option.map_eq_some_iff.1 hv; cases hh; exact wr_le hg)
  case call => cases hv
  case callv => cases hv

theorem act_le {op : Op} (hcl : ∀ f, SpecOK P f (cl f)) (hv : act cl e h op = some (v, h')) : Le h h' := by
  unfold act at hv
  split at hv
  · exact (hcl _ _ _ _ _ hv).2.1
  · split at hv
    · split at hv
      · exact (hcl _ _ _ _ _ hv).2.1
      · cases hv
    · cases hv
  · exact opV_le hv

theorem runO_le {o : O} (hcl : ∀ f, SpecOK P f (cl f)) (hv : runO cl o e h = some (e', h')) : Le h h' := by
  unfold runO at hv
  split at hv
  · cases hv
  · cases hv; exact .refl _
  · obtain ⟨r, hr, hh⟩ := Option.map_eq_some_iff.1 hv
    cases hh
    exact act_le hcl hr

/-- A temporary is written. -/
theorem ER.put {d : Option Nat} {u : Value} (he : ER φ e a) (hv : VR φ v u) (hd : ∀ t, d = some t → t < a.tmps.size) : ER φ (put e d v) (a.put d u) := by
  cases d with
  | none => exact he
  | some d =>
    intro t
    simp only [Dx.put, upd, Act.put, Act.eval]
    have hlt := hd d rfl
    by_cases ht : t = d
    · subst ht
      simp [hlt, hv]
    · have hne : d ≠ t := fun e => ht e.symm
      simp only [ht, if_false]
      have := he t
      simp only [Act.eval] at this
      simpa [Array.getElem?_setIfInBounds_ne hne] using this
theorem ER.mono {φ' : Phi} (hs : Sub φ φ') (he : ER φ e a) : ER φ' e a := fun t => (he t).mono hs
theorem size_put (a : Act) (d : Option Nat) (u : Value) : (a.put d u).tmps.size = a.tmps.size := by
  cases d <;> simp [Act.put]
theorem defers_put (a : Act) (d : Option Nat) (u : Value) : (a.put d u).defers = a.defers := by
  cases d <;> rfl

/-- What an operation's guard is. -/
def compG (ops : Array Oper) : Option (Nat × Bool) → Option (Option (Nat × Bool))
  | none => some none
  | some (j, w) => ((ops[j]?).bind (·.dst)).map fun t => some (t, w)
def dstOk (n : Nat) : Option Nat → Bool
  | some d => decide (d < n)
  | none => true
/-- The model's operations that are calls of the program's own functions. -/
def gopC : Go.Op → Bool
  | .call { callee := .value _, .. } => true
  | _ => false
def compO (P : Program) (n : Nat) (ops : Array Oper) (o : Oper) : Option O :=
  if dstOk n o.dst = true then
    (compG ops o.guard).bind fun g => (comp P o).bind fun op => if isCall op = gopC o.op then some ⟨o.dst, g, op⟩ else none
  else none

theorem guard_ok {ops : Array Oper} {g : Option (Nat × Bool)} {b : Bool} {o : Oper} (hg : compG ops o.guard = some g) (he : ER φ e a) (hb : gd e g = some b) : Region.wanted o (yielded ops a.tmps) = b := by
  unfold Region.wanted
  cases ho : o.guard with
  | none =>
    rw [ho] at hg
    cases hg
    simp [gd] at hb
    exact hb.symm
  | some jw =>
    obtain ⟨j, wt⟩ := jw
    rw [ho] at hg
    obtain ⟨t, ht, rfl⟩ := Option.map_eq_some_iff.1 hg
    simp only [gd] at hb
    have hv := he t
    split at hb
    · rename_i c hc
      rw [hc] at hv
      have h2 := hv.bool_inv
      simp only [Act.eval] at h2
      have h3 : a.tmps[t]? = some (.bool c) := by
        rw [Array.getD_eq_getD_getElem?] at h2
        cases h4 : a.tmps[t]? with
        | none => rw [h4] at h2; simp [undef] at h2
        | some x => rw [h4] at h2; simpa using h2
      simp only [yielded, ht, Option.bind_some, h3]
      simp only [Option.some.injEq] at hb
      subst hb
      cases c <;> cases wt <;> rfl
    · rename_i cs hc
      rw [hc] at hv
      obtain ⟨cs', h2, _⟩ := hv.tuple_inv
      simp only [Act.eval, Array.getD_eq_getD_getElem?] at h2
      cases hb
      cases h4 : a.tmps[t]? with
      | none => simp [yielded, ht, h4]
      | some x =>
        rw [h4] at h2
        simp only [Option.getD_some] at h2
        subst h2
        simp [yielded, ht, h4]
    · cases hb

/-- What is known behind an operation. -/
def Then (φ : Phi) (h : Hp) (w : World) (e' : Env) (h' : Hp) (a : Act) (K : Act → World → Prop) : Prop :=
  ∀ φ' a' w', Ext φ h w φ' h' w' → ER φ' e' a' → a'.tmps.size = a.tmps.size → a'.defers = a.defers → K a' w'

theorem resolve_func {ρ : Operand → Value} {args : Array Operand} {ts : Array TypeId} {ty : TypeId} {fo : Operand} {f : Nat} {caps : Array Value} (hf : ρ fo = .func (.func f) #[] caps) (hcal : callable P f = true) :
    (do let d ← resolve ρ { callee := .value fo, args, argTypes := ts } ty; invoke d.target d.args : Sem Next).run P w = .ok (.enter f (args.map ρ ++ caps)) w := by
  unfold callable at hcal
  cases hfn : P.funcs[f]? with
  | none => simp [hfn] at hcal
  | some fn =>
    simp only [hfn, Bool.and_eq_true, bne_iff_ne, ne_eq] at hcal
    obtain ⟨hname, hbody⟩ := hcal
    have hn : (fn.name == "runtime.NumGoroutine") = false := by simpa using hname
    have hb : ¬ (fn.body = none) := by intro hh; rw [hh] at hbody; cases hbody
    simp [resolve, hf, Deferred.ofValue, invoke, callFunc, hfn, hname, hb]

theorem comp_call {o : Oper} {op : Op} (hc : comp P o = some op) (hcall : gopC o.op = true) : ∃ fo args ts, o.op = .call { callee := .value fo, args, argTypes := ts } ∧
    ((∃ f xs, fo = .func f ∧ op = .call f xs ∧ cxs args.toList = some xs) ∨ (∃ x xs, op = .callv x xs ∧ cx fo = some x ∧ cxs args.toList = some xs)) := by
  obtain ⟨dst, gop, ty, pos, after, guard⟩ := o
  cases gop <;> simp [gopC] at hcall <;> simp only [comp] at hc
  case call c =>
    obtain ⟨callee, args, ts⟩ := c
    cases callee with
    | builtin b => simp [gopC] at hcall
    | invoke r m => cases hc
    | value f =>
      cases f with
      | func f =>
        simp only at hc
        split at hc
        · obtain ⟨l, hl, rfl⟩ := Option.map_eq_some_iff.1 hc
          exact ⟨_, args, ts, rfl, .inl ⟨f, l, rfl, rfl, hl⟩⟩
        · cases hc
      | tmp t =>
        obtain ⟨x, hx, hc⟩ := Option.bind_eq_some_iff.1 hc
        obtain ⟨l, hl, rfl⟩ := Option.map_eq_some_iff.1 hc
        exact ⟨_, args, ts, rfl, .inr ⟨x, l, rfl, hx, hl⟩⟩
      | const t =>
        obtain ⟨x, hx, hc⟩ := Option.bind_eq_some_iff.1 hc
        obtain ⟨l, hl, rfl⟩ := Option.map_eq_some_iff.1 hc
        exact ⟨_, args, ts, rfl, .inr ⟨x, l, rfl, hx, hl⟩⟩
      | global t =>
        obtain ⟨x, hx, hc⟩ := Option.bind_eq_some_iff.1 hc
        simp [cx] at hx
theorem call_shape {dst : Option Tmp} {gop : Go.Op} {ty : TypeId} {pos : String} {after : Array Edge} {guard : Option (Nat × Bool)} {f : Nat} {xs : List X} (hg : gopC gop = true) (hc : comp P ⟨dst, gop, ty, pos, after, guard⟩ = some (.call f xs)) :
    ∃ args ts, gop = .call { callee := .value (.func f), args, argTypes := ts } ∧ cxs args.toList = some xs := by
  obtain ⟨fo, args, ts, h1, h2⟩ := comp_call hc hg
  rcases h2 with ⟨g, ys, h3, h4, h5⟩ | ⟨x, ys, h3, _⟩
  · cases h4; subst h3; exact ⟨args, ts, h1, h5⟩
  · cases h3
theorem callv_shape {dst : Option Tmp} {gop : Go.Op} {ty : TypeId} {pos : String} {after : Array Edge} {guard : Option (Nat × Bool)} {x : X} {xs : List X} (hg : gopC gop = true) (hc : comp P ⟨dst, gop, ty, pos, after, guard⟩ = some (.callv x xs)) :
    ∃ fo args ts, gop = .call { callee := .value fo, args, argTypes := ts } ∧ cx fo = some x ∧ cxs args.toList = some xs := by
  obtain ⟨fo, args, ts, h1, h2⟩ := comp_call hc hg
  rcases h2 with ⟨g, ys, _, h4, _⟩ | ⟨x, ys, h3, h4, h5⟩
  · cases h4
  · cases h3; exact ⟨fo, args, ts, h1, h4, h5⟩

theorem step_wp {ops : Array Oper} {o : Oper} {oo : O} {n : Nat} {K : Act → World → Prop} {Q : Exit → Act → World → Prop} (hcl : ∀ f, SpecOK P f (cl f)) (hc : compO P n ops o = some oo) (hrun : runO cl oo e h = some (e', h'))
    (he : ER φ e a) (hr : HR φ h w) (hn : n ≤ a.tmps.size) (hK : Then φ h w e' h' a K) :
    if Region.wanted o (yielded ops a.tmps) then o.wp P a w K Q else K (a.put o.dst undef) w := by
  unfold compO at hc
  split at hc
  case isFalse => cases hc
  rename_i hd
  obtain ⟨g, hg, hc⟩ := Option.bind_eq_some_iff.1 hc
  obtain ⟨op, hop, hc⟩ := Option.bind_eq_some_iff.1 hc
  split at hc
  case isFalse => cases hc
  rename_i hcallk
  cases hc
  have hdl : ∀ t, o.dst = some t → t < a.tmps.size := fun t ht => by
    rw [ht] at hd
    simp [dstOk] at hd
    exact Nat.lt_of_lt_of_le hd hn
  unfold runO at hrun
  split at hrun
  · cases hrun
  · rename_i hb
    cases hrun
    rw [guard_ok hg he hb]
    simp only [Bool.false_eq_true, if_false]
    exact hK φ _ w (.refl hr) (he.put (.undef _) hdl) (size_put _ _ _) (defers_put _ _ _)
  · rename_i hb
    obtain ⟨⟨v, h1⟩, hact, hh⟩ := Option.map_eq_some_iff.1 hrun
    cases hh
    rw [guard_ok hg he hb]
    simp only [if_true]
    have call : ∀ (f : Nat) (vs us : List Value), cl f vs h = some (v, h1) → LR φ vs us → (execOp a.eval o).run P w = .ok (.enter f us.toArray) w → o.wp P a w K Q := by
      intro f vs us hs hl hx
      unfold Oper.wp
      rw [hx, Oper.upon_enter]
      refine ((hcl f vs h v h1 hs).2.2 φ w us hl hr).mono fun en w' hen => ?_
      obtain ⟨φ', u, rfl, hext, hvr⟩ := hen
      exact hK φ' _ w' hext ((he.mono hext.sub).put hvr hdl) (size_put _ _ _) (defers_put _ _ _)
    have plain : opV e h op = some (v, h1) → o.wp P a w K Q := by
      intro hv
      obtain ⟨φ', u, w', hor, hext, hvr⟩ := op_sound hop he hr hv
      unfold Oper.wp
      rcases hor with hx | ⟨hx, rfl⟩
      · rw [hx, Oper.upon_value]
        exact hK φ' _ w' hext ((he.mono hext.sub).put hvr hdl) (size_put _ _ _) (defers_put _ _ _)
      · rw [hx, Oper.upon_skip]
        exact hK φ' _ w' hext ((he.mono hext.sub).put hvr hdl) (size_put _ _ _) (defers_put _ _ _)
    cases op with
    | call f xs =>
      simp only [act] at hact
      obtain ⟨dst, gop, ty, pos, after, guard⟩ := o
      have hsh : ∃ args ts, gop = .call { callee := .value (.func f), args, argTypes := ts } ∧ cxs args.toList = some xs := call_shape hcallk.symm hop
      obtain ⟨args, ts, rfl, hxs⟩ := hsh
      have hl := cxs_ev hxs he
      refine call f _ _ hact hl ?_
      have := resolve_func (P := P) (w := w) (ρ := a.eval) (args := args) (ts := ts) (ty := ty) (fo := .func f) (f := f) (caps := #[]) rfl (hcl f _ _ _ _ hact).1
      simp only [execOp]
      rw [this]
      congr 2
      apply Array.ext'
      simp
    | callv x xs =>
      simp only [act] at hact
      split at hact
      case h_2 => cases hact
      rename_i f first caps hx
      split at hact
      case isFalse => cases hact
      rename_i h0
      obtain ⟨dst, gop, ty, pos, after, guard⟩ := o
      have hsh : ∃ fo args ts, gop = .call { callee := .value fo, args, argTypes := ts } ∧ cx fo = some x ∧ cxs args.toList = some xs := callv_shape hcallk.symm hop
      obtain ⟨fo, args, ts, rfl, hfo, hxs⟩ := hsh
      have hl := cxs_ev hxs he
      have hfv := cx_ev hfo he
      rw [hx] at hfv
      obtain ⟨k, caps', hk, hz, hu, hlc⟩ := hfv.func_inv
      cases hk
      refine call f _ _ hact (hl.append hlc) ?_
      have := resolve_func (P := P) (w := w) (ρ := a.eval) (args := args) (ts := ts) (ty := ty) (fo := fo) (f := f) (caps := caps') hu (hcl f _ _ _ _ hact).1
      simp only [execOp]
      rw [this]
      congr 2
      apply Array.ext'
      simp
    | _ => exact plain hact
end
end Go.Dx
