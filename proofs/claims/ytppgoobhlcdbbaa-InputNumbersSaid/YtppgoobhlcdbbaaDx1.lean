/- How an abstract heap stands for a world: the relation, and what keeps it. -/
import Derived.Test.YtppgoobhlcdbbaaDx0
import Derived.Below
import Derived.Laws.Cells
import Derived.Laws.IdiomCopy
set_option linter.unusedSimpArgs false
set_option linter.unusedVariables false
namespace Go.Dx
open Go.RowKit

/-- Which block stands for an abstract one, and how many cells it has. -/
abbrev Phi := Nat → Option (Nat × Nat)

/-- A value stands for an abstract one. -/
inductive VR (φ : Phi) : Value → Value → Prop where
  | bool (b : Bool) : VR φ (.bool b) (.bool b)
  | int (k : IntKind) (n : Int) : VR φ (.int k n) (.int k n)
  | str (s : ByteArray) : VR φ (.string s) (.string s)
  | pnil : VR φ (.pointer none) (.pointer none)
  | ptr {b b' n : Nat} (o : Nat) (h : φ b = some (b', n)) : VR φ (.pointer (some ⟨b, o, none⟩)) (.pointer (some ⟨b', o, none⟩))
  | snil (n c : Nat) : VR φ (.slice none n c) (.slice none n c)
  | sl {b b' m : Nat} (o n c : Nat) (h : φ b = some (b', m)) : VR φ (.slice (some ⟨b, o, none⟩) n c) (.slice (some ⟨b', o, none⟩) n c)
  | slo {b b' m : Nat} (o o' n c c' e : Nat) (h : φ b = some (b', m)) (hc : c ≤ c') (ho : 0 < c → o' = o) (hn : n ≤ c) (hv : o' + c' * e ≤ m) :
      VR φ (.slice (some ⟨b, o, some e⟩) n c) (.slice (some ⟨b', o', none⟩) n c')
  | mnil : VR φ (.map none) (.map none)
  | map {b b' n : Nat} (h : φ b = some (b', n)) : VR φ (.map (some b)) (.map (some b'))
  | cnil : VR φ (.chan none) (.chan none)
  | chan {b b' n : Nat} (h : φ b = some (b', n)) : VR φ (.chan (some b)) (.chan (some b'))
  | func (f : Nat) (cs cs' : Array Value) (hs : cs.size = cs'.size) (h : ∀ i, i < cs.size → VR φ (cs.getD i undef) (cs'.getD i undef)) :
      VR φ (.func (.func f) #[] cs) (.func (.func f) #[] cs')
  | nilFunc : VR φ .nilFunc .nilFunc
  | nilIface : VR φ .nilIface .nilIface
  | agg (cs cs' : Array Value) (hs : cs.size = cs'.size) (h : ∀ i, i < cs.size → VR φ (cs.getD i undef) (cs'.getD i undef)) : VR φ (.agg cs) (.agg cs')
  | tuple (cs cs' : Array Value) (hs : cs.size = cs'.size) (h : ∀ i, i < cs.size → VR φ (cs.getD i undef) (cs'.getD i undef)) : VR φ (.tuple cs) (.tuple cs')
  | junk (u : Value) : VR φ (.iface 0 u) u

theorem VR.undef (φ : Phi) : VR φ undef undef := .tuple _ _ rfl fun i h => by simp at h

/-- Lists of values. -/
def LR (φ : Phi) (l l' : List Value) : Prop := l.length = l'.length ∧ ∀ i, i < l.length → VR φ (l.getD i Go.undef) (l'.getD i Go.undef)

def Sub (φ φ' : Phi) : Prop := ∀ b x, φ b = some x → φ' b = some x
theorem Sub.refl (φ : Phi) : Sub φ φ := fun _ _ h => h
theorem Sub.trans {a b c : Phi} (h : Sub a b) (k : Sub b c) : Sub a c := fun x y e => k x y (h x y e)

theorem VR.mono {φ φ' : Phi} (h : Sub φ φ') {v u : Value} (r : VR φ v u) : VR φ' v u := by
  induction r with
  | bool b => exact .bool b
  | int k n => exact .int k n
  | str s => exact .str s
  | pnil => exact .pnil
  | ptr o e => exact .ptr o (h _ _ e)
  | snil n c => exact .snil n c
  | sl o n c e => exact .sl o n c (h _ _ e)
  | slo o o' n c c' e hh hc ho hn hv => exact .slo o o' n c c' e (h _ _ hh) hc ho hn hv
  | mnil => exact .mnil
  | map e => exact .map (h _ _ e)
  | cnil => exact .cnil
  | chan e => exact .chan (h _ _ e)
  | func f cs cs' hs _ ih => exact .func f cs cs' hs ih
  | nilFunc => exact .nilFunc
  | nilIface => exact .nilIface
  | agg cs cs' hs _ ih => exact .agg cs cs' hs ih
  | tuple cs cs' hs _ ih => exact .tuple cs cs' hs ih
  | junk u => exact .junk u

theorem LR.mono {φ φ' : Phi} (h : Sub φ φ') {v u : List Value} (r : LR φ v u) : LR φ' v u := ⟨r.1, fun i hi => (r.2 i hi).mono h⟩
theorem LR.nil (φ : Phi) : LR φ [] [] := ⟨rfl, fun i h => by simp at h⟩
theorem LR.cons {φ : Phi} {a b : Value} {l m : List Value} (h : VR φ a b) (r : LR φ l m) : LR φ (a :: l) (b :: m) :=
  ⟨by simp [r.1], fun i hi => by
    cases i with
    | zero => simpa using h
    | succ i => simpa using r.2 i (by simpa using hi)⟩
theorem LR.head {φ : Phi} {a : Value} {l m : List Value} (h : LR φ (a :: l) m) : ∃ b k, m = b :: k ∧ VR φ a b ∧ LR φ l k := by
  cases m with
  | nil => have := h.1; simp at this
  | cons b k =>
    refine ⟨b, k, rfl, by simpa using h.2 0 (by simp), by simpa using h.1, fun i hi => ?_⟩
    simpa using h.2 (i + 1) (by simpa using hi)
theorem LR.append {φ : Phi} {a b c d : List Value} (h : LR φ a b) (k : LR φ c d) : LR φ (a ++ c) (b ++ d) := by
  induction a generalizing b with
  | nil => have := h.1; cases b <;> simp_all
  | cons x a ih =>
    obtain ⟨y, b, rfl, h1, h2⟩ := h.head
    exact .cons h1 (ih h2)
theorem LR.take {φ : Phi} {a b : List Value} (n : Nat) (h : LR φ a b) : LR φ (a.take n) (b.take n) := by
  induction a generalizing b n with
  | nil => have := h.1; cases b <;> simp_all
  | cons x a ih =>
    obtain ⟨y, b, rfl, h1, h2⟩ := h.head
    cases n with
    | zero => exact .nil _
    | succ n => exact .cons h1 (ih n h2)
theorem LR.drop {φ : Phi} {a b : List Value} (n : Nat) (h : LR φ a b) : LR φ (a.drop n) (b.drop n) := by
  induction a generalizing b n with
  | nil => have := h.1; cases b <;> simp_all
  | cons x a ih =>
    obtain ⟨y, b, rfl, h1, h2⟩ := h.head
    cases n with
    | zero => exact .cons h1 h2
    | succ n => exact ih n h2
theorem LR.get {φ : Phi} {a b : List Value} (h : LR φ a b) {i : Nat} {v : Value} (hv : a[i]? = some v) : ∃ u, b[i]? = some u ∧ VR φ v u := by
  obtain ⟨hi, rfl⟩ := List.getElem?_eq_some_iff.1 hv
  have hj : i < b.length := h.1 ▸ hi
  refine ⟨b[i], by simp [hj], ?_⟩
  have := h.2 i hi
  simpa [List.getD, hi, hj] using this
theorem LR.map {φ : Phi} {α : Type} (l : List α) (f g : α → Value) (h : ∀ x ∈ l, VR φ (f x) (g x)) : LR φ (l.map f) (l.map g) := by
  induction l with
  | nil => exact .nil _
  | cons x l ih => exact .cons (h x (by simp)) (ih fun y hy => h y (by simp [hy]))

theorem VR.aggL {φ : Phi} {l m : List Value} (h : LR φ l m) : VR φ (.agg l.toArray) (.agg m.toArray) :=
  .agg _ _ (by simpa using h.1) fun i hi => by simpa [List.getD] using h.2 i (by simpa using hi)
theorem VR.tupleL {φ : Phi} {l m : List Value} (h : LR φ l m) : VR φ (.tuple l.toArray) (.tuple m.toArray) :=
  .tuple _ _ (by simpa using h.1) fun i hi => by simpa [List.getD] using h.2 i (by simpa using hi)
theorem VR.funcL {φ : Phi} {f : Nat} {l m : List Value} (h : LR φ l m) : VR φ (.func (.func f) #[] l.toArray) (.func (.func f) #[] m.toArray) :=
  .func f _ _ (by simpa using h.1) fun i hi => by simpa [List.getD] using h.2 i (by simpa using hi)
theorem LR.ofArr {φ : Phi} {cs cs' : Array Value} (hs : cs.size = cs'.size) (h : ∀ i, i < cs.size → VR φ (cs.getD i Go.undef) (cs'.getD i Go.undef)) : LR φ cs.toList cs'.toList :=
  ⟨by simpa using hs, fun i hi => by simpa [List.getD] using h i (by simpa using hi)⟩
theorem VR.agg_inv {φ : Phi} {cs : Array Value} {u : Value} (h : VR φ (.agg cs) u) : ∃ cs', u = .agg cs' ∧ LR φ cs.toList cs'.toList := by
  cases h with
  | agg _ cs' hs h => exact ⟨cs', rfl, .ofArr hs h⟩
theorem VR.tuple_inv {φ : Phi} {cs : Array Value} {u : Value} (h : VR φ (.tuple cs) u) : ∃ cs', u = .tuple cs' ∧ LR φ cs.toList cs'.toList := by
  cases h with
  | tuple _ cs' hs h => exact ⟨cs', rfl, .ofArr hs h⟩
theorem VR.func_inv {φ : Phi} {f : Fn} {a cs : Array Value} {u : Value} (h : VR φ (.func f a cs) u) : ∃ k cs', f = .func k ∧ a = #[] ∧ u = .func (.func k) #[] cs' ∧ LR φ cs.toList cs'.toList := by
  cases h with
  | func k _ cs' hs h => exact ⟨k, cs', rfl, rfl, rfl, .ofArr hs h⟩

theorem VR.cells {φ : Phi} {v u : Value} (h : VR φ v u) (hj : isJ v = false) : LR φ v.cells.toList u.cells.toList := by
  cases h with
  | agg cs cs' hs h => exact .ofArr hs h
  | bool b => exact .cons (.bool b) (.nil _)
  | int k n => exact .cons (.int k n) (.nil _)
  | str s => exact .cons (.str s) (.nil _)
  | pnil => exact .cons .pnil (.nil _)
  | ptr o e => exact .cons (.ptr o e) (.nil _)
  | snil n c => exact .cons (.snil n c) (.nil _)
  | sl o n c e => exact .cons (.sl o n c e) (.nil _)
  | slo o o' n c c' e hh hc ho hn hv => exact .cons (.slo o o' n c c' e hh hc ho hn hv) (.nil _)
  | mnil => exact .cons .mnil (.nil _)
  | map e => exact .cons (.map e) (.nil _)
  | cnil => exact .cons .cnil (.nil _)
  | chan e => exact .cons (.chan e) (.nil _)
  | func f cs cs' hs h => exact .cons (.func f cs cs' hs h) (.nil _)
  | nilFunc => exact .cons .nilFunc (.nil _)
  | nilIface => exact .cons .nilIface (.nil _)
  | tuple cs cs' hs h => exact .cons (.tuple cs cs' hs h) (.nil _)
  | junk u => cases hj
theorem VR.one {φ : Phi} {v u : Value} (h : VR φ v u) : u.oneCell' = Dx.one v := by
  cases h <;> rfl
theorem LR.one {φ : Phi} {l m : List Value} (h : LR φ l m) (ha : l.all Dx.one = true) : ∀ v ∈ m, v.oneCell' = true := by
  induction l generalizing m with
  | nil => have := h.1; cases m <;> simp_all
  | cons x l ih =>
    obtain ⟨y, m, rfl, h1, h2⟩ := h.head
    simp only [List.all_cons, Bool.and_eq_true] at ha
    intro v hv
    cases List.mem_cons.1 hv with
    | inl e => subst e; rw [h1.one]; exact ha.1
    | inr e => exact ih h2 ha.2 v e

/-- A block of the world stands for an abstract one. -/
def OR (φ : Phi) (w : World) (b' n : Nat) : Ob → Prop
  | .cells ro c => ∃ arr elem fr, w.heap[b']? = some (.cells arr elem fr) ∧ arr.size = n ∧ c.length ≤ n ∧ LR φ c (arr.toList.take c.length) ∧
      (ro = false → fr.1 = fr.2 ∨ n ≤ fr.1)
  | .chan cap buf => ∃ arr s r, w.heap[b']? = some (.chan cap arr false s r false) ∧ LR φ buf arr.toList
  | .map es => ∃ arr clock, w.heap[b']? = some (.map arr clock) ∧ arr.toList.length = es.length ∧
      ∀ (i : Nat) (e : Value × Value), es[i]? = some e → ∃ x : MapEntry, arr.toList[i]? = some x ∧ VR φ e.1 x.key ∧ VR φ e.2 x.val

def Hp.wrt (h : Hp) (b : Nat) : Bool :=
  match h.get b with
  | some (.cells ro _) => !ro
  | some _ => true
  | none => false

structure HR (φ : Phi) (h : Hp) (w : World) : Prop where
  live : ∀ b o, h.get b = some o → ∃ b' n, φ b = some (b', n) ∧ OR φ w b' n o
  inj : ∀ b c b' n m, (h.get b).isSome = true → (h.get c).isSome = true → φ b = some (b', n) → φ c = some (b', m) → b = c
  fresh : ∀ b, h.next ≤ b → φ b = none

/-- No block comes back that was let go. -/
def Le (h h' : Hp) : Prop := h.next ≤ h'.next ∧ ∀ b, b < h.next → h.get b = none → h'.get b = none
theorem Le.refl (h : Hp) : Le h h := ⟨Nat.le_refl _, fun _ _ h => h⟩
theorem Le.trans {a b c : Hp} (h : Le a b) (k : Le b c) : Le a c := ⟨Nat.le_trans h.1 k.1, fun x hx e => k.2 x (Nat.lt_of_lt_of_le hx h.1) (h.2 x hx e)⟩
theorem Le.put {h : Hp} {b : Nat} {o : Option Ob} (hb : (h.get b).isSome = true ∨ o = none) : Le h (h.put b o) := ⟨Nat.le_refl _, fun x hx e => by
  simp only [Hp.put]
  split
  · rename_i hh
    rcases hb with hb | hb
    · rw [← hh.1, e] at hb; cases hb
    · exact hb
  · exact e⟩
theorem Le.push (h : Hp) (o : Ob) : Le h (h.push o) := ⟨by simp [Hp.push], fun x hx e => by
  simp only [Hp.push]
  rw [if_neg (by omega)]
  exact e⟩
theorem Le.adv (h : Hp) (k : Nat) : Le h (h.adv k) := ⟨by simp [Hp.adv], fun x hx e => e⟩

structure Ext (φ : Phi) (h : Hp) (w : World) (φ' : Phi) (h' : Hp) (w' : World) : Prop where
  sub : Sub φ φ'
  hr : HR φ' h' w'
  os : w'.os = w.os
  tape : w'.tape = w.tape
  output : w'.output = w.output
  size : w.heap.size ≤ w'.heap.size
  frame : ∀ b', b' < w.heap.size → (∀ b n, h.wrt b = true → φ b ≠ some (b', n)) → w'.heap[b']? = w.heap[b']?
  img : ∀ b b' n, (h'.get b).isSome = true → φ' b = some (b', n) → b' < w.heap.size → ∃ c m, (h.get c).isSome = true ∧ φ c = some (b', m) ∧ (h'.wrt b = true → h.wrt c = true)
  old : ∀ b, b < h.next → φ' b = φ b ∨ (φ b = none ∧ h.get b = none ∧ (h'.get b).isSome = true)

theorem Ext.refl {φ : Phi} {h : Hp} {w : World} (r : HR φ h w) : Ext φ h w φ h w :=
  ⟨.refl _, r, rfl, rfl, rfl, Nat.le_refl _, fun _ _ _ => rfl, fun b _ n hb e _ => ⟨b, n, hb, e, id⟩, fun _ _ => .inl rfl⟩
theorem Ext.trans {φ φ₁ φ₂ : Phi} {h h₁ h₂ : Hp} {w w₁ w₂ : World} (hr : HR φ h w) (x : Ext φ h w φ₁ h₁ w₁) (y : Ext φ₁ h₁ w₁ φ₂ h₂ w₂) (hle : Le h h₁) : Ext φ h w φ₂ h₂ w₂ where
  sub := x.sub.trans y.sub
  hr := y.hr
  os := y.os.trans x.os
  tape := y.tape.trans x.tape
  output := y.output.trans x.output
  size := Nat.le_trans x.size y.size
  frame b' hb hn := by
    rw [y.frame b' (Nat.lt_of_lt_of_le hb x.size) fun b n hw he => ?_, x.frame b' hb hn]
    have hs : (h₁.get b).isSome = true := by
      unfold Hp.wrt at hw
      cases hg : h₁.get b <;> simp_all
    obtain ⟨c, m, _, hc2, hc3⟩ := x.img b b' n hs he hb
    exact hn c m (hc3 hw) hc2
  img b b' n hs he hb := by
    obtain ⟨c, m, h1, h2, h3⟩ := y.img b b' n hs he (Nat.lt_of_lt_of_le hb x.size)
    obtain ⟨d, k, g1, g2, g3⟩ := x.img c b' m h1 h2 hb
    exact ⟨d, k, g1, g2, fun e => g3 (h3 e)⟩
  old b hb := by
    rcases x.old b hb with h1 | ⟨_, h1, h2⟩
    · rcases y.old b (Nat.lt_of_lt_of_le hb hle.1) with h3 | ⟨h3, h4, h5⟩
      · exact .inl (h3.trans h1)
      · by_cases hg : h.get b = none
        · exact .inr ⟨h1 ▸ h3, hg, h5⟩
        · obtain ⟨o, ho⟩ := Option.ne_none_iff_exists'.1 hg
          obtain ⟨b', n, h6, _⟩ := hr.live b o ho
          rw [h1, h6] at h3; cases h3
    · rw [hle.2 b hb h1] at h2; cases h2
theorem Ext.drew {φ φ' : Phi} {h h' : Hp} {w w' : World} {n : Nat} (x : Ext φ h { w with drawn := n } φ' h' w') : Ext φ h w φ' h' w' :=
  ⟨x.sub, x.hr, x.os, x.tape, x.output, x.size, x.frame, x.img, x.old⟩

theorem OR.mono {φ φ' : Phi} (h : Sub φ φ') {w w' : World} {b' n : Nat} {o : Ob} (hw : w'.heap[b']? = w.heap[b']?) (r : OR φ w b' n o) : OR φ' w' b' n o := by
  cases o with
  | cells ro c =>
    obtain ⟨arr, elem, fr, h1, h2, h3, h4, h5⟩ := r
    exact ⟨arr, elem, fr, hw.trans h1, h2, h3, h4.mono h, h5⟩
  | chan cap buf =>
    obtain ⟨arr, s, r, h1, h2⟩ := r
    exact ⟨arr, s, r, hw.trans h1, h2.mono h⟩
  | map es =>
    obtain ⟨arr, clock, h1, h2, h3⟩ := r
    exact ⟨arr, clock, hw.trans h1, h2, fun i e he => let ⟨x, a, b, c⟩ := h3 i e he; ⟨x, a, b.mono h, c.mono h⟩⟩
theorem OR.lt {φ : Phi} {w : World} {b' n : Nat} {o : Ob} (r : OR φ w b' n o) : b' < w.heap.size := by
  have : ∃ x, w.heap[b']? = some x := by
    cases o with
    | cells ro c => obtain ⟨arr, elem, fr, h1, _⟩ := r; exact ⟨_, h1⟩
    | chan cap buf => obtain ⟨arr, s, r, h1, _⟩ := r; exact ⟨_, h1⟩
    | map es => obtain ⟨arr, clock, h1, _⟩ := r; exact ⟨_, h1⟩
  obtain ⟨x, hx⟩ := this
  exact (Array.getElem?_eq_some_iff.1 hx).1

theorem HR.drew {φ : Phi} {h : Hp} {w : World} (r : HR φ h w) (n : Nat) : HR φ h { w with drawn := n } := ⟨r.live, r.inj, r.fresh⟩

/-- Less is held: blocks let go, numbers let by. -/
theorem HR.less {φ : Phi} {h g : Hp} {w : World} (r : HR φ h w) (hn : h.next ≤ g.next) (hg : ∀ b o, g.get b = some o → h.get b = some o) : HR φ g w where
  live b o hb := r.live b o (hg b o hb)
  inj b c b' n m hb hc := by
    obtain ⟨x, hx⟩ := Option.isSome_iff_exists.1 hb
    obtain ⟨y, hy⟩ := Option.isSome_iff_exists.1 hc
    exact r.inj b c b' n m (by simp [hg b x hx]) (by simp [hg c y hy])
  fresh b hb := r.fresh b (Nat.le_trans hn hb)
theorem Ext.less {φ φ' : Phi} {h h' g : Hp} {w w' : World} (x : Ext φ h w φ' h' w') (hn : h'.next ≤ g.next) (hg : ∀ b o, g.get b = some o → h'.get b = some o) (hle : Le h h') :
    Ext φ h w φ' g w' where
  sub := x.sub
  hr := x.hr.less hn hg
  os := x.os
  tape := x.tape
  output := x.output
  size := x.size
  frame := x.frame
  img b b' n hs he hb := by
    obtain ⟨o, ho⟩ := Option.isSome_iff_exists.1 hs
    obtain ⟨c, m, h1, h2, h3⟩ := x.img b b' n (by simp [hg b o ho]) he hb
    refine ⟨c, m, h1, h2, fun hw => h3 ?_⟩
    unfold Hp.wrt at hw ⊢
    rw [hg b o ho]
    rw [ho] at hw
    exact hw
  old b hb := (x.old b hb).imp id fun ⟨_, h1, h2⟩ => by rw [hle.2 b hb h1] at h2; cases h2
/-- Where nothing comes back, what a number stands for stays. -/
theorem Ext.still {φ φ' : Phi} {h h' : Hp} {w w' : World} (x : Ext φ h w φ' h' w') (hle : Le h h') {b : Nat} (hb : b < h.next) : φ' b = φ b :=
  (x.old b hb).resolve_right fun ⟨_, h1, h2⟩ => by rw [hle.2 b hb h1] at h2; cases h2

def ups (φ : Phi) (b : Nat) (x : Nat × Nat) : Phi := fun c => if c = b then some x else φ c

/-- Where a new block's number comes from: the next one, or one that was let by. -/
inductive Slot (φ : Phi) (h : Hp) : Nat → (Ob → Hp) → Prop where
  | next : Slot φ h h.next h.push
  | held (id : Nat) (hlt : id < h.next) (hg : h.get id = none) (hφ : φ id = none) : Slot φ h id fun o => h.put id (some o)

theorem Slot.phi {φ : Phi} {h : Hp} {w : World} {id : Nat} {fill : Ob → Hp} (s : Slot φ h id fill) (r : HR φ h w) : φ id = none := by
  cases s with
  | next => exact r.fresh _ (Nat.le_refl _)
  | held _ _ _ hφ => exact hφ
theorem Slot.none {φ : Phi} {h : Hp} {id : Nat} {fill : Ob → Hp} (s : Slot φ h id fill) : h.get id = none := by
  cases s with
  | next => exact h.wf _ (Nat.le_refl _)
  | held _ _ hg _ => exact hg
theorem Slot.get {φ : Phi} {h : Hp} {id : Nat} {fill : Ob → Hp} (s : Slot φ h id fill) (o : Ob) (b : Nat) : (fill o).get b = if b = id then some o else h.get b := by
  cases s with
  | next => rfl
  | held _ hlt _ _ => simp [Hp.put, hlt]
theorem Slot.le {φ : Phi} {h : Hp} {id : Nat} {fill : Ob → Hp} (s : Slot φ h id fill) (o : Ob) : id < (fill o).next ∧ h.next ≤ (fill o).next := by
  cases s with
  | next => simp [Hp.push]
  | held _ hlt _ _ => exact ⟨hlt, Nat.le_refl _⟩

/-- A new block. -/
theorem Ext.alloc {φ : Phi} {h : Hp} {w w' : World} {id : Nat} {fill : Ob → Hp} (s : Slot φ h id fill) (r : HR φ h w) (o : Ob) (ob : Obj) (n : Nat)
    (hw : w'.heap = w.heap.push ob) (hos : w'.os = w.os) (ht : w'.tape = w.tape) (ho : w'.output = w.output)
    (hr : OR (ups φ id (w.heap.size, n)) w' w.heap.size n o) :
    Ext φ h w (ups φ id (w.heap.size, n)) (fill o) w' := by
  have hsub : Sub φ (ups φ id (w.heap.size, n)) := fun b x hb => by
    unfold ups
    split
    · rename_i e; subst e; rw [s.phi r] at hb; cases hb
    · exact hb
  have hold : ∀ k, k < w.heap.size → w'.heap[k]? = w.heap[k]? := fun k hk => by
    rw [hw, Array.getElem?_push, if_neg (by omega)]
  refine ⟨hsub, ⟨?_, ?_, ?_⟩, hos, ht, ho, by rw [hw]; simp, fun b' hb _ => hold b' hb, ?_, fun b hb => ?_⟩
  · intro b x hb
    rw [s.get] at hb
    split at hb
    · rename_i e
      subst e
      cases hb
      exact ⟨w.heap.size, n, by simp [ups], hr⟩
    · rename_i e
      obtain ⟨b', m, h1, h2⟩ := r.live b x hb
      exact ⟨b', m, by simp [ups, e, h1], h2.mono hsub (hold b' h2.lt)⟩
  · intro b c b' k m hb hc h1 h2
    rw [s.get] at hb hc
    by_cases e1 : b = id <;> by_cases e2 : c = id
    · rw [e1, e2]
    · simp only [ups, e1, if_true, e2, if_false] at h1 h2 hc
      obtain ⟨y, hy⟩ := Option.isSome_iff_exists.1 hc
      obtain ⟨c', q, g1, g2⟩ := r.live c y hy
      have := g2.lt
      simp_all
    · simp only [ups, e1, if_true, e2, if_false] at h1 h2 hb
      obtain ⟨y, hy⟩ := Option.isSome_iff_exists.1 hb
      obtain ⟨c', q, g1, g2⟩ := r.live b y hy
      have := g2.lt
      simp_all
    · simp only [ups, e1, e2, if_false] at h1 h2 hb hc
      exact r.inj b c b' k m hb hc h1 h2
  · intro b hb
    have hl := s.le o
    simp only [ups]
    rw [if_neg (by omega)]
    exact r.fresh b (by omega)
  · intro b b' m hb he hlt
    by_cases e : b = id
    · simp only [ups, e, if_true] at he
      simp at he
      omega
    · simp only [ups, e, if_false] at he
      rw [s.get, if_neg e] at hb
      refine ⟨b, m, hb, he, fun hw => ?_⟩
      unfold Hp.wrt at hw ⊢
      rw [s.get, if_neg e] at hw
      exact hw
  · by_cases e : b = id
    · subst e
      exact .inr ⟨s.phi r, s.none, by rw [s.get, if_pos rfl]; rfl⟩
    · exact .inl (by simp [ups, e])

/-- A block is another one. -/
theorem Ext.set {φ : Phi} {h : Hp} {w w' : World} (r : HR φ h w) {b b' n : Nat} {o o' : Ob} {x' : Obj} (hb : h.get b = some o) (hwr : h.wrt b = true) (hφ : φ b = some (b', n))
    (hw : w'.heap = w.heap.setIfInBounds b' x') (hos : w'.os = w.os) (ht : w'.tape = w.tape) (ho : w'.output = w.output)
    (hr : OR φ w' b' n o') : Ext φ h w φ (h.put b (some o')) w' := by
  have hlt : b < h.next := by
    rcases Nat.lt_or_ge b h.next with hl | hl
    · exact hl
    · rw [h.wf b hl] at hb; cases hb
  have hold : ∀ k, k ≠ b' → w'.heap[k]? = w.heap[k]? := fun k hk => by
    rw [hw, Array.getElem?_setIfInBounds_ne (Ne.symm hk)]
  refine ⟨.refl _, ⟨?_, ?_, ?_⟩, hos, ht, ho, by rw [hw]; simp, fun c hc hn => hold c fun e => ?_, ?_, fun _ _ => .inl rfl⟩
  · intro c y hc
    simp only [Hp.put] at hc
    split at hc
    · rename_i e
      obtain ⟨e, _⟩ := e
      subst e
      cases hc
      exact ⟨b', n, hφ, hr⟩
    · rename_i e
      obtain ⟨c', m, h1, h2⟩ := r.live c y hc
      refine ⟨c', m, h1, h2.mono (.refl _) (hold c' fun e' => e ⟨?_, hlt⟩)⟩
      subst e'
      exact r.inj c b c' m n (by simp [hc]) (by simp [hb]) h1 hφ
  · intro c d c' k m hc hd h1 h2
    have fix : ∀ c, ((h.put b (some o')).get c).isSome = true → (h.get c).isSome = true := fun c hc => by
      simp only [Hp.put] at hc
      split at hc
      · rename_i e; rw [e.1, hb]; rfl
      · exact hc
    exact r.inj c d c' k m (fix c hc) (fix d hd) h1 h2
  · exact fun c hc => r.fresh c hc
  · subst e
    exact hn b n hwr hφ
  · intro c c' m hc he _
    simp only [Hp.put] at hc
    by_cases e : c = b
    · subst e
      exact ⟨c, m, by simp [hb], he, fun _ => hwr⟩
    · refine ⟨c, m, ?_, he, fun hw => ?_⟩
      · simpa [e] using hc
      · unfold Hp.wrt at hw ⊢
        simpa [Hp.put, e] using hw

theorem heap_setCells (b : Nat) (arr : Array Value) (elem : TypeId) (fr : Nat × Nat) : ∀ (vs : List Value) (o : Nat) (w : World), w.heap[b]? = some (.cells arr elem fr) → o + vs.length ≤ arr.size →
    (w.setCells b o vs).heap = w.heap.setIfInBounds b (.cells (arr.toList.take o ++ vs ++ arr.toList.drop (o + vs.length)).toArray elem fr) ∧
    (w.setCells b o vs).os = w.os ∧ (w.setCells b o vs).tape = w.tape ∧ (w.setCells b o vs).output = w.output := by
  intro vs
  induction vs generalizing arr with
  | nil =>
    intro o w h _
    refine ⟨?_, rfl, rfl, rfl⟩
    simp only [World.setCells, List.length_nil, Nat.add_zero, List.append_nil, List.take_append_drop, Array.toArray_toList]
    apply Array.ext'
    apply List.ext_getElem?
    intro i
    simp only [Array.getElem?_toList, Array.getElem?_setIfInBounds]
    split
    · rename_i e; subst e
      split
      · exact h
      · rename_i hh; exact Array.getElem?_eq_none (by omega)
    · rfl
  | cons v vs ih =>
    intro o w h hs
    simp only [List.length_cons] at hs
    have h1 : (w.setCell ⟨b, o, none⟩ v).heap = w.heap.setIfInBounds b (.cells (arr.setIfInBounds o v) elem fr) := by
      simp only [World.setCell, Option.isSome_none, Bool.false_eq_true, if_false]
      apply Array.ext'
      apply List.ext_getElem?
      intro i
      simp only [Array.getElem?_toList, Array.getElem?_setIfInBounds, Array.getElem?_modify]
      by_cases e : b = i
      · subst e
        obtain ⟨hlt, he⟩ := Array.getElem?_eq_some_iff.1 h
        simp [he, hlt]
      · simp [e]
    have hlt := (Array.getElem?_eq_some_iff.1 h).1
    have hg : (w.setCell ⟨b, o, none⟩ v).heap[b]? = some (.cells (arr.setIfInBounds o v) elem fr) := by
      rw [h1]; simp [hlt]
    obtain ⟨k1, k2, k3, k4⟩ := ih (arr.setIfInBounds o v) (o + 1) (w.setCell ⟨b, o, none⟩ v) hg (by simp; omega)
    simp only [World.setCells]
    refine ⟨?_, k2, k3, k4⟩
    rw [k1, h1, Array.setIfInBounds_setIfInBounds]
    congr 2
    have ho : o < arr.toList.length := by simpa using by omega
    simp only [Array.toList_setIfInBounds, List.length_cons]
    rw [List.take_set, List.take_add_one, List.drop_set]
    have e1 : (arr.toList.take o ++ arr.toList[o]?.toList).set o v = arr.toList.take o ++ [v] := by
      rw [List.getElem?_eq_getElem ho, List.set_append_right _ _ (by simp; omega)]
      have : o - (arr.toList.take o).length = 0 := by simp; omega
      rw [this]
      rfl
    rw [e1, if_pos (by omega), show o + 1 + vs.length = o + (vs.length + 1) by omega]
    simp

theorem HR.get {φ : Phi} {h : Hp} {w : World} (r : HR φ h w) {b b' n : Nat} {o : Ob} (hb : h.get b = some o) (hφ : φ b = some (b', n)) : OR φ w b' n o := by
  obtain ⟨c, m, h1, h2⟩ := r.live b o hb
  rw [hφ] at h1
  cases h1
  exact h2

theorem cells_of {h : Hp} {b : Nat} {c : List Value} (hb : h.cells b = some c) : ∃ ro, h.get b = some (.cells ro c) := by
  unfold Hp.cells at hb
  split at hb
  · rename_i ro c' e; cases hb; exact ⟨ro, e⟩
  · cases hb

/-- Reading. -/
theorem HR.rdn {φ : Phi} {h : Hp} {w : World} {P : Program} (r : HR φ h w) {b b' m o n : Nat} {vs : List Value} (hr : h.rdn b o n = some vs) (hφ : φ b = some (b', m)) :
    ∃ us, (∀ w' : World, w'.heap = w.heap → (loadCells ⟨b', o, none⟩ n).run P w' = .ok us.toArray w') ∧ LR φ vs us ∧ vs.length = n ∧ o + n ≤ m := by
  unfold Hp.rdn at hr
  obtain ⟨c, hc, hr⟩ := Option.bind_eq_some_iff.1 hr
  split at hr
  case isFalse => cases hr
  rename_i hle
  cases hr
  obtain ⟨ro, hg⟩ := cells_of hc
  obtain ⟨arr, elem, fr, h1, h2, h3, h4, _⟩ := r.get hg hφ
  refine ⟨((arr.toList.take c.length).drop o).take n, fun w' hh => ?_, (h4.drop o).take n, by simp; omega, by omega⟩
  have hl : (((arr.toList.take c.length).drop o).take n).length = n := by simp; omega
  conv => lhs; rw [← hl]
  refine run_loadCells_list w' _ _ fun j v hj => ?_
  have hj' : j < n := by
    rcases Nat.lt_or_ge j n with hh | hh
    · exact hh
    · rw [List.getElem?_eq_none (by omega)] at hj; cases hj
  have e : (⟨b', o, none⟩ : Addr).add j = ⟨b', o + j, none⟩ := by unfold Addr.add; split <;> simp_all
  rw [e]
  simp only [World.cell?, hh, h1, Option.isSome_none, Bool.false_eq_true, if_false]
  rw [List.getElem?_take_of_lt hj', List.getElem?_drop, List.getElem?_take_of_lt (by omega), Array.getElem?_toList] at hj
  exact hj
theorem HR.rd {φ : Phi} {h : Hp} {w : World} (r : HR φ h w) {b b' m o : Nat} {v : Value} (hr : h.rd b o = some v) (hφ : φ b = some (b', m)) :
    ∃ u, w.cell? ⟨b', o, none⟩ = some u ∧ VR φ v u := by
  unfold Hp.rd at hr
  obtain ⟨c, hc, hr⟩ := Option.bind_eq_some_iff.1 hr
  obtain ⟨ro, hg⟩ := cells_of hc
  obtain ⟨arr, elem, fr, h1, h2, h3, h4, _⟩ := r.get hg hφ
  obtain ⟨u, hu, hv⟩ := h4.get hr
  refine ⟨u, ?_, hv⟩
  simp only [World.cell?, h1, Option.isSome_none, Bool.false_eq_true, if_false]
  have : o < c.length := (List.getElem?_eq_some_iff.1 hr).1
  rw [List.getElem?_take_of_lt this, Array.getElem?_toList] at hu
  exact hu

theorem over_length {c vs : List Value} {o : Nat} (h : o + vs.length ≤ c.length) : (over c o vs).length = c.length := by
  simp [over]; omega

/-- Writing. -/
theorem HR.wr {φ : Phi} {h h' : Hp} {w : World} {P : Program} (r : HR φ h w) {b b' m o : Nat} {vs us : List Value} (hr : h.wr b o vs = some h') (hφ : φ b = some (b', m)) (hl : LR φ vs us) :
    ∃ w', (storeCells ⟨b', o, none⟩ us).run P w = .ok () w' ∧ Ext φ h w φ h' w' := by
  unfold Hp.wr at hr
  split at hr
  case h_2 => cases hr
  rename_i c hg
  split at hr
  case isFalse => cases hr
  rename_i hle
  obtain ⟨hle, hone⟩ := hle
  cases hr
  obtain ⟨arr, elem, fr, h1, h2, h3, h4, h5⟩ := r.get hg hφ
  have hlen := hl.1
  refine ⟨w.setCells b' o us, ?_, ?_⟩
  · have := run_storeCells_cells (P := P) b' o us 0 w (fun j hj => ?_) (fun j hj => ?_) (hl.one hone)
    · simpa using this
    · simp only [World.cell?, h1, Option.isSome_none, Bool.false_eq_true, if_false, Nat.add_zero]
      rw [Array.getElem?_eq_getElem (by omega)]
      rfl
    · have := h5 rfl
      simp only [World.frozen?, h1]
      simp only [Bool.and_eq_false_iff, decide_eq_false_iff_not]
      omega
  · obtain ⟨k1, k2, k3, k4⟩ := heap_setCells b' arr elem fr us o w h1 (by omega)
    refine Ext.set r hg (by simp [Hp.wrt, hg]) hφ k1 k2 k3 k4 ?_
    have hlt := (Array.getElem?_eq_some_iff.1 h1).1
    refine ⟨(arr.toList.take o ++ us ++ arr.toList.drop (o + us.length)).toArray, elem, fr, by rw [k1, Array.getElem?_setIfInBounds_self_of_lt hlt], ?_, by rw [over_length hle]; exact h3, ?_, h5⟩
    · have : arr.toList.length = m := by simpa using h2
      simp only [List.size_toArray, List.length_append, List.length_take, List.length_drop]
      omega
    rw [over_length hle]
    have e : (arr.toList.take o ++ us ++ arr.toList.drop (o + us.length)).take c.length = (arr.toList.take c.length).take o ++ us ++ (arr.toList.take c.length).drop (o + vs.length) := by
      have hal : arr.toList.length = m := by simpa using h2
      have e1 : (arr.toList.take o).length = o := by rw [List.length_take]; omega
      rw [List.take_append, List.take_append, List.take_take, List.drop_take, List.take_take, List.length_append, e1,
        List.take_of_length_le (i := c.length - o) (l := us) (by omega), Nat.min_comm, hlen]
    rw [e]
    exact ((h4.take o).append hl).append (h4.drop _)
end Go.Dx
