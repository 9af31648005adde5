/- Regions whose order is left open: the order that stands for all, its check, its states. -/
import Derived.Test.YtppgoobhlcdbbaaDx13
set_option linter.unusedSimpArgs false
set_option linter.unusedVariables false
namespace Go.Dx
open Classical

def It.o : It → O
  | .op _ o | .al _ _ o | .re _ o => o
def It.i : It → Nat
  | .op i _ | .al i _ _ | .re i _ => i
def It.isRe : It → Bool
  | .re .. => true
  | _ => false
def It.w : It → Option Nat
  | .re .. => none
  | .op _ o | .al _ _ o => o.d
def It.eff : It → Bool
  | .op _ o => isE o.o
  | _ => false
def It.rdr : It → Bool
  | .op _ o => isR o.o
  | _ => false
def It.alc : It → Option Nat
  | .al _ j _ => some j
  | _ => none

/-- i is to come before k. -/
def anc (b : Array Nat) (i k : Nat) : Bool := decide (i < k) && (b.getD k 0).testBit i

def imp (a b : Bool) : Bool := !a || b
theorem imp_of {a b : Bool} (h : imp a b = true) (ha : a = true) : b = true := by simpa [imp, ha] using h

def pairOK (b : Array Nat) (x y : It) : Bool :=
  x.isRe || y.isRe ||
  (x.i != y.i && !anc b y.i x.i && (match x.w with
    | some t => y.w != some t && imp (y.o.ts.contains t) (anc b x.i y.i)
    | none => true) && (match y.w with
    | some t => imp (x.o.ts.contains t) (anc b x.i y.i && !x.rdr)
    | none => true) && imp (x.eff && y.eff) (anc b x.i y.i) && imp (x.alc.isSome && y.eff) (anc b x.i y.i) && imp (x.eff && y.rdr) (anc b x.i y.i) &&
    (match x.alc with
    | some j => y.alc != some j
    | none => true))
def pairsOK (b : Array Nat) : List It → Bool
  | [] => true
  | x :: l => l.all (pairOK b x) && pairsOK b l
def resOK (b : Array Nat) : List It → List It → Bool
  | _, [] => true
  | seen, x :: l => imp x.eff (seen.all fun y => anc b y.i x.i || (l.takeWhile It.isRe).any fun z => z.i == y.i) && resOK b (if x.rdr then x :: seen else seen) l
def itemOK (b : Array Nat) (k : Nat) (x : It) : Bool :=
  (match x.alc with
  | some j => decide (j < k)
  | none => true) && !anc b x.i x.i && imp x.rdr (rtame x.o.o) && imp x.rdr (match x.w with
  | some t => !x.o.ts.contains t
  | none => true)
def closeOK (ops : Array Oper) (b : Array Nat) : Bool :=
  (List.range ops.size).all fun k => match ops[k]? with
    | some o => (o.after.toList.all fun e => imp (Region.binds .any e) (anc b e.on k)) &&
      (List.range ops.size).all fun i => imp (anc b i k) (o.after.toList.any fun e => Region.binds .any e && (e.on == i || (anc b i e.on && decide (e.on < k))))
    | none => true
def anyOK (ops : Array Oper) (b : Array Nat) (k : Nat) (l : List It) : Bool :=
  closeOK ops b && pairsOK b l && resOK b [] l && l.all (itemOK b k) && (List.range ops.size).all fun i => l.any fun x => !x.isRe && x.i == i

/-- The order: a list of numbers, once more or not. -/
def mkIts (ops : Array Oper) (tab : List O) : Nat → List (Nat × Bool) → Option (Nat × List It)
  | j, [] => some (j, [])
  | j, (i, re) :: l => (tab[i]?).bind fun o =>
    if re then (if isR o.o && o.d.isSome then (mkIts ops tab j l).map fun r => (r.1, .re i o :: r.2) else none)
    else if isA o.o then (if (ops[i]?).any (gopA ·.op) then (mkIts ops tab (j + 1) l).map fun r => (r.1, .al i j o :: r.2) else none)
    else (mkIts ops tab j l).map fun r => (r.1, .op i o :: r.2)

/-- What an item of the order comes from. -/
def Made (ops : Array Oper) (tab : List O) (x : It) : Prop :=
  tab[x.i]? = some x.o ∧ match x with
    | .op _ o => isA o.o = false
    | .al i _ o => isA o.o = true ∧ ∃ g, ops[i]? = some g ∧ gopA g.op = true
    | .re _ o => isR o.o = true ∧ o.d.isSome = true
theorem made {ops : Array Oper} {tab : List O} (l : List (Nat × Bool)) : ∀ (j k : Nat) (its : List It), mkIts ops tab j l = some (k, its) → ∀ x ∈ its, Made ops tab x := by
  induction l with
  | nil => intro j k its h; simp [mkIts] at h; obtain ⟨_, rfl⟩ := h; simp
  | cons p l ih =>
    intro j k its h
    obtain ⟨i, re⟩ := p
    simp only [mkIts] at h
    obtain ⟨o, ho, h⟩ := Option.bind_eq_some_iff.1 h
    split at h
    · split at h
      · rename_i hre
        obtain ⟨⟨k', l'⟩, h1, h2⟩ := Option.map_eq_some_iff.1 h
        cases h2
        intro x hx
        rcases List.mem_cons.1 hx with rfl | hx
        · simp only [Bool.and_eq_true] at hre; exact ⟨ho, hre⟩
        · exact ih _ _ _ h1 x hx
      · cases h
    · split at h
      · rename_i hA
        split at h
        · rename_i hg
          obtain ⟨⟨k', l'⟩, h1, h2⟩ := Option.map_eq_some_iff.1 h
          cases h2
          intro x hx
          rcases List.mem_cons.1 hx with rfl | hx
          · refine ⟨ho, hA, ?_⟩
            cases hop : ops[i]? with
            | none => simp [hop] at hg
            | some g => exact ⟨g, rfl, by simpa [hop] using hg⟩
          · exact ih _ _ _ h1 x hx
        · cases h
      · rename_i hA
        obtain ⟨⟨k', l'⟩, h1, h2⟩ := Option.map_eq_some_iff.1 h
        cases h2
        intro x hx
        rcases List.mem_cons.1 hx with rfl | hx
        · exact ⟨ho, by simpa using hA⟩
        · exact ih _ _ _ h1 x hx

/-- The order itself: readers early, makers of blocks late. -/
def emit (b : Array Nat) (n : Nat) (done : List Nat) (want : Nat → Bool) : List Nat :=
  (List.range n).filter fun i => !done.contains i && (want i || (List.range n).any fun k => want k && anc b i k)
def order (b : Array Nat) (tab : List O) : List Nat → List Nat → List (Nat × Bool)
  | [], done =>
    let kd (p : Op → Bool) (i : Nat) : Bool := (tab[i]?).any fun o => p o.o
    let new := emit b tab.length done (kd isR)
    (new ++ emit b tab.length (done ++ new) fun _ => true).map fun i => (i, false)
  | x :: l, done =>
    let kd (p : Op → Bool) (i : Nat) : Bool := (tab[i]?).any fun o => p o.o
    let early := emit b tab.length done fun i => kd isR i && (anc b i x || !anc b x i)
    let new := early ++ emit b tab.length (done ++ early) fun i => anc b i x
    let done' := done ++ new
    new.map (fun i => (i, false)) ++ (x, false) :: (done'.filter fun i => kd isR i && !anc b i x).map (fun i => (i, true)) ++ order b tab l (done' ++ [x])
def compAny (P : Program) (n : Nat) (ops : Array Oper) : Option (Nat × List It) :=
  if P.follows .mixedOrders = true then
    (ops.toList.mapM (compO P n ops)).bind fun tab =>
      let b := Region.before ops
      (mkIts ops tab 0 (order b tab ((List.range tab.length).filter fun i => (tab[i]?).any fun o => isE o.o) [])).bind fun r =>
        if anyOK ops b r.1 r.2 then some r else none
  else none

theorem mapM_get {α β : Type} {f : α → Option β} : ∀ {l : List α} {m : List β} {i : Nat} {y : β}, l.mapM f = some m → m[i]? = some y → ∃ x, l[i]? = some x ∧ f x = some y := by
  intro l
  induction l with
  | nil => intro m i y h hy; simp at h; subst h; simp at hy
  | cons a l ih =>
    intro m i y h hy
    rw [List.mapM_cons] at h
    obtain ⟨b, h1, h⟩ := Option.bind_eq_some_iff.1 h
    obtain ⟨m', h2, h⟩ := Option.bind_eq_some_iff.1 h
    cases h
    cases i with
    | zero => simp at hy; subst hy; exact ⟨a, rfl, h1⟩
    | succ i => simpa using ih h2 (by simpa using hy)

section
variable {P : Program} {φ φ' : Phi} {e e' : Env} {a : Act} {h h' : Hp} {w w' : World} {v : Value} {cl : Nat → Sp} {base : Nat}

theorem its_states {l : List It} : ∀ {e : Env} {h : Hp} {s : Env × Hp}, runIts cl base l e h = some s →
    ∃ st : Nat → Env × Hp, st 0 = (e, h) ∧ st l.length = s ∧ ∀ p x, l[p]? = some x → runIt cl base (st p).1 (st p).2 x = some (st (p + 1)) := by
  induction l with
  | nil => intro e h s hr; cases hr; exact ⟨fun _ => (e, h), rfl, rfl, fun p x hx => by simp at hx⟩
  | cons y l ih =>
    intro e h s hr
    obtain ⟨r, h1, h2⟩ := Option.bind_eq_some_iff.1 hr
    obtain ⟨st, s0, s1, s2⟩ := ih h2
    refine ⟨fun p => match p with | 0 => (e, h) | p + 1 => st p, rfl, s1, fun p x hx => ?_⟩
    cases p with
    | zero => simp at hx; subst hx; simp only [s0]; exact h1
    | succ p => exact s2 p x (by simpa using hx)

theorem pairs_get {b : Array Nat} : ∀ {l : List It}, pairsOK b l = true → ∀ {p q : Nat} {x y : It}, p < q → l[p]? = some x → l[q]? = some y → pairOK b x y = true := by
  intro l
  induction l with
  | nil => intro _ p q x y _ hx; simp at hx
  | cons z l ih =>
    intro h p q x y hpq hx hy
    simp only [pairsOK, Bool.and_eq_true, List.all_eq_true] at h
    cases q with
    | zero => omega
    | succ q =>
      simp only [List.getElem?_cons_succ] at hy
      cases p with
      | zero => simp at hx; subst hx; exact h.1 y (List.mem_of_getElem? hy)
      | succ p => exact ih h.2 (p := p) (q := q) (by omega) (by simpa using hx) hy

theorem tw_mem {α : Type} {p : α → Bool} {x : α} : ∀ {l : List α}, x ∈ l.takeWhile p → p x = true := by
  intro l
  induction l with
  | nil => intro h; simp at h
  | cons y l ih =>
    intro h
    rw [List.takeWhile_cons] at h
    split at h
    · rcases List.mem_cons.1 h with rfl | h
      · assumption
      · exact ih h
    · simp at h

theorem res_get {b : Array Nat} : ∀ {l seen : List It}, resOK b seen l = true → ∀ {q : Nat} {y x : It}, l[q]? = some x → x.eff = true → (y ∈ seen ∨ ∃ p, p < q ∧ l[p]? = some y ∧ y.rdr = true) →
    anc b y.i x.i = true ∨ ∃ r z, q < r ∧ l[r]? = some z ∧ z.isRe = true ∧ z.i = y.i ∧ ∀ s u, q < s → s < r → l[s]? = some u → u.isRe = true := by
  intro l
  induction l with
  | nil => intro _ _ q y x hx; simp at hx
  | cons z l ih =>
    intro seen h q y x hx he hy
    simp only [resOK, Bool.and_eq_true] at h
    cases q with
    | zero =>
      simp at hx
      subst hx
      have hys : y ∈ seen := by
        rcases hy with hy | ⟨p, hp, _⟩
        · exact hy
        · omega
      have := List.all_eq_true.1 (imp_of h.1 he) y hys
      simp only [Bool.or_eq_true, List.any_eq_true, beq_iff_eq] at this
      refine this.imp id fun ⟨z', hz, hi⟩ => ?_
      obtain ⟨r, hr, hrz⟩ := List.getElem_of_mem hz
      have hre := tw_mem hz
      have hpre := List.takeWhile_prefix (p := It.isRe) (l := l)
      refine ⟨r + 1, z', by omega, ?_, hre, hi, fun s u hs hsr hu => ?_⟩
      · simp only [List.getElem?_cons_succ]
        rw [← hrz]
        obtain ⟨t, ht⟩ := hpre
        conv => lhs; rw [← ht]
        rw [List.getElem?_append_left hr, List.getElem?_eq_getElem hr]
      · cases s with
        | zero => omega
        | succ s =>
          simp only [List.getElem?_cons_succ] at hu
          have hs' : s < (l.takeWhile It.isRe).length := by omega
          obtain ⟨t, ht⟩ := hpre
          rw [← ht, List.getElem?_append_left hs', List.getElem?_eq_getElem hs'] at hu
          cases hu
          exact tw_mem (List.getElem_mem hs')
    | succ q =>
      simp only [List.getElem?_cons_succ] at hx
      have hy' : y ∈ (if z.rdr then z :: seen else seen) ∨ ∃ p, p < q ∧ l[p]? = some y ∧ y.rdr = true := by
        rcases hy with hy | ⟨p, hp, hpy, hr⟩
        · left; split <;> simp [hy]
        · cases p with
          | zero => simp at hpy; subst hpy; left; rw [if_pos hr]; simp
          | succ p => exact .inr ⟨p, by omega, by simpa using hpy, hr⟩
      refine (ih h.2 hx he hy').imp id fun ⟨r, z', h1, h2, h3, h4, h5⟩ => ⟨r + 1, z', by omega, by simpa using h2, h3, h4, fun s u hs hsr hu => ?_⟩
      cases s with
      | zero => omega
      | succ s => exact h5 s u (by omega) (by omega) (by simpa using hu)

theorem runIt_env {x : It} (hr : runIt cl base e h x = some (e', h')) {t : Nat} (ht : x.w ≠ some t) : e' t = e t := by
  have key : ∀ (d : Option Nat) (v : Value), d ≠ some t → put e d v t = e t := fun d v hd => by
    cases d with
    | none => rfl
    | some d => simp only [put, upd]; rw [if_neg fun h => hd (by rw [h])]
  cases x with
  | op i o =>
    simp only [runIt, runO] at hr
    split at hr
    · cases hr
    · cases hr; exact key _ _ ht
    · obtain ⟨r, _, hh⟩ := Option.map_eq_some_iff.1 hr; cases hh; exact key _ _ ht
  | al i j o =>
    simp only [runIt] at hr
    split at hr
    · cases hr
    · cases hr; exact key _ _ ht
    · obtain ⟨r, _, hh⟩ := Option.map_eq_some_iff.1 hr; cases hh; exact key _ _ ht
  | re i o =>
    simp only [runIt] at hr
    repeat' split at hr
    all_goals first | (cases hr; done) | (cases hr; rfl)

/-- What is beside a part of the memory stays beside. -/
def merge (A G G' : Hp) (hn : A.next ≤ G'.next) : Hp :=
  ⟨G'.next, fun b => match G'.get b with
    | some o => some o
    | none => if G.get b = none then A.get b else none, fun b hb => by
    rw [G'.wf b hb]
    simp only
    split
    · exact A.wf b (Nat.le_trans hn hb)
    · rfl⟩

theorem Ext.frames {A G G' : Hp} (hA : HR φ A w) (hin : ∀ b o, G.get b = some o → A.get b = some o) (hnx : G.next = A.next) (x : Ext φ G w φ' G' w') (hle : Le G G') (hn : A.next ≤ G'.next) :
    Ext φ A w φ' (merge A G G' hn) w' := by
  have hG : ∀ b o, A.get b = some o → G.get b = none → ∃ b' n, φ b = some (b', n) ∧ OR φ w b' n o ∧ w'.heap[b']? = w.heap[b']? := by
    intro b o hb hg
    obtain ⟨b', n, h1, h2⟩ := hA.live b o hb
    refine ⟨b', n, h1, h2, x.frame b' h2.lt fun c m hw hc => ?_⟩
    have hs : (G.get c).isSome = true := by
      unfold Hp.wrt at hw
      cases hgc : G.get c <;> simp_all
    obtain ⟨o', ho'⟩ := Option.isSome_iff_exists.1 hs
    have := hA.inj c b b' m n (by simp [hin c o' ho']) (by simp [hb]) hc h1
    subst this
    rw [hg] at hs
    cases hs
  have hget : ∀ b o, (merge A G G' hn).get b = some o → G'.get b = some o ∨ (G'.get b = none ∧ G.get b = none ∧ A.get b = some o) := by
    intro b o hb
    simp only [merge] at hb
    split at hb
    · cases hb; exact .inl (by assumption)
    · split at hb
      · exact .inr ⟨by assumption, by assumption, hb⟩
      · cases hb
  refine ⟨x.sub, ⟨?_, ?_, ?_⟩, x.os, x.tape, x.output, x.size, ?_, ?_, ?_⟩
  · intro b o hb
    rcases hget b o hb with hb | ⟨_, h2, h3⟩
    · exact x.hr.live b o hb
    · obtain ⟨b', n, h4, h5, h6⟩ := hG b o h3 h2
      exact ⟨b', n, x.sub _ _ h4, h5.mono x.sub h6⟩
  · have cross : ∀ b c b' n m o p, G'.get b = some o → G.get c = none → A.get c = some p → φ' b = some (b', n) → φ' c = some (b', m) → b = c := by
      intro b c b' n m o p hb hc hp h1 h2
      obtain ⟨c', k, h4, h5, _⟩ := hG c p hp hc
      rw [x.sub _ _ h4] at h2
      cases h2
      obtain ⟨d, q, h6, h7, _⟩ := x.img b b' n (by simp [hb]) h1 h5.lt
      obtain ⟨od, hod⟩ := Option.isSome_iff_exists.1 h6
      have := hA.inj d c b' q _ (by simp [hin d od hod]) (by simp [hp]) h7 h4
      subst this
      rw [hc] at h6
      cases h6
    intro b c b' n m hb hc h1 h2
    obtain ⟨o, ho⟩ := Option.isSome_iff_exists.1 hb
    obtain ⟨p, hp⟩ := Option.isSome_iff_exists.1 hc
    rcases hget b o ho with g1 | ⟨_, g1, g2⟩ <;> rcases hget c p hp with k1 | ⟨_, k1, k2⟩
    · exact x.hr.inj b c b' n m (by simp [g1]) (by simp [k1]) h1 h2
    · exact cross b c b' n m o p g1 k1 k2 h1 h2
    · exact (cross c b b' m n p o k1 g1 g2 h2 h1).symm
    · obtain ⟨b₁, n₁, q1, _⟩ := hG b o g2 g1
      obtain ⟨c₁, m₁, q2, _⟩ := hG c p k2 k1
      have e1 := x.sub _ _ q1
      have e2 := x.sub _ _ q2
      rw [h1] at e1
      rw [h2] at e2
      cases e1
      cases e2
      exact hA.inj b c b' n m (by simp [g2]) (by simp [k2]) q1 q2
  · intro b hb
    exact x.hr.fresh b hb
  · intro b' hb hf
    refine x.frame b' hb fun c n hw => hf c n ?_
    unfold Hp.wrt at hw ⊢
    cases hgc : G.get c with
    | none => rw [hgc] at hw; cases hw
    | some o => rw [hin c o hgc]; rw [hgc] at hw; exact hw
  · intro b b' n hb h1 hlt
    obtain ⟨o, ho⟩ := Option.isSome_iff_exists.1 hb
    rcases hget b o ho with g1 | ⟨_, g1, g2⟩
    · obtain ⟨c, m, h2, h3, h4⟩ := x.img b b' n (by simp [g1]) h1 hlt
      obtain ⟨oc, hoc⟩ := Option.isSome_iff_exists.1 h2
      refine ⟨c, m, by simp [hin c oc hoc], h3, fun hw => ?_⟩
      have : G'.wrt b = true := by
        unfold Hp.wrt at hw ⊢
        rw [ho] at hw
        rw [g1]
        exact hw
      have := h4 this
      unfold Hp.wrt at this ⊢
      rw [hoc] at this
      rw [hin c oc hoc]
      exact this
    · obtain ⟨c', m, q1, _⟩ := hG b o g2 g1
      have e1 := x.sub _ _ q1
      rw [h1] at e1
      cases e1
      refine ⟨b, n, by simp [g2], q1, fun hw => ?_⟩
      unfold Hp.wrt at hw ⊢
      rw [ho] at hw
      rw [g2]
      exact hw
  · intro b hb
    exact .inl (x.still hle (by omega))
theorem merge_le {A G G' : Hp} (hin : ∀ b o, G.get b = some o → A.get b = some o) (hnx : G.next = A.next) (hle : Le G G') (hn : A.next ≤ G'.next) : Le A (merge A G G' hn) :=
  ⟨hn, fun b hb h0 => by
    have hg : G.get b = none := by
      cases hgb : G.get b with
      | none => rfl
      | some o => rw [hin b o hgb] at h0; cases h0
    simp only [merge, hle.2 b (by omega) hg, hg, if_true, h0]⟩
end
end Go.Dx
