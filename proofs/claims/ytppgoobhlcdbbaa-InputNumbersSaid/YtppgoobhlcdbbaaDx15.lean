/- Regions whose order is left open: one order stands for all. -/
import Derived.Test.YtppgoobhlcdbbaaDx14
set_option linter.unusedSimpArgs false
set_option linter.unusedVariables false
namespace Go.Dx
open Classical

theorem pairOK_spec {b : Array Nat} {x y : It} (h : pairOK b x y = true) (hx : x.isRe = false) (hy : y.isRe = false) :
    x.i ≠ y.i ∧ anc b y.i x.i = false ∧ (∀ t, x.w = some t → y.w ≠ some t ∧ (t ∈ y.o.ts → anc b x.i y.i = true)) ∧ (∀ t, y.w = some t → t ∈ x.o.ts → anc b x.i y.i = true ∧ x.rdr = false) ∧
    (x.eff = true → y.eff = true → anc b x.i y.i = true) ∧ (∀ j, x.alc = some j → y.eff = true → anc b x.i y.i = true) ∧ (x.eff = true → y.rdr = true → anc b x.i y.i = true) ∧
    (∀ j, x.alc = some j → y.alc ≠ some j) := by
  simp only [pairOK, hx, hy, Bool.false_or, Bool.and_eq_true, bne_iff_ne, ne_eq, Bool.not_eq_true'] at h
  obtain ⟨⟨⟨⟨⟨⟨⟨h1, h2⟩, h3⟩, h4⟩, h5⟩, h6⟩, h7⟩, h8⟩ := h
  refine ⟨h1, h2, ?_, ?_, ?_, ?_, ?_, ?_⟩
  · intro t ht
    rw [ht] at h3
    simp only [Bool.and_eq_true, bne_iff_ne, ne_eq] at h3
    exact ⟨h3.1, fun hm => imp_of h3.2 (by simpa using hm)⟩
  · intro t ht hm
    rw [ht] at h4
    have := imp_of h4 (by simpa using hm)
    simpa using this
  · intro hx hy; exact imp_of h5 (by simp [hx, hy])
  · intro j hj hy; exact imp_of h6 (by simp [hj, hy])
  · intro hx hy; exact imp_of h7 (by simp [hx, hy])
  · intro j hj
    rw [hj] at h8
    simpa using h8

structure Ctx (P : Program) (cl : Nat → Sp) (n : Nat) (ops : Array Oper) (tab : List O) (b : Array Nat) (k base : Nat) (its : List It) (st : Nat → Env × Hp) : Prop where
  hcl : ∀ f, SpecOK P f (cl f)
  tabs : ops.toList.mapM (compO P n ops) = some tab
  src : ∀ x ∈ its, Made ops tab x
  close : closeOK ops b = true
  pairs : pairsOK b its = true
  res : resOK b [] its = true
  item : ∀ x ∈ its, itemOK b k x = true
  cover : ∀ i, i < ops.size → ∃ x ∈ its, x.isRe = false ∧ x.i = i
  run : ∀ p x, its[p]? = some x → runIt cl base (st p).1 (st p).2 x = some (st (p + 1))
  free : ∀ j, j < k → (st 0).2.get (base + j) = none
  next : base + k ≤ (st 0).2.next

noncomputable def eS (its : List It) (st : Nat → Env × Hp) (S : Nat → Prop) : Env :=
  fun t => if ∃ (q : Nat) (x : It), its[q]? = some x ∧ x.w = some t ∧ S x.i then (st its.length).1 t else (st 0).1 t

theorem re_of_w {x : It} {t : Nat} (h : x.w = some t) : x.isRe = false := by cases x <;> simp_all [It.w, It.isRe]
theorem w_of {x : It} (h : x.isRe = false) : x.w = x.o.d := by cases x <;> simp_all [It.w, It.isRe, It.o]

section
variable {P : Program} {cl : Nat → Sp} {n : Nat} {ops : Array Oper} {tab : List O} {b : Array Nat} {k base : Nat} {its : List It} {st : Nat → Env × Hp} {S : Nat → Prop}
variable {φ φ' : Phi} {e e' : Env} {a : Act} {h h' : Hp} {w w' : World} {v : Value}

theorem Ctx.uniq (c : Ctx P cl n ops tab b k base its st) {p q : Nat} {x y : It} (hx : its[p]? = some x) (hy : its[q]? = some y) (h1 : x.isRe = false) (h2 : y.isRe = false) (he : x.i = y.i) : p = q := by
  rcases Nat.lt_trichotomy p q with h | h | h
  · exact absurd he (pairOK_spec (pairs_get c.pairs h hx hy) h1 h2).1
  · exact h
  · exact absurd he.symm (pairOK_spec (pairs_get c.pairs h hy hx) h2 h1).1

theorem Ctx.keep (c : Ctx P cl n ops tab b k base its st) {t p : Nat} : ∀ q, p ≤ q → q ≤ its.length → (∀ (r : Nat) (y : It), p ≤ r → r < q → its[r]? = some y → y.w ≠ some t) → (st q).1 t = (st p).1 t := by
  intro q
  induction q with
  | zero => intro hp _ _; rw [Nat.le_zero.1 hp]
  | succ q ih =>
    intro hp hq hn
    rcases Nat.lt_or_ge p (q + 1) with hlt | hge
    · have hx : its[q]? = some its[q] := List.getElem?_eq_getElem (by omega)
      rw [runIt_env (c.run q _ hx) (hn q _ (by omega) (by omega) hx)]
      exact ih (by omega) (by omega) fun r y h1 h2 => hn r y h1 (by omega)
    · rw [show p = q + 1 by omega]

theorem Ctx.envS (c : Ctx P cl n ops tab b k base its st) {p : Nat} {x : It} (hx : its[p]? = some x) (hre : x.isRe = false) (hns : ¬ S x.i) (hup : ∀ i, anc b i x.i = true → S i)
    (hdn : ∀ k, S k → ∀ i, anc b i k = true → S i) : ∀ t ∈ x.o.ts, eS its st S t = (st p).1 t := by
  intro t ht
  have hp : p < its.length := (List.getElem?_eq_some_iff.1 hx).1
  unfold eS
  split
  · rename_i hh
    obtain ⟨q, y, hy, hw, hs⟩ := hh
    have hyr := re_of_w hw
    have hqp : q < p := by
      rcases Nat.lt_trichotomy q p with hlt | heq | hgt
      · exact hlt
      · subst heq
        rw [hx] at hy
        cases hy
        exact absurd hs hns
      · have := (pairOK_spec (pairs_get c.pairs hgt hx hy) hre hyr).2.2.2.1 t hw ht
        exact absurd (hdn _ hs _ this.1) hns
    refine c.keep its.length (by omega) (Nat.le_refl _) fun r z h1 h2 hz hzw => ?_
    exact ((pairOK_spec (pairs_get c.pairs (show q < r by omega) hy hz) hyr (re_of_w hzw)).2.2.1 t hw).1 hzw
  · rename_i hh
    refine (c.keep p (Nat.zero_le _) (by omega) fun r z h1 h2 hz hzw => hh ⟨r, z, hz, hzw, ?_⟩).symm
    exact hup _ (((pairOK_spec (pairs_get c.pairs h2 hz hx) (re_of_w hzw) hre).2.2.1 t hzw).2 ht)

theorem Ctx.envR (c : Ctx P cl n ops tab b k base its st) {p r : Nat} {x : It} (hx : its[p]? = some x) (hre : x.isRe = false) (hrd : x.rdr = true) (hpr : p < r) (hr : r ≤ its.length) : ∀ t ∈ x.o.ts, (st r).1 t = (st p).1 t := by
  intro t ht
  refine c.keep r (by omega) hr fun q y h1 h2 hy hyw => ?_
  rcases Nat.lt_or_ge p q with hlt | hge
  · have := ((pairOK_spec (pairs_get c.pairs hlt hx hy) hre (re_of_w hyw)).2.2.2.1 t hyw ht).2
    rw [hrd] at this
    cases this
  · have : q = p := by omega
    subst this
    rw [hx] at hy
    cases hy
    have := c.item x (List.mem_of_getElem? hx)
    simp only [itemOK, Bool.and_eq_true] at this
    have := imp_of this.2 hrd
    rw [hyw] at this
    simp at this
    exact this ht

theorem Ctx.eS_step (c : Ctx P cl n ops tab b k base its st) {p : Nat} {x : It} (hx : its[p]? = some x) (hre : x.isRe = false) {v : Value} (hv : ∀ d, x.o.d = some d → (st (p + 1)).1 d = v) :
    eS its st (fun i => S i ∨ i = x.i) = put (eS its st S) x.o.d v := by
  have hp : p < its.length := (List.getElem?_eq_some_iff.1 hx).1
  have hw := w_of hre
  have old : ∀ t, x.w ≠ some t → eS its st (fun i => S i ∨ i = x.i) t = eS its st S t := by
    intro t ht
    have : (∃ (q : Nat) (y : It), its[q]? = some y ∧ y.w = some t ∧ (S y.i ∨ y.i = x.i)) ↔ ∃ (q : Nat) (y : It), its[q]? = some y ∧ y.w = some t ∧ S y.i := by
      constructor
      · rintro ⟨q, y, h1, h2, h3 | h3⟩
        · exact ⟨q, y, h1, h2, h3⟩
        · have := c.uniq h1 hx (re_of_w h2) hre h3
          subst this
          rw [hx] at h1
          cases h1
          exact absurd h2 ht
      · rintro ⟨q, y, h1, h2, h3⟩
        exact ⟨q, y, h1, h2, .inl h3⟩
    unfold eS
    simp only [this]
  cases hd : x.o.d with
  | none => funext t; exact old t (by rw [hw, hd]; simp)
  | some d =>
    funext t
    simp only [put, upd]
    split
    · rename_i e
      subst e
      rw [← hv t hd]
      unfold eS
      rw [if_pos ⟨p, x, hx, by rw [hw, hd], .inr rfl⟩]
      refine c.keep its.length (by omega) (Nat.le_refl _) fun r z h1 h2 hz hzw => ?_
      exact ((pairOK_spec (pairs_get c.pairs (show p < r by omega) hx hz) hre (re_of_w hzw)).2.2.1 t (by rw [hw, hd])).1 hzw
    · rename_i hne
      exact old t (by rw [hw, hd]; simpa using fun e => hne e.symm)

/-- Items that turn no memory. -/
theorem Ctx.still (c : Ctx P cl n ops tab b k base its st) {p : Nat} {x : It} (hx : its[p]? = some x) (h1 : x.eff = false) (h2 : x.alc = none) : (st (p + 1)).2 = (st p).2 := by
  have hr := c.run p x hx
  have hm := c.src x (List.mem_of_getElem? hx)
  cases x with
  | al i j o => cases h2
  | re i o =>
    simp only [runIt] at hr
    repeat' split at hr
    all_goals first | (cases hr; done) | (simp only [Option.some.injEq] at hr; rw [← hr])
  | op i o =>
    have hA : isA o.o = false := hm.2
    simp only [It.eff] at h1
    simp only [runIt, runO] at hr
    split at hr
    · cases hr
    · simp only [Option.some.injEq] at hr; rw [← hr]
    · obtain ⟨⟨v, g⟩, h3, h4⟩ := Option.map_eq_some_iff.1 hr
      rw [← h4]
      have h5 : opV (st p).1 (st p).2 o.o = some (v, g) := by
        unfold act at h3
        split at h3
        · rename_i e; rw [e] at h1; cases h1
        · rename_i e; rw [e] at h1; cases h1
        · exact h3
      by_cases hR : isR o.o = true
      · exact (opV_read hR h5).1
      · exact (opV_pure h1 hA (by simpa using hR) h5).1
theorem Ctx.made (c : Ctx P cl n ops tab b k base its st) {p i j : Nat} {o : O} (hx : its[p]? = some (.al i j o)) :
    (gd (st p).1 o.g = some false ∧ st (p + 1) = (put (st p).1 o.d undef, (st p).2)) ∨
    ∃ r, gd (st p).1 o.g = some true ∧ opA (base + j) (st p).1 o.o = some r ∧ st (p + 1) = (put (st p).1 o.d r.1, (st p).2.put (base + j) (some r.2)) := by
  have hr := c.run p _ hx
  simp only [runIt] at hr
  split at hr
  · cases hr
  · rename_i hg
    left
    exact ⟨hg, by simpa using hr.symm⟩
  · rename_i hg
    obtain ⟨r, h1, h2⟩ := Option.map_eq_some_iff.1 hr
    exact .inr ⟨r, hg, h1, h2.symm⟩
theorem Ctx.effLe (c : Ctx P cl n ops tab b k base its st) {p : Nat} {x : It} (hx : its[p]? = some x) (he : x.eff = true) : Le (st p).2 (st (p + 1)).2 := by
  have hr := c.run p x hx
  cases x with
  | al i j o => cases he
  | re i o => cases he
  | op i o => exact runO_le c.hcl (show runO cl o (st p).1 (st p).2 = some ((st (p + 1)).1, (st (p + 1)).2) from hr)
theorem Ctx.alk (c : Ctx P cl n ops tab b k base its st) {p i j : Nat} {o : O} (hx : its[p]? = some (.al i j o)) : j < k := by
  have := c.item _ (List.mem_of_getElem? hx)
  simp only [itemOK, It.alc, Bool.and_eq_true, decide_eq_true_eq] at this
  exact this.1.1.1

theorem Ctx.nexts (c : Ctx P cl n ops tab b k base its st) : ∀ p, p ≤ its.length → base + k ≤ (st p).2.next := by
  intro p
  induction p with
  | zero => intro _; exact c.next
  | succ p ih =>
    intro hp
    have hx : its[p]? = some its[p] := List.getElem?_eq_getElem (by omega)
    have h0 := ih (by omega)
    by_cases he : its[p].eff = true
    · exact Nat.le_trans h0 (c.effLe hx he).1
    · cases hal : its[p] with
      | op i o => rw [c.still hx (by simpa using he) (by rw [hal]; rfl)]; exact h0
      | re i o => rw [c.still hx (by simpa using he) (by rw [hal]; rfl)]; exact h0
      | al i j o =>
        rw [hal] at hx
        rcases c.made hx with ⟨_, h1⟩ | ⟨r, _, _, h1⟩ <;> rw [h1] <;> exact h0
theorem Ctx.resv (c : Ctx P cl n ops tab b k base its st) {q i j : Nat} {o : O} (hq : its[q]? = some (.al i j o)) : ∀ p, p ≤ q → (st p).2.get (base + j) = none := by
  have hql : q < its.length := (List.getElem?_eq_some_iff.1 hq).1
  intro p
  induction p with
  | zero => intro _; exact c.free j (c.alk hq)
  | succ p ih =>
    intro hp
    have hx : its[p]? = some its[p] := List.getElem?_eq_getElem (by omega)
    have h0 := ih (by omega)
    by_cases he : its[p].eff = true
    · have h1 := c.nexts p (by omega)
      have h2 := c.alk hq
      exact (c.effLe hx he).2 _ (by omega) h0
    · cases hal : its[p] with
      | op i o => rw [c.still hx (by simpa using he) (by rw [hal]; rfl)]; exact h0
      | re i o => rw [c.still hx (by simpa using he) (by rw [hal]; rfl)]; exact h0
      | al i' j' o' =>
        rw [hal] at hx
        have hj : j' ≠ j := fun e => (pairOK_spec (pairs_get c.pairs (show p < q by omega) hx hq) rfl rfl).2.2.2.2.2.2.2 j' rfl (by rw [e]; rfl)
        rcases c.made hx with ⟨_, h1⟩ | ⟨r, _, _, h1⟩ <;> rw [h1]
        · exact h0
        · simp only [Hp.put]
          rw [if_neg (by omega)]
          exact h0

theorem Ctx.upto (c : Ctx P cl n ops tab b k base its st) {L : Nat} {A : Hp} (hn : A.next = (st L).2.next) (hin : ∀ b o, (st L).2.get b = some o → A.get b = some o) : ∀ p, L ≤ p → p ≤ its.length →
    (∀ (q : Nat) (x : It), L ≤ q → q < p → its[q]? = some x → x.eff = false) →
    (∀ (q i j : Nat) (o : O), L ≤ q → q < p → its[q]? = some (.al i j o) → gd (st q).1 o.g = some true → ∀ r, opA (base + j) (st q).1 o.o = some r → A.get (base + j) = some r.2) →
    (st p).2.next = A.next ∧ ∀ b o, (st p).2.get b = some o → A.get b = some o := by
  intro p
  induction p with
  | zero => intro hL _ _ _; rw [Nat.le_zero.1 hL] at hn hin; exact ⟨hn.symm, hin⟩
  | succ p ih =>
    intro hL hp hne hal
    rcases Nat.lt_or_ge L (p + 1) with hlt | hge
    · have hx : its[p]? = some its[p] := List.getElem?_eq_getElem (by omega)
      obtain ⟨h1, h2⟩ := ih (by omega) (by omega) (fun q x a b => hne q x a (by omega)) (fun q i j o a b => hal q i j o a (by omega))
      have he := hne p _ (by omega) (by omega) hx
      cases hcs : its[p] with
      | op i o => rw [c.still hx he (by rw [hcs]; rfl)]; exact ⟨h1, h2⟩
      | re i o => rw [c.still hx he (by rw [hcs]; rfl)]; exact ⟨h1, h2⟩
      | al i j o =>
        rw [hcs] at hx
        rcases c.made hx with ⟨_, h3⟩ | ⟨r, hg, hr, h3⟩ <;> rw [h3]
        · exact ⟨h1, h2⟩
        · refine ⟨h1, fun b' o' hb => ?_⟩
          simp only [Hp.put] at hb
          split at hb
          · rename_i e
            rw [e.1, hal p i j o (by omega) (by omega) hx hg r hr]
            exact hb
          · exact h2 b' o' hb
    · have : L = p + 1 := by omega
      rw [this] at hn hin
      exact ⟨hn.symm, hin⟩

theorem Ctx.uptoR (c : Ctx P cl n ops tab b k base its st) {L : Nat} {A : Hp} {φ : Phi} (hin : ∀ b o, (st L).2.get b = some o → A.get b = some o) : ∀ p, L ≤ p → p ≤ its.length →
    (∀ (q : Nat) (x : It), L ≤ q → q < p → its[q]? = some x → x.eff = false) →
    (∀ (q i j : Nat) (o : O), L ≤ q → q < p → its[q]? = some (.al i j o) → gd (st q).1 o.g = some true → ∀ r, opA (base + j) (st q).1 o.o = some r → φ (base + j) = none ∨ A.get (base + j) = some r.2) →
    ∀ b o, (φ b).isSome = true → (st p).2.get b = some o → A.get b = some o := by
  intro p
  induction p with
  | zero => intro hL _ _ _ b o _; rw [Nat.le_zero.1 hL] at hin; exact hin b o
  | succ p ih =>
    intro hL hp hne hal
    rcases Nat.lt_or_ge L (p + 1) with hlt | hge
    · have hx : its[p]? = some its[p] := List.getElem?_eq_getElem (by omega)
      have h2 := ih (by omega) (by omega) (fun q x a b => hne q x a (by omega)) (fun q i j o a b => hal q i j o a (by omega))
      have he := hne p _ (by omega) (by omega) hx
      cases hcs : its[p] with
      | op i o => rw [c.still hx he (by rw [hcs]; rfl)]; exact h2
      | re i o => rw [c.still hx he (by rw [hcs]; rfl)]; exact h2
      | al i j o =>
        rw [hcs] at hx
        rcases c.made hx with ⟨_, h3⟩ | ⟨r, hg, hr, h3⟩ <;> rw [h3]
        · exact h2
        · intro b' o' hs hb
          simp only [Hp.put] at hb
          split at hb
          · rename_i e
            rcases hal p i j o (by omega) (by omega) hx hg r hr with h4 | h4
            · rw [e.1, h4] at hs; cases hs
            · rw [e.1, h4]; exact hb
          · exact h2 b' o' hs hb
    · intro b o _
      have : L = p + 1 := by omega
      rw [this] at hin
      exact hin b o

/-- A maker of a block, at a number that was let by. -/
theorem alloc_wp {o : Oper} {oo : O} {id : Nat} {fill : Ob → Hp} {ob : Ob} {K : Act → World → Prop} {Q : Exit → Act → World → Prop} (hc : compO P n ops o = some oo) (hg : gopA o.op = true) (sl : Slot φ h id fill) (hb : gd e oo.g = some true)
    (hv : opA id e oo.o = some (v, ob)) (he : ER φ e a) (hr : HR φ h w) (hn : n ≤ a.tmps.size) (hK : Then φ h w (put e oo.d v) (fill ob) a K) :
    if Region.wanted o (yielded ops a.tmps) then o.wp P a w K Q else K (a.put o.dst undef) w := by
  unfold compO at hc
  split at hc
  case isFalse => cases hc
  rename_i hd
  obtain ⟨g, hg', hc⟩ := Option.bind_eq_some_iff.1 hc
  obtain ⟨op, hop, hc⟩ := Option.bind_eq_some_iff.1 hc
  split at hc
  case isFalse => cases hc
  cases hc
  have hdl : ∀ t, o.dst = some t → t < a.tmps.size := fun t ht => by
    rw [ht] at hd
    simp [dstOk] at hd
    exact Nat.lt_of_lt_of_le hd hn
  rw [guard_ok hg' he hb]
  simp only [if_true]
  obtain ⟨φ', u, w', hor, hext, hvr⟩ := alloc_sound sl hg hop he hr hv
  unfold Oper.wp
  rcases hor with hx | ⟨hx, rfl⟩
  · rw [hx, Oper.upon_value]
    exact hK φ' _ w' hext ((he.mono hext.sub).put hvr hdl) (size_put _ _ _) (defers_put _ _ _)
  · rw [hx, Oper.upon_skip]
    exact hK φ' _ w' hext ((he.mono hext.sub).put hvr hdl) (size_put _ _ _) (defers_put _ _ _)
end
end Go.Dx
