/- Regions whose order is left open: every schedule. -/
import Derived.Test.YtppgoobhlcdbbaaDx15
set_option linter.unusedSimpArgs false
set_option linter.unusedVariables false
namespace Go.Dx
open Classical

structure InvB (b : Array Nat) (base : Nat) (its : List It) (st : Nat → Env × Hp) (φ₀ : Phi) (h₀ : Hp) (w₀ : World) (a₀ : Act) (S : Nat → Prop) (a : Act) (w : World) (φ : Phi) (A : Hp) (L : Nat) : Prop where
  ext : Ext φ₀ h₀ w₀ φ A w
  le : Le h₀ A
  er : ER φ (eS its st S) a
  size : a.tmps.size = a₀.tmps.size
  defers : a.defers = a₀.defers
  dn : ∀ k, S k → ∀ i, anc b i k = true → S i
  lL : L ≤ its.length
  last : L = 0 ∨ ∃ p x, p + 1 = L ∧ its[p]? = some x ∧ x.eff = true ∧ S x.i
  noE : ∀ (q : Nat) (x : It), L ≤ q → its[q]? = some x → x.eff = true → ¬ S x.i
  next : A.next = (st L).2.next
  inn : ∀ b o, (st L).2.get b = some o → A.get b = some o
  als : ∀ (q i j : Nat) (o : O), L ≤ q → its[q]? = some (.al i j o) → S i → gd (st q).1 o.g = some true → ∀ r, opA (base + j) (st q).1 o.o = some r → A.get (base + j) = some r.2
  res : ∀ (q i j : Nat) (o : O), its[q]? = some (.al i j o) → ¬ S i → A.get (base + j) = none ∧ φ (base + j) = none

section
variable {P : Program} {cl : Nat → Sp} {n : Nat} {ops : Array Oper} {tab : List O} {b : Array Nat} {k base : Nat} {its : List It} {st : Nat → Env × Hp} {S : Nat → Prop}
variable {φ φ' φ₀ : Phi} {e e' : Env} {a a₀ : Act} {A h h' h₀ : Hp} {w w' w₀ : World} {v : Value} {L : Nat}

theorem put_at (e : Env) (d : Nat) (v : Value) : put e (some d) v d = v := by simp [put, upd]
theorem eff_re {x : It} (h : x.eff = true) : x.isRe = false := by cases x <;> simp_all [It.eff, It.isRe]

/-- The ones between the last that turned memory and here. -/
theorem InvB.noEff (I : InvB b base its st φ₀ h₀ w₀ a₀ S a w φ A L) (c : Ctx P cl n ops tab b k base its st) {p : Nat} {x : It} (hx : its[p]? = some x) (hre : x.isRe = false) (hk : x.eff = true ∨ x.rdr = true) (hup : ∀ i, anc b i x.i = true → S i) (hL : L ≤ p) :
    ∀ (q : Nat) (y : It), L ≤ q → q < p → its[q]? = some y → y.eff = false := by
  intro q y h1 h2 hy
  cases he : y.eff with
  | false => rfl
  | true =>
    have hs := pairOK_spec (pairs_get c.pairs h2 hy hx) (eff_re he) hre
    refine absurd (hup _ ?_) (I.noE q y h1 hy he)
    rcases hk with hk | hk
    · exact hs.2.2.2.2.1 he hk
    · exact hs.2.2.2.2.2.2.1 he hk
theorem InvB.here (I : InvB b base its st φ₀ h₀ w₀ a₀ S a w φ A L) (c : Ctx P cl n ops tab b k base its st) {p : Nat} {x : It} (hx : its[p]? = some x) (hre : x.isRe = false) (hk : x.eff = true) (hup : ∀ i, anc b i x.i = true → S i) (hL : L ≤ p) :
    (st p).2.next = A.next ∧ ∀ b o, (st p).2.get b = some o → A.get b = some o := by
  have hp : p < its.length := (List.getElem?_eq_some_iff.1 hx).1
  refine c.upto I.next I.inn p hL (by omega) (I.noEff c hx hre (.inl hk) hup hL) (fun q i j o h1 h2 hy hg r hr => ?_)
  have hs := pairOK_spec (pairs_get c.pairs h2 hy hx) rfl hre
  exact I.als q i j o h1 hy (hup _ (hs.2.2.2.2.2.1 j rfl hk)) hg r hr
theorem InvB.hereR (I : InvB b base its st φ₀ h₀ w₀ a₀ S a w φ A L) (c : Ctx P cl n ops tab b k base its st) {p : Nat} {x : It} (hx : its[p]? = some x) (hre : x.isRe = false) (hk : x.rdr = true) (hup : ∀ i, anc b i x.i = true → S i) (hL : L ≤ p) :
    ∀ b o, (φ b).isSome = true → (st p).2.get b = some o → A.get b = some o := by
  have hp : p < its.length := (List.getElem?_eq_some_iff.1 hx).1
  refine c.uptoR I.inn p hL (by omega) (I.noEff c hx hre (.inr hk) hup hL) (fun q i j o h1 h2 hy hg r hr => ?_)
  by_cases hS : S i
  · exact .inr (I.als q i j o h1 hy hS hg r hr)
  · exact .inl (I.res q i j o hy hS).2

theorem InvB.calm (I : InvB b base its st φ₀ h₀ w₀ a₀ S a w φ A L) (c : Ctx P cl n ops tab b k base its st) {p i : Nat} {o : O} (hx : its[p]? = some (.op i o)) (he : isE o.o = false) (hns : ¬ S i) (hup : ∀ j, anc b j i = true → S j) :
    ∃ v, runO cl o (eS its st S) A = some (put (eS its st S) o.d v, A) ∧ ∀ d, o.d = some d → (st (p + 1)).1 d = v := by
  have hp : p < its.length := (List.getElem?_eq_some_iff.1 hx).1
  have env := c.envS hx rfl hns hup I.dn
  have hA : isA o.o = false := (c.src _ (List.mem_of_getElem? hx)).2
  have hgd : gd (eS its st S) o.g = gd (st p).1 o.g := gd_congr fun t ht => env t (by simp [O.ts, It.o, ht])
  have hts : ∀ t ∈ o.o.ts, eS its st S t = (st p).1 t := fun t ht => env t (by simp [O.ts, It.o, ht])
  have hr : runO cl o (st p).1 (st p).2 = some (st (p + 1)) := c.run p _ hx
  unfold runO at hr ⊢
  rw [hgd]
  split at hr
  · cases hr
  · rename_i hg
    simp only [Option.some.injEq] at hr
    refine ⟨undef, by simp only [hg], fun d hd => ?_⟩
    rw [← hr, hd]
    exact put_at _ _ _
  · rename_i hg
    obtain ⟨⟨v, g⟩, h3, h4⟩ := Option.map_eq_some_iff.1 hr
    have hact : ∀ (e : Env) (h : Hp), act cl e h o.o = opV e h o.o := fun e h => by
      unfold act
      split
      · rename_i e; rw [e] at he; cases he
      · rename_i e; rw [e] at he; cases he
      · rfl
    rw [hact] at h3
    have hval : ∀ d, o.d = some d → (st (p + 1)).1 d = v := fun d hd => by rw [← h4, hd]; exact put_at _ _ _
    simp only [hg, hact, opV_congr hts]
    by_cases hR : isR o.o = true
    · rcases Nat.lt_or_ge p L with hlt | hge
      · rcases I.last with h0 | ⟨p₀, y, hp0, hy, hye, hys⟩
        · omega
        have hne : p ≠ p₀ := fun e => by subst e; rw [hx] at hy; cases hy; exact hns hys
        rcases res_get c.res hy hye (.inr ⟨p, by omega, hx, by simp [It.rdr, hR]⟩) with h5 | ⟨r, z, h5, hz, hzr, hzi, hall⟩
        · exact absurd (I.dn _ hys _ h5) hns
        have hrl : r < its.length := (List.getElem?_eq_some_iff.1 hz).1
        have hsame : ∀ s, L ≤ s → s ≤ r → (st s).2 = (st L).2 := by
          intro s
          induction s with
          | zero => intro h _; rw [Nat.le_zero.1 h]
          | succ s ih =>
            intro h1 h2
            rcases Nat.lt_or_ge L (s + 1) with hl | hl
            · have hu : its[s]? = some its[s] := List.getElem?_eq_getElem (by omega)
              have := hall s its[s] (by omega) (by omega) hu
              have h7 : its[s].eff = false := by cases h8 : its[s] <;> simp_all [It.isRe, It.eff]
              have h9 : its[s].alc = none := by cases h8 : its[s] <;> simp_all [It.isRe, It.alc]
              rw [c.still hu h7 h9]
              exact ih (by omega) (by omega)
            · rw [show L = s + 1 by omega]
        cases z with
        | op i' o' => cases hzr
        | al i' j' o' => cases hzr
        | re i' o' =>
          have hoo : o' = o := by
            have h7 := (c.src _ (List.mem_of_getElem? hz)).1
            have h8 := (c.src _ (List.mem_of_getElem? hx)).1
            simp only [It.i, It.o] at h7 h8 hzi
            rw [hzi, h8] at h7
            cases h7
            rfl
          subst hoo
          have hrr := c.envR hx rfl (by simp [It.rdr, hR]) (show p < r by omega) (by omega)
          have hrun := c.run r _ hz
          simp only [runIt] at hrun
          rw [gd_congr (e := (st r).1) (e' := (st p).1) fun t ht => hrr t (by simp [O.ts, It.o, ht]), hg] at hrun
          simp only [] at hrun
          split at hrun
          case h_2 => cases hrun
          rename_i t v' g' hd hop
          split at hrun
          case isFalse => cases hrun
          rename_i hvt
          have hvt := veq_eq hvt
          have h10 := (opV_read hR hop).2 A fun b o hb => I.inn b o (by rw [← hsame r (by omega) (by omega)]; exact hb)
          rw [opV_congr (e := (st r).1) (e' := (st p).1) fun t ht => hrr t (by simp [O.ts, It.o, ht])] at h10
          refine ⟨v', by rw [h10]; rfl, fun d hd' => ?_⟩
          rw [hd] at hd'
          cases hd'
          rw [hvt]
          refine (c.keep r (by omega) (by omega) fun q u h1 h2 hu huw => ?_).symm
          exact ((pairOK_spec (pairs_get c.pairs (show p < q by omega) hx hu) rfl (re_of_w huw)).2.2.1 t hd).1 huw
      · have hh := I.hereR c hx rfl (by simp [It.rdr, hR]) hup hge
        have ht : rtame o.o = true := by
          have := c.item _ (List.mem_of_getElem? hx)
          simp only [itemOK, Bool.and_eq_true] at this
          exact imp_of this.1.2 (by simp [It.rdr, hR])
        rw [← opV_congr hts] at h3
        have h11 := opV_read2 hR ht (fun t => ⟨_, I.er t⟩) h3 A hh
        rw [opV_congr hts] at h11
        exact ⟨v, by rw [h11]; rfl, hval⟩
    · exact ⟨v, by rw [(opV_pure he hA (by simpa using hR) h3).2 A]; rfl, hval⟩

theorem InvB.step {Q : Exit → Act → World → Prop} (I : InvB b base its st φ₀ h₀ w₀ a₀ S a w φ A L) (c : Ctx P cl n ops tab b k base its st) (hr₀ : HR φ₀ h₀ w₀) (hb₀ : h₀.next ≤ base) (hn : n ≤ a₀.tmps.size) {i : Nat} (hi : i < ops.size) (hns : ¬ S i)
    (hup : ∀ j, anc b j i = true → S j) : wpOp P ops Q i (fun a w => ∃ φ A L, InvB b base its st φ₀ h₀ w₀ a₀ (fun k => S k ∨ k = i) a w φ A L) a w := by
  obtain ⟨x, hxm, hre, hxi⟩ := c.cover i hi
  obtain ⟨p, hpl, hpx⟩ := List.getElem_of_mem hxm
  have hx : its[p]? = some x := by rw [List.getElem?_eq_getElem hpl, hpx]
  subst hxi
  obtain ⟨oper, hop, hco⟩ := mapM_get c.tabs (c.src x hxm).1
  rw [Array.getElem?_toList] at hop
  unfold wpOp
  rw [hop]
  simp only []
  have hna : n ≤ a.tmps.size := by rw [I.size]; exact hn
  have dn' : ∀ k, (S k ∨ k = x.i) → ∀ i, anc b i k = true → (S i ∨ i = x.i) := fun k hk i hi => by
    rcases hk with hk | hk
    · exact .inl (I.dn k hk i hi)
    · subst hk; exact .inl (hup i hi)
  have env := c.envS hx hre hns hup I.dn
  have hgd : gd (eS its st S) x.o.g = gd (st p).1 x.o.g := gd_congr fun t ht => env t (by simp [O.ts, ht])
  have hts : ∀ t ∈ x.o.o.ts, eS its st S t = (st p).1 t := fun t ht => env t (by simp [O.ts, ht])
  suffices hmain : if Region.wanted oper (yielded ops a.tmps) then oper.wp P a w (fun a w => ∃ φ A L, InvB b base its st φ₀ h₀ w₀ a₀ (fun k => S k ∨ k = x.i) a w φ A L) Q
      else (fun a w => ∃ φ A L, InvB b base its st φ₀ h₀ w₀ a₀ (fun k => S k ∨ k = x.i) a w φ A L) (a.put oper.dst undef) w by
    split
    · rename_i hw; rw [if_pos hw] at hmain; exact .inl hmain
    · rename_i hw; rw [if_neg hw] at hmain; exact hmain
  -- memory stays
  have quiet : x.eff = false → (∀ j i o, x = .al i j o → gd (st p).1 o.g = some false) → ∀ v, (∀ d, x.o.d = some d → (st (p + 1)).1 d = v) → runO cl x.o (eS its st S) A = some (put (eS its st S) x.o.d v, A) →
      if Region.wanted oper (yielded ops a.tmps) then oper.wp P a w (fun a w => ∃ φ A L, InvB b base its st φ₀ h₀ w₀ a₀ (fun k => S k ∨ k = x.i) a w φ A L) Q
      else (fun a w => ∃ φ A L, InvB b base its st φ₀ h₀ w₀ a₀ (fun k => S k ∨ k = x.i) a w φ A L) (a.put oper.dst undef) w := by
    intro hne hal v hval hrun
    refine step_wp c.hcl hco hrun I.er I.ext.hr hna fun φ' a' w' hext he' hs hd => ⟨φ', A, L, ?_⟩
    refine ⟨I.ext.trans hr₀ hext I.le, I.le, by rw [c.eS_step hx hre hval]; exact he', hs.trans I.size, hd.trans I.defers, dn', I.lL, I.last.imp id fun ⟨q, y, h1, h2, h3, h4⟩ => ⟨q, y, h1, h2, h3, .inl h4⟩, ?_, I.next, I.inn, ?_, ?_⟩
    · intro q y hq hy he hs
      rcases hs with hs | hs
      · exact I.noE q y hq hy he hs
      · have := c.uniq hy hx (eff_re he) hre hs
        subst this
        rw [hx] at hy
        cases hy
        rw [hne] at he
        cases he
    · intro q i j o hq hy hs hg r hr
      rcases hs with hs | hs
      · exact I.als q i j o hq hy hs hg r hr
      · have := c.uniq hy hx rfl hre hs
        subst this
        rw [hx] at hy
        cases hy
        rw [hal j i o rfl] at hg
        cases hg
    · intro q i j o hy hs
      have h1 := I.res q i j o hy fun h => hs (.inl h)
      have h2 := c.nexts L I.lL
      have h3 := c.alk hy
      rw [← I.next] at h2
      exact ⟨h1.1, by rw [hext.still (.refl _) (by omega)]; exact h1.2⟩
  cases x with
  | re i o => cases hre
  | al i j o =>
    rcases c.made hx with ⟨hg, h1⟩ | ⟨r, hg, hr, h1⟩
    · refine quiet rfl (fun j' i' o' e => by cases e; exact hg) undef (fun d hd => ?_) ?_
      · have hd' : o.d = some d := hd
        rw [h1, hd']; exact put_at _ _ _
      · unfold runO
        rw [hgd, show (It.al i j o).o = o from rfl, hg]
    · have hM := (c.src _ hxm).2
      obtain ⟨hAo, g, hgo, hga⟩ := hM
      simp only [It.i] at hop
      rw [hop] at hgo
      cases hgo
      have hres := I.res p i j o hx hns
      have h2 := c.nexts L I.lL
      have h3 := c.alk hx
      rw [← I.next] at h2
      refine alloc_wp (id := base + j) (ob := r.2) (v := r.1) hco hga (.held (base + j) (by omega) hres.1 hres.2) (by rw [hgd]; exact hg) (by rw [opA_congr hts]; exact hr) I.er I.ext.hr hna fun φ' a' w' hext he' hs hd => ⟨φ', A.put (base + j) (some r.2), L, ?_⟩
      have hget : ∀ c, c ≠ base + j → (A.put (base + j) (some r.2)).get c = A.get c := fun c hc => by simp [Hp.put, hc]
      have hself : (A.put (base + j) (some r.2)).get (base + j) = some r.2 := by
        have hlt : base + j < A.next := by omega
        simp [Hp.put, hlt]
      refine ⟨I.ext.trans hr₀ hext I.le, ⟨I.le.1, fun c hc h0 => ?_⟩, ?_, hs.trans I.size, hd.trans I.defers, dn', I.lL, I.last.imp id fun ⟨q, y, h1, h2, h3, h4⟩ => ⟨q, y, h1, h2, h3, .inl h4⟩, ?_, I.next, ?_, ?_, ?_⟩
      · rw [hget c (by omega)]; exact I.le.2 c hc h0
      · rw [c.eS_step hx hre (v := r.1) fun d hd => by rw [h1, show o.d = some d from hd]; exact put_at _ _ _]
        exact he'
      · intro q y hq hy he hs
        rcases hs with hs | hs
        · exact I.noE q y hq hy he hs
        · have := c.uniq hy hx (eff_re he) hre hs
          subst this
          rw [hx] at hy
          cases hy
          cases he
      · intro c o' hc
        have := I.inn c o' hc
        by_cases e : c = base + j
        · subst e; rw [hres.1] at this; cases this
        · rw [hget c e]; exact this
      · intro q i' j' o' hq hy hs hg' r' hr'
        by_cases e : q = p
        · subst e
          rw [hx] at hy
          cases hy
          rw [hr] at hr'
          cases hr'
          exact hself
        · have hj : j' ≠ j := fun ej => by
            rcases Nat.lt_or_ge q p with hl | hl
            · exact (pairOK_spec (pairs_get c.pairs hl hy hx) rfl rfl).2.2.2.2.2.2.2 j' rfl (by rw [ej]; rfl)
            · exact (pairOK_spec (pairs_get c.pairs (show p < q by omega) hx hy) rfl rfl).2.2.2.2.2.2.2 j rfl (by rw [ej]; rfl)
          rw [hget _ (by omega)]
          refine I.als q i' j' o' hq hy (hs.resolve_right fun ei => e ?_) hg' r' hr'
          exact c.uniq hy hx rfl rfl ei
      · intro q i' j' o' hy hs
        have hq := I.res q i' j' o' hy fun h => hs (.inl h)
        have hj : j' ≠ j := fun ej => by
          have e : q ≠ p := fun e => by subst e; rw [hx] at hy; cases hy; exact hs (.inr rfl)
          rcases Nat.lt_or_ge q p with hl | hl
          · exact (pairOK_spec (pairs_get c.pairs hl hy hx) rfl rfl).2.2.2.2.2.2.2 j' rfl (by rw [ej]; rfl)
          · exact (pairOK_spec (pairs_get c.pairs (show p < q by omega) hx hy) rfl rfl).2.2.2.2.2.2.2 j rfl (by rw [ej]; rfl)
        have h5 := c.alk hy
        refine ⟨by rw [hget _ (by omega)]; exact hq.1, ?_⟩
        rcases hext.old (base + j') (by omega) with h6 | ⟨_, _, h6⟩
        · rw [h6]; exact hq.2
        · rw [hget _ (by omega), hq.1] at h6; cases h6
  | op i o =>
    cases he : isE o.o with
    | false =>
      obtain ⟨v, hrun, hval⟩ := I.calm c hx he hns hup
      exact quiet (by simp [It.eff, he]) (fun j' i' o' e => by cases e) v hval hrun
    | true =>
      have heff : (It.op i o).eff = true := by simp [It.eff, he]
      have hL : L ≤ p := by
        rcases I.last with h0 | ⟨q, y, hq, hy, hye, hys⟩
        · omega
        · rcases Nat.lt_trichotomy p q with hl | hl | hl
          · have := (pairOK_spec (pairs_get c.pairs hl hx hy) rfl (eff_re hye)).2.2.2.2.1 heff hye
            exact absurd (I.dn _ hys _ this) hns
          · subst hl
            rw [hx] at hy
            cases hy
            exact absurd hys hns
          · omega
      obtain ⟨hnx, hin⟩ := I.here c hx rfl heff hup hL
      have hle := c.effLe hx heff
      have hr : runO cl o (st p).1 (st p).2 = some (st (p + 1)) := c.run p _ hx
      have hrun : ∃ v, runO cl o (eS its st S) (st p).2 = some (put (eS its st S) o.d v, (st (p + 1)).2) ∧ ∀ d, o.d = some d → (st (p + 1)).1 d = v := by
        unfold runO at hr ⊢
        simp only [It.o] at hgd hts
        rw [hgd, act_congr hts]
        split at hr
        · cases hr
        · rename_i hg
          simp only [Option.some.injEq] at hr
          refine ⟨undef, by simp only [hg, ← hr], fun d hd => ?_⟩
          rw [← hr, hd]
          exact put_at _ _ _
        · rename_i hg
          obtain ⟨⟨v, g⟩, h3, h4⟩ := Option.map_eq_some_iff.1 hr
          refine ⟨v, by simp only [hg, h3, Option.map_some, ← h4], fun d hd => ?_⟩
          rw [← h4, hd]
          exact put_at _ _ _
      obtain ⟨v, hrun, hval⟩ := hrun
      refine step_wp c.hcl hco hrun I.er (I.ext.hr.less (by rw [hnx]; exact Nat.le_refl _) hin) hna fun φ' a' w' hext he' hs hd => ?_
      have hnn : A.next ≤ (st (p + 1)).2.next := by rw [← hnx]; exact hle.1
      have hmle := merge_le (A := A) (G := (st p).2) (G' := (st (p + 1)).2) hin hnx hle hnn
      refine ⟨φ', merge A (st p).2 (st (p + 1)).2 hnn, p + 1, ?_⟩
      have hfr := Ext.frames I.ext.hr hin hnx hext hle hnn
      have hkeep : ∀ q i' j' o', p < q → its[q]? = some (.al i' j' o') → (merge A (st p).2 (st (p + 1)).2 hnn).get (base + j') = A.get (base + j') := fun q i' j' o' hq hy => by
        have h1 := c.resv hy (p + 1) (by omega)
        have h2 := c.resv hy p (by omega)
        simp [merge, h1, h2]
      refine ⟨I.ext.trans hr₀ hfr I.le, I.le.trans hmle, by rw [c.eS_step hx rfl hval]; exact he', hs.trans I.size, hd.trans I.defers, dn', by omega, .inr ⟨p, _, rfl, hx, heff, .inr rfl⟩, ?_, rfl, ?_, ?_, ?_⟩
      · intro q y hq hy hye hs
        rcases hs with hs | hs
        · exact I.noE q y (by omega) hy hye hs
        · have := c.uniq hy hx (eff_re hye) rfl hs
          omega
      · intro c' o' hc
        simp only [merge, hc]
      · intro q i' j' o' hq hy hs hg' r' hr'
        rw [hkeep q i' j' o' (by omega) hy]
        refine I.als q i' j' o' (by omega) hy (hs.resolve_right fun ei => ?_) hg' r' hr'
        have := c.uniq hy hx rfl rfl ei
        omega
      · intro q i' j' o' hy hs
        have hq := I.res q i' j' o' hy fun h => hs (.inl h)
        have h2 := c.nexts p (by omega)
        have h3 := c.alk hy
        have h4 : (st p).2.get (base + j') = none := by
          cases hg : (st p).2.get (base + j') with
          | none => rfl
          | some z => have := hin _ _ hg; rw [hq.1] at this; cases this
        have h5 := hle.2 (base + j') (by omega) h4
        refine ⟨?_, ?_⟩
        · simp only [merge, h5, h4, if_true]; exact hq.1
        · rw [hext.still hle (by omega)]; exact hq.2
end
end Go.Dx
