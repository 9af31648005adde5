/- Texts of one kind, one behind the other. -/
import Derived.Test.YtpdfdemoflofhaaGreatMeBusNumbers1
/- The document's bus: words that are written. -/
set_option maxRecDepth 1000000
set_option maxHeartbeats 8000000
set_option linter.unusedSimpArgs false
set_option linter.unusedVariables false
namespace Go.Proofs.YtpdfdemoflofhaaGreat.Cd
open Go Go.Dx
section
variable {h h' : Hp} {q : Value → Hp → Prop} {x : Nat} {fr fo nw fo' : List Nat} {X X' : BS} {now d t : Int} {a v : BitVec 32} {vL vi vo vu : Value}
theorem RW.cast (A : RW h x fr fo X) (e : X = X') : RW h x fr fo X' := e ▸ A
theorem max_per (p : BitVec 32) : (if (p.toNat : Int) < 1 then 1 else (p.toNat : Int)) = tper p := by
  unfold tper
  by_cases h : 1#32 < p
  · have := BitVec.lt_def.1 h
    simp at this
    rw [if_pos h]
    split <;> omega
  · rw [if_neg h]
    have h2 : ¬ 1 < p.toNat := fun h3 => h (by rw [BitVec.lt_def]; simpa using h3)
    split
    · rfl
    · have : p.toNat = 1 := by omega
      rw [this]; rfl
theorem off_word {k : BitVec 32} (hk : a = 4#32 * k) (hk2 : k.toNat < 16) : (a = 0#32 → k = 0#32) ∧ (a = 4#32 → k = 1#32) ∧ (a = 8#32 → k = 2#32) ∧ (a = 12#32 → k = 3#32) ∧ (a = 16#32 → k = 4#32) := by
  have h : a.toNat = 4 * k.toNat := by rw [hk, BitVec.toNat_mul]; simp; omega
  have go : ∀ n m : Nat, n = 4 * m → n < 64 → a = BitVec.ofNat 32 n → k = BitVec.ofNat 32 m := fun n m hn hl e => by
    apply BitVec.eq_of_toNat_eq
    rw [e] at h
    simp at h ⊢
    omega
  exact ⟨go 0 0 rfl (by omega), go 4 1 rfl (by omega), go 8 2 rfl (by omega), go 12 3 rfl (by omega), go 16 4 rfl (by omega)⟩
/-- Timer 1's words. -/
theorem ztim1 {k : BitVec 32} (A : RW h x fr fo X) (hk : a = 4#32 * k) (hk2 : k.toNat < 16) (hn : 0 ≤ now ∧ now ≤ 2 ^ 60)
    (hq : ∀ h' fr', RW h' x fr' fo (X.wr 1 a v now) → Upd h h' (RL x fr fo) (RL x fr' fo) → q (.bool (mat a)) h') : WC T n_pianolaref15_Bus_timer [ptr (x + 4) 0, .int .i64 1, u32 k, u32 v, .int .i64 now] h q := by
  obtain ⟨vL, vi, vo, vu, S⟩ := A.bs
  have g := S.g
  have hl := A.lt
  simp only [rcl, rrest] at g
  obtain ⟨p1, p2⟩ := tper_pos X.T1.p
  have hw : IntKind.i64.wrap (now + (if (X.T1.p.toNat : Int) < 1 then 1 else (X.T1.p.toNat : Int))) = now + tper X.T1.p := by rw [max_per]; exact wrap_i64 (by omega) (by omega)
  rw [w_pianolaref15_Bus_timer]
  by_cases k0 : k = 0#32
  · subst k0
    have ha : a = 0#32 := hk
    subst ha
    have hA := A.put S (n := X.S.n) (T1 := { X.T1 with c := v &&& 3#32 }) (T2 := X.T2) (lost := X.U.lost) (ctl := X.U.ctl) (r := X.r) (m := X.m) (D := X.D) (K := X.K) rfl
    simp only [rcl, rrest] at hA
    obtain ⟨A1, S1, U1⟩ := hA
    by_cases v1 : v &&& 1#32 = 0#32
    · simp (maxSteps := 1000000) (disch := first | assumption | ((try simp only [push_next, put_next, adv_next, List.length_cons, List.length_nil, List.length_map, List.length_set]); omega) | simp) [g, v1]
      refine A1.can fun _ h2 nw A2 U2 => ?_
      simp (maxSteps := 1000000) (disch := first | assumption | ((try simp only [push_next, put_next, adv_next, List.length_cons, List.length_nil, List.length_map, List.length_set]); omega) | simp)
      exact hq h2 _ (A2.cast (by simp [BS.wr, TmS.wr, TmS.wrw, v1])) (U1.trans U2)
    · simp (maxSteps := 1000000) (disch := first | assumption | ((try simp only [push_next, put_next, adv_next, List.length_cons, List.length_nil, List.length_map, List.length_set]); omega) | simp) [g, v1, hw]
      refine A1.arm fun h2 nw A2 U2 => ?_
      simp (maxSteps := 1000000) (disch := first | assumption | ((try simp only [push_next, put_next, adv_next, List.length_cons, List.length_nil, List.length_map, List.length_set]); omega) | simp)
      exact hq h2 _ (A2.cast (by simp [BS.wr, TmS.wr, TmS.wrw, v1])) (U1.trans U2)
  by_cases k1 : k = 1#32
  · subst k1
    have ha : a = 4#32 := hk
    subst ha
    have hA := A.put S (n := X.S.n) (T1 := { X.T1 with p := v }) (T2 := X.T2) (lost := X.U.lost) (ctl := X.U.ctl) (r := X.r) (m := X.m) (D := X.D) (K := X.K) rfl
    simp only [rcl, rrest] at hA
    obtain ⟨A1, S1, U1⟩ := hA
    simp (maxSteps := 1000000) (disch := first | assumption | ((try simp only [push_next, put_next, adv_next, List.length_cons, List.length_nil, List.length_map, List.length_set]); omega) | simp) [g]
    exact hq _ _ (A1.cast (by simp [BS.wr, TmS.wr, TmS.wrw])) U1
  by_cases k2 : k = 2#32
  · subst k2
    have ha : a = 8#32 := hk
    subst ha
    have hA := A.put S (n := X.S.n) (T1 := { X.T1 with s := 0#32 }) (T2 := X.T2) (lost := X.U.lost) (ctl := X.U.ctl) (r := X.r) (m := X.m) (D := X.D) (K := X.K) rfl
    simp only [rcl, rrest] at hA
    obtain ⟨A1, S1, U1⟩ := hA
    by_cases v1 : v &&& 1#32 = 0#32
    · simp (maxSteps := 1000000) (disch := first | assumption | ((try simp only [push_next, put_next, adv_next, List.length_cons, List.length_nil, List.length_map, List.length_set]); omega) | simp) [g, v1]
      exact hq h fr (A.cast (by simp [BS.wr, TmS.wr, TmS.wrw, v1])) .refl
    · simp (maxSteps := 1000000) (disch := first | assumption | ((try simp only [push_next, put_next, adv_next, List.length_cons, List.length_nil, List.length_map, List.length_set]); omega) | simp) [g, v1]
      exact hq _ _ (A1.cast (by simp [BS.wr, TmS.wr, TmS.wrw, v1])) U1
  have hge : ¬ k < 3#32 := fun h3 => by
    have := BitVec.lt_def.1 h3
    simp at this
    rcases (by omega : k.toNat = 0 ∨ k.toNat = 1 ∨ k.toNat = 2) with e | e | e
    · exact k0 (BitVec.eq_of_toNat_eq e)
    · exact k1 (BitVec.eq_of_toNat_eq e)
    · exact k2 (BitVec.eq_of_toNat_eq e)
  obtain ⟨a0, a4, a8, a12, a16⟩ := off_word hk hk2
  have b0 : ¬ a = 0#32 := fun e => k0 (a0 e)
  have b4 : ¬ a = 4#32 := fun e => k1 (a4 e)
  have b8 : ¬ a = 8#32 := fun e => k2 (a8 e)
  have := hq h fr (A.cast (by simp [BS.wr, TmS.wr, TmS.wrw, b0, b4, b8])) .refl
  simp only [mat, b0, b4, b8, or_false, decide_false] at this
  simp (maxSteps := 1000000) (disch := first | assumption | ((try simp only [push_next, put_next, adv_next, List.length_cons, List.length_nil, List.length_map, List.length_set]); omega) | simp) [g, k0, k1, k2, hge]
  exact this
/-- Timer 2's words. -/
theorem ztim2 {k : BitVec 32} (A : RW h x fr fo X) (hk : a = 4#32 * k) (hk2 : k.toNat < 16) (hn : 0 ≤ now ∧ now ≤ 2 ^ 60)
    (hq : ∀ h' fr', RW h' x fr' fo (X.wr 2 a v now) → Upd h h' (RL x fr fo) (RL x fr' fo) → q (.bool (mat a)) h') : WC T n_pianolaref15_Bus_timer [ptr (x + 4) 0, .int .i64 2, u32 k, u32 v, .int .i64 now] h q := by
  obtain ⟨vL, vi, vo, vu, S⟩ := A.bs
  have g := S.g
  have hl := A.lt
  simp only [rcl, rrest] at g
  obtain ⟨p1, p2⟩ := tper_pos X.T2.p
  have hw : IntKind.i64.wrap (now + (if (X.T2.p.toNat : Int) < 1 then 1 else (X.T2.p.toNat : Int))) = now + tper X.T2.p := by rw [max_per]; exact wrap_i64 (by omega) (by omega)
  rw [w_pianolaref15_Bus_timer]
  by_cases k0 : k = 0#32
  · subst k0
    have ha : a = 0#32 := hk
    subst ha
    have hA := A.put S (n := X.S.n) (T1 := X.T1) (T2 := { X.T2 with c := v &&& 3#32 }) (lost := X.U.lost) (ctl := X.U.ctl) (r := X.r) (m := X.m) (D := X.D) (K := X.K) rfl
    simp only [rcl, rrest] at hA
    obtain ⟨A1, S1, U1⟩ := hA
    by_cases v1 : v &&& 1#32 = 0#32
    · simp (maxSteps := 1000000) (disch := first | assumption | ((try simp only [push_next, put_next, adv_next, List.length_cons, List.length_nil, List.length_map, List.length_set]); omega) | simp) [g, v1]
      refine A1.can fun _ h2 nw A2 U2 => ?_
      simp (maxSteps := 1000000) (disch := first | assumption | ((try simp only [push_next, put_next, adv_next, List.length_cons, List.length_nil, List.length_map, List.length_set]); omega) | simp)
      exact hq h2 _ (A2.cast (by simp [BS.wr, TmS.wr, TmS.wrw, v1])) (U1.trans U2)
    · simp (maxSteps := 1000000) (disch := first | assumption | ((try simp only [push_next, put_next, adv_next, List.length_cons, List.length_nil, List.length_map, List.length_set]); omega) | simp) [g, v1, hw]
      refine A1.arm fun h2 nw A2 U2 => ?_
      simp (maxSteps := 1000000) (disch := first | assumption | ((try simp only [push_next, put_next, adv_next, List.length_cons, List.length_nil, List.length_map, List.length_set]); omega) | simp)
      exact hq h2 _ (A2.cast (by simp [BS.wr, TmS.wr, TmS.wrw, v1])) (U1.trans U2)
  by_cases k1 : k = 1#32
  · subst k1
    have ha : a = 4#32 := hk
    subst ha
    have hA := A.put S (n := X.S.n) (T1 := X.T1) (T2 := { X.T2 with p := v }) (lost := X.U.lost) (ctl := X.U.ctl) (r := X.r) (m := X.m) (D := X.D) (K := X.K) rfl
    simp only [rcl, rrest] at hA
    obtain ⟨A1, S1, U1⟩ := hA
    simp (maxSteps := 1000000) (disch := first | assumption | ((try simp only [push_next, put_next, adv_next, List.length_cons, List.length_nil, List.length_map, List.length_set]); omega) | simp) [g]
    exact hq _ _ (A1.cast (by simp [BS.wr, TmS.wr, TmS.wrw])) U1
  by_cases k2 : k = 2#32
  · subst k2
    have ha : a = 8#32 := hk
    subst ha
    have hA := A.put S (n := X.S.n) (T1 := X.T1) (T2 := { X.T2 with s := 0#32 }) (lost := X.U.lost) (ctl := X.U.ctl) (r := X.r) (m := X.m) (D := X.D) (K := X.K) rfl
    simp only [rcl, rrest] at hA
    obtain ⟨A1, S1, U1⟩ := hA
    by_cases v1 : v &&& 1#32 = 0#32
    · simp (maxSteps := 1000000) (disch := first | assumption | ((try simp only [push_next, put_next, adv_next, List.length_cons, List.length_nil, List.length_map, List.length_set]); omega) | simp) [g, v1]
      exact hq h fr (A.cast (by simp [BS.wr, TmS.wr, TmS.wrw, v1])) .refl
    · simp (maxSteps := 1000000) (disch := first | assumption | ((try simp only [push_next, put_next, adv_next, List.length_cons, List.length_nil, List.length_map, List.length_set]); omega) | simp) [g, v1]
      exact hq _ _ (A1.cast (by simp [BS.wr, TmS.wr, TmS.wrw, v1])) U1
  have hge : ¬ k < 3#32 := fun h3 => by
    have := BitVec.lt_def.1 h3
    simp at this
    rcases (by omega : k.toNat = 0 ∨ k.toNat = 1 ∨ k.toNat = 2) with e | e | e
    · exact k0 (BitVec.eq_of_toNat_eq e)
    · exact k1 (BitVec.eq_of_toNat_eq e)
    · exact k2 (BitVec.eq_of_toNat_eq e)
  obtain ⟨a0, a4, a8, a12, a16⟩ := off_word hk hk2
  have b0 : ¬ a = 0#32 := fun e => k0 (a0 e)
  have b4 : ¬ a = 4#32 := fun e => k1 (a4 e)
  have b8 : ¬ a = 8#32 := fun e => k2 (a8 e)
  have := hq h fr (A.cast (by simp [BS.wr, TmS.wr, TmS.wrw, b0, b4, b8])) .refl
  simp only [mat, b0, b4, b8, or_false, decide_false] at this
  simp (maxSteps := 1000000) (disch := first | assumption | ((try simp only [push_next, put_next, adv_next, List.length_cons, List.length_nil, List.length_map, List.length_set]); omega) | simp) [g, k0, k1, k2, hge]
  exact this
theorem zdma {k : BitVec 32} (A : RW h x fr fo X) (hk : a = 4#32 * k) (hk2 : k.toNat < 16) (hn : 0 ≤ now ∧ now ≤ 2 ^ 60)
    (hq : ∀ h' fr', RW h' x fr' fo (X.wr 4 a v now) → Upd h h' (RL x fr fo) (RL x fr' fo) → q (.bool (dat a)) h') : WC T n_pianolaref15_Bus_dma [ptr (x + 4) 0, u32 k, u32 v, .int .i64 now] h q := by
  obtain ⟨vL, vi, vo, vu, S⟩ := A.bs
  have g := S.g
  have hl := A.lt
  simp only [rcl, rrest] at g
  rw [w_pianolaref15_Bus_dma]
  by_cases k0 : k = 0#32
  · subst k0
    have ha : a = 0#32 := hk
    subst ha
    have hA := A.put S (n := X.S.n) (T1 := X.T1) (T2 := X.T2) (lost := X.U.lost) (ctl := X.U.ctl) (r := X.r) (m := X.m) (D := { X.D with f := v }) (K := X.K) rfl
    simp only [rcl, rrest] at hA
    obtain ⟨A1, S1, U1⟩ := hA
    simp (maxSteps := 1000000) (disch := first | assumption | ((try simp only [push_next, put_next, adv_next, List.length_cons, List.length_nil, List.length_map, List.length_set]); omega) | simp) [g]
    exact hq _ _ (A1.cast (by simp [BS.wr, DmS.wr, DmS.wrw])) U1
  by_cases k1 : k = 1#32
  · subst k1
    have ha : a = 4#32 := hk
    subst ha
    have hA := A.put S (n := X.S.n) (T1 := X.T1) (T2 := X.T2) (lost := X.U.lost) (ctl := X.U.ctl) (r := X.r) (m := X.m) (D := { X.D with t := v }) (K := X.K) rfl
    simp only [rcl, rrest] at hA
    obtain ⟨A1, S1, U1⟩ := hA
    simp (maxSteps := 1000000) (disch := first | assumption | ((try simp only [push_next, put_next, adv_next, List.length_cons, List.length_nil, List.length_map, List.length_set]); omega) | simp) [g]
    exact hq _ _ (A1.cast (by simp [BS.wr, DmS.wr, DmS.wrw])) U1
  by_cases k2 : k = 2#32
  · subst k2
    have ha : a = 8#32 := hk
    subst ha
    have hA := A.put S (n := X.S.n) (T1 := X.T1) (T2 := X.T2) (lost := X.U.lost) (ctl := X.U.ctl) (r := X.r) (m := X.m) (D := { X.D with c := v }) (K := X.K) rfl
    simp only [rcl, rrest] at hA
    obtain ⟨A1, S1, U1⟩ := hA
    simp (maxSteps := 1000000) (disch := first | assumption | ((try simp only [push_next, put_next, adv_next, List.length_cons, List.length_nil, List.length_map, List.length_set]); omega) | simp) [g]
    exact hq _ _ (A1.cast (by simp [BS.wr, DmS.wr, DmS.wrw])) U1
  by_cases k4 : k = 4#32
  · subst k4
    have ha : a = 16#32 := hk
    subst ha
    have hA := A.put S (n := X.S.n) (T1 := X.T1) (T2 := X.T2) (lost := X.U.lost) (ctl := X.U.ctl) (r := X.r) (m := X.m) (D := { X.D with s := X.D.s &&& ~~~(v &&& 6#32) }) (K := X.K) rfl
    simp only [rcl, rrest] at hA
    obtain ⟨A1, S1, U1⟩ := hA
    simp (maxSteps := 1000000) (disch := first | assumption | ((try simp only [push_next, put_next, adv_next, List.length_cons, List.length_nil, List.length_map, List.length_set]); omega) | simp) [g]
    exact hq _ _ (A1.cast (by simp [BS.wr, DmS.wr, DmS.wrw])) U1
  by_cases k3 : k = 3#32
  · subst k3
    have ha : a = 12#32 := hk
    subst ha
    have hA := A.put S (n := X.S.n) (T1 := X.T1) (T2 := X.T2) (lost := X.U.lost) (ctl := X.U.ctl) (r := X.r) (m := X.m) (D := { X.D with s := X.D.s ||| 1#32 }) (K := X.K) rfl
    simp only [rcl, rrest] at hA
    obtain ⟨A1, S1, U1⟩ := hA
    by_cases v1 : v &&& 1#32 = 0#32
    · simp (maxSteps := 1000000) (disch := first | assumption | ((try simp only [push_next, put_next, adv_next, List.length_cons, List.length_nil, List.length_map, List.length_set]); omega) | simp) [g, v1]
      exact hq h fr (A.cast (by simp [BS.wr, DmS.wr, DmS.wrw, DmS.go, v1])) .refl
    · by_cases s1 : X.D.s &&& 1#32 = 0#32
      · have hc : (if 4096#32 < X.D.c then 4096#32 else X.D.c).toNat ≤ 4096 := by
          split
          · decide
          · rename_i h9
            rw [BitVec.lt_def] at h9
            simp at h9
            exact h9
        have e : now + ((if 4096#32 < X.D.c then 4096#32 else X.D.c).toNat : Int) / 4 + 1 = now + dtime X.D.c := by unfold dtime; omega
        simp (maxSteps := 1000000) (disch := first | assumption | ((try simp only [push_next, put_next, adv_next, List.length_cons, List.length_nil, List.length_map, List.length_set]); omega) | simp) [g, v1, s1]
        rw [e]
        refine A1.arm fun h2 nw A2 U2 => ?_
        simp (maxSteps := 1000000) (disch := first | assumption | ((try simp only [push_next, put_next, adv_next, List.length_cons, List.length_nil, List.length_map, List.length_set]); omega) | simp)
        exact hq h2 _ (A2.cast (by simp [BS.wr, DmS.wr, DmS.wrw, DmS.go, v1, s1])) (U1.trans U2)
      · simp (maxSteps := 1000000) (disch := first | assumption | ((try simp only [push_next, put_next, adv_next, List.length_cons, List.length_nil, List.length_map, List.length_set]); omega) | simp) [g, v1, s1]
        exact hq h fr (A.cast (by simp [BS.wr, DmS.wr, DmS.wrw, DmS.go, s1])) .refl
  have hge : ¬ k < 5#32 := fun h3 => by
    have := BitVec.lt_def.1 h3
    simp at this
    rcases (by omega : k.toNat = 0 ∨ k.toNat = 1 ∨ k.toNat = 2 ∨ k.toNat = 3 ∨ k.toNat = 4) with e | e | e | e | e
    · exact k0 (BitVec.eq_of_toNat_eq e)
    · exact k1 (BitVec.eq_of_toNat_eq e)
    · exact k2 (BitVec.eq_of_toNat_eq e)
    · exact k3 (BitVec.eq_of_toNat_eq e)
    · exact k4 (BitVec.eq_of_toNat_eq e)
  obtain ⟨a0, a4, a8, a12, a16⟩ := off_word hk hk2
  have b0 : ¬ a = 0#32 := fun e => k0 (a0 e)
  have b4 : ¬ a = 4#32 := fun e => k1 (a4 e)
  have b8 : ¬ a = 8#32 := fun e => k2 (a8 e)
  have b12 : ¬ a = 12#32 := fun e => k3 (a12 e)
  have b16 : ¬ a = 16#32 := fun e => k4 (a16 e)
  have := hq h fr (A.cast (by simp [BS.wr, DmS.wr, DmS.wrw, b0, b4, b8, b12, b16])) .refl
  simp only [dat, b0, b4, b8, b12, b16, or_false, decide_false] at this
  simp (maxSteps := 1000000) (disch := first | assumption | ((try simp only [push_next, put_next, adv_next, List.length_cons, List.length_nil, List.length_map, List.length_set]); omega) | simp) [g, k0, k1, k2, k3, k4, hge]
  exact this
theorem zdisk {k : BitVec 32} (A : RW h x fr fo X) (hk : a = 4#32 * k) (hk2 : k.toNat < 16) (hn : 0 ≤ now ∧ now ≤ 2 ^ 60)
    (hq : ∀ h' fr', RW h' x fr' fo (X.wr 5 a v now) → Upd h h' (RL x fr fo) (RL x fr' fo) → q (.bool (kat a)) h') : WC T n_pianolaref15_Bus_disk [ptr (x + 4) 0, u32 k, u32 v, .int .i64 now] h q := by
  obtain ⟨vL, vi, vo, vu, S⟩ := A.bs
  have g := S.g
  have hl := A.lt
  simp only [rcl, rrest] at g
  rw [w_pianolaref15_Bus_disk]
  by_cases k0 : k = 0#32
  · subst k0
    have ha : a = 0#32 := hk
    subst ha
    have hA := A.put S (n := X.S.n) (T1 := X.T1) (T2 := X.T2) (lost := X.U.lost) (ctl := X.U.ctl) (r := X.r) (m := X.m) (D := X.D) (K := { X.K with e := v }) rfl
    simp only [rcl, rrest] at hA
    obtain ⟨A1, S1, U1⟩ := hA
    simp (maxSteps := 1000000) (disch := first | assumption | ((try simp only [push_next, put_next, adv_next, List.length_cons, List.length_nil, List.length_map, List.length_set]); omega) | simp) [g]
    exact hq _ _ (A1.cast (by simp [BS.wr, DkS.wr, DkS.wrw])) U1
  by_cases k1 : k = 1#32
  · subst k1
    have ha : a = 4#32 := hk
    subst ha
    have hA := A.put S (n := X.S.n) (T1 := X.T1) (T2 := X.T2) (lost := X.U.lost) (ctl := X.U.ctl) (r := X.r) (m := X.m) (D := X.D) (K := { X.K with a := v }) rfl
    simp only [rcl, rrest] at hA
    obtain ⟨A1, S1, U1⟩ := hA
    simp (maxSteps := 1000000) (disch := first | assumption | ((try simp only [push_next, put_next, adv_next, List.length_cons, List.length_nil, List.length_map, List.length_set]); omega) | simp) [g]
    exact hq _ _ (A1.cast (by simp [BS.wr, DkS.wr, DkS.wrw])) U1
  by_cases k3 : k = 3#32
  · subst k3
    have ha : a = 12#32 := hk
    subst ha
    have hA := A.put S (n := X.S.n) (T1 := X.T1) (T2 := X.T2) (lost := X.U.lost) (ctl := X.U.ctl) (r := X.r) (m := X.m) (D := X.D) (K := { X.K with s := X.K.s &&& ~~~(v &&& 6#32) }) rfl
    simp only [rcl, rrest] at hA
    obtain ⟨A1, S1, U1⟩ := hA
    simp (maxSteps := 1000000) (disch := first | assumption | ((try simp only [push_next, put_next, adv_next, List.length_cons, List.length_nil, List.length_map, List.length_set]); omega) | simp) [g]
    exact hq _ _ (A1.cast (by simp [BS.wr, DkS.wr, DkS.wrw])) U1
  by_cases k2 : k = 2#32
  · subst k2
    have ha : a = 8#32 := hk
    subst ha
    have hA := A.put S (n := X.S.n) (T1 := X.T1) (T2 := X.T2) (lost := X.U.lost) (ctl := X.U.ctl) (r := X.r) (m := X.m) (D := X.D) (K := { X.K with c := v, s := X.K.s ||| 1#32 }) rfl
    simp only [rcl, rrest] at hA
    obtain ⟨A1, S1, U1⟩ := hA
    by_cases s1 : X.K.s &&& 1#32 = 0#32
    · simp (maxSteps := 1000000) (disch := first | assumption | ((try simp only [push_next, put_next, adv_next, List.length_cons, List.length_nil, List.length_map, List.length_set]); omega) | simp) [g, s1]
      refine A1.arm fun h2 nw A2 U2 => ?_
      simp (maxSteps := 1000000) (disch := first | assumption | ((try simp only [push_next, put_next, adv_next, List.length_cons, List.length_nil, List.length_map, List.length_set]); omega) | simp)
      exact hq h2 _ (A2.cast (by simp [BS.wr, DkS.wr, DkS.wrw, s1])) (U1.trans U2)
    · simp (maxSteps := 1000000) (disch := first | assumption | ((try simp only [push_next, put_next, adv_next, List.length_cons, List.length_nil, List.length_map, List.length_set]); omega) | simp) [g, s1]
      exact hq h fr (A.cast (by simp [BS.wr, DkS.wr, DkS.wrw, s1])) .refl
  have hge : ¬ k < 4#32 := fun h3 => by
    have := BitVec.lt_def.1 h3
    simp at this
    rcases (by omega : k.toNat = 0 ∨ k.toNat = 1 ∨ k.toNat = 2 ∨ k.toNat = 3) with e | e | e | e
    · exact k0 (BitVec.eq_of_toNat_eq e)
    · exact k1 (BitVec.eq_of_toNat_eq e)
    · exact k2 (BitVec.eq_of_toNat_eq e)
    · exact k3 (BitVec.eq_of_toNat_eq e)
  obtain ⟨a0, a4, a8, a12, a16⟩ := off_word hk hk2
  have b0 : ¬ a = 0#32 := fun e => k0 (a0 e)
  have b4 : ¬ a = 4#32 := fun e => k1 (a4 e)
  have b8 : ¬ a = 8#32 := fun e => k2 (a8 e)
  have b12 : ¬ a = 12#32 := fun e => k3 (a12 e)
  have := hq h fr (A.cast (by simp [BS.wr, DkS.wr, DkS.wrw, b0, b4, b8, b12])) .refl
  simp only [kat, b0, b4, b8, b12, or_false, decide_false] at this
  simp (maxSteps := 1000000) (disch := first | assumption | ((try simp only [push_next, put_next, adv_next, List.length_cons, List.length_nil, List.length_map, List.length_set]); omega) | simp) [g, k0, k1, k2, k3, hge]
  exact this
end
end Go.Proofs.YtpdfdemoflofhaaGreat.Cd

/- The document's bus: the line's words; which word. -/
set_option maxRecDepth 1000000
set_option maxHeartbeats 8000000
set_option linter.unusedSimpArgs false
set_option linter.unusedVariables false
namespace Go.Proofs.YtpdfdemoflofhaaGreat.Cd
open Go Go.Dx
section
variable {h h' : Hp} {q : Value → Hp → Prop} {x : Nat} {fr fo nw fo' : List Nat} {X X' : BS} {now d t : Int} {a v : BitVec 32} {vL vi vo vu vi' vo' : Value}
/-- Bytes that wait are changed. -/
theorem RW.lists {i' o' : By} {C : List Value} (A : RW h x fr fo X) (S : RS h x fr fo X vL vi vo vu) (hi : Se encB h (fr ++ nw) vi' i') (ho : Se encB h (fr ++ nw) vo' o') (li : i'.length ≤ 16) (lo : o'.length ≤ 16) (hn : ∀ b ∈ nw, x + 5 < b ∧ b < h.next ∧ b ∉ fo)
    (hC : C = rcl x { X with U := { X.U with i := i', o := o' } } vL vi' vo' vu) :
    RW (h.put (x + 4) (some (.cells false C))) x (fr ++ nw) fo { X with U := { X.U with i := i', o := o' } } := by
  subst hC
  have hl := A.lt
  have k1 : ∀ b ∈ fr ++ nw, (h.put (x + 4) (some (.cells false (rcl x { X with U := { X.U with i := i', o := o' } } vL vi' vo' vu)))).get b = h.get b := fun b hb => get_put_ne (by
    rcases List.mem_append.1 hb with hb | hb
    · have := (A.fr b hb).1; omega
    · have := (hn b hb).1; omega)
  refine ⟨⟨vL, vi', vo', vu, get_put_self (by omega), S.sL.keep (fun b hb => k1 b (List.mem_append_left _ hb)) (fun b hb => List.mem_append_left _ hb), hi.keep k1 (fun b hb => hb), ho.keep k1 (fun b hb => hb), S.su.keep fun b hb => get_put_ne (by have := A.fo b hb; omega)⟩, A.ra.keep fun b h1 h2 => get_put_ne (by omega), by rw [get_put_ne (by omega), A.dk], A.el, fun b hb => ?_, A.fo, A.wi, li, lo, A.nout⟩
  rcases List.mem_append.1 hb with hb | hb
  · exact A.fr b hb
  · exact hn b hb
theorem Se.kp {α : Type} {E : Enc α} {v : Value} {xs : List α} (s : Se E h fr v xs) (K : Kp h h') (hl : ∀ b ∈ fr, b < h.next) : Se E h' fr v xs := s.keep (fun b hb => K.get b (hl b hb)) fun b hb => hb
theorem RS.kp (A : RW h x fr fo X) (S : RS h x fr fo X vL vi vo vu) (K : Kp h h') : RS h' x fr fo X vL vi vo vu := by
  have hl := A.lt
  have l1 : ∀ b ∈ fr, b < h.next := fun b hb => (A.fr b hb).2.1
  exact ⟨by rw [K.get _ (by omega), S.g], S.sL.kp K l1, S.si.kp K l1, S.so.kp K l1, S.su.kp K⟩
theorem zuart {k : BitVec 32} (A : RW h x fr fo X) (hk : a = 4#32 * k) (hk2 : k.toNat < 16) (hn : 0 ≤ now ∧ now ≤ 2 ^ 60)
    (hq : ∀ h' fr', RW h' x fr' fo (X.wr 3 a v now) → Upd h h' (RL x fr fo) (RL x fr' fo) → q (.bool (uat a)) h') : WC T n_pianolaref15_Bus_uart [ptr (x + 4) 0, u32 k, u32 v, .int .i64 now] h q := by
  obtain ⟨vL, vi, vo, vu, S⟩ := A.bs
  have g := S.g
  have hl := A.lt
  simp only [rcl, rrest] at g
  rw [w_pianolaref15_Bus_uart]
  by_cases k0 : k = 0#32
  · subst k0
    have ha : a = 0#32 := hk
    subst ha
    have hno := A.no
    obtain ⟨ao, co, hvo, hso, hco, hbo⟩ := S.so
    subst hvo
    by_cases hfull : X.U.o.length < 16
    · have app : ∀ (h2 : Hp) (nw : List Nat) (Y : BS) (e : Env), RW h2 x (fr ++ nw) fo Y → Upd h h2 (RL x fr fo) (RL x (fr ++ nw) fo) → Y.U = X.U → { Y with U := { Y.U with o := X.U.o ++ [v.setWidth 8] } } = X.wr 3 0#32 v now → e 0 = ptr (x + 4) 0 → e 1 = u32 0#32 → e 2 = u32 v → e 9 = ptr (x + 4) 9 →
          G T (fin [.t 8] (some []) h.next q) c0_pianolaref15_Bus_uart [Fr.block 0, Fr.seq (.seq (.ops [⟨some 62, none, .mov (.t 1)⟩, ⟨some 63, none, .bin .lss (.t 62) (.c (.int .u32 3))⟩, ⟨some 8, none, .mov (.t 63)⟩]) .ret)] e h2 := fun h2 nw Y e A2 U2 hY hR e0 e1 e2 e9 => by
        obtain ⟨wL, wi, wo, wu, S2⟩ := A2.bs
        have g2 := S2.g
        have hl2 := A2.lt
        simp only [rcl, rrest] at g2
        have hso2 := S2.so
        rw [hY] at hso2
        obtain ⟨ao2, co2, hvo2, hso2, hco2, hbo2⟩ := hso2
        subst hvo2
        have K1 : Kp h2 (h2.push (.cells false [])) := (Kp.refl h2).push _
        have Oe : Own encB (h2.push (.cells false [])) (.slice (some ⟨h2.next, 0, none⟩) 0 0) [] [h2.next] := .emp get_push_self
        simp (maxSteps := 1000000) (disch := first | assumption | ((try simp only [push_next, put_next, adv_next, List.length_cons, List.length_nil, List.length_map, List.length_set]); omega) | simp) [e9, e2, g2]
        refine GV_app (E := encB) Oe (hso2.kp K1) rfl (by simp; omega) (by simp; omega) fun v3 h3 f3 O3 U3 => ?_
        have K3 : Kp h2 h3 := U3.kp' K1 (by simp)
        have F3 : ∀ b ∈ f3, h2.next ≤ b := fun b hb => by
          rcases U3.sub b hb with h5 | h5
          · simp at h5; omega
          · have := K1.le; omega
        have K4 : Kp h3 (h3.push (.cells false [u8 (v.setWidth 8)])) := (Kp.refl h3).push _
        have S4 : Sees encB (h3.push (.cells false [u8 (v.setWidth 8)])) (some ⟨h3.next, 0, none⟩) [v.setWidth 8] := sees_b get_push_self
        simp (maxSteps := 1000000) (disch := first | assumption | ((try simp only [push_next, put_next, adv_next, List.length_cons, List.length_nil, List.length_map, List.length_set]); omega) | simp) [e9, e2]
        generalize h3.push (.cells false [u8 (v.setWidth 8)]) = h4 at *
        refine GV_app (E := encB) (O3.kp K4) S4 rfl (by simp; omega) (by simp; omega) fun v5 h5 f5 O5 U5 => ?_
        have K5 : Kp h2 h5 := U5.kp' (K3.trans K4) F3
        have F5 : ∀ b ∈ f5, h2.next ≤ b := fun b hb => by
          rcases U5.sub b hb with h6 | h6
          · exact F3 b h6
          · have := K3.le; have := K4.le; omega
        have A5 := A2.kp K5
        have S5 := RS.kp A2 S2 K5
        have g5 := S5.g
        have hl5 := A5.lt
        simp only [rcl, rrest] at g5
        have hone : one v5 = true := by obtain ⟨_, _, e5, _⟩ := O5.len; rw [e5]; rfl
        simp (maxSteps := 1000000) (disch := first | assumption | ((try simp only [push_next, put_next, adv_next, List.length_cons, List.length_nil, List.length_map, List.length_set]); omega) | simp) [e0, e1, e9, g5, hone]
        have fr5 : ∀ b ∈ f5, x + 5 < b ∧ b < h5.next ∧ b ∉ fo := fun b hb => ⟨by have := F5 b hb; omega, O5.live b hb, fun hm => by have := F5 b hb; have := A2.folt b hm; omega⟩
        rw [List.nil_append] at O5
        have hi5 := S5.si
        rw [hY] at hi5
        have A6 := A5.lists (nw := f5) (i' := X.U.i) (o' := X.U.o ++ [v.setWidth 8]) S5 (hi5.keep (fun b hb => rfl) fun b hb => List.mem_append_left _ hb) (Se.own O5 fun b hb => List.mem_append_right _ hb) A.ni (by simp; omega) fr5 rfl
        simp only [rcl, rrest] at A6
        refine hq _ _ (A6.cast ?_) ?_
        · rw [← hR, ← hY]
        · refine U2.trans ⟨by simpa using K5.le, fun b hb hn => ?_, fun b hb => ?_⟩
          · rw [get_put_ne (fun e => hn (by rw [e]; simp [RL])), K5.get b hb]
          · simp only [RL, List.mem_append] at hb ⊢
            rcases hb with hb | (hb | hb) | hb
            · exact .inl (.inl hb)
            · exact .inl (.inr (.inl hb))
            · exact .inr (F5 b hb)
            · exact .inl (.inr (.inr hb))
      by_cases h0 : X.U.o.length = 0
      · have h0' : X.U.o = [] := List.length_eq_zero_iff.1 h0
        simp (maxSteps := 1000000) (disch := first | assumption | ((try simp only [push_next, put_next, adv_next, List.length_cons, List.length_nil, List.length_map, List.length_set]); omega) | simp) [g, hfull, h0, -g0_pianolaref15_Bus_uart]
        refine A.arm fun h2 nw A2 U2 => ?_
        simp (maxSteps := 1000000) (disch := first | assumption | ((try simp only [push_next, put_next, adv_next, List.length_cons, List.length_nil, List.length_map, List.length_set]); omega) | simp) [-g0_pianolaref15_Bus_uart]
        refine app h2 nw _ _ A2 U2 rfl ?_ (by simp) (by simp) (by simp) (by simp)
        simp [BS.wr, UaS.wr, UaS.wrw, h0, hfull]
      · have h0i : ¬ (X.U.o.length : Int) = 0 := by omega
        have hfi : (X.U.o.length : Int) < 16 := by omega
        simp (maxSteps := 1000000) (disch := first | assumption | ((try simp only [push_next, put_next, adv_next, List.length_cons, List.length_nil, List.length_map, List.length_set]); omega) | simp) [g, hfi, h0, h0i, -g0_pianolaref15_Bus_uart]
        refine app h [] X _ (by rw [List.append_nil]; exact A) (by rw [List.append_nil]; exact .refl) rfl ?_ (by simp) (by simp) (by simp) (by simp)
        simp [BS.wr, UaS.wr, UaS.wrw, h0, hfull]
    · have := hq h fr (A.cast (by simp [BS.wr, UaS.wr, UaS.wrw, hfull, show X.U.o.length ≠ 0 by omega])) .refl
      have hfi : ¬ (X.U.o.length : Int) < 16 := by omega
      simp (maxSteps := 1000000) (disch := first | assumption | ((try simp only [push_next, put_next, adv_next, List.length_cons, List.length_nil, List.length_map, List.length_set]); omega) | simp) [g, hfi]
      exact this
  by_cases k1 : k = 1#32
  · subst k1
    have ha : a = 4#32 := hk
    subst ha
    have hA := A.put S (n := X.S.n) (T1 := X.T1) (T2 := X.T2) (lost := false) (ctl := X.U.ctl) (r := X.r) (m := X.m) (D := X.D) (K := X.K) rfl
    simp only [rcl, rrest] at hA
    obtain ⟨A1, S1, U1⟩ := hA
    by_cases v1 : v &&& 4#32 = 0#32
    · simp (maxSteps := 1000000) (disch := first | assumption | ((try simp only [push_next, put_next, adv_next, List.length_cons, List.length_nil, List.length_map, List.length_set]); omega) | simp) [g, v1]
      exact hq h fr (A.cast (by simp [BS.wr, UaS.wr, UaS.wrw, v1])) .refl
    · simp (maxSteps := 1000000) (disch := first | assumption | ((try simp only [push_next, put_next, adv_next, List.length_cons, List.length_nil, List.length_map, List.length_set]); omega) | simp) [g, v1]
      exact hq _ _ (A1.cast (by simp [BS.wr, UaS.wr, UaS.wrw, v1])) U1
  by_cases k2 : k = 2#32
  · subst k2
    have ha : a = 8#32 := hk
    subst ha
    have hA := A.put S (n := X.S.n) (T1 := X.T1) (T2 := X.T2) (lost := X.U.lost) (ctl := v &&& 3#32) (r := X.r) (m := X.m) (D := X.D) (K := X.K) rfl
    simp only [rcl, rrest] at hA
    obtain ⟨A1, S1, U1⟩ := hA
    simp (maxSteps := 1000000) (disch := first | assumption | ((try simp only [push_next, put_next, adv_next, List.length_cons, List.length_nil, List.length_map, List.length_set]); omega) | simp) [g]
    exact hq _ _ (A1.cast (by simp [BS.wr, UaS.wr, UaS.wrw])) U1
  have hge : ¬ k < 3#32 := fun h3 => by
    have := BitVec.lt_def.1 h3
    simp at this
    rcases (by omega : k.toNat = 0 ∨ k.toNat = 1 ∨ k.toNat = 2) with e | e | e
    · exact k0 (BitVec.eq_of_toNat_eq e)
    · exact k1 (BitVec.eq_of_toNat_eq e)
    · exact k2 (BitVec.eq_of_toNat_eq e)
  obtain ⟨a0, a4, a8, a12, a16⟩ := off_word hk hk2
  have b0 : ¬ a = 0#32 := fun e => k0 (a0 e)
  have b4 : ¬ a = 4#32 := fun e => k1 (a4 e)
  have b8 : ¬ a = 8#32 := fun e => k2 (a8 e)
  have := hq h fr (A.cast (by simp [BS.wr, UaS.wr, UaS.wrw, b0, b4, b8])) .refl
  simp only [uat, b0, b4, b8, or_false, decide_false] at this
  simp (maxSteps := 1000000) (disch := first | assumption | ((try simp only [push_next, put_next, adv_next, List.length_cons, List.length_nil, List.length_map, List.length_set]); omega) | simp) [g, k0, k1, k2, hge]
  exact this
/-- A device's word is written. -/
theorem zset (A : RW h x fr fo X) (hd : 0 ≤ d ∧ d ≤ 5) (ha : a.toNat < 64) (hn : 0 ≤ now ∧ now ≤ 2 ^ 60)
    (hq : ∀ h' fr', RW h' x fr' fo (X.wr d a v now) → Upd h h' (RL x fr fo) (RL x fr' fo) → q (.bool (wok d a)) h') : WC T n_pianolaref15_Bus_Set [ptr (x + 4) 0, .int .i64 d, u32 a, u32 v, .int .i64 now] h q := by
  obtain ⟨vL, vi, vo, vu, S⟩ := A.bs
  have g := S.g
  have hl := A.lt
  simp only [rcl, rrest] at g
  rw [w_pianolaref15_Bus_Set]
  by_cases c : a % 4#32 = 0#32
  · obtain ⟨k, hk⟩ : ∃ k, k = a / 4#32 := ⟨_, rfl⟩
    have hkn : k.toNat = a.toNat / 4 := by rw [hk, BitVec.toNat_udiv]; rfl
    have hcn : a.toNat % 4 = 0 := by
      have := congrArg BitVec.toNat c
      simpa using this
    have hak : a = 4#32 * k := by
      apply BitVec.eq_of_toNat_eq
      rw [BitVec.toNat_mul, hkn]
      simp
      omega
    have hk16 : k.toNat < 16 := by omega
    have : d = 0 ∨ d = 1 ∨ d = 2 ∨ d = 3 ∨ d = 4 ∨ d = 5 := by omega
    rcases this with rfl | rfl | rfl | rfl | rfl | rfl
    · have hA := A.put S (n := X.S.n) (T1 := X.T1) (T2 := X.T2) (lost := X.U.lost) (ctl := X.U.ctl) (r := X.r) (m := v &&& 62#32) (D := X.D) (K := X.K) rfl
      simp only [rcl, rrest] at hA
      obtain ⟨A1, S1, U1⟩ := hA
      obtain ⟨a0, a4, a8, a12, a16⟩ := off_word hak hk16
      have hlat : decide (a < 16#32) = lat a := by
        have hlt16 : (a < 16#32) ↔ a.toNat < 16 := by rw [BitVec.lt_def]; rfl
        by_cases h16 : a.toNat < 16
        · rcases (by omega : a.toNat = 0 ∨ a.toNat = 4 ∨ a.toNat = 8 ∨ a.toNat = 12) with e | e | e | e
          · have : a = 0#32 := BitVec.eq_of_toNat_eq e
            subst this; rfl
          · have : a = 4#32 := BitVec.eq_of_toNat_eq e
            subst this; rfl
          · have : a = 8#32 := BitVec.eq_of_toNat_eq e
            subst this; rfl
          · have : a = 12#32 := BitVec.eq_of_toNat_eq e
            subst this; rfl
        · have n0 : ¬ a = 0#32 := fun e => h16 (by rw [e]; decide)
          have n4 : ¬ a = 4#32 := fun e => h16 (by rw [e]; decide)
          have n8 : ¬ a = 8#32 := fun e => h16 (by rw [e]; decide)
          have n12 : ¬ a = 12#32 := fun e => h16 (by rw [e]; decide)
          have : ¬ a < 16#32 := fun e => h16 (hlt16.1 e)
          rw [decide_eq_false this]
          simp [lat, n0, n4, n8, n12]
      have hw : wok 0 a = lat a := by simp [wok]
      rw [hw] at hq
      by_cases e4 : a = 4#32
      · subst e4
        simp (maxSteps := 1000000) (disch := first | assumption | ((try simp only [push_next, put_next, adv_next, List.length_cons, List.length_nil, List.length_map, List.length_set]); omega) | simp) [g]
        exact hq _ _ (A1.cast (by simp [BS.wr])) U1
      · have := hq h fr (A.cast (by simp [BS.wr, e4])) .refl
        rw [← hlat] at this
        simp (maxSteps := 1000000) (disch := first | assumption | ((try simp only [push_next, put_next, adv_next, List.length_cons, List.length_nil, List.length_map, List.length_set]); omega) | simp) [g, c, e4]
        exact this
    · simp (maxSteps := 1000000) (disch := first | assumption | ((try simp only [push_next, put_next, adv_next, List.length_cons, List.length_nil, List.length_map, List.length_set]); omega) | simp) [g, c]
      rw [← hk]
      refine ztim1 A hak hk16 hn fun h1 fr1 A1 U1 => ?_
      simp (maxSteps := 1000000) (disch := first | assumption | ((try simp only [push_next, put_next, adv_next, List.length_cons, List.length_nil, List.length_map, List.length_set]); omega) | simp)
      simpa [wok] using hq h1 fr1 A1 U1
    · simp (maxSteps := 1000000) (disch := first | assumption | ((try simp only [push_next, put_next, adv_next, List.length_cons, List.length_nil, List.length_map, List.length_set]); omega) | simp) [g, c]
      rw [← hk]
      refine ztim2 A hak hk16 hn fun h1 fr1 A1 U1 => ?_
      simp (maxSteps := 1000000) (disch := first | assumption | ((try simp only [push_next, put_next, adv_next, List.length_cons, List.length_nil, List.length_map, List.length_set]); omega) | simp)
      simpa [wok] using hq h1 fr1 A1 U1
    · simp (maxSteps := 1000000) (disch := first | assumption | ((try simp only [push_next, put_next, adv_next, List.length_cons, List.length_nil, List.length_map, List.length_set]); omega) | simp) [g, c]
      rw [← hk]
      refine zuart A hak hk16 hn fun h1 fr1 A1 U1 => ?_
      simp (maxSteps := 1000000) (disch := first | assumption | ((try simp only [push_next, put_next, adv_next, List.length_cons, List.length_nil, List.length_map, List.length_set]); omega) | simp)
      simpa [wok] using hq h1 fr1 A1 U1
    · simp (maxSteps := 1000000) (disch := first | assumption | ((try simp only [push_next, put_next, adv_next, List.length_cons, List.length_nil, List.length_map, List.length_set]); omega) | simp) [g, c]
      rw [← hk]
      refine zdma A hak hk16 hn fun h1 fr1 A1 U1 => ?_
      simp (maxSteps := 1000000) (disch := first | assumption | ((try simp only [push_next, put_next, adv_next, List.length_cons, List.length_nil, List.length_map, List.length_set]); omega) | simp)
      simpa [wok] using hq h1 fr1 A1 U1
    · simp (maxSteps := 1000000) (disch := first | assumption | ((try simp only [push_next, put_next, adv_next, List.length_cons, List.length_nil, List.length_map, List.length_set]); omega) | simp) [g, c]
      rw [← hk]
      refine zdisk A hak hk16 hn fun h1 fr1 A1 U1 => ?_
      simp (maxSteps := 1000000) (disch := first | assumption | ((try simp only [push_next, put_next, adv_next, List.length_cons, List.length_nil, List.length_map, List.length_set]); omega) | simp)
      simpa [wok] using hq h1 fr1 A1 U1
  · have n0 : ¬ a = 0#32 := fun e => c (by rw [e]; rfl)
    have n4 : ¬ a = 4#32 := fun e => c (by rw [e]; rfl)
    have n8 : ¬ a = 8#32 := fun e => c (by rw [e]; rfl)
    have n12 : ¬ a = 12#32 := fun e => c (by rw [e]; rfl)
    have n16 : ¬ a = 16#32 := fun e => c (by rw [e]; rfl)
    have hw : wok d a = false := by
      unfold wok lat mat uat dat kat
      simp [n0, n4, n8, n12, n16]
    have hr : X = X.wr d a v now := by
      unfold BS.wr
      simp [TmS.wr, TmS.wrw, UaS.wr, UaS.wrw, DmS.wr, DmS.wrw, DkS.wr, DkS.wrw, n0, n4, n8, n12, n16]
    have := hq h fr (A.cast hr) .refl
    rw [hw] at this
    simp (maxSteps := 1000000) (disch := first | assumption | ((try simp only [push_next, put_next, adv_next, List.length_cons, List.length_nil, List.length_map, List.length_set]); omega) | simp) [c]
    exact this
end
end Go.Proofs.YtpdfdemoflofhaaGreat.Cd

/- The document's bus: what lines and words tell. -/
set_option maxRecDepth 1000000
set_option maxHeartbeats 8000000
set_option linter.unusedSimpArgs false
set_option linter.unusedVariables false
namespace Go.Proofs.YtpdfdemoflofhaaGreat.Cd
open Go Go.Dx
section
variable {h h' : Hp} {q : Value → Hp → Prop} {x : Nat} {fr fo nw fo' : List Nat} {X X' : BS} {now d t : Int} {a v : BitVec 32} {vL vi vo vu vi' vo' : Value}
theorem zline (A : RW h x fr fo X) (hd : 1 ≤ d ∧ d ≤ 5) : WC T n_pianolaref15_Bus_Line [ptr (x + 4) 0, .int .i64 d] h q ↔ q (.bool (X.line d)) h := by
  obtain ⟨vL, vi, vo, vu, S⟩ := A.bs
  have g := S.g
  simp only [rcl, rrest] at g
  obtain ⟨ai, ci, hvi, hsi, hci, hbi⟩ := S.si
  obtain ⟨ao, co, hvo, hso, hco, hbo⟩ := S.so
  subst hvi
  subst hvo
  rw [w_pianolaref15_Bus_Line]
  have : d = 1 ∨ d = 2 ∨ d = 3 ∨ d = 4 ∨ d = 5 := by omega
  rcases this with rfl | rfl | rfl | rfl | rfl
  · simp (maxSteps := 1000000) (disch := first | assumption | ((try simp only [push_next, put_next, adv_next, List.length_cons, List.length_nil, List.length_map, List.length_set]); omega) | simp) [g, BS.line]
  · simp (maxSteps := 1000000) (disch := first | assumption | ((try simp only [push_next, put_next, adv_next, List.length_cons, List.length_nil, List.length_map, List.length_set]); omega) | simp) [g, BS.line]
  · have l3 : X.line 3 = X.U.line := by simp [BS.line]
    rw [l3]
    unfold UaS.line
    by_cases c1 : X.U.ctl &&& 1#32 = 0#32
    · by_cases c2 : X.U.ctl &&& 2#32 = 0#32
      · simp (maxSteps := 1000000) (disch := first | assumption | ((try simp only [push_next, put_next, adv_next, List.length_cons, List.length_nil, List.length_map, List.length_set]); omega) | simp) [g, c1, c2]
      · have d2 : (X.U.ctl &&& 2#32 != 0#32) = true := by simp [c2]
        simp (maxSteps := 1000000) (disch := first | assumption | ((try simp only [push_next, put_next, adv_next, List.length_cons, List.length_nil, List.length_map, List.length_set]); omega) | simp) [g, c1, c2, d2]
    · have d1 : (X.U.ctl &&& 1#32 != 0#32) = true := by simp [c1]
      by_cases c3 : 0 < X.U.i.length
      · have c3i : (0 : Int) < X.U.i.length := by omega
        simp (maxSteps := 1000000) (disch := first | assumption | ((try simp only [push_next, put_next, adv_next, List.length_cons, List.length_nil, List.length_map, List.length_set]); omega) | simp) [g, c1, c3, c3i, d1]
      · have c3i : ¬ (0 : Int) < X.U.i.length := by omega
        by_cases c2 : X.U.ctl &&& 2#32 = 0#32
        · simp (maxSteps := 1000000) (disch := first | assumption | ((try simp only [push_next, put_next, adv_next, List.length_cons, List.length_nil, List.length_map, List.length_set]); omega) | simp) [g, c1, c2, c3, c3i]
        · have d2 : (X.U.ctl &&& 2#32 != 0#32) = true := by simp [c2]
          simp (maxSteps := 1000000) (disch := first | assumption | ((try simp only [push_next, put_next, adv_next, List.length_cons, List.length_nil, List.length_map, List.length_set]); omega) | simp) [g, c1, c2, c3, c3i, d2]
  · simp (maxSteps := 1000000) (disch := first | assumption | ((try simp only [push_next, put_next, adv_next, List.length_cons, List.length_nil, List.length_map, List.length_set]); omega) | simp) [g, BS.line]
  · simp (maxSteps := 1000000) (disch := first | assumption | ((try simp only [push_next, put_next, adv_next, List.length_cons, List.length_nil, List.length_map, List.length_set]); omega) | simp) [g, BS.line]
theorem iaV_u32 {a : BitVec 32} {b o n c : Nat} (h : a.toNat < n) : iaV 1 (u32 a) (.slice (some ⟨b, o, none⟩) n c) = some (ptr b (o + a.toNat)) := by
  simp [iaV, u32, asN, h]
theorem zbit {b : Bool} {n : BitVec 64} : WC T n_pianolaref15_bit [.bool b, u64 n] h q ↔ q (u32 (ubit b (1#32 <<< n.toNat))) h := by
  rw [w_pianolaref15_bit]
  cases b <;> simp (maxSteps := 1000000) (disch := first | assumption | ((try simp only [push_next, put_next, adv_next, List.length_cons, List.length_nil, List.length_map, List.length_set]); omega) | simp) [ubit]
theorem four {a : BitVec 32} (c : a % 4#32 = 0#32) (n : Nat) (hn : n < 2 ^ 30) (hno : ∀ m, m < n → a ≠ BitVec.ofNat 32 (4 * m)) : BitVec.ofNat 32 n ≤ a / 4#32 := by
  have hcn : a.toNat % 4 = 0 := by
    have := congrArg BitVec.toNat c
    simpa using this
  rw [BitVec.le_def, BitVec.toNat_udiv, BitVec.toNat_ofNat, Nat.mod_eq_of_lt (by omega)]
  show n ≤ a.toNat / 4
  apply Nat.le_of_not_lt
  intro hlt
  refine hno (a.toNat / 4) hlt (BitVec.eq_of_toNat_eq ?_)
  have := a.isLt
  rw [BitVec.toNat_ofNat, Nat.mod_eq_of_lt (by omega)]
  omega
theorem zword0 (A : RW h x fr fo X) (hn : 0 ≤ now ∧ now ≤ 2 ^ 60) (hq : ∀ h', Kp h h' → q (.tuple #[u32 (X.rd 0 a now), .bool (wok 0 a)]) h') : WC T n_pianolaref15_Bus_Word [ptr (x + 4) 0, .int .i64 0, u32 a, .int .i64 now] h q := by
  obtain ⟨vL, vi, vo, vu, S⟩ := A.bs
  have g := S.g
  have hl := A.lt
  simp only [rcl, rrest] at g
  have l1 : BitVec.setWidth 32 (BitVec.ofInt 64 now) = BitVec.ofInt 32 now := by
    apply BitVec.eq_of_toNat_eq
    rw [BitVec.toNat_setWidth, BitVec.toNat_ofInt, BitVec.toNat_ofInt]
    omega
  have l2 : BitVec.setWidth 32 (BitVec.ofInt 64 now >>> 32) = BitVec.ofInt 32 (now.fdiv 4294967296) := by
    apply BitVec.eq_of_toNat_eq
    rw [Int.fdiv_eq_ediv_of_nonneg _ (by omega), BitVec.toNat_setWidth, BitVec.toNat_ushiftRight, Nat.shiftRight_eq_div_pow, BitVec.toNat_ofInt, BitVec.toNat_ofInt]
    omega
  rw [w_pianolaref15_Bus_Word]
  by_cases c : a % 4#32 = 0#32
  · by_cases a0 : a = 0#32
    · subst a0
      have := fun h' K => hq h' K
      simp [BS.rd, lrd, wok, lat, l1, l2] at this
      simp (maxSteps := 1000000) (disch := first | assumption | ((try simp only [push_next, put_next, adv_next, List.length_cons, List.length_nil, List.length_map, List.length_set]); omega) | simp) [g, iaV_u32, l1, l2]
      refine this _ ?_
      exact ((((Kp.refl h).push _).adv 1).put (by omega) _)
    by_cases a4 : a = 4#32
    · subst a4
      have := fun h' K => hq h' K
      simp [BS.rd, lrd, wok, lat, l1, l2] at this
      simp (maxSteps := 1000000) (disch := first | assumption | ((try simp only [push_next, put_next, adv_next, List.length_cons, List.length_nil, List.length_map, List.length_set]); omega) | simp) [g, iaV_u32, l1, l2]
      refine this _ ?_
      exact ((((Kp.refl h).push _).adv 1).put (by omega) _)
    by_cases a8 : a = 8#32
    · subst a8
      have := fun h' K => hq h' K
      simp [BS.rd, lrd, wok, lat, l1, l2] at this
      simp (maxSteps := 1000000) (disch := first | assumption | ((try simp only [push_next, put_next, adv_next, List.length_cons, List.length_nil, List.length_map, List.length_set]); omega) | simp) [g, iaV_u32, l1, l2]
      refine this _ ?_
      exact ((((Kp.refl h).push _).adv 1).put (by omega) _)
    by_cases a12 : a = 12#32
    · subst a12
      have := fun h' K => hq h' K
      simp [BS.rd, lrd, wok, lat, l1, l2] at this
      simp (maxSteps := 1000000) (disch := first | assumption | ((try simp only [push_next, put_next, adv_next, List.length_cons, List.length_nil, List.length_map, List.length_set]); omega) | simp) [g, iaV_u32, l1, l2]
      refine this _ ?_
      exact ((((Kp.refl h).push _).adv 1).put (by omega) _)
    have hbig := four c 4 (by omega) (fun m hm => by
      rcases (by omega : m = 0 ∨ m = 1 ∨ m = 2 ∨ m = 3) with rfl | rfl | rfl | rfl
      · exact a0
      · exact a4
      · exact a8
      · exact a12)
    have hlat : lat a = false := by simp [lat, a0, a4, a8, a12]
    have := fun h' K => hq h' K
    simp [BS.rd, lrd, wok, hlat, a0, a4, a8, a12] at this
    simp (maxSteps := 1000000) (disch := first | assumption | ((try simp only [push_next, put_next, adv_next, List.length_cons, List.length_nil, List.length_map, List.length_set]); omega) | simp) [g, c, hbig, l1, l2]
    refine this _ ?_
    exact ((((Kp.refl h).push _).adv 1).put (by omega) _)
  · have a0 : ¬ a = 0#32 := fun e => c (by rw [e]; rfl)
    have a4 : ¬ a = 4#32 := fun e => c (by rw [e]; rfl)
    have a8 : ¬ a = 8#32 := fun e => c (by rw [e]; rfl)
    have a12 : ¬ a = 12#32 := fun e => c (by rw [e]; rfl)
    have hlat : lat a = false := by simp [lat, a0, a4, a8, a12]
    have := fun h' K => hq h' K
    simp [BS.rd, lrd, wok, hlat, a0, a4, a8, a12] at this
    simp (maxSteps := 1000000) (disch := first | assumption | ((try simp only [push_next, put_next, adv_next, List.length_cons, List.length_nil, List.length_map, List.length_set]); omega) | simp) [g, c, l1, l2]
    refine this _ ?_
    exact ((((Kp.refl h).push _).adv 1).put (by omega) _)
theorem zword1 (A : RW h x fr fo X) (hq : ∀ h', Kp h h' → q (.tuple #[u32 (X.rd 1 a now), .bool (wok 1 a)]) h') : WC T n_pianolaref15_Bus_Word [ptr (x + 4) 0, .int .i64 1, u32 a, .int .i64 now] h q := by
  obtain ⟨vL, vi, vo, vu, S⟩ := A.bs
  have g := S.g
  have hl := A.lt
  simp only [rcl, rrest] at g
  rw [w_pianolaref15_Bus_Word]
  by_cases c : a % 4#32 = 0#32
  · by_cases a0 : a = 0#32
    · subst a0
      have := fun h' K => hq h' K
      simp [BS.rd, TmS.rd, wok, mat, Hp.rdn] at this
      simp (maxSteps := 1000000) (disch := first | assumption | ((try simp only [push_next, put_next, adv_next, List.length_cons, List.length_nil, List.length_map, List.length_set]); omega) | simp) [g, iaV_u32, Hp.rdn]
      refine this _ ?_
      exact (((((Kp.refl h).push _).push _).put (by omega) _).push _)
    by_cases a4 : a = 4#32
    · subst a4
      have := fun h' K => hq h' K
      simp [BS.rd, TmS.rd, wok, mat, Hp.rdn] at this
      simp (maxSteps := 1000000) (disch := first | assumption | ((try simp only [push_next, put_next, adv_next, List.length_cons, List.length_nil, List.length_map, List.length_set]); omega) | simp) [g, iaV_u32, Hp.rdn]
      refine this _ ?_
      exact (((((Kp.refl h).push _).push _).put (by omega) _).push _)
    by_cases a8 : a = 8#32
    · subst a8
      have := fun h' K => hq h' K
      simp [BS.rd, TmS.rd, wok, mat, Hp.rdn] at this
      simp (maxSteps := 1000000) (disch := first | assumption | ((try simp only [push_next, put_next, adv_next, List.length_cons, List.length_nil, List.length_map, List.length_set]); omega) | simp) [g, iaV_u32, Hp.rdn]
      refine this _ ?_
      exact (((((Kp.refl h).push _).push _).put (by omega) _).push _)
    have hbig := four c 3 (by omega) (fun m hm => by
      rcases (by omega : m = 0 ∨ m = 1 ∨ m = 2) with rfl | rfl | rfl
      · exact a0
      · exact a4
      · exact a8)
    have := fun h' K => hq h' K
    simp [BS.rd, TmS.rd, wok, mat, Hp.rdn, a0, a4, a8] at this
    simp (maxSteps := 1000000) (disch := first | assumption | ((try simp only [push_next, put_next, adv_next, List.length_cons, List.length_nil, List.length_map, List.length_set]); omega) | simp) [g, c, hbig, Hp.rdn]
    refine this _ ?_
    exact (((((Kp.refl h).push _).push _).put (by omega) _).push _)
  · have a0 : ¬ a = 0#32 := fun e => c (by rw [e]; rfl)
    have a4 : ¬ a = 4#32 := fun e => c (by rw [e]; rfl)
    have a8 : ¬ a = 8#32 := fun e => c (by rw [e]; rfl)
    have := fun h' K => hq h' K
    simp [BS.rd, TmS.rd, wok, mat, Hp.rdn, a0, a4, a8] at this
    simp (maxSteps := 1000000) (disch := first | assumption | ((try simp only [push_next, put_next, adv_next, List.length_cons, List.length_nil, List.length_map, List.length_set]); omega) | simp) [g, c, Hp.rdn]
    refine this _ ?_
    exact (((((Kp.refl h).push _).push _).put (by omega) _).push _)
theorem zword2 (A : RW h x fr fo X) (hq : ∀ h', Kp h h' → q (.tuple #[u32 (X.rd 2 a now), .bool (wok 2 a)]) h') : WC T n_pianolaref15_Bus_Word [ptr (x + 4) 0, .int .i64 2, u32 a, .int .i64 now] h q := by
  obtain ⟨vL, vi, vo, vu, S⟩ := A.bs
  have g := S.g
  have hl := A.lt
  simp only [rcl, rrest] at g
  rw [w_pianolaref15_Bus_Word]
  by_cases c : a % 4#32 = 0#32
  · by_cases a0 : a = 0#32
    · subst a0
      have := fun h' K => hq h' K
      simp [BS.rd, TmS.rd, wok, mat, Hp.rdn] at this
      simp (maxSteps := 1000000) (disch := first | assumption | ((try simp only [push_next, put_next, adv_next, List.length_cons, List.length_nil, List.length_map, List.length_set]); omega) | simp) [g, iaV_u32, Hp.rdn]
      refine this _ ?_
      exact (((((Kp.refl h).push _).push _).put (by omega) _).push _)
    by_cases a4 : a = 4#32
    · subst a4
      have := fun h' K => hq h' K
      simp [BS.rd, TmS.rd, wok, mat, Hp.rdn] at this
      simp (maxSteps := 1000000) (disch := first | assumption | ((try simp only [push_next, put_next, adv_next, List.length_cons, List.length_nil, List.length_map, List.length_set]); omega) | simp) [g, iaV_u32, Hp.rdn]
      refine this _ ?_
      exact (((((Kp.refl h).push _).push _).put (by omega) _).push _)
    by_cases a8 : a = 8#32
    · subst a8
      have := fun h' K => hq h' K
      simp [BS.rd, TmS.rd, wok, mat, Hp.rdn] at this
      simp (maxSteps := 1000000) (disch := first | assumption | ((try simp only [push_next, put_next, adv_next, List.length_cons, List.length_nil, List.length_map, List.length_set]); omega) | simp) [g, iaV_u32, Hp.rdn]
      refine this _ ?_
      exact (((((Kp.refl h).push _).push _).put (by omega) _).push _)
    have hbig := four c 3 (by omega) (fun m hm => by
      rcases (by omega : m = 0 ∨ m = 1 ∨ m = 2) with rfl | rfl | rfl
      · exact a0
      · exact a4
      · exact a8)
    have := fun h' K => hq h' K
    simp [BS.rd, TmS.rd, wok, mat, Hp.rdn, a0, a4, a8] at this
    simp (maxSteps := 1000000) (disch := first | assumption | ((try simp only [push_next, put_next, adv_next, List.length_cons, List.length_nil, List.length_map, List.length_set]); omega) | simp) [g, c, hbig, Hp.rdn]
    refine this _ ?_
    exact (((((Kp.refl h).push _).push _).put (by omega) _).push _)
  · have a0 : ¬ a = 0#32 := fun e => c (by rw [e]; rfl)
    have a4 : ¬ a = 4#32 := fun e => c (by rw [e]; rfl)
    have a8 : ¬ a = 8#32 := fun e => c (by rw [e]; rfl)
    have := fun h' K => hq h' K
    simp [BS.rd, TmS.rd, wok, mat, Hp.rdn, a0, a4, a8] at this
    simp (maxSteps := 1000000) (disch := first | assumption | ((try simp only [push_next, put_next, adv_next, List.length_cons, List.length_nil, List.length_map, List.length_set]); omega) | simp) [g, c, Hp.rdn]
    refine this _ ?_
    exact (((((Kp.refl h).push _).push _).put (by omega) _).push _)
theorem zword4 (A : RW h x fr fo X) (hq : ∀ h', Kp h h' → q (.tuple #[u32 (X.rd 4 a now), .bool (wok 4 a)]) h') : WC T n_pianolaref15_Bus_Word [ptr (x + 4) 0, .int .i64 4, u32 a, .int .i64 now] h q := by
  obtain ⟨vL, vi, vo, vu, S⟩ := A.bs
  have g := S.g
  have hl := A.lt
  simp only [rcl, rrest] at g
  rw [w_pianolaref15_Bus_Word]
  by_cases c : a % 4#32 = 0#32
  · by_cases a0 : a = 0#32
    · subst a0
      have := fun h' K => hq h' K
      simp [BS.rd, DmS.rd, wok, dat] at this
      simp (maxSteps := 1000000) (disch := first | assumption | ((try simp only [push_next, put_next, adv_next, List.length_cons, List.length_nil, List.length_map, List.length_set]); omega) | simp) [g, iaV_u32, Hp.rdn]
      refine this _ ?_
      exact ((((Kp.refl h).push _).adv 1).put (by omega) _)
    by_cases a4 : a = 4#32
    · subst a4
      have := fun h' K => hq h' K
      simp [BS.rd, DmS.rd, wok, dat] at this
      simp (maxSteps := 1000000) (disch := first | assumption | ((try simp only [push_next, put_next, adv_next, List.length_cons, List.length_nil, List.length_map, List.length_set]); omega) | simp) [g, iaV_u32, Hp.rdn]
      refine this _ ?_
      exact ((((Kp.refl h).push _).adv 1).put (by omega) _)
    by_cases a8 : a = 8#32
    · subst a8
      have := fun h' K => hq h' K
      simp [BS.rd, DmS.rd, wok, dat] at this
      simp (maxSteps := 1000000) (disch := first | assumption | ((try simp only [push_next, put_next, adv_next, List.length_cons, List.length_nil, List.length_map, List.length_set]); omega) | simp) [g, iaV_u32, Hp.rdn]
      refine this _ ?_
      exact ((((Kp.refl h).push _).adv 1).put (by omega) _)
    by_cases a12 : a = 12#32
    · subst a12
      have := fun h' K => hq h' K
      simp [BS.rd, DmS.rd, wok, dat] at this
      simp (maxSteps := 1000000) (disch := first | assumption | ((try simp only [push_next, put_next, adv_next, List.length_cons, List.length_nil, List.length_map, List.length_set]); omega) | simp) [g, iaV_u32, Hp.rdn]
      refine this _ ?_
      exact ((((Kp.refl h).push _).adv 1).put (by omega) _)
    by_cases a16 : a = 16#32
    · subst a16
      have := fun h' K => hq h' K
      simp [BS.rd, DmS.rd, wok, dat] at this
      simp (maxSteps := 1000000) (disch := first | assumption | ((try simp only [push_next, put_next, adv_next, List.length_cons, List.length_nil, List.length_map, List.length_set]); omega) | simp) [g, iaV_u32, Hp.rdn]
      refine this _ ?_
      exact ((((Kp.refl h).push _).adv 1).put (by omega) _)
    have hbig := four c 5 (by omega) (fun m hm => by
      rcases (by omega : m = 0 ∨ m = 1 ∨ m = 2 ∨ m = 3 ∨ m = 4) with rfl | rfl | rfl | rfl | rfl
      · exact a0
      · exact a4
      · exact a8
      · exact a12
      · exact a16)
    have := fun h' K => hq h' K
    simp [BS.rd, DmS.rd, wok, dat, a0, a4, a8, a12, a16] at this
    simp (maxSteps := 1000000) (disch := first | assumption | ((try simp only [push_next, put_next, adv_next, List.length_cons, List.length_nil, List.length_map, List.length_set]); omega) | simp) [g, c, hbig, Hp.rdn]
    refine this _ ?_
    exact ((((Kp.refl h).push _).adv 1).put (by omega) _)
  · have a0 : ¬ a = 0#32 := fun e => c (by rw [e]; rfl)
    have a4 : ¬ a = 4#32 := fun e => c (by rw [e]; rfl)
    have a8 : ¬ a = 8#32 := fun e => c (by rw [e]; rfl)
    have a12 : ¬ a = 12#32 := fun e => c (by rw [e]; rfl)
    have a16 : ¬ a = 16#32 := fun e => c (by rw [e]; rfl)
    have := fun h' K => hq h' K
    simp [BS.rd, DmS.rd, wok, dat, a0, a4, a8, a12, a16] at this
    simp (maxSteps := 1000000) (disch := first | assumption | ((try simp only [push_next, put_next, adv_next, List.length_cons, List.length_nil, List.length_map, List.length_set]); omega) | simp) [g, c, Hp.rdn]
    refine this _ ?_
    exact ((((Kp.refl h).push _).adv 1).put (by omega) _)
theorem zword5 (A : RW h x fr fo X) (hq : ∀ h', Kp h h' → q (.tuple #[u32 (X.rd 5 a now), .bool (wok 5 a)]) h') : WC T n_pianolaref15_Bus_Word [ptr (x + 4) 0, .int .i64 5, u32 a, .int .i64 now] h q := by
  obtain ⟨vL, vi, vo, vu, S⟩ := A.bs
  have g := S.g
  have hl := A.lt
  simp only [rcl, rrest] at g
  rw [w_pianolaref15_Bus_Word]
  by_cases c : a % 4#32 = 0#32
  · by_cases a0 : a = 0#32
    · subst a0
      have := fun h' K => hq h' K
      simp [BS.rd, DkS.rd, wok, kat] at this
      simp (maxSteps := 1000000) (disch := first | assumption | ((try simp only [push_next, put_next, adv_next, List.length_cons, List.length_nil, List.length_map, List.length_set]); omega) | simp) [g, iaV_u32, Hp.rdn]
      refine this _ ?_
      exact ((((Kp.refl h).push _).adv 1).put (by omega) _)
    by_cases a4 : a = 4#32
    · subst a4
      have := fun h' K => hq h' K
      simp [BS.rd, DkS.rd, wok, kat] at this
      simp (maxSteps := 1000000) (disch := first | assumption | ((try simp only [push_next, put_next, adv_next, List.length_cons, List.length_nil, List.length_map, List.length_set]); omega) | simp) [g, iaV_u32, Hp.rdn]
      refine this _ ?_
      exact ((((Kp.refl h).push _).adv 1).put (by omega) _)
    by_cases a8 : a = 8#32
    · subst a8
      have := fun h' K => hq h' K
      simp [BS.rd, DkS.rd, wok, kat] at this
      simp (maxSteps := 1000000) (disch := first | assumption | ((try simp only [push_next, put_next, adv_next, List.length_cons, List.length_nil, List.length_map, List.length_set]); omega) | simp) [g, iaV_u32, Hp.rdn]
      refine this _ ?_
      exact ((((Kp.refl h).push _).adv 1).put (by omega) _)
    by_cases a12 : a = 12#32
    · subst a12
      have := fun h' K => hq h' K
      simp [BS.rd, DkS.rd, wok, kat] at this
      simp (maxSteps := 1000000) (disch := first | assumption | ((try simp only [push_next, put_next, adv_next, List.length_cons, List.length_nil, List.length_map, List.length_set]); omega) | simp) [g, iaV_u32, Hp.rdn]
      refine this _ ?_
      exact ((((Kp.refl h).push _).adv 1).put (by omega) _)
    have hbig := four c 4 (by omega) (fun m hm => by
      rcases (by omega : m = 0 ∨ m = 1 ∨ m = 2 ∨ m = 3) with rfl | rfl | rfl | rfl
      · exact a0
      · exact a4
      · exact a8
      · exact a12)
    have := fun h' K => hq h' K
    simp [BS.rd, DkS.rd, wok, kat, a0, a4, a8, a12] at this
    simp (maxSteps := 1000000) (disch := first | assumption | ((try simp only [push_next, put_next, adv_next, List.length_cons, List.length_nil, List.length_map, List.length_set]); omega) | simp) [g, c, hbig, Hp.rdn]
    refine this _ ?_
    exact ((((Kp.refl h).push _).adv 1).put (by omega) _)
  · have a0 : ¬ a = 0#32 := fun e => c (by rw [e]; rfl)
    have a4 : ¬ a = 4#32 := fun e => c (by rw [e]; rfl)
    have a8 : ¬ a = 8#32 := fun e => c (by rw [e]; rfl)
    have a12 : ¬ a = 12#32 := fun e => c (by rw [e]; rfl)
    have := fun h' K => hq h' K
    simp [BS.rd, DkS.rd, wok, kat, a0, a4, a8, a12] at this
    simp (maxSteps := 1000000) (disch := first | assumption | ((try simp only [push_next, put_next, adv_next, List.length_cons, List.length_nil, List.length_map, List.length_set]); omega) | simp) [g, c, Hp.rdn]
    refine this _ ?_
    exact ((((Kp.refl h).push _).adv 1).put (by omega) _)
end
end Go.Proofs.YtpdfdemoflofhaaGreat.Cd

/- The document's bus: what the line's words tell. -/
set_option maxRecDepth 1000000
set_option maxHeartbeats 8000000
set_option linter.unusedSimpArgs false
set_option linter.unusedVariables false
namespace Go.Proofs.YtpdfdemoflofhaaGreat.Cd
open Go Go.Dx
section
variable {h h' : Hp} {q : Value → Hp → Prop} {x : Nat} {fr fo nw fo' : List Nat} {X X' : BS} {now d t : Int} {a v : BitVec 32} {vL vi vo vu vi' vo' : Value}
theorem zstat {first : BitVec 32} {e : Env} {k : List Fr} {Q : Ex → Env → Hp → Prop} (A : RW h x fr fo X) (e0 : e 0 = ptr (x + 4) 0) (e12 : e 12 = u32 first)
    (hk : ∀ e' : Env, e' 0 = e 0 → e' 1 = e 1 → e' 2 = e 2 → e' 10 = .slice (some ⟨h.next, 0, none⟩) 3 3 → GR T Q k .n e' (h.push (.cells false [u32 first, u32 X.U.stat, u32 X.U.ctl]))) : G T Q c4_pianolaref15_Bus_Word k e h := by
  obtain ⟨vL, vi, vo, vu, S⟩ := A.bs
  have g := S.g
  have hl := A.lt
  have hni := A.ni
  have hno := A.no
  simp only [rcl, rrest] at g
  obtain ⟨ai, ci, hvi, hsi, hci, hbi⟩ := S.si
  obtain ⟨ao, co, hvo, hso, hco, hbo⟩ := S.so
  subst hvi
  subst hvo
  have hst : ubit (decide (0 < X.U.i.length)) 1#32 ||| ubit (decide ((16 : Int) ≤ (X.U.o.length : Int))) 2#32 ||| ubit X.U.lost 4#32 ||| ubit (decide (X.U.o = [])) 8#32 = X.U.stat := by
    unfold UaS.stat
    have e1 : decide ((16 : Int) ≤ (X.U.o.length : Int)) = decide ((X.U.o.length : Int) = 16) := by rw [decide_eq_decide]; omega
    rw [e1]
  simp (maxSteps := 1000000) (disch := first | assumption | ((try simp only [push_next, put_next, adv_next, List.length_cons, List.length_nil, List.length_map, List.length_set]); omega) | simp) [e0, e12, g]
  rw [GCI_of (fun q => zbit (q := q))]
  simp (maxSteps := 1000000) (disch := first | assumption | ((try simp only [push_next, put_next, adv_next, List.length_cons, List.length_nil, List.length_map, List.length_set]); omega) | simp) [e0, e12, g]
  rw [GCI_of (fun q => zbit (q := q))]
  simp (maxSteps := 1000000) (disch := first | assumption | ((try simp only [push_next, put_next, adv_next, List.length_cons, List.length_nil, List.length_map, List.length_set]); omega) | simp) [e0, e12, g]
  rw [GCI_of (fun q => zbit (q := q))]
  simp (maxSteps := 1000000) (disch := first | assumption | ((try simp only [push_next, put_next, adv_next, List.length_cons, List.length_nil, List.length_map, List.length_set]); omega) | simp) [e0, e12, g]
  rw [GCI_of (fun q => zbit (q := q))]
  simp (maxSteps := 1000000) (disch := first | assumption | ((try simp only [push_next, put_next, adv_next, List.length_cons, List.length_nil, List.length_map, List.length_set]); omega) | simp) [e0, e12, g]
  rw [hst]
  exact hk _ (by simp) (by simp) (by simp) (by simp)
theorem zword3 (A : RW h x fr fo X) (hq : ∀ h' fr', RW h' x fr' fo (X.rds 3 a) → Upd h h' (RL x fr fo) (RL x fr' fo) → q (.tuple #[u32 (X.rd 3 a now), .bool (wok 3 a)]) h') : WC T n_pianolaref15_Bus_Word [ptr (x + 4) 0, .int .i64 3, u32 a, .int .i64 now] h q := by
  obtain ⟨vL, vi, vo, vu, S⟩ := A.bs
  have g := S.g
  have hl := A.lt
  have hni := A.ni
  simp only [rcl, rrest] at g
  obtain ⟨ai, ci, hvi, hsi, hci, hbi⟩ := S.si
  subst hvi
  have K1 : Kp h (h.push (.cells false [])) := (Kp.refl h).push _
  rw [w_pianolaref15_Bus_Word]
  have main : ∀ (first : BitVec 32) (e : Env) (F : List Fr), F = [Fr.block 0, Fr.seq c12_pianolaref15_Bus_Word] → first = X.rd 3 0#32 now → e 0 = ptr (x + 4) 0 → e 1 = .int .i64 3 → e 2 = u32 a → e 12 = u32 first → G T (fin [.t 8, .t 9] (some []) h.next q) c4_pianolaref15_Bus_Word F e (h.push (.cells false [])) := fun first e F hF hf e0 e1 e2 e12 => by
    subst hF
    refine zstat (A.kp K1) e0 e12 fun e' f0 f1 f2 f10 => ?_
    rw [e0] at f0
    rw [e1] at f1
    rw [e2] at f2
    have A2 := (A.kp K1).kp ((Kp.refl (h.push (.cells false []))).push (.cells false [u32 first, u32 X.U.stat, u32 X.U.ctl]))
    have S2 := RS.kp (A.kp K1) (RS.kp A S K1) ((Kp.refl (h.push (.cells false []))).push (.cells false [u32 first, u32 X.U.stat, u32 X.U.ctl]))
    have hz : ((h.push (.cells false [])).push (.cells false [u32 first, u32 X.U.stat, u32 X.U.ctl])).get (h.push (.cells false [])).next = some (.cells false [u32 first, u32 X.U.stat, u32 X.U.ctl]) := get_push_self
    have n2 : ((h.push (.cells false [])).push (.cells false [u32 first, u32 X.U.stat, u32 X.U.ctl])).next = h.next + 2 := rfl
    have K2 : Kp h ((h.push (.cells false [])).push (.cells false [u32 first, u32 X.U.stat, u32 X.U.ctl])) := K1.push _
    generalize (h.push (.cells false [])).push (.cells false [u32 first, u32 X.U.stat, u32 X.U.ctl]) = h2 at *
    simp only [push_next] at f10 hz
    have g2 := S2.g
    simp only [rcl, rrest] at g2
    by_cases c : a % 4#32 = 0#32
    · by_cases a0 : a = 0#32
      · subst a0
        cases hI : X.U.i with
        | nil =>
          have ht : X.U.i.tail = X.U.i := by rw [hI]; rfl
          have := hq h2 fr (A2.cast (by simp only [BS.rds, UaS.rds, if_true, ht])) (K2.upd _)
          rw [← hf] at this
          simp (maxSteps := 1000000) (disch := first | assumption | ((try simp only [push_next, put_next, adv_next, List.length_cons, List.length_nil, List.length_map, List.length_set]); omega) | simp) [f0, f1, f2, f10, g2, hI, hz, iaV_u32]
          exact this
        | cons b I =>
          obtain ⟨a1, c1, p1, q1, s1⟩ := hsi.part (lo := 1) (hi := X.U.i.length) (l := some (.int .i64 1)) (u := none) (by rw [hI]; simp) (by omega) hci (.inr ⟨.i64, rfl⟩) (.inl ⟨rfl, rfl⟩)
          rw [hI] at p1 q1 s1
          have p1' : sliceV 1 (.slice ai (I.length + 1) ci) (some (.int .i64 1)) none none = some (.slice a1 I.length c1) := by simpa using p1
          have hI1 : ((b :: I).drop 1).take ((b :: I).length - 1) = I := by simp
          rw [hI1] at s1
          have K3 : Kp h2 (h2.push (.cells false [])) := (Kp.refl h2).push _
          have Oe : Own encB (h2.push (.cells false [])) (.slice (some ⟨h2.next, 0, none⟩) 0 0) [] [h2.next] := .emp get_push_self
          simp (maxSteps := 1000000) (disch := first | assumption | ((try simp only [push_next, put_next, adv_next, List.length_cons, List.length_nil, List.length_map, List.length_set]); omega) | simp) [f0, f1, f2, f10, g2, hI, hz, iaV_u32, p1']
          have hIl : I.length < 16 := by rw [hI] at hni; simp at hni; omega
          refine GV_app (E := encB) Oe (s1.kp (K2.trans K3)) rfl (by simp; omega) (by simp; omega) fun v3 h3 f3 O3 U3 => ?_
          have K4 : Kp h2 h3 := U3.kp' K3 (by simp)
          have F3 : ∀ b ∈ f3, h2.next ≤ b := fun b hb => by
            rcases U3.sub b hb with h5 | h5
            · simp at h5; omega
            · have := K3.le; omega
          rw [List.nil_append] at O3
          have A3 := A2.kp K4
          have S3 := RS.kp A2 S2 K4
          have g3 := S3.g
          have hz3 : h3.get (h.next + 1) = _ := (K4.get _ (lt_of_get hz)).trans hz
          have hl3 := A3.lt
          simp only [rcl, rrest] at g3
          have hone : one v3 = true := by obtain ⟨_, _, e5, _⟩ := O3.len; rw [e5]; rfl
          have hx4 : x + 4 ≠ h.next + 1 := by omega
          simp (maxSteps := 1000000) (disch := first | assumption | ((try simp only [push_next, put_next, adv_next, List.length_cons, List.length_nil, List.length_map, List.length_set]); omega) | simp) [f0, f1, f2, f10, g3, hone, hz3, iaV_u32]
          have A6 := A3.lists (nw := f3) (i' := I) (o' := X.U.o) S3 (Se.own O3 fun b hb => List.mem_append_right _ hb) (S3.so.keep (fun b hb => rfl) fun b hb => List.mem_append_left _ hb) (by omega) A.no (fun b hb => ⟨by have := F3 b hb; omega, O3.live b hb, fun hm => by have := F3 b hb; have := A.folt b hm; omega⟩) rfl
          simp only [rcl, rrest] at A6
          have := hq _ _ (A6.cast (by simp [BS.rds, UaS.rds, hI])) ⟨by have := K2.le; have := K4.le; simp; omega, fun b hb hn => by
            rw [get_put_ne (fun e => hn (by rw [e]; simp [RL])), K4.get b (Nat.lt_of_lt_of_le hb K2.le), K2.get b hb], fun b hb => by
            simp only [RL, List.mem_append] at hb ⊢
            rcases hb with hb | (hb | hb) | hb
            · exact .inl (.inl hb)
            · exact .inl (.inr (.inl hb))
            · exact .inr (Nat.le_trans K2.le (F3 b hb))
            · exact .inl (.inr (.inr hb))⟩
          rw [← hf] at this
          exact this
      by_cases a4 : a = 4#32
      · subst a4
        have := hq h2 fr (A2.cast (by simp [BS.rds, UaS.rds])) (K2.upd _)
        simp [BS.rd, UaS.rd, wok, uat] at this
        simp (maxSteps := 1000000) (disch := first | assumption | ((try simp only [push_next, put_next, adv_next, List.length_cons, List.length_nil, List.length_map, List.length_set]); omega) | simp) [f0, f1, f2, f10, hz, iaV_u32]
        exact this
      by_cases a8 : a = 8#32
      · subst a8
        have := hq h2 fr (A2.cast (by simp [BS.rds, UaS.rds])) (K2.upd _)
        simp [BS.rd, UaS.rd, wok, uat] at this
        simp (maxSteps := 1000000) (disch := first | assumption | ((try simp only [push_next, put_next, adv_next, List.length_cons, List.length_nil, List.length_map, List.length_set]); omega) | simp) [f0, f1, f2, f10, hz, iaV_u32]
        exact this
      have hbig := four c 3 (by omega) (fun m hm => by
        rcases (by omega : m = 0 ∨ m = 1 ∨ m = 2) with rfl | rfl | rfl
        · exact a0
        · exact a4
        · exact a8)
      have := hq h2 fr (A2.cast (by simp [BS.rds, UaS.rds, a0])) (K2.upd _)
      simp [BS.rd, UaS.rd, wok, uat, a0, a4, a8] at this
      simp (maxSteps := 1000000) (disch := first | assumption | ((try simp only [push_next, put_next, adv_next, List.length_cons, List.length_nil, List.length_map, List.length_set]); omega) | simp) [f0, f1, f2, f10, c, hbig]
      exact this
    · have a0 : ¬ a = 0#32 := fun e => c (by rw [e]; rfl)
      have a4 : ¬ a = 4#32 := fun e => c (by rw [e]; rfl)
      have a8 : ¬ a = 8#32 := fun e => c (by rw [e]; rfl)
      have := hq h2 fr (A2.cast (by simp [BS.rds, UaS.rds, a0])) (K2.upd _)
      simp [BS.rd, UaS.rd, wok, uat, a0, a4, a8] at this
      simp (maxSteps := 1000000) (disch := first | assumption | ((try simp only [push_next, put_next, adv_next, List.length_cons, List.length_nil, List.length_map, List.length_set]); omega) | simp) [f0, f1, f2, f10, c]
      exact this
  cases hI : X.U.i with
  | nil =>
    simp (maxSteps := 1000000) (disch := first | assumption | ((try simp only [push_next, put_next, adv_next, List.length_cons, List.length_nil, List.length_map, List.length_set]); omega) | simp) [g, hI, -g4_pianolaref15_Bus_Word]
    exact main 256#32 _ _ rfl (by simp [BS.rd, UaS.rd, hI]) (by simp) (by simp) (by simp) (by simp)
  | cons b I =>
    obtain ⟨A1, ro, C, hA, hg, hC⟩ := (show Sees encB h ai ([] ++ b :: I) by rw [hI] at hsi; exact hsi).cell (f := u8) (fun _ => rfl) rfl
    subst hA
    have hA1 := lt_of_get hg
    have hC0 : C[A1.off]? = some (u8 b) := by simpa using hC
    simp (maxSteps := 1000000) (disch := first | assumption | ((try simp only [push_next, put_next, adv_next, List.length_cons, List.length_nil, List.length_map, List.length_set]); omega) | simp) [g, hI, hg, hC0, -g4_pianolaref15_Bus_Word]
    exact main (b.setWidth 32) _ _ rfl (by simp [BS.rd, UaS.rd, hI]) (by simp) (by simp) (by simp) (by simp)
end
end Go.Proofs.YtpdfdemoflofhaaGreat.Cd

/- The document's bus: moves and sectors. -/
set_option maxRecDepth 1000000
set_option maxHeartbeats 8000000
set_option linter.unusedSimpArgs false
set_option linter.unusedVariables false
namespace Go.Proofs.YtpdfdemoflofhaaGreat.Cd
open Go Go.Dx
section
variable {h h' : Hp} {q : Value → Hp → Prop} {x : Nat} {fr fo nw fo' : List Nat} {X X' : BS} {now d t : Int} {a v : BitVec 32} {vL vi vo vu vi' vo' : Value}
theorem RW.mem {B' : By} {W' : List Bool} (A : RW h x fr fo X) (R : Ra h' x B' X.M W') (U : Upd h h' [x, x + 2] [x, x + 2]) : RW h' x fr fo { X with B := B', W := W' } ∧ Upd h h' (RL x fr fo) (RL x fr fo) := by
  have hl := A.lt
  obtain ⟨vL, vi, vo, vu, S⟩ := A.bs
  have k1 : ∀ b ∈ fr, h'.get b = h.get b := fun b hb => U.get b (A.fr b hb).2.1 (by have := (A.fr b hb).1; simp; omega)
  refine ⟨⟨⟨vL, vi, vo, vu, by rw [U.get _ (by omega) (by simp), S.g]; rfl, S.sL.keep k1 (fun b hb => hb), S.si.keep k1 (fun b hb => hb), S.so.keep k1 (fun b hb => hb), S.su.keep fun b hb => U.get b (A.folt b hb) (by have := A.fo b hb; simp; omega)⟩, R, by rw [U.get _ (by omega) (by simp), A.dk], A.el, fun b hb => ⟨(A.fr b hb).1, Nat.lt_of_lt_of_le (A.fr b hb).2.1 U.le, (A.fr b hb).2.2⟩, A.fo, A.wi, A.ni, A.no, A.nout⟩, U.wid fun b hb => ?_⟩
  simp at hb
  rcases hb with rfl | rfl <;> simp [RL]
theorem RW.img {E' : By} (A : RW h x fr fo X) (hE : E'.length = X.E.length) : RW (h.put (x + 5) (some (.cells false (E'.map u8)))) x fr fo { X with E := E' } ∧ Upd h (h.put (x + 5) (some (.cells false (E'.map u8)))) (RL x fr fo) (RL x fr fo) := by
  have hl := A.lt
  obtain ⟨vL, vi, vo, vu, S⟩ := A.bs
  have k1 : ∀ b ∈ fr, (h.put (x + 5) (some (.cells false (E'.map u8)))).get b = h.get b := fun b hb => get_put_ne (by have := (A.fr b hb).1; omega)
  have hr : rcl x { X with E := E' } vL vi vo vu = rcl x X vL vi vo vu := by simp only [rcl, rrest, hE]
  exact ⟨⟨⟨vL, vi, vo, vu, by rw [get_put_ne (by omega), S.g, hr], S.sL.keep k1 (fun b hb => hb), S.si.keep k1 (fun b hb => hb), S.so.keep k1 (fun b hb => hb), S.su.keep fun b hb => get_put_ne (by have := A.fo b hb; omega)⟩, A.ra.keep fun b h1 h2 => get_put_ne (by omega), get_put_self (by omega), by rw [hE]; exact A.el, fun b hb => ⟨(A.fr b hb).1, by simpa using (A.fr b hb).2.1, (A.fr b hb).2.2⟩, A.fo, A.wi, A.ni, A.no, A.nout⟩, ⟨by simp, fun b hb hn => get_put_ne fun e => hn (by rw [e]; simp [RL]), fun b hb => .inl hb⟩⟩
theorem zmove (A : RW h x fr fo X) (hq : ∀ h', RW h' x fr fo { X with D := X.D.fire X.B, B := X.D.mem X.B, W := X.D.wrt X.B X.M X.W } → Upd h h' (RL x fr fo) (RL x fr fo) → q (.tuple #[]) h') : WC T n_pianolaref15_Bus_move [ptr (x + 4) 0] h q := by
  obtain ⟨vL, vi, vo, vu, S⟩ := A.bs
  have g := S.g
  have hl := A.lt
  have hc := X.D.c.isLt
  simp only [rcl, rrest] at g
  have hA := A.put S (n := X.S.n) (T1 := X.T1) (T2 := X.T2) (lost := X.U.lost) (ctl := X.U.ctl) (r := X.r) (m := X.m) (D := { X.D with s := (X.D.s &&& 4294967294#32) ||| 2#32 }) (K := X.K) rfl
  have hB := A.put S (n := X.S.n) (T1 := X.T1) (T2 := X.T2) (lost := X.U.lost) (ctl := X.U.ctl) (r := X.r) (m := X.m) (D := { X.D with s := ((X.D.s &&& 4294967294#32) ||| 2#32) ||| 4#32 }) (K := X.K) rfl
  simp only [rcl, rrest] at hA hB
  obtain ⟨A1, S1, U1⟩ := hA
  obtain ⟨B1, _, V1⟩ := hB
  have hz := fun a q => zin (q := q) (a := a) (n := (X.D.c.toNat : Int)) A1.ra (by omega)
  rw [w_pianolaref15_Bus_move]
  have bad : X.D.ok X.B = false → q (.tuple #[]) _ := fun ho => hq _ (B1.cast (by simp [DmS.fire, DmS.mem, DmS.wrt, ho])) V1
  by_cases c1 : 4096#32 < X.D.c
  · have hcn : ¬ X.D.c.toNat ≤ 4096 := by
      have := BitVec.lt_def.1 c1
      simp at this
      omega
    simp (maxSteps := 1000000) (disch := first | assumption | ((try simp only [push_next, put_next, adv_next, List.length_cons, List.length_nil, List.length_map, List.length_set]); omega) | simp) [g, c1]
    exact bad (by simp [DmS.ok, hcn])
  · have c2 : X.D.c.toNat ≤ 4096 := by
      rw [BitVec.lt_def] at c1
      simp at c1
      omega
    cases hf : thB X.B X.D.f X.D.c.toNat with
    | false =>
      have hz1 := hz X.D.f
      rw [hf] at hz1
      simp (maxSteps := 1000000) (disch := first | assumption | ((try simp only [push_next, put_next, adv_next, List.length_cons, List.length_nil, List.length_map, List.length_set]); omega) | simp) [g, c1, GC_of hz1, GCI_of hz1]
      exact bad (by simp [DmS.ok, hf])
    | true =>
      have hz1 := hz X.D.f
      rw [hf] at hz1
      cases ht : thB X.B X.D.t X.D.c.toNat with
      | false =>
        have hz2 := hz X.D.t
        rw [ht] at hz2
        simp (maxSteps := 1000000) (disch := first | assumption | ((try simp only [push_next, put_next, adv_next, List.length_cons, List.length_nil, List.length_map, List.length_set]); omega) | simp) [g, c1, GC_of hz1, GCI_of hz1, GC_of hz2, GCI_of hz2]
        exact bad (by simp [DmS.ok, ht])
      | true =>
        have hz2 := hz X.D.t
        rw [ht] at hz2
        have ho : X.D.ok X.B = true := by simp [DmS.ok, c2, hf, ht]
        simp (maxSteps := 1000000) (disch := first | assumption | ((try simp only [push_next, put_next, adv_next, List.length_cons, List.length_nil, List.length_map, List.length_set]); omega) | simp) [g, c1, GC_of hz1, GCI_of hz1, GC_of hz2, GCI_of hz2]
        refine zbytes A1.ra (by omega) (fun hb => by rw [hf] at hb; cases hb) fun m hm hle hb a' c' h2 S2 K2 => ?_
        have hm' : m = X.D.c.toNat := by omega
        subst hm'
        have hle : X.D.f.toNat + X.D.c.toNat ≤ X.B.length := hle
        have S2 : Sees encB h2 a' ((X.B.drop X.D.f.toNat).take X.D.c.toNat) := S2
        have A2 := A1.kp K2
        have S2' := RS.kp A1 S1 K2
        have g2 := S2'.g
        simp only [rcl, rrest] at g2
        have hL : ((X.B.drop X.D.f.toNat).take X.D.c.toNat).length = X.D.c.toNat := by simp; omega
        simp (maxSteps := 1000000) (disch := first | assumption | ((try simp only [push_next, put_next, adv_next, List.length_cons, List.length_nil, List.length_map, List.length_set]); omega) | simp) [g2]
        have hp := zput (a := X.D.t) (c := c') (q := fun v h' => v = .bool true ∧ Ra h' x (X.D.mem X.B) X.M (X.D.wrt X.B X.M X.W) ∧ Upd h2 h' [x, x + 2] [x, x + 2]) A2.ra S2 (by omega) (fun hb => by rw [hL, ht] at hb; cases hb) fun _ h3 R3 U3 => ⟨rfl, by rw [hL] at R3; simpa [DmS.mem, DmS.wrt, ho] using R3, U3⟩
        rw [hL] at hp
        refine GC_intro hp fun v h3 ⟨hv, R3, U3⟩ => ?_
        subst hv
        obtain ⟨A3, U3'⟩ := A2.mem R3 U3
        simp (maxSteps := 1000000) (disch := first | assumption | ((try simp only [push_next, put_next, adv_next, List.length_cons, List.length_nil, List.length_map, List.length_set]); omega) | simp)
        exact hq _ (A3.cast (by simp [DmS.fire, ho])) (U1.trans (.kp1 K2 U3'))
theorem zsector (A : RW h x fr fo X) (hq : ∀ h', RW h' x fr fo { X with K := X.K.fire X.E X.B, B := X.K.mem X.E X.B, W := X.K.wrt X.E X.B X.M X.W, E := X.K.img X.E X.B } → Upd h h' (RL x fr fo) (RL x fr fo) → q (.tuple #[]) h') : WC T n_pianolaref15_Bus_sector [ptr (x + 4) 0] h q := by
  obtain ⟨vL, vi, vo, vu, S⟩ := A.bs
  have g := S.g
  have hl := A.lt
  have he := X.K.e.isLt
  have hel := A.el
  simp only [rcl, rrest] at g
  have hA := A.put S (n := X.S.n) (T1 := X.T1) (T2 := X.T2) (lost := X.U.lost) (ctl := X.U.ctl) (r := X.r) (m := X.m) (D := X.D) (K := { X.K with s := (X.K.s &&& 4294967294#32) ||| 2#32 }) rfl
  have hB := A.put S (n := X.S.n) (T1 := X.T1) (T2 := X.T2) (lost := X.U.lost) (ctl := X.U.ctl) (r := X.r) (m := X.m) (D := X.D) (K := { X.K with s := ((X.K.s &&& 4294967294#32) ||| 2#32) ||| 4#32 }) rfl
  simp only [rcl, rrest] at hA hB
  obtain ⟨A1, S1, U1⟩ := hA
  obtain ⟨B1, _, V1⟩ := hB
  have hz := fun a q => zin (q := q) (a := a) (n := 64) A1.ra (by omega)
  rw [w_pianolaref15_Bus_sector]
  have bad : X.K.ok X.E X.B = false → q (.tuple #[]) _ := fun ho => hq _ (B1.cast (by simp [DkS.fire, DkS.mem, DkS.wrt, DkS.img, ho])) V1
  have hq' : IntKind.i64.wrap ((X.E.length : Int).tdiv 64) = (X.E.length : Int) / 64 := by
    rw [Int.tdiv_eq_ediv_of_nonneg (by omega)]
    exact wrap_i64 (by omega) (by omega)
  have hin : (BitVec.ofInt 32 ((X.E.length : Int) / 64)).toNat = X.E.length / 64 := by
    rw [BitVec.toNat_ofInt]
    omega
  by_cases c1 : X.K.e.toNat < X.E.length / 64
  · have c1' : ¬ BitVec.ofInt 32 ((X.E.length : Int) / 64) ≤ X.K.e := by
      rw [BitVec.le_def, hin]
      omega
    have hz1 := hz X.K.a
    have e64 : IntKind.i64.wrap ((X.K.e.toNat : Int) * 64) = (X.K.e.toNat : Int) * 64 := wrap_i64 (by omega) (by omega)
    by_cases d1 : X.K.c = 1#32
    · cases ht : thB X.B X.K.a 64 with
      | false =>
        rw [ht] at hz1
        simp (maxSteps := 1000000) (disch := first | assumption | ((try simp only [push_next, put_next, adv_next, List.length_cons, List.length_nil, List.length_map, List.length_set]); omega) | simp) [g, hq', c1', eq_true d1, GC_of hz1, GCI_of hz1]
        exact bad (by simp [DkS.ok, ht])
      | true =>
        rw [ht] at hz1
        have ho : X.K.ok X.E X.B = true := by simp [DkS.ok, c1, d1, ht]
        obtain ⟨a', c', p1, p2, s1⟩ := (sees_b A1.dk).part (c := X.E.length) (lo := 64 * X.K.e.toNat) (hi := 64 * X.K.e.toNat + 64) (l := some (.int .i64 ((X.K.e.toNat : Int) * 64))) (u := some (.int .i64 ((X.K.e.toNat : Int) * 64 + 64))) (by omega) (show 64 * X.K.e.toNat + 64 ≤ X.E.length by omega) (Nat.le_refl _) (.inr ⟨.i64, by congr 2; omega⟩) (.inr ⟨.i64, by congr 2; omega⟩)
        rw [show 64 * X.K.e.toNat + 64 - 64 * X.K.e.toNat = 64 by omega] at p1 p2 s1
        have p1' : sliceV 1 (.slice (some ⟨x + 5, 0, none⟩) X.E.length X.E.length) (some (.int .i64 ((X.K.e.toNat : Int) * 64))) (some (.int .i64 ((X.K.e.toNat : Int) * 64 + 64))) none = some (.slice a' 64 c') := p1
        have hL : ((X.E.drop (64 * X.K.e.toNat)).take 64).length = 64 := by simp; omega
        have s1' : Sees encB _ a' ((X.E.drop (64 * X.K.e.toNat)).take 64) := s1
        simp (maxSteps := 1000000) (disch := first | assumption | ((try simp only [push_next, put_next, adv_next, List.length_cons, List.length_nil, List.length_map, List.length_set]); omega) | simp) [g, hq', c1', eq_true d1, GC_of hz1, GCI_of hz1, p1']
        have hp := zput (a := X.K.a) (c := c') (q := fun v h' => v = .bool true ∧ Ra h' x (X.K.mem X.E X.B) X.M (X.K.wrt X.E X.B X.M X.W) ∧ Upd _ h' [x, x + 2] [x, x + 2]) A1.ra s1' (by omega) (fun hb => by rw [hL] at hb; have hb' : thB X.B X.K.a 64 = false := hb; rw [ht] at hb'; cases hb') fun _ h3 R3 U3 => ⟨rfl, by rw [hL] at R3; simpa [DkS.mem, DkS.wrt, ho, d1] using R3, U3⟩
        rw [hL] at hp
        refine GC_intro hp fun v h3 ⟨hv, R3, U3⟩ => ?_
        subst hv
        obtain ⟨A3, U3'⟩ := A1.mem R3 U3
        simp (maxSteps := 1000000) (disch := first | assumption | ((try simp only [push_next, put_next, adv_next, List.length_cons, List.length_nil, List.length_map, List.length_set]); omega) | simp)
        exact hq _ (A3.cast (by simp [DkS.fire, DkS.img, ho, d1])) (U1.trans U3')
    · by_cases d2 : X.K.c = 2#32
      · cases ht : thB X.B X.K.a 64 with
        | false =>
          rw [ht] at hz1
          simp (maxSteps := 1000000) (disch := first | assumption | ((try simp only [push_next, put_next, adv_next, List.length_cons, List.length_nil, List.length_map, List.length_set]); omega) | simp) [g, hq', c1', d1, eq_true d2, GC_of hz1, GCI_of hz1]
          exact bad (by simp [DkS.ok, ht])
        | true =>
          rw [ht] at hz1
          have ho : X.K.ok X.E X.B = true := by simp [DkS.ok, c1, d2, ht]
          simp (maxSteps := 1000000) (disch := first | assumption | ((try simp only [push_next, put_next, adv_next, List.length_cons, List.length_nil, List.length_map, List.length_set]); omega) | simp) [g, hq', c1', d1, eq_true d2, GC_of hz1, GCI_of hz1]
          refine zbytes A1.ra (by omega) (fun hb => by have hb' : thB X.B X.K.a 64 = false := hb; rw [ht] at hb'; cases hb') fun m hm hle hb a' c' h2 S2 K2 => ?_
          have hm' : m = 64 := by omega
          subst hm'
          have hle : X.K.a.toNat + 64 ≤ X.B.length := hle
          have S2 : Sees encB h2 a' ((X.B.drop X.K.a.toNat).take 64) := S2
          have A2 := A1.kp K2
          have S2' := RS.kp A1 S1 K2
          have g2 := S2'.g
          have hdk : h2.get (x + 5) = some (.cells false (X.E.map u8)) := A2.dk
          simp only [rcl, rrest] at g2
          have hL : ((X.B.drop X.K.a.toNat).take 64).length = 64 := by simp; omega
          have sl := sliceV_lo' (sz := 1) (b := x + 5) (o := 0) (n := X.E.length) (k := .i64) (lo := (X.K.e.toNat : Int) * 64) (by omega) (by omega)
          have e1 : ((X.K.e.toNat : Int) * 64).toNat = 64 * X.K.e.toNat := by omega
          rw [e1, if_neg (by omega)] at sl
          simp only [Nat.zero_add, Nat.mul_one] at sl
          have hcp : ∃ r, copyV h2 1 (.slice (some ⟨x + 5, 64 * X.K.e.toNat, none⟩) (X.E.length - 64 * X.K.e.toNat) (X.E.length - 64 * X.K.e.toNat)) (.slice a' 64 c') = some (r, h2.put (x + 5) (some (.cells false ((ovB X.E (64 * X.K.e.toNat) ((X.B.drop X.K.a.toNat).take 64)).map u8)))) := by
            have := cpy_at (o := 64 * X.K.e.toNat) (n := 64) (c := X.E.length - 64 * X.K.e.toNat) (c' := c') hdk S2 (by omega) hL
            refine ⟨.int .i64 64, ?_⟩
            rw [← show (Value.int .i64 ((64 : Nat) : Int)) = .int .i64 64 from rfl, ← this]
            unfold copyV
            simp only [lenV, show min 64 (X.E.length - 64 * X.K.e.toNat) = 64 by omega, Nat.min_self]
          obtain ⟨r, hcp⟩ := hcp
          simp (maxSteps := 1000000) (disch := first | assumption | ((try simp only [push_next, put_next, adv_next, List.length_cons, List.length_nil, List.length_map, List.length_set]); omega) | simp) [g2, sl, hcp]
          obtain ⟨A3, U3⟩ := A2.img (E' := ovB X.E (64 * X.K.e.toNat) ((X.B.drop X.K.a.toNat).take 64)) (ovB_length (by omega))
          exact hq _ (A3.cast (by simp [DkS.fire, DkS.mem, DkS.wrt, DkS.img, ho, d2])) (U1.trans (.kp1 K2 U3))
      · simp (maxSteps := 1000000) (disch := first | assumption | ((try simp only [push_next, put_next, adv_next, List.length_cons, List.length_nil, List.length_map, List.length_set]); omega) | simp) [g, hq', c1', d1, d2]
        exact bad (by simp [DkS.ok, d1, d2])
  · have c1' : BitVec.ofInt 32 ((X.E.length : Int) / 64) ≤ X.K.e := by
      rw [BitVec.le_def, hin]
      omega
    simp (maxSteps := 1000000) (disch := first | assumption | ((try simp only [push_next, put_next, adv_next, List.length_cons, List.length_nil, List.length_map, List.length_set]); omega) | simp) [g, hq', c1']
    exact bad (by simp [DkS.ok, c1])
end
end Go.Proofs.YtpdfdemoflofhaaGreat.Cd

/- The document's bus: what is due. -/
set_option maxRecDepth 1000000
set_option maxHeartbeats 8000000
set_option linter.unusedSimpArgs false
set_option linter.unusedVariables false
namespace Go.Proofs.YtpdfdemoflofhaaGreat.Cd
open Go Go.Dx
section
variable {h h' : Hp} {q : Value → Hp → Prop} {x : Nat} {fr fo nw fo' : List Nat} {X X' : BS} {now d t : Int} {a v : BitVec 32} {vL vi vo vu vi' vo' vu' : Value}
theorem RW.outp {out' : By} {C : List Value} (A : RW h x fr fo X) (S : RS h x fr fo X vL vi vo vu) (O : Own encB h' vu' out' fo') (U : Upd h h' fo fo') (ho : out'.length ≤ 65536) (hC : C = rcl x { X with U := { X.U with out := out' } } vL vi vo vu') :
    RW (h'.put (x + 4) (some (.cells false C))) x fr fo' { X with U := { X.U with out := out' } } ∧ RS (h'.put (x + 4) (some (.cells false C))) x fr fo' { X with U := { X.U with out := out' } } vL vi vo vu' ∧ Upd h (h'.put (x + 4) (some (.cells false C))) (RL x fr fo) (RL x fr fo') := by
  subst hC
  have hl := A.lt
  have hle := U.le
  have sub : ∀ b ∈ fo', x + 5 < b ∧ b ∉ fr := fun b hb => by
    rcases U.sub b hb with h5 | h5
    · exact ⟨A.fo b h5, fun hm => (A.fr b hm).2.2 h5⟩
    · exact ⟨by omega, fun hm => by have := (A.fr b hm).2.1; omega⟩
  have kk : ∀ b, b < h.next → b ∉ fo → b ≠ x + 4 → (h'.put (x + 4) (some (.cells false (rcl x { X with U := { X.U with out := out' } } vL vi vo vu')))).get b = h.get b := fun b h1 h2 h3 => by rw [get_put_ne h3, U.get b h1 h2]
  have k1 : ∀ b ∈ fr, (h'.put (x + 4) (some (.cells false (rcl x { X with U := { X.U with out := out' } } vL vi vo vu')))).get b = h.get b := fun b hb => kk b (A.fr b hb).2.1 (A.fr b hb).2.2 (by have := (A.fr b hb).1; omega)
  have nfo : ∀ b, b ≤ x + 5 → b ∉ fo := fun b hb hm => by have := A.fo b hm; omega
  have S' : RS (h'.put (x + 4) (some (.cells false (rcl x { X with U := { X.U with out := out' } } vL vi vo vu')))) x fr fo' { X with U := { X.U with out := out' } } vL vi vo vu' :=
    ⟨get_put_self (by omega), S.sL.keep k1 (fun b hb => hb), S.si.keep k1 (fun b hb => hb), S.so.keep k1 (fun b hb => hb), O.keep fun b hb => get_put_ne (by have := (sub b hb).1; omega)⟩
  refine ⟨⟨⟨vL, vi, vo, vu', S'⟩, A.ra.keep fun b h1 h2 => kk b (by omega) (nfo b (by omega)) (by omega), by rw [kk _ (by omega) (nfo _ (by omega)) (by omega), A.dk], A.el, fun b hb => ⟨(A.fr b hb).1, by have := (A.fr b hb).2.1; simp; omega, fun hm => (sub b hm).2 hb⟩, fun b hb => (sub b hb).1, A.wi, A.ni, A.no, ho⟩, S', ⟨by simpa using hle, fun b hb hn => kk b hb (fun hm => hn (by simp [RL, hm])) fun e => hn (by rw [e]; simp [RL]), fun b hb => ?_⟩⟩
  simp only [RL, List.mem_append] at hb ⊢
  rcases hb with hb | hb | hb
  · exact .inl (.inl hb)
  · exact .inl (.inr (.inl hb))
  · rcases U.sub b hb with h5 | h5
    · exact .inl (.inr (.inr h5))
    · exact .inr h5
theorem zfire1 {e : Ev} (A : RW h x fr fo X) (hd : e.dev = 1) (hn : 0 ≤ e.at' ∧ e.at' ≤ 2 ^ 60) (hq : ∀ h' fr', RW h' x fr' fo (X.fire 1 e.at') → Upd h h' (RL x fr fo) (RL x fr' fo) → q (.tuple #[]) h') : WC T n_pianolaref15_Bus_B1 [ptr (x + 4) 0, .agg #[.int .i64 e.at', .int .i64 e.dev, .int .i64 e.seq]] h q := by
  rw [hd, w_pianolaref15_Bus_B1]
  simp (maxSteps := 1000000) (disch := first | assumption | ((try simp only [push_next, put_next, adv_next, List.length_cons, List.length_nil, List.length_map, List.length_set]); omega) | simp) [-g11_pianolaref15_Bus_B1]
  have K1 : Kp h (h.push (.cells false [.int .i64 e.at', .int .i64 1, .int .i64 e.seq])) := (Kp.refl h).push _
  have hz : (h.push (.cells false [.int .i64 e.at', .int .i64 1, .int .i64 e.seq])).get h.next = some (.cells false [.int .i64 e.at', .int .i64 1, .int .i64 e.seq]) := get_push_self
  have A0 := A.kp K1
  have hln := A.lt
  have hq0 : ∀ h' fr', RW h' x fr' fo (X.fire 1 e.at') → Upd (h.push (.cells false [.int .i64 e.at', .int .i64 1, .int .i64 e.seq])) h' (RL x fr fo) (RL x fr' fo) → q (.tuple #[]) h' := fun h1 f1 k1 k2 => hq h1 f1 k1 (.kp1 K1 k2)
  generalize h.push (.cells false [.int .i64 e.at', .int .i64 1, .int .i64 e.seq]) = h0 at *
  obtain ⟨vL, vi, vo, vu, S⟩ := A0.bs
  have g := S.g
  have hl := A0.lt
  simp only [rcl, rrest] at g
  obtain ⟨p1, p2⟩ := tper_pos X.T1.p
  have hw : IntKind.i64.wrap (e.at' + (if (X.T1.p.toNat : Int) < 1 then 1 else (X.T1.p.toNat : Int))) = e.at' + tper X.T1.p := by rw [max_per]; exact wrap_i64 (by omega) (by omega)
  have hxn : x + 4 ≠ h.next := by omega
  have hnl := lt_of_get hz
  by_cases c2 : X.T1.c &&& 2#32 = 0#32
  · have hA := A0.put S (n := X.S.n) (T1 := { X.T1 with c := X.T1.c &&& ~~~1#32, s := 1#32 }) (T2 := X.T2) (lost := X.U.lost) (ctl := X.U.ctl) (r := X.r) (m := X.m) (D := X.D) (K := X.K) rfl
    simp only [rcl, rrest] at hA
    obtain ⟨A1, S1, U1⟩ := hA
    simp (maxSteps := 1000000) (disch := first | assumption | ((try simp only [push_next, put_next, adv_next, List.length_cons, List.length_nil, List.length_map, List.length_set]); omega) | simp) [g, hz, c2]
    exact hq0 _ _ (A1.cast (by simp [BS.fire, TmS.fire, TmS.firew, c2])) U1
  · have hA := A0.put S (n := X.S.n) (T1 := { X.T1 with s := 1#32 }) (T2 := X.T2) (lost := X.U.lost) (ctl := X.U.ctl) (r := X.r) (m := X.m) (D := X.D) (K := X.K) rfl
    simp only [rcl, rrest] at hA
    obtain ⟨A1, S1, U1⟩ := hA
    simp (maxSteps := 1000000) (disch := first | assumption | ((try simp only [push_next, put_next, adv_next, List.length_cons, List.length_nil, List.length_map, List.length_set]); omega) | simp) [g, hz, c2, hw]
    refine A1.arm fun h2 nw A2 U2 => ?_
    simp (maxSteps := 1000000) (disch := first | assumption | ((try simp only [push_next, put_next, adv_next, List.length_cons, List.length_nil, List.length_map, List.length_set]); omega) | simp)
    exact hq0 h2 _ (A2.cast (by simp [BS.fire, TmS.fire, TmS.firew, c2])) (U1.trans U2)
theorem zfire2 {e : Ev} (A : RW h x fr fo X) (hd : e.dev = 2) (hn : 0 ≤ e.at' ∧ e.at' ≤ 2 ^ 60) (hq : ∀ h' fr', RW h' x fr' fo (X.fire 2 e.at') → Upd h h' (RL x fr fo) (RL x fr' fo) → q (.tuple #[]) h') : WC T n_pianolaref15_Bus_B1 [ptr (x + 4) 0, .agg #[.int .i64 e.at', .int .i64 e.dev, .int .i64 e.seq]] h q := by
  rw [hd, w_pianolaref15_Bus_B1]
  simp (maxSteps := 1000000) (disch := first | assumption | ((try simp only [push_next, put_next, adv_next, List.length_cons, List.length_nil, List.length_map, List.length_set]); omega) | simp) [-g11_pianolaref15_Bus_B1]
  have K1 : Kp h (h.push (.cells false [.int .i64 e.at', .int .i64 2, .int .i64 e.seq])) := (Kp.refl h).push _
  have hz : (h.push (.cells false [.int .i64 e.at', .int .i64 2, .int .i64 e.seq])).get h.next = some (.cells false [.int .i64 e.at', .int .i64 2, .int .i64 e.seq]) := get_push_self
  have A0 := A.kp K1
  have hln := A.lt
  have hq0 : ∀ h' fr', RW h' x fr' fo (X.fire 2 e.at') → Upd (h.push (.cells false [.int .i64 e.at', .int .i64 2, .int .i64 e.seq])) h' (RL x fr fo) (RL x fr' fo) → q (.tuple #[]) h' := fun h1 f1 k1 k2 => hq h1 f1 k1 (.kp1 K1 k2)
  generalize h.push (.cells false [.int .i64 e.at', .int .i64 2, .int .i64 e.seq]) = h0 at *
  obtain ⟨vL, vi, vo, vu, S⟩ := A0.bs
  have g := S.g
  have hl := A0.lt
  simp only [rcl, rrest] at g
  obtain ⟨p1, p2⟩ := tper_pos X.T2.p
  have hw : IntKind.i64.wrap (e.at' + (if (X.T2.p.toNat : Int) < 1 then 1 else (X.T2.p.toNat : Int))) = e.at' + tper X.T2.p := by rw [max_per]; exact wrap_i64 (by omega) (by omega)
  have hxn : x + 4 ≠ h.next := by omega
  have hnl := lt_of_get hz
  by_cases c2 : X.T2.c &&& 2#32 = 0#32
  · have hA := A0.put S (n := X.S.n) (T1 := X.T1) (T2 := { X.T2 with c := X.T2.c &&& ~~~1#32, s := 1#32 }) (lost := X.U.lost) (ctl := X.U.ctl) (r := X.r) (m := X.m) (D := X.D) (K := X.K) rfl
    simp only [rcl, rrest] at hA
    obtain ⟨A1, S1, U1⟩ := hA
    simp (maxSteps := 1000000) (disch := first | assumption | ((try simp only [push_next, put_next, adv_next, List.length_cons, List.length_nil, List.length_map, List.length_set]); omega) | simp) [g, hz, c2]
    exact hq0 _ _ (A1.cast (by simp [BS.fire, TmS.fire, TmS.firew, c2])) U1
  · have hA := A0.put S (n := X.S.n) (T1 := X.T1) (T2 := { X.T2 with s := 1#32 }) (lost := X.U.lost) (ctl := X.U.ctl) (r := X.r) (m := X.m) (D := X.D) (K := X.K) rfl
    simp only [rcl, rrest] at hA
    obtain ⟨A1, S1, U1⟩ := hA
    simp (maxSteps := 1000000) (disch := first | assumption | ((try simp only [push_next, put_next, adv_next, List.length_cons, List.length_nil, List.length_map, List.length_set]); omega) | simp) [g, hz, c2, hw]
    refine A1.arm fun h2 nw A2 U2 => ?_
    simp (maxSteps := 1000000) (disch := first | assumption | ((try simp only [push_next, put_next, adv_next, List.length_cons, List.length_nil, List.length_map, List.length_set]); omega) | simp)
    exact hq0 h2 _ (A2.cast (by simp [BS.fire, TmS.fire, TmS.firew, c2])) (U1.trans U2)
theorem zb1 {e : Ev} (A : RW h x fr fo X) (hn : 0 ≤ e.at' ∧ e.at' ≤ 2 ^ 60) (h3 : e.dev ≠ 3) (hq : ∀ h' fr', RW h' x fr' fo (X.fire e.dev e.at') → Upd h h' (RL x fr fo) (RL x fr' fo) → q (.tuple #[]) h') : WC T n_pianolaref15_Bus_B1 [ptr (x + 4) 0, .agg #[.int .i64 e.at', .int .i64 e.dev, .int .i64 e.seq]] h q := by
  by_cases d1 : e.dev = 1
  · exact zfire1 A d1 hn fun h' fr' k1 k2 => hq h' fr' (by rw [d1]; exact k1) k2
  by_cases d2 : e.dev = 2
  · exact zfire2 A d2 hn fun h' fr' k1 k2 => hq h' fr' (by rw [d2]; exact k1) k2
  rw [w_pianolaref15_Bus_B1]
  simp (maxSteps := 1000000) (disch := first | assumption | ((try simp only [push_next, put_next, adv_next, List.length_cons, List.length_nil, List.length_map, List.length_set]); omega) | simp) [-g11_pianolaref15_Bus_B1]
  have K1 : Kp h (h.push (.cells false [.int .i64 e.at', .int .i64 e.dev, .int .i64 e.seq])) := (Kp.refl h).push _
  have hz : (h.push (.cells false [.int .i64 e.at', .int .i64 e.dev, .int .i64 e.seq])).get h.next = some (.cells false [.int .i64 e.at', .int .i64 e.dev, .int .i64 e.seq]) := get_push_self
  have A0 := A.kp K1
  have hq0 : ∀ h' fr', RW h' x fr' fo (X.fire e.dev e.at') → Upd (h.push (.cells false [.int .i64 e.at', .int .i64 e.dev, .int .i64 e.seq])) h' (RL x fr fo) (RL x fr' fo) → q (.tuple #[]) h' := fun h1 f1 k1 k2 => hq h1 f1 k1 (.kp1 K1 k2)
  generalize h.push (.cells false [.int .i64 e.at', .int .i64 e.dev, .int .i64 e.seq]) = h0 at *
  by_cases d4 : e.dev = 4
  · rw [d4] at hq0
    simp (maxSteps := 1000000) (disch := first | assumption | ((try simp only [push_next, put_next, adv_next, List.length_cons, List.length_nil, List.length_map, List.length_set]); omega) | simp) [hz, d4]
    refine zmove A0 fun h1 A1 U1 => ?_
    simp (maxSteps := 1000000) (disch := first | assumption | ((try simp only [push_next, put_next, adv_next, List.length_cons, List.length_nil, List.length_map, List.length_set]); omega) | simp)
    exact hq0 h1 _ (A1.cast (by simp [BS.fire])) U1
  by_cases d5 : e.dev = 5
  · rw [d5] at hq0
    simp (maxSteps := 1000000) (disch := first | assumption | ((try simp only [push_next, put_next, adv_next, List.length_cons, List.length_nil, List.length_map, List.length_set]); omega) | simp) [hz, d5]
    refine zsector A0 fun h1 A1 U1 => ?_
    simp (maxSteps := 1000000) (disch := first | assumption | ((try simp only [push_next, put_next, adv_next, List.length_cons, List.length_nil, List.length_map, List.length_set]); omega) | simp)
    exact hq0 h1 _ (A1.cast (by simp [BS.fire])) U1
  simp (maxSteps := 1000000) (disch := first | assumption | ((try simp only [push_next, put_next, adv_next, List.length_cons, List.length_nil, List.length_map, List.length_set]); omega) | simp) [hz, d1, d2, h3, d4, d5]
  exact hq0 _ _ (A0.cast (by simp [BS.fire, d1, d2, h3, d4, d5])) .refl
end
end Go.Proofs.YtpdfdemoflofhaaGreat.Cd

/- The document's bus: the line sends; it is made. -/
set_option maxRecDepth 1000000
set_option maxHeartbeats 8000000
set_option linter.unusedSimpArgs false
set_option linter.unusedVariables false
namespace Go.Proofs.YtpdfdemoflofhaaGreat.Cd
open Go Go.Dx
section
variable {h h' : Hp} {q : Value → Hp → Prop} {x : Nat} {fr fo nw fo' : List Nat} {X X' : BS} {now d t : Int} {a v : BitVec 32} {vL vi vo vu vi' vo' vu' : Value}
theorem zfire3 {e : Ev} (A : RW h x fr fo X) (hd : e.dev = 3) (hn : 0 ≤ e.at' ∧ e.at' ≤ 2 ^ 60) (hq : ∀ h' fr' fo', RW h' x fr' fo' (X.fire 3 e.at') → Upd h h' (RL x fr fo) (RL x fr' fo') → q (.tuple #[]) h') : WC T n_pianolaref15_Bus_B1 [ptr (x + 4) 0, .agg #[.int .i64 e.at', .int .i64 e.dev, .int .i64 e.seq]] h q := by
  rw [hd, w_pianolaref15_Bus_B1]
  simp (maxSteps := 1000000) (disch := first | assumption | ((try simp only [push_next, put_next, adv_next, List.length_cons, List.length_nil, List.length_map, List.length_set]); omega) | simp) [-g11_pianolaref15_Bus_B1]
  have K1 : Kp h (h.push (.cells false [.int .i64 e.at', .int .i64 3, .int .i64 e.seq])) := (Kp.refl h).push _
  have hz : (h.push (.cells false [.int .i64 e.at', .int .i64 3, .int .i64 e.seq])).get h.next = some (.cells false [.int .i64 e.at', .int .i64 3, .int .i64 e.seq]) := get_push_self
  have A0 := A.kp K1
  have hln := A.lt
  have hq0 : ∀ h' fr' fo', RW h' x fr' fo' (X.fire 3 e.at') → Upd (h.push (.cells false [.int .i64 e.at', .int .i64 3, .int .i64 e.seq])) h' (RL x fr fo) (RL x fr' fo') → q (.tuple #[]) h' := fun h1 f1 f2 k1 k2 => hq h1 f1 f2 k1 (.kp1 K1 k2)
  have znf : h.next ∉ fo := fun hm => by have := A.folt _ hm; omega
  generalize h.push (.cells false [.int .i64 e.at', .int .i64 3, .int .i64 e.seq]) = h0 at *
  obtain ⟨vL, vi, vo, vu, S⟩ := A0.bs
  have g := S.g
  have hl := A0.lt
  have hno := A.no
  have hnout := A.nout
  simp only [rcl, rrest] at g
  have hxn : x + 4 ≠ h.next := by omega
  have hnl := lt_of_get hz
  obtain ⟨ao, co, hvo, hso, hco, hbo⟩ := S.so
  subst hvo
  cases hO : X.U.o with
  | nil =>
    simp (maxSteps := 1000000) (disch := first | assumption | ((try simp only [push_next, put_next, adv_next, List.length_cons, List.length_nil, List.length_map, List.length_set]); omega) | simp) [g, hO]
    exact hq0 _ _ _ (A0.cast (by simp [BS.fire, UaS.fire, UaS.firew, hO])) .refl
  | cons b O =>
    obtain ⟨Ao, ro, C, hA, hg, hC⟩ := (show Sees encB h0 ao ([] ++ b :: O) by rw [hO] at hso; exact hso).cell (f := u8) (fun _ => rfl) rfl
    subst hA
    have hC0 : C[Ao.off]? = some (u8 b) := by simpa using hC
    have hAo := lt_of_get hg
    have hpos : (0 : Int) < (O.length : Int) + 1 := by omega
    -- the rest: from Goes on
    have rest : ∀ (h2 : Hp) (fo2 : List Nat) (Y : BS) (e2 : Env) (F : List Fr), F = [Fr.seq c8_pianolaref15_Bus_B1, Fr.block 0] → RW h2 x fr fo2 Y → Upd h0 h2 (RL x fr fo) (RL x fr fo2) → Y.U.o = b :: O → Y = { X with U := { X.U with out := Y.U.out } } → (if X.U.out.length < 65536 then X.U.out ++ [b] else X.U.out) = Y.U.out → h2.get h.next = some (.cells false [.int .i64 e.at', .int .i64 3, .int .i64 e.seq]) → e2 0 = ptr (x + 4) 0 → e2 3 = ptr h.next 0 →
        G T (fin [] (some []) h.next q) c5_pianolaref15_Bus_B1 F e2 h2 := by
      intro h2 fo2 Y e2 F hF A2 U2 hYo hYX hout hz2 f0 f3
      subst hF
      obtain ⟨wL, wi, wo, wu, S2⟩ := A2.bs
      have g2 := S2.g
      have hl2 := A2.lt
      have hzl := lt_of_get hz2
      simp only [rcl, rrest] at g2
      obtain ⟨a2, c2, hv2, hso2, hco2, hbo2⟩ := S2.so
      subst hv2
      rw [hYo] at hso2 hco2 g2
      obtain ⟨a1, c1, p1, q1, s1⟩ := hso2.part (lo := 1) (hi := (b :: O).length) (l := some (.int .i64 1)) (u := none) (by simp) (by omega) hco2 (.inr ⟨.i64, rfl⟩) (.inl ⟨rfl, rfl⟩)
      have p1' : sliceV 1 (.slice a2 (O.length + 1) c2) (some (.int .i64 1)) none none = some (.slice a1 O.length c1) := by simpa using p1
      have hO1 : ((b :: O).drop 1).take ((b :: O).length - 1) = O := by simp
      rw [hO1] at s1
      have hOl : O.length < 16 := by rw [hO] at hno; simp at hno; omega
      have K3 : Kp h2 (h2.push (.cells false [])) := (Kp.refl h2).push _
      have Oe : Own encB (h2.push (.cells false [])) (.slice (some ⟨h2.next, 0, none⟩) 0 0) [] [h2.next] := .emp get_push_self
      simp (maxSteps := 1000000) (disch := first | assumption | ((try simp only [push_next, put_next, adv_next, List.length_cons, List.length_nil, List.length_map, List.length_set]); omega) | simp) [f0, f3, g2, p1', -g8_pianolaref15_Bus_B1]
      refine GV_app (E := encB) Oe (s1.kp K3) rfl (by simp; omega) (by simp; omega) fun v3 h3 f3' O3 U3 => ?_
      have K4 : Kp h2 h3 := U3.kp' K3 (by simp)
      have F3 : ∀ b ∈ f3', h2.next ≤ b := fun b hb => by
        rcases U3.sub b hb with h5 | h5
        · simp at h5; omega
        · have := K3.le; omega
      rw [List.nil_append] at O3
      obtain ⟨a3, c3, hv3, _, _, _⟩ := O3.len
      subst hv3
      have A3 := A2.kp K4
      have S3 := RS.kp A2 S2 K4
      have g3 := S3.g
      have hz3 : h3.get h.next = _ := (K4.get _ hzl).trans hz2
      have hl3 := A3.lt
      simp only [rcl, rrest] at g3
      rw [hYo] at g3
      have A6 := A3.lists (nw := f3') (i' := Y.U.i) (o' := O) S3 (S3.si.keep (fun b hb => rfl) fun b hb => List.mem_append_left _ hb) (Se.own O3 fun b hb => List.mem_append_right _ hb) A2.ni (by omega) (fun b hb => ⟨by have := F3 b hb; omega, O3.live b hb, fun hm => by have := F3 b hb; have := A2.folt b hm; omega⟩) rfl
      simp only [rcl, rrest] at A6
      have U6 : Upd h2 (h3.put (x + 4) (some (.cells false (rcl x { Y with U := { Y.U with i := Y.U.i, o := O } } wL wi (.slice a3 O.length c3) wu)))) (RL x fr fo2) (RL x (fr ++ f3') fo2) := ⟨by simpa using K4.le, fun b hb hn => by
        rw [get_put_ne (fun e => hn (by rw [e]; simp [RL])), K4.get b hb], fun b hb => by
        simp only [RL, List.mem_append] at hb ⊢
        rcases hb with hb | (hb | hb) | hb
        · exact .inl (.inl hb)
        · exact .inl (.inr (.inl hb))
        · exact .inr (F3 b hb)
        · exact .inl (.inr (.inr hb))⟩
      simp only [rcl, rrest] at U6
      by_cases hO0 : O = []
      · subst hO0
        simp (maxSteps := 1000000) (disch := first | assumption | ((try simp only [push_next, put_next, adv_next, List.length_cons, List.length_nil, List.length_map, List.length_set]); omega) | simp) [f0, f3, g3, hz3]
        refine hq0 _ _ _ (A6.cast ?_) (U2.trans U6)
        rw [hYX]
        simp [BS.fire, UaS.fire, UaS.firew, hO, hout]
      · have hOp : (0 : Int) < O.length := by
          have := List.length_pos_iff.2 hO0
          omega
        have hOn : 0 < O.length := by omega
        have hwr : IntKind.i64.wrap (e.at' + 8) = e.at' + 8 := wrap_i64 (by omega) (by omega)
        simp (maxSteps := 1000000) (disch := first | assumption | ((try simp only [push_next, put_next, adv_next, List.length_cons, List.length_nil, List.length_map, List.length_set]); omega) | simp) [f0, f3, g3, hz3, hOp, hOn, hwr]
        refine A6.arm fun h7 nw7 A7 U7 => ?_
        simp (maxSteps := 1000000) (disch := first | assumption | ((try simp only [push_next, put_next, adv_next, List.length_cons, List.length_nil, List.length_map, List.length_set]); omega) | simp)
        refine hq0 _ _ _ (A7.cast ?_) ((U2.trans U6).trans U7)
        have h1 : 0 < O.length := by omega
        rw [hYX]
        simp [BS.fire, UaS.fire, UaS.firew, hO, hout, h1]
    obtain ⟨aw, cw, hvw, hsw, hcw, hbw⟩ := S.su.len
    subst hvw
    by_cases hfull : X.U.out.length < 65536
    · have hfi : (X.U.out.length : Int) < 65536 := by omega
      simp (maxSteps := 1000000) (disch := first | assumption | ((try simp only [push_next, put_next, adv_next, List.length_cons, List.length_nil, List.length_map, List.length_set]); omega) | simp) [g, hO, hpos, hfi, hg, hC0, -g5_pianolaref15_Bus_B1]
      have Kx : Kp h0 (h0.push (.cells false [u8 b])) := (Kp.refl h0).push _
      have S4 : Sees encB (h0.push (.cells false [u8 b])) (some ⟨h0.next, 0, none⟩) [b] := sees_b get_push_self
      refine GVI_app (E := encB) (S.su.kp Kx) S4 rfl (by simp; omega) (by simp; omega) fun v5 h5 f5 O5 U5 => ?_
      obtain ⟨a5, c5, hv5, _, _, _⟩ := O5.len
      have hv5' : v5 = .slice a5 (X.U.out.length + 1) c5 := by rw [hv5]; simp
      have A5 := (A0.kp Kx).outp (RS.kp A0 S Kx) O5 U5 (by simp; omega) rfl
      have nfo : ∀ b, b ≤ x + 5 → b ∉ fo := fun b hb hm => by have := A0.fo b hm; omega
      have g5 : h5.get (x + 4) = _ := ((U5.get (x + 4) (by simp; omega) (nfo _ (by omega))).trans (Kx.get _ (by omega))).trans g
      have z5 : h5.get h.next = _ := ((U5.get h.next (by simp; omega) znf).trans (Kx.get _ hnl)).trans hz
      have hl5 : x + 5 < h5.next := by have := U5.le; simp at this; omega
      simp only [rcl, rrest] at A5
      obtain ⟨A5, S5, V5⟩ := A5
      have hone : one v5 = true := by rw [hv5]; rfl
      simp (maxSteps := 1000000) (disch := first | assumption | ((try simp only [push_next, put_next, adv_next, List.length_cons, List.length_nil, List.length_map, List.length_set]); omega) | simp) [g5, hone, -g5_pianolaref15_Bus_B1]
      exact rest _ f5 _ _ _ rfl A5 (.kp1 Kx V5) hO (by simp) (by rw [if_pos hfull]) (by rw [get_put_ne (by omega), z5]) (by simp) (by simp)
    · have hfi : ¬ (X.U.out.length : Int) < 65536 := by omega
      simp (maxSteps := 1000000) (disch := first | assumption | ((try simp only [push_next, put_next, adv_next, List.length_cons, List.length_nil, List.length_map, List.length_set]); omega) | simp) [g, hO, hpos, hfi, -g5_pianolaref15_Bus_B1]
      exact rest h0 fo X _ _ rfl A0 .refl hO (by cases X; rfl) (by rw [if_neg hfull]) hz (by simp) (by simp)
/-- What is due is done. -/
theorem zb {e : Ev} (A : RW h x fr fo X) (hn : 0 ≤ e.at' ∧ e.at' ≤ 2 ^ 60) (hq : ∀ h' fr' fo', RW h' x fr' fo' (X.fire e.dev e.at') → Upd h h' (RL x fr fo) (RL x fr' fo') → q (.tuple #[]) h') : WC T n_pianolaref15_Bus_B1 [ptr (x + 4) 0, .agg #[.int .i64 e.at', .int .i64 e.dev, .int .i64 e.seq]] h q := by
  by_cases d3 : e.dev = 3
  · exact zfire3 A d3 hn fun h' fr' fo' k1 k2 => hq h' fr' fo' (by rw [d3]; exact k1) k2
  · exact zb1 A hn d3 fun h' fr' k1 k2 => hq h' fr' fo k1 k2
theorem zword (A : RW h x fr fo X) (hd : 0 ≤ d ∧ d ≤ 5) (hn : 0 ≤ now ∧ now ≤ 2 ^ 60) (hq : ∀ h' fr', RW h' x fr' fo (X.rds d a) → Upd h h' (RL x fr fo) (RL x fr' fo) → q (.tuple #[u32 (X.rd d a now), .bool (wok d a)]) h') : WC T n_pianolaref15_Bus_Word [ptr (x + 4) 0, .int .i64 d, u32 a, .int .i64 now] h q := by
  have kp : ∀ d0 : Int, d0 ≠ 3 → d = d0 → ∀ h', Kp h h' → q (.tuple #[u32 (X.rd d0 a now), .bool (wok d0 a)]) h' := fun d0 h3 e h' K => by
    subst e
    exact hq h' fr ((A.kp K).cast (by simp [BS.rds, h3])) (K.upd _)
  have : d = 0 ∨ d = 1 ∨ d = 2 ∨ d = 3 ∨ d = 4 ∨ d = 5 := by omega
  rcases this with e | e | e | e | e | e
  · have k := kp _ (by omega) e; rw [e]; exact zword0 A hn k
  · have k := kp _ (by omega) e; rw [e]; exact zword1 A k
  · have k := kp _ (by omega) e; rw [e]; exact zword2 A k
  · rw [e]; exact zword3 A fun h' fr' k1 k2 => by have := hq h' fr' (by rw [e]; exact k1) k2; rw [e] at this; exact this
  · have k := kp _ (by omega) e; rw [e]; exact zword4 A k
  · have k := kp _ (by omega) e; rw [e]; exact zword5 A k
theorem z2new {n : Int} (hq : ∀ h', Ra h' h.next (List.replicate (1024 * pgs n) 0#8) (List.replicate (pgs n) false) (List.replicate (pgs n) false) → Kp h h' → h'.next = h.next + 4 → q (ptr (h.next + 3) 0) h') :
    WC T n_pianolaref2_New [.int .i64 n] h q := by
  obtain ⟨m, hm, h1, h2⟩ : ∃ m : Nat, m = pgs n ∧ 1 ≤ m ∧ m ≤ 64 := ⟨_, rfl, by unfold pgs; omega, by unfold pgs; omega⟩
  rw [← hm] at hq
  have hm2 : (if (if 64 < n then 64 else n) < 1 then 1 else (if 64 < n then 64 else n)) = (m : Int) := by
    rw [hm]; unfold pgs
    split <;> split <;> omega
  have e2 : ((m : Int) * 1024).toNat = 1024 * m := by omega
  rw [w_pianolaref2_New]
  simp (maxSteps := 1000000) (disch := first | assumption | ((try simp only [push_next, put_next, adv_next, List.length_cons, List.length_nil, List.length_map, List.length_set]); omega) | simp) [hm2, e2]
  refine hq _ ⟨?_, ?_, ?_, ?_, ?_, ?_, ?_⟩ ((((((Kp.refl h).adv 4).put (Nat.le_refl _) _).put (by omega) _).put (by omega) _).put (by omega) _) (by simp)
  · rw [get_put_self (by simp)]
    simp
  · rw [get_put_ne (by omega), get_put_ne (by omega), get_put_ne (by omega), get_put_self (by simp)]
    simp
  · rw [get_put_ne (by omega), get_put_ne (by omega), get_put_self (by simp)]
    simp
  · rw [get_put_ne (by omega), get_put_self (by simp)]
    simp
  · simp
  · simp
  · simpa using ⟨h1, h2⟩
end
end Go.Proofs.YtpdfdemoflofhaaGreat.Cd

/- The document's bus: it is made. -/
set_option maxRecDepth 1000000
set_option maxHeartbeats 8000000
set_option linter.unusedSimpArgs false
set_option linter.unusedVariables false
namespace Go.Proofs.YtpdfdemoflofhaaGreat.Cd
open Go Go.Dx
section
variable {h h' : Hp} {q : Value → Hp → Prop} {x : Nat} {fr fo nw fo' : List Nat} {X X' : BS} {now d t : Int} {a v : BitVec 32} {vL vi vo vu vi' vo' vu' : Value}
theorem ov_pre (l : By) (m : Nat) : ovB (List.replicate m 0#8) 0 (l.take m) = (l ++ List.replicate m 0#8).take m := by
  simp only [ovB, List.take_zero, List.nil_append, Nat.zero_add, List.length_take]
  by_cases hm : l.length ≤ m
  · rw [Nat.min_eq_right hm, List.take_of_length_le hm, List.take_append, List.take_of_length_le hm]
    simp
  · rw [Nat.min_eq_left (by omega), List.take_append_of_le_length (by omega)]
    simp
theorem mkl (n : Int) (im se : By) : (BS.mk0 n im se).B.length = 1024 * pgs n := by
  simp only [BS.mk0]
  rw [ovB_length (by rw [List.length_take, List.length_replicate]; omega), List.length_replicate]
theorem tch_false (n k a j : Nat) : tch (List.replicate n false) (List.replicate k false) a j = List.replicate k false := by
  unfold tch
  split
  · rfl
  · apply List.ext_getElem?
    intro i
    by_cases hi : i < k
    · have : ∀ o : Bool, o = false → (false || (decide (a / 1024 ≤ i ∧ i ≤ (a + j - 1) / 1024) && o)) = false := fun o e => by rw [e]; simp
      simp only [List.length_replicate, List.getElem?_map, List.getElem?_range hi, Option.map_some, List.getElem?_replicate, hi, if_true]
      congr 1
      have e1 : (List.replicate k false).getD i false = false := by simp [List.getD, List.getElem?_replicate, hi]
      have e2 : (List.replicate n false).getD i false = false := by
        simp only [List.getD, List.getElem?_replicate]
        split <;> rfl
      rw [e1, e2]
      simp
    · simp [hi]
theorem znew {n : Int} {im se : By} {ai as0 : Option Addr} {ci cs : Nat} (Si : Sees encB h ai im) (Ss : Sees encB h as0 se) (hi : im.length < 2 ^ 40) (hs : se.length < 2 ^ 40)
    (hq : ∀ h', RW h' h.next [] [] (BS.mk0 n im se) → Kp h h' → h'.next = h.next + 6 → q (ptr (h.next + 4) 0) h') :
    WC T n_pianolaref15_New [.int .i64 n, .slice ai im.length ci, .slice as0 se.length cs] h q := by
  rw [w_pianolaref15_New]
  simp (maxSteps := 1000000) (disch := first | assumption | ((try simp only [push_next, put_next, adv_next, List.length_cons, List.length_nil, List.length_map, List.length_set]); omega) | simp)
  refine z2new fun h1 R1 K1 n1 => ?_
  have hp : 1 ≤ pgs n ∧ pgs n ≤ 64 := by unfold pgs; omega
  have hr := R1.r
  have hb := R1.b
  have hBl : (List.replicate (1024 * pgs n) 0#8 : By).length = 1024 * pgs n := by simp
  rw [hBl] at hr
  simp (maxSteps := 1000000) (disch := first | assumption | ((try simp only [push_next, put_next, adv_next, List.length_cons, List.length_nil, List.length_map, List.length_set]); omega) | simp) [hr]
  have K2 : Kp h1 (h1.push (.cells false [ptr (h.next + 3) 0, .slice none 0 0, .int .i64 0, u32 0#32, u32 0#32, u32 0#32, u32 0#32, u32 0#32, u32 0#32, .slice none 0 0, .slice none 0 0, .bool false, u32 0#32, .slice none 0 0, u32 0#32, u32 0#32, u32 0#32, u32 0#32, u32 0#32, u32 0#32, u32 0#32, u32 0#32, .slice none 0 0, u32 0#32, u32 0#32])) := (Kp.refl h1).push _
  have g2 : (h1.push (.cells false [ptr (h.next + 3) 0, .slice none 0 0, .int .i64 0, u32 0#32, u32 0#32, u32 0#32, u32 0#32, u32 0#32, u32 0#32, .slice none 0 0, .slice none 0 0, .bool false, u32 0#32, .slice none 0 0, u32 0#32, u32 0#32, u32 0#32, u32 0#32, u32 0#32, u32 0#32, u32 0#32, u32 0#32, .slice none 0 0, u32 0#32, u32 0#32])).get h1.next = _ := get_push_self
  have n2 : (h1.push (.cells false [ptr (h.next + 3) 0, .slice none 0 0, .int .i64 0, u32 0#32, u32 0#32, u32 0#32, u32 0#32, u32 0#32, u32 0#32, .slice none 0 0, .slice none 0 0, .bool false, u32 0#32, .slice none 0 0, u32 0#32, u32 0#32, u32 0#32, u32 0#32, u32 0#32, u32 0#32, u32 0#32, u32 0#32, .slice none 0 0, u32 0#32, u32 0#32])).next = h1.next + 1 := rfl
  generalize h1.push (.cells false [ptr (h.next + 3) 0, .slice none 0 0, .int .i64 0, u32 0#32, u32 0#32, u32 0#32, u32 0#32, u32 0#32, u32 0#32, .slice none 0 0, .slice none 0 0, .bool false, u32 0#32, .slice none 0 0, u32 0#32, u32 0#32, u32 0#32, u32 0#32, u32 0#32, u32 0#32, u32 0#32, u32 0#32, .slice none 0 0, u32 0#32, u32 0#32]) = h2 at *
  have hb2 : h2.get h.next = _ := (K2.get _ (by omega)).trans hb
  obtain ⟨j, hcp⟩ := cpy_pre (m := 1024 * pgs n) (c := 1024 * pgs n) (c' := ci) hb2 (Si.kp (K1.trans K2))
  rw [← ov_pre] at hcp
  obtain ⟨d, hd, hd2⟩ : ∃ d : Nat, ((se.length : Int) + 64 - 1).tdiv 64 = (d : Int) ∧ d = (se.length + 63) / 64 := ⟨(se.length + 63) / 64, by rw [Int.tdiv_eq_ediv_of_nonneg (by omega)]; omega, rfl⟩
  obtain ⟨m, hn, h64⟩ : ∃ m : Nat, (if 64 < (d : Int) then 64 else (d : Int)) = (m : Int) ∧ m = min d 64 := ⟨min d 64, by split <;> omega, rfl⟩
  have e2 : ((m : Int) * 64).toNat = 64 * m := by omega
  have hE : (se ++ List.replicate (64 * m) 0#8).take (64 * m) = dkE se := by rw [h64, hd2, dkE]
  have hEl : (dkE se).length = 64 * m := by rw [dkE_length, h64, hd2]
  simp (maxSteps := 1000000) (disch := first | assumption | ((try simp only [push_next, put_next, adv_next, List.length_cons, List.length_nil, List.length_map, List.length_set]); omega) | simp) [hcp, hd, hn, e2, g2]
  have n3 : (((h2.put h.next (some (.cells false ((ovB (List.replicate (1024 * pgs n) 0#8) 0 (im.take (1024 * pgs n))).map u8)))).push (.cells false (List.replicate (64 * m) (u8 0#8)))).put h1.next (some (.cells false [ptr (h.next + 3) 0, .slice none 0 0, .int .i64 0, u32 0#32, u32 0#32, u32 0#32, u32 0#32, u32 0#32, u32 0#32, .slice none 0 0, .slice none 0 0, .bool false, u32 0#32, .slice none 0 0, u32 0#32, u32 0#32, u32 0#32, u32 0#32, u32 0#32, u32 0#32, u32 0#32, u32 0#32, .slice (some ⟨h2.next, 0, none⟩) (64 * m) (64 * m), u32 0#32, u32 0#32]))).next = h.next + 6 := by simp; omega
  have g3 : (((h2.put h.next (some (.cells false ((ovB (List.replicate (1024 * pgs n) 0#8) 0 (im.take (1024 * pgs n))).map u8)))).push (.cells false (List.replicate (64 * m) (u8 0#8)))).put h1.next (some (.cells false [ptr (h.next + 3) 0, .slice none 0 0, .int .i64 0, u32 0#32, u32 0#32, u32 0#32, u32 0#32, u32 0#32, u32 0#32, .slice none 0 0, .slice none 0 0, .bool false, u32 0#32, .slice none 0 0, u32 0#32, u32 0#32, u32 0#32, u32 0#32, u32 0#32, u32 0#32, u32 0#32, u32 0#32, .slice (some ⟨h2.next, 0, none⟩) (64 * m) (64 * m), u32 0#32, u32 0#32]))).get h1.next = some (.cells false [ptr (h.next + 3) 0, .slice none 0 0, .int .i64 0, u32 0#32, u32 0#32, u32 0#32, u32 0#32, u32 0#32, u32 0#32, .slice none 0 0, .slice none 0 0, .bool false, u32 0#32, .slice none 0 0, u32 0#32, u32 0#32, u32 0#32, u32 0#32, u32 0#32, u32 0#32, u32 0#32, u32 0#32, .slice (some ⟨h2.next, 0, none⟩) (64 * m) (64 * m), u32 0#32, u32 0#32]) := get_put_self (by simp; omega)
  have z3 : (((h2.put h.next (some (.cells false ((ovB (List.replicate (1024 * pgs n) 0#8) 0 (im.take (1024 * pgs n))).map u8)))).push (.cells false (List.replicate (64 * m) (u8 0#8)))).put h1.next (some (.cells false [ptr (h.next + 3) 0, .slice none 0 0, .int .i64 0, u32 0#32, u32 0#32, u32 0#32, u32 0#32, u32 0#32, u32 0#32, .slice none 0 0, .slice none 0 0, .bool false, u32 0#32, .slice none 0 0, u32 0#32, u32 0#32, u32 0#32, u32 0#32, u32 0#32, u32 0#32, u32 0#32, u32 0#32, .slice (some ⟨h2.next, 0, none⟩) (64 * m) (64 * m), u32 0#32, u32 0#32]))).get h2.next = some (.cells false ((List.replicate (64 * m) 0#8).map u8)) := by
    rw [get_put_ne (by omega), get_push_at (by simp) (by simp)]
    simp
  have b3 : (((h2.put h.next (some (.cells false ((ovB (List.replicate (1024 * pgs n) 0#8) 0 (im.take (1024 * pgs n))).map u8)))).push (.cells false (List.replicate (64 * m) (u8 0#8)))).put h1.next (some (.cells false [ptr (h.next + 3) 0, .slice none 0 0, .int .i64 0, u32 0#32, u32 0#32, u32 0#32, u32 0#32, u32 0#32, u32 0#32, .slice none 0 0, .slice none 0 0, .bool false, u32 0#32, .slice none 0 0, u32 0#32, u32 0#32, u32 0#32, u32 0#32, u32 0#32, u32 0#32, u32 0#32, u32 0#32, .slice (some ⟨h2.next, 0, none⟩) (64 * m) (64 * m), u32 0#32, u32 0#32]))).get h.next = some (.cells false ((ovB (List.replicate (1024 * pgs n) 0#8) 0 (im.take (1024 * pgs n))).map u8)) := by
    rw [get_put_ne (by omega), get_push_ne (by simp; omega), get_put_self (by omega)]
  have o3 : ∀ b, b < h2.next → b ≠ h1.next → b ≠ h.next → (((h2.put h.next (some (.cells false ((ovB (List.replicate (1024 * pgs n) 0#8) 0 (im.take (1024 * pgs n))).map u8)))).push (.cells false (List.replicate (64 * m) (u8 0#8)))).put h1.next (some (.cells false [ptr (h.next + 3) 0, .slice none 0 0, .int .i64 0, u32 0#32, u32 0#32, u32 0#32, u32 0#32, u32 0#32, u32 0#32, .slice none 0 0, .slice none 0 0, .bool false, u32 0#32, .slice none 0 0, u32 0#32, u32 0#32, u32 0#32, u32 0#32, u32 0#32, u32 0#32, u32 0#32, u32 0#32, .slice (some ⟨h2.next, 0, none⟩) (64 * m) (64 * m), u32 0#32, u32 0#32]))).get b = h2.get b := fun b c1 c2 c3 => by
    rw [get_put_ne c2, get_push_ne (by simp; omega), get_put_ne c3]
  generalize ((h2.put h.next (some (.cells false ((ovB (List.replicate (1024 * pgs n) 0#8) 0 (im.take (1024 * pgs n))).map u8)))).push (.cells false (List.replicate (64 * m) (u8 0#8)))).put h1.next (some (.cells false [ptr (h.next + 3) 0, .slice none 0 0, .int .i64 0, u32 0#32, u32 0#32, u32 0#32, u32 0#32, u32 0#32, u32 0#32, .slice none 0 0, .slice none 0 0, .bool false, u32 0#32, .slice none 0 0, u32 0#32, u32 0#32, u32 0#32, u32 0#32, u32 0#32, u32 0#32, u32 0#32, u32 0#32, .slice (some ⟨h2.next, 0, none⟩) (64 * m) (64 * m), u32 0#32, u32 0#32])) = h3 at *
  have K3 : Kp h h3 := ⟨by omega, fun b hb => by rw [o3 b (by omega) (by omega) (by omega), K2.get b (by omega), K1.get b hb]⟩
  obtain ⟨j2, hcp2⟩ := cpy_pre (m := 64 * m) (c := 64 * m) (c' := cs) z3 (Ss.kp K3)
  rw [hE] at hcp2
  simp (maxSteps := 1000000) (disch := first | assumption | ((try simp only [push_next, put_next, adv_next, List.length_cons, List.length_nil, List.length_map, List.length_set]); omega) | simp) [hcp2]
  have hn4 : h1.next = h.next + 4 := n1
  have hn5 : h2.next = h.next + 5 := by omega
  rw [hn4, hn5]
  rw [hn4] at g3 o3
  rw [hn5] at g3 o3 z3
  have gg : ∀ b, b < h.next + 5 → b ≠ h.next + 4 → b ≠ h.next → (h3.put (h.next + 5) (some (.cells false ((dkE se).map u8)))).get b = h1.get b := fun b c1 c2 c3 => by
    rw [get_put_ne (by omega), o3 b c1 c2 c3, K2.get b (by omega)]
  refine hq _ ⟨⟨.slice none 0 0, .slice none 0 0, .slice none 0 0, .slice none 0 0, ?_, .nul, .nul, .nul, .nul⟩, ?_, get_put_self (by omega), ?_, by simp, by simp, .nil, by simp [BS.mk0], by simp [BS.mk0], by simp [BS.mk0]⟩ (K3.put (by omega) _) (by simpa using n3)
  · rw [get_put_ne (by omega), g3]
    simp only [rcl, rrest, BS.mk0, hEl]
  · have hW : (BS.mk0 n im se).W = List.replicate (pgs n) false := tch_false ..
    have hM : (BS.mk0 n im se).M = List.replicate (pgs n) false := rfl
    have hB0 : (BS.mk0 n im se).B = ovB (List.replicate (1024 * pgs n) 0#8) 0 (im.take (1024 * pgs n)) := rfl
    have hBn : (BS.mk0 n im se).B.length = 1024 * pgs n := mkl ..
    refine ⟨?_, ?_, ?_, ?_, ?_, ?_, ?_⟩
    · rw [gg _ (by omega) (by omega) (by omega), hr, hBn, hM]
    · rw [get_put_ne (by omega), b3, hB0]
    · rw [gg _ (by omega) (by omega) (by omega), R1.m, hM]
    · rw [gg _ (by omega) (by omega) (by omega), R1.w, hW]
    · rw [hBn, hM]; simp
    · rw [hM, hW]
    · rw [hM]; simpa using hp
  · show (dkE se).length % 64 = 0 ∧ _
    rw [show (BS.mk0 n im se).E = dkE se from rfl, hEl]
    omega
end
end Go.Proofs.YtpdfdemoflofhaaGreat.Cd

/- The document's bus: by address; all that is due. -/
set_option maxRecDepth 1000000
set_option maxHeartbeats 8000000
set_option linter.unusedSimpArgs false
set_option linter.unusedVariables false
namespace Go.Proofs.YtpdfdemoflofhaaGreat.Cd
open Go Go.Dx
section
variable {h : Hp} {q : Value → Hp → Prop} {x : Nat} {B : By} {M W : List Bool}
theorem zload {a : BitVec 32} {n : Int} (R : Ra h x B M W) : WC T n_pianolaref2_Ram_Load [ptr (x + 3) 0, u32 a, .int .i64 n] h q ↔ q (.tuple #[u32 (if evB B a n = true then ldB B a.toNat n.toNat else 0#32), .bool (evB B a n)]) h := by
  have hr := R.r
  have hl := R.sz
  have hm := R.ml
  have hb := R.b
  have ha := a.isLt
  refine WC_iff ?_ q
  rw [w_pianolaref2_Ram_Load]
  by_cases hn : n = 1 ∨ n = 2 ∨ n = 4
  case neg =>
    have c1 : n ≠ 1 := fun h => hn (.inl h)
    have c2 : n ≠ 2 := fun h => hn (.inr (.inl h))
    have c4 : n ≠ 4 := fun h => hn (.inr (.inr h))
    have he : evB B a n = false := by simp [evB, c1, c2, c4]
    simp (maxSteps := 1000000) (disch := first | assumption | ((try simp only [push_next, put_next, adv_next, List.length_cons, List.length_nil, List.length_map, List.length_set]); omega) | simp) [c1, c2, c4, he]
  obtain ⟨m, hnm⟩ := Int.eq_ofNat_of_zero_le (show 0 ≤ n by omega)
  have ht := fun q => zin (q := q) (a := a) (n := n) R (by omega)
  have e : ((a.toNat : Int) % n = 0) ↔ a % BitVec.ofInt 32 n = 0#32 := by
    rw [← BitVec.toNat_inj, BitVec.toNat_umod, BitVec.toNat_ofInt]
    rcases hn with rfl | rfl | rfl <;> simp <;> omega
  have hev : evB B a n = (decide (a % BitVec.ofInt 32 n = 0#32) && thB B a n) := by
    rw [ev_th hn]
    congr 1
    rw [decide_eq_decide]
    exact e
  cases hc : evB B a n with
  | false =>
    rw [hev] at hc
    clear e hev
    by_cases c3 : a % BitVec.ofInt 32 n = 0#32
    · have c4 : thB B a n = false := by simpa only [c3, decide_true, Bool.true_and] using hc
      rw [c4] at ht
      rcases hn with rfl | rfl | rfl
      · simp (maxSteps := 1000000) (disch := first | assumption | ((try simp only [push_next, put_next, adv_next, List.length_cons, List.length_nil, List.length_map, List.length_set]); omega) | simp) [GC_of ht]
      · have c3 : a % 2#32 = 0#32 := c3
        simp (maxSteps := 1000000) (disch := first | assumption | ((try simp only [push_next, put_next, adv_next, List.length_cons, List.length_nil, List.length_map, List.length_set]); omega) | simp) [GC_of ht, c3]
      · have c3 : a % 4#32 = 0#32 := c3
        simp (maxSteps := 1000000) (disch := first | assumption | ((try simp only [push_next, put_next, adv_next, List.length_cons, List.length_nil, List.length_map, List.length_set]); omega) | simp) [GC_of ht, c3]
    · rcases hn with rfl | rfl | rfl
      · exact absurd (by simp) c3
      · have c3 : ¬ a % 2#32 = 0#32 := c3
        simp (maxSteps := 1000000) (disch := first | assumption | ((try simp only [push_next, put_next, adv_next, List.length_cons, List.length_nil, List.length_map, List.length_set]); omega) | simp) [c3]
      · have c3 : ¬ a % 4#32 = 0#32 := c3
        simp (maxSteps := 1000000) (disch := first | assumption | ((try simp only [push_next, put_next, adv_next, List.length_cons, List.length_nil, List.length_map, List.length_set]); omega) | simp) [c3]
  | true =>
    rw [hev] at hc
    simp only [Bool.and_eq_true, decide_eq_true_eq] at hc
    obtain ⟨c3, c4⟩ := hc
    have c5 : a.toNat + m ≤ B.length := by simp only [thB, decide_eq_true_eq] at c4; omega
    rw [c4] at ht
    have hm1 : n.toNat = m := by omega
    rw [hm1]
    have body : ∀ e0 : Env, e0 0 = ptr (x + 3) 0 → e0 1 = u32 a → e0 2 = .int .i64 n → e0 8 = u32 0#32 → e0 9 = .int .i64 0 → G T (fin [.t 6, .t 7] (some []) h.next fun v h' => v = .tuple #[u32 (ldB B a.toNat m), .bool true] ∧ h' = h) (.loop c1_pianolaref2_Ram_Load) [Fr.block 0, Fr.seq (.seq (.ops [⟨some 53, none, .mov (.t 8)⟩, ⟨some 6, none, .mov (.t 53)⟩, ⟨some 7, none, .mov (.c (.bool true))⟩]) .ret)] e0 h := fun e0 f0 f1 f2 f8 f9 => by
      refine G_loop (fun j e h' => ∃ k : Nat, j = m - k ∧ k ≤ m ∧ e 0 = ptr (x + 3) 0 ∧ e 1 = u32 a ∧ e 2 = .int .i64 n ∧ e 8 = u32 (ldL ((B.drop a.toNat).take k)) ∧ e 9 = .int .i64 k ∧ h' = h) ?_ m _ _ ⟨0, rfl, Nat.zero_le _, f0, f1, f2, by rw [f8]; rfl, f9, rfl⟩
      rintro j ih e h' ⟨k, rfl, hk, e0, e1, e2, e8, e9, rfl⟩
      by_cases hkm : k < m
      · have hki : (k : Int) < n := by omega
        have hix : ((a.toNat : Int) + k).toNat = a.toNat + k := by omega
        have hlt : a.toNat + k < B.length := by omega
        have hsn : ldL ((B.drop a.toNat).take (k + 1)) = (ldL ((B.drop a.toNat).take k) <<< 8) ||| (B[a.toNat + k]).setWidth 32 := by
          rw [List.take_succ_eq_append_getElem (by simp; omega), ldL_snoc]
          simp
        have hC : (B.map u8)[a.toNat + k]? = some (u8 B[a.toNat + k]) := by
          rw [List.getElem?_map, List.getElem?_eq_getElem hlt]; rfl
        have hlB : (B.map u8).length = B.length := by simp
        have hC' : ∀ hh : a.toNat + k < (B.map u8).length, (B.map u8)[a.toNat + k]'hh = u8 B[a.toNat + k] := fun hh => by simp
        obtain ⟨bb, hbb⟩ : ∃ bb, bb = B[a.toNat + k] := ⟨_, rfl⟩
        rw [← hbb] at hsn hC
        clear hC'
        simp (maxSteps := 1000000) (disch := first | assumption | ((try simp only [push_next, put_next, adv_next, List.length_cons, List.length_nil, List.length_map, List.length_set]); omega) | simp) [e0, e1, e2, e8, e9, hki, hr, hb, hix, hC, hlt]
        exact ih (m - (k + 1)) (by omega) _ _ ⟨k + 1, rfl, by omega, by simp [e0], by simp [e1], by simp [e2], by simp [hsn, ← hbb], by simp, rfl⟩
      · have : k = m := by omega
        subst this
        have hlt9 : ¬ (k : Int) < n := by omega
        simp (maxSteps := 1000000) (disch := first | assumption | ((try simp only [push_next, put_next, adv_next, List.length_cons, List.length_nil, List.length_map, List.length_set]); omega) | simp) [e9, e2, e8, hlt9]
        simp [ldB]
    clear e hev
    rcases hn with rfl | rfl | rfl
    · simp (maxSteps := 1000000) (disch := first | assumption | ((try simp only [push_next, put_next, adv_next, List.length_cons, List.length_nil, List.length_map, List.length_set]); omega) | simp) [GC_of ht]
      exact body _ (by simp) (by simp) (by simp) (by simp) (by simp)
    · have c3 : a % 2#32 = 0#32 := c3
      simp (maxSteps := 1000000) (disch := first | assumption | ((try simp only [push_next, put_next, adv_next, List.length_cons, List.length_nil, List.length_map, List.length_set]); omega) | simp) [GC_of ht, c3]
      exact body _ (by simp) (by simp) (by simp) (by simp) (by simp)
    · have c3 : a % 4#32 = 0#32 := c3
      simp (maxSteps := 1000000) (disch := first | assumption | ((try simp only [push_next, put_next, adv_next, List.length_cons, List.length_nil, List.length_map, List.length_set]); omega) | simp) [GC_of ht, c3]
      exact body _ (by simp) (by simp) (by simp) (by simp) (by simp)
end
/-- Which lines are up, as the document has them. -/
def zup (b1 b2 b3 b4 b5 : Bool) : BitVec 32 := (if b1 then 2#32 else 0#32) ||| (if b2 then 4#32 else 0#32) ||| (if b3 then 8#32 else 0#32) ||| (if b4 then 16#32 else 0#32) ||| (if b5 then 32#32 else 0#32)
def BS.zup (X : BS) : BitVec 32 := Cd.zup (X.line 1) (X.line 2) (X.line 3) (X.line 4) (X.line 5)
/-- Its lines are those of some devices. -/
def R5 (r : BitVec 32) : Prop := ∃ b1 b2 b3 b4 b5, r = Cd.zup b1 b2 b3 b4 b5
theorem lset_zup : ∀ c1 c2 c3 c4 c5 b1 b2 b3 b4 b5 : Bool, lset 5 b5 (lset 4 b4 (lset 3 b3 (lset 2 b2 (lset 1 b1 (Cd.zup c1 c2 c3 c4 c5))))) = Cd.zup b1 b2 b3 b4 b5 := by decide
theorem BS.up_zup {X : BS} (h : R5 X.r) : X.up = X.zup := by
  obtain ⟨c1, c2, c3, c4, c5, hr⟩ := h
  unfold BS.up BS.zup
  rw [hr]
  exact lset_zup ..
end Go.Proofs.YtpdfdemoflofhaaGreat.Cd

/- The document's bus: all its calls. -/
set_option maxRecDepth 1000000
set_option maxHeartbeats 8000000
set_option linter.unusedSimpArgs false
set_option linter.unusedVariables false
namespace Go.Proofs.YtpdfdemoflofhaaGreat.Cd
open Go Go.Dx
section
variable {h h' : Hp} {q : Value → Hp → Prop} {x : Nat} {fr fo nw fo' : List Nat} {X X' : BS} {now d t : Int} {a v : BitVec 32} {vL vi vo vu vi' vo' vu' : Value}
theorem zup_step : ∀ b1 b2 b3 b4 b5 : Bool,
    (let r1 := 0#32; let r2 := if b1 then r1 ||| 2#32 else r1; let r3 := if b2 then r2 ||| 4#32 else r2; let r4 := if b3 then r3 ||| 8#32 else r3; let r5 := if b4 then r4 ||| 16#32 else r4; if b5 then r5 ||| 32#32 else r5) = Cd.zup b1 b2 b3 b4 b5 := by decide
def BS.zr (X : BS) (d : Int) : BitVec 32 :=
  let r1 := 0#32
  let r2 := if X.line 1 then r1 ||| 2#32 else r1
  let r3 := if X.line 2 then r2 ||| 4#32 else r2
  let r4 := if X.line 3 then r3 ||| 8#32 else r3
  let r5 := if X.line 4 then r4 ||| 16#32 else r4
  if d = 1 then r1 else if d = 2 then r2 else if d = 3 then r3 else if d = 4 then r4 else if d = 5 then r5 else if X.line 5 then r5 ||| 32#32 else r5
theorem RW.setr (A : RW h x fr fo X) (S : RS h x fr fo X vL vi vo vu) {r : BitVec 32} {C : List Value} (hC : C = rcl x { X with r := r } vL vi vo vu) : RW (h.put (x + 4) (some (.cells false C))) x fr fo { X with r := r } ∧ RS (h.put (x + 4) (some (.cells false C))) x fr fo { X with r := r } vL vi vo vu ∧ Upd h (h.put (x + 4) (some (.cells false C))) (RL x fr fo) (RL x fr fo) := by
  subst hC
  exact A.put S (n := X.S.n) (T1 := X.T1) (T2 := X.T2) (lost := X.U.lost) (ctl := X.U.ctl) (r := r) (m := X.m) (D := X.D) (K := X.K) rfl
theorem zgather (A : RW h x fr fo X) (hq : ∀ h', RW h' x fr fo { X with r := X.zup } → Upd h h' (RL x fr fo) (RL x fr fo) → q (.tuple #[]) h') : WC T n_pianolaref15_Bus_gather [ptr (x + 4) 0] h q := by
  obtain ⟨vL, vi, vo, vu, S⟩ := A.bs
  have g := S.g
  have hl := A.lt
  simp only [rcl, rrest] at g
  have hA := A.setr S (r := 0#32) rfl
  simp only [rcl, rrest] at hA
  obtain ⟨A1, S1, U1⟩ := hA
  rw [w_pianolaref15_Bus_gather]
  simp (maxSteps := 1000000) (disch := first | assumption | ((try simp only [push_next, put_next, adv_next, List.length_cons, List.length_nil, List.length_map, List.length_set]); omega) | simp) [g]
  generalize h.put (x + 4) (some (.cells false _)) = h1 at *
  refine G_loop (fun n e h2 => ∃ d : Int, n = (6 - d).toNat ∧ 1 ≤ d ∧ d ≤ 6 ∧ e 0 = ptr (x + 4) 0 ∧ e 2 = .int .i64 d ∧ Upd h h2 (RL x fr fo) (RL x fr fo) ∧ RW h2 x fr fo { X with r := X.zr d }) ?_ 5 _ _ ⟨1, rfl, by omega, by omega, by simp, by simp, U1, A1⟩
  rintro n ih e h2 ⟨d, rfl, d1, d6, e0, e2, U2, A2⟩
  obtain ⟨wL, wi, wo, wu, S2⟩ := A2.bs
  have g2 := S2.g
  have hl2 := A2.lt
  simp only [rcl, rrest] at g2
  have step : ∀ (dd : Int) (mm r' : BitVec 32), d = dd → 1 ≤ dd → dd ≤ 5 → X.zr (dd + 1) = (if X.line dd then X.zr dd ||| mm else X.zr dd) → True := fun _ _ _ _ _ _ _ => trivial
  by_cases h6 : d = 6
  · subst h6
    have hz : X.zr 6 = X.zup := zup_step ..
    rw [hz] at A2
    simp (maxSteps := 1000000) (disch := first | assumption | ((try simp only [push_next, put_next, adv_next, List.length_cons, List.length_nil, List.length_map, List.length_set]); omega) | simp) [e2]
    exact hq _ A2 U2
  · have hle : d < 6 := by omega
    have hln := fun q => zline (q := q) (d := d) A2 (by omega)
    have hb : BS.line { X with r := X.zr d } d = X.line d := rfl
    rw [hb] at hln
    cases hx : X.line d with
    | false =>
      rw [hx] at hln
      have hn : X.zr (d + 1) = X.zr d := by
        rcases (by omega : d = 1 ∨ d = 2 ∨ d = 3 ∨ d = 4 ∨ d = 5) with rfl | rfl | rfl | rfl | rfl <;> simp [BS.zr, hx]
      simp (maxSteps := 1000000) (disch := first | assumption | ((try simp only [push_next, put_next, adv_next, List.length_cons, List.length_nil, List.length_map, List.length_set]); omega) | simp) [e0, e2, hle, GC_of hln]
      exact ih (6 - (d + 1)).toNat (by omega) _ _ ⟨d + 1, rfl, by omega, by omega, by simp [e0], by simp, U2, by rw [hn]; exact A2⟩
    | true =>
      rw [hx] at hln
      have hA := A2.setr S2 (r := X.zr (d + 1)) rfl
      simp only [rcl, rrest] at hA
      obtain ⟨A3, S3, U3⟩ := hA
      rcases (by omega : d = 1 ∨ d = 2 ∨ d = 3 ∨ d = 4 ∨ d = 5) with rfl | rfl | rfl | rfl | rfl
      · have hn : X.zr (1 + 1) = X.zr 1 ||| 2#32 := by simp [BS.zr, hx]
        rw [hn] at A3 U3
        simp (maxSteps := 1000000) (disch := first | assumption | ((try simp only [push_next, put_next, adv_next, List.length_cons, List.length_nil, List.length_map, List.length_set]); omega) | simp) [e0, e2, GC_of hln, g2]
        exact ih (6 - (1 + 1) : Int).toNat (by omega) _ _ ⟨1 + 1, rfl, by omega, by omega, by simp [e0], by simp, U2.trans U3, by rw [hn]; exact A3⟩
      · have hn : X.zr (2 + 1) = X.zr 2 ||| 4#32 := by simp [BS.zr, hx]
        rw [hn] at A3 U3
        simp (maxSteps := 1000000) (disch := first | assumption | ((try simp only [push_next, put_next, adv_next, List.length_cons, List.length_nil, List.length_map, List.length_set]); omega) | simp) [e0, e2, GC_of hln, g2]
        exact ih (6 - (2 + 1) : Int).toNat (by omega) _ _ ⟨2 + 1, rfl, by omega, by omega, by simp [e0], by simp, U2.trans U3, by rw [hn]; exact A3⟩
      · have hn : X.zr (3 + 1) = X.zr 3 ||| 8#32 := by simp [BS.zr, hx]
        rw [hn] at A3 U3
        simp (maxSteps := 1000000) (disch := first | assumption | ((try simp only [push_next, put_next, adv_next, List.length_cons, List.length_nil, List.length_map, List.length_set]); omega) | simp) [e0, e2, GC_of hln, g2]
        exact ih (6 - (3 + 1) : Int).toNat (by omega) _ _ ⟨3 + 1, rfl, by omega, by omega, by simp [e0], by simp, U2.trans U3, by rw [hn]; exact A3⟩
      · have hn : X.zr (4 + 1) = X.zr 4 ||| 16#32 := by simp [BS.zr, hx]
        rw [hn] at A3 U3
        simp (maxSteps := 1000000) (disch := first | assumption | ((try simp only [push_next, put_next, adv_next, List.length_cons, List.length_nil, List.length_map, List.length_set]); omega) | simp) [e0, e2, GC_of hln, g2]
        exact ih (6 - (4 + 1) : Int).toNat (by omega) _ _ ⟨4 + 1, rfl, by omega, by omega, by simp [e0], by simp, U2.trans U3, by rw [hn]; exact A3⟩
      · have hn : X.zr (5 + 1) = X.zr 5 ||| 32#32 := by simp [BS.zr, hx]
        rw [hn] at A3 U3
        simp (maxSteps := 1000000) (disch := first | assumption | ((try simp only [push_next, put_next, adv_next, List.length_cons, List.length_nil, List.length_map, List.length_set]); omega) | simp) [e0, e2, GC_of hln, g2]
        exact ih (6 - (5 + 1) : Int).toNat (by omega) _ _ ⟨5 + 1, rfl, by omega, by omega, by simp [e0], by simp, U2.trans U3, by rw [hn]; exact A3⟩
theorem zraised (A : RW h x fr fo X) : WC T n_pianolaref15_Bus_Raised [ptr (x + 4) 0] h q ↔ q (.bool (X.r &&& X.m != 0#32)) h := by
  obtain ⟨vL, vi, vo, vu, S⟩ := A.bs
  have g := S.g
  simp only [rcl, rrest] at g
  rw [w_pianolaref15_Bus_Raised]
  simp (maxSteps := 1000000) (disch := first | assumption | ((try simp only [push_next, put_next, adv_next, List.length_cons, List.length_nil, List.length_map, List.length_set]); omega) | simp) [g]
theorem znext (A : RW h x fr fo X) : WC T n_pianolaref15_Bus_Next [ptr (x + 4) 0] h q ↔ q (.tuple #[.int .i64 (X.S.L.head?.elim 0 (·.at')), .bool (!X.S.L.isEmpty)]) h := by
  obtain ⟨vL, vi, vo, vu, S⟩ := A.bs
  have g := S.g
  simp only [rcl, rrest] at g
  obtain ⟨al, cl, hv, sl, hcl, hbl⟩ := S.sL
  subst hv
  rw [w_pianolaref15_Bus_Next]
  cases hL : X.S.L with
  | nil => simp (maxSteps := 1000000) (disch := first | assumption | ((try simp only [push_next, put_next, adv_next, List.length_cons, List.length_nil, List.length_map, List.length_set]); omega) | simp) [g, hL]
  | cons e E =>
    rw [hL] at sl
    obtain ⟨A0, rfl, hr⟩ := sl.mid (A := [])
    obtain ⟨ro, C, hg, hC⟩ := rdn_cells hr
    have hC0 := hC 0 (by simp)
    simp [encEv] at hC0
    have hnn : ¬ ((E.length : Int) + 1 = 0) := by omega
    simp (maxSteps := 1000000) (disch := first | assumption | ((try simp only [push_next, put_next, adv_next, List.length_cons, List.length_nil, List.length_map, List.length_set]); omega) | simp) [g, hL, hg, hC0, hnn]
theorem zwhere {n : Int} (h1 : bwin a n = true → q (.tuple #[.int .i64 (bwd a), u32 (bwo a), .bool true]) h) (h0 : bwin a n = false → ∀ d k, q (.tuple #[d, k, .bool false]) h) : WC T n_pianolaref15_where [u32 a, .int .i64 n] h q := by
  have ha := a.isLt
  rw [w_pianolaref15_where]
  by_cases c1 : n = 4
  · subst c1
    by_cases c2 : a < 520093696#32
    · simp (maxSteps := 1000000) (disch := first | assumption | ((try simp only [push_next, put_next, adv_next, List.length_cons, List.length_nil, List.length_map, List.length_set]); omega) | simp) [c2]
      exact h0 (by simp [bwin, c2]) _ _
    · have c2n : 520093696 ≤ a.toNat := by
        rw [BitVec.lt_def] at c2
        simp at c2
        exact c2
      have hsub : (a - 520093696#32).toNat = a.toNat - 520093696 := by
        rw [BitVec.toNat_sub]
        simp
        omega
      have hiff : 520094080#32 ≤ a ↔ ¬ (a - 520093696#32) / 64#32 ≤ 5#32 := by
        rw [BitVec.le_def, BitVec.le_def, BitVec.toNat_udiv, hsub]
        simp
        omega
      by_cases c4 : (a - 520093696#32) / 64#32 ≤ 5#32
      · have c5 : ¬ 520094080#32 ≤ a := fun h => hiff.1 h c4
        by_cases c3 : a % 4#32 = 0#32
        · have hw : IntKind.i64.wrap (((a - 520093696#32) / 64#32).toNat : Int) = ((a - 520093696#32) / 64#32).toNat := by
            have := ((a - 520093696#32) / 64#32).isLt
            exact wrap_i64 (by omega) (by omega)
          have := h1 (by simp [bwin, c2, c3, c4])
          unfold bwd bwo at this
          simp (maxSteps := 1000000) (disch := first | assumption | ((try simp only [push_next, put_next, adv_next, List.length_cons, List.length_nil, List.length_map, List.length_set]); omega) | simp) [c2, c3, c5, hw]
          exact this
        · simp (maxSteps := 1000000) (disch := first | assumption | ((try simp only [push_next, put_next, adv_next, List.length_cons, List.length_nil, List.length_map, List.length_set]); omega) | simp) [c2, c3, c5]
          exact h0 (by simp [bwin, c3]) _ _
      · have c5 : 520094080#32 ≤ a := hiff.2 c4
        simp (maxSteps := 1000000) (disch := first | assumption | ((try simp only [push_next, put_next, adv_next, List.length_cons, List.length_nil, List.length_map, List.length_set]); omega) | simp) [c2, c5]
        exact h0 (by simp [bwin, c4]) _ _
  · simp (maxSteps := 1000000) (disch := first | assumption | ((try simp only [push_next, put_next, adv_next, List.length_cons, List.length_nil, List.length_map, List.length_set]); omega) | simp) [c1]
    exact h0 (by simp [bwin, c1]) _ _
theorem bw_lt {n : Int} (h : bwin a n = true) : 0 ≤ bwd a ∧ bwd a ≤ 5 ∧ (bwo a).toNat < 64 := by
  simp only [bwin, decide_eq_true_eq] at h
  obtain ⟨_, _, _, h4⟩ := h
  rw [BitVec.le_def] at h4
  refine ⟨by unfold bwd; omega, ?_, ?_⟩
  · unfold bwd
    simp at h4 ⊢
    omega
  · unfold bwo
    rw [BitVec.toNat_umod]
    exact Nat.mod_lt _ (by decide)
theorem BS.rds_r {X : BS} {d : Int} {a : BitVec 32} : (X.rds d a).r = X.r := by unfold BS.rds; split <;> rfl
theorem BS.wr_r {X : BS} {d : Int} {a v : BitVec 32} {now : Int} : (X.wr d a v now).r = X.r := by
  unfold BS.wr
  split
  · split <;> rfl
  · repeat (split; · rfl)
    rfl
theorem R5.gath (h : R5 X.r) : R5 X.gath.r := by
  show R5 X.up
  rw [BS.up_zup h]
  exact ⟨_, _, _, _, _, rfl⟩
theorem gath_zup (h : R5 X.r) : { X with r := X.zup } = X.gath := by
  unfold BS.gath
  rw [BS.up_zup h]
theorem zLoad {n : Int} (A : RW h x fr fo X) (hr5 : R5 X.r) (hn : 0 ≤ now ∧ now ≤ 2 ^ 60) (hq : ∀ h' fr', RW h' x fr' fo (X.lds a n) → Upd h h' (RL x fr fo) (RL x fr' fo) → q (.tuple #[u32 (X.ld a n now), .bool (X.ok a n)]) h') : WC T n_pianolaref15_Bus_Load [ptr (x + 4) 0, u32 a, .int .i64 n, .int .i64 now] h q := by
  obtain ⟨vL, vi, vo, vu, S⟩ := A.bs
  have g := S.g
  have hl := A.lt
  simp only [rcl, rrest] at g
  have hr := A.ra.r
  have hsz := A.ra.sz
  have hml := A.ra.ml
  have hc := lt_size (a := a) (n := X.B.length) (by omega)
  have hof : BitVec.ofInt 32 (X.B.length : Int) = BitVec.ofNat 32 X.B.length := by simp
  rw [w_pianolaref15_Bus_Load]
  by_cases c1 : a.toNat < X.B.length
  · have := hq h fr (A.cast (by simp [BS.lds, c1])) .refl
    simp (maxSteps := 1000000) (disch := first | assumption | ((try simp only [push_next, put_next, adv_next, List.length_cons, List.length_nil, List.length_map, List.length_set]); omega) | simp) [g, hr, hof, hc, c1, GC_of (fun q => zload (q := q) (a := a) (n := n) A.ra)]
    simpa [BS.ld, BS.ok, c1] using this
  · simp (maxSteps := 1000000) (disch := first | assumption | ((try simp only [push_next, put_next, adv_next, List.length_cons, List.length_nil, List.length_map, List.length_set]); omega) | simp) [g, hr, hof, hc, c1]
    refine zwhere (fun hw => ?_) fun hw d k => ?_
    · obtain ⟨w1, w2, w3⟩ := bw_lt hw
      simp (maxSteps := 1000000) (disch := first | assumption | ((try simp only [push_next, put_next, adv_next, List.length_cons, List.length_nil, List.length_map, List.length_set]); omega) | simp)
      refine zword A ⟨w1, w2⟩ hn fun h1 fr1 A1 U1 => ?_
      simp (maxSteps := 1000000) (disch := first | assumption | ((try simp only [push_next, put_next, adv_next, List.length_cons, List.length_nil, List.length_map, List.length_set]); omega) | simp)
      refine zgather A1 fun h2 A2 U2 => ?_
      have := hq h2 fr1 (A2.cast (by rw [gath_zup (by rw [BS.rds_r]; exact hr5)]; simp [BS.lds, c1, hw])) (U1.trans U2)
      simp (maxSteps := 1000000) (disch := first | assumption | ((try simp only [push_next, put_next, adv_next, List.length_cons, List.length_nil, List.length_map, List.length_set]); omega) | simp)
      simpa [BS.ld, BS.ok, c1, hw] using this
    · have := hq h fr (A.cast (by simp [BS.lds, c1, hw])) .refl
      simp (maxSteps := 1000000) (disch := first | assumption | ((try simp only [push_next, put_next, adv_next, List.length_cons, List.length_nil, List.length_map, List.length_set]); omega) | simp)
      simpa [BS.ld, BS.ok, c1, hw] using this
theorem zStore {n : Int} (A : RW h x fr fo X) (hr5 : R5 X.r) (hn : 0 ≤ now ∧ now ≤ 2 ^ 60) (hq : ∀ h' fr', RW h' x fr' fo (X.st a n v now) → Upd h h' (RL x fr fo) (RL x fr' fo) → q (.bool (X.ok a n)) h') : WC T n_pianolaref15_Bus_Store [ptr (x + 4) 0, u32 a, .int .i64 n, u32 v, .int .i64 now] h q := by
  obtain ⟨vL, vi, vo, vu, S⟩ := A.bs
  have g := S.g
  have hl := A.lt
  simp only [rcl, rrest] at g
  have hr := A.ra.r
  have hsz := A.ra.sz
  have hml := A.ra.ml
  have hc := lt_size (a := a) (n := X.B.length) (by omega)
  have hof : BitVec.ofInt 32 (X.B.length : Int) = BitVec.ofNat 32 X.B.length := by simp
  rw [w_pianolaref15_Bus_Store]
  by_cases c1 : a.toNat < X.B.length
  · simp (maxSteps := 1000000) (disch := first | assumption | ((try simp only [push_next, put_next, adv_next, List.length_cons, List.length_nil, List.length_map, List.length_set]); omega) | simp) [g, hr, hof, hc, c1]
    refine zstore A.ra (fun he => ?_) fun he h1 R1 U1 => ?_
    · have := hq h fr (A.cast (by simp [BS.st, c1, he])) .refl
      simp (maxSteps := 1000000) (disch := first | assumption | ((try simp only [push_next, put_next, adv_next, List.length_cons, List.length_nil, List.length_map, List.length_set]); omega) | simp)
      simpa [BS.ok, c1, he] using this
    · obtain ⟨k1, k2⟩ := A.mem R1 U1
      have := hq h1 fr (k1.cast (by simp [BS.st, c1, he])) k2
      simp (maxSteps := 1000000) (disch := first | assumption | ((try simp only [push_next, put_next, adv_next, List.length_cons, List.length_nil, List.length_map, List.length_set]); omega) | simp)
      simpa [BS.ok, c1, he] using this
  · simp (maxSteps := 1000000) (disch := first | assumption | ((try simp only [push_next, put_next, adv_next, List.length_cons, List.length_nil, List.length_map, List.length_set]); omega) | simp) [g, hr, hof, hc, c1]
    refine zwhere (fun hw => ?_) fun hw d k => ?_
    · obtain ⟨w1, w2, w3⟩ := bw_lt hw
      simp (maxSteps := 1000000) (disch := first | assumption | ((try simp only [push_next, put_next, adv_next, List.length_cons, List.length_nil, List.length_map, List.length_set]); omega) | simp)
      refine zset A ⟨w1, w2⟩ w3 hn fun h1 fr1 A1 U1 => ?_
      simp (maxSteps := 1000000) (disch := first | assumption | ((try simp only [push_next, put_next, adv_next, List.length_cons, List.length_nil, List.length_map, List.length_set]); omega) | simp)
      refine zgather A1 fun h2 A2 U2 => ?_
      have := hq h2 fr1 (A2.cast (by rw [gath_zup (by rw [BS.wr_r]; exact hr5)]; simp [BS.st, c1, hw])) (U1.trans U2)
      simp (maxSteps := 1000000) (disch := first | assumption | ((try simp only [push_next, put_next, adv_next, List.length_cons, List.length_nil, List.length_map, List.length_set]); omega) | simp)
      simpa [BS.ok, c1, hw] using this
    · have := hq h fr (A.cast (by simp [BS.st, c1, hw])) .refl
      simp (maxSteps := 1000000) (disch := first | assumption | ((try simp only [push_next, put_next, adv_next, List.length_cons, List.length_nil, List.length_map, List.length_set]); omega) | simp)
      simpa [BS.ok, c1, hw] using this
end
end Go.Proofs.YtpdfdemoflofhaaGreat.Cd

/- The document's bus: all that is due; bytes that come. -/
set_option maxRecDepth 1000000
set_option maxHeartbeats 8000000
set_option linter.unusedSimpArgs false
set_option linter.unusedVariables false
namespace Go.Proofs.YtpdfdemoflofhaaGreat.Cd
open Go Go.Dx
section
variable {h h' : Hp} {q : Value → Hp → Prop} {L : BL} {x : Nat} {fp fr fo nw fo' : List Nat} {X X' : BS} {now d t : Int} {a v : BitVec 32} {b : BitVec 8} {vL vi vo vu vi' vo' vu' : Value}
theorem BS.fire_r {X : BS} {d t : Int} : (X.fire d t).r = X.r := by
  unfold BS.fire
  repeat (split; · rfl)
  rfl
theorem due_r : ∀ (k : Nat) (X : BS), (X.due k now).2.r = X.r := by
  intro k
  induction k with
  | zero => intro X; rfl
  | succ k ih =>
    intro X
    unfold BS.due
    split
    · rfl
    · split
      · simp only
        rw [ih, BS.fire_r]
      · rfl
theorem zFire (A : RW h x fr fo X) (hr5 : R5 X.r) (hn : now ≤ 2 ^ 60) (hq : ∀ h' fr' fo', RW h' x fr' fo' (X.due 256 now).2.gath → Upd h h' (RL x fr fo) (RL x fr' fo') → q (.int .i64 (X.due 256 now).1) h') :
    WC T n_pianolaref15_Bus_Fire [ptr (x + 4) 0, .int .i64 now] h q := by
  have hrD : R5 (X.due 256 now).2.r := by rw [due_r]; exact hr5
  rw [w_pianolaref15_Bus_Fire]
  simp (maxSteps := 1000000) (disch := first | assumption | ((try simp only [push_next, put_next, adv_next, List.length_cons, List.length_nil, List.length_map, List.length_set]); omega) | simp)
  refine G_loop (fun k e h1 => ∃ (n : Nat) (Y : BS) (fr1 fo1 : List Nat), n + k = 256 ∧ e 0 = ptr (x + 4) 0 ∧ e 1 = .int .i64 now ∧ e 5 = .int .i64 n ∧ RW h1 x fr1 fo1 Y ∧ Upd h h1 (RL x fr fo) (RL x fr1 fo1) ∧ X.due 256 now = (n + (Y.due k now).1, (Y.due k now).2)) ?_ 256 _ _ ⟨0, X, fr, fo, rfl, by simp, by simp, by simp, A, .refl, by simp⟩
  rintro k ih e h1 ⟨n, Y, fr1, fo1, hk, e0, e1, e5, A1, U1, hD⟩
  generalize X.due 256 now = D at *
  cases k with
  | zero =>
    have : n = 256 := by omega
    subst this
    simp only [BS.due, Nat.add_zero] at hD
    subst hD
    simp (maxSteps := 1000000) (disch := first | assumption | ((try simp only [push_next, put_next, adv_next, List.length_cons, List.length_nil, List.length_map, List.length_set]); omega) | simp) [e5, e0]
    refine zgather A1 fun h2 A2 U2 => ?_
    simp (maxSteps := 1000000) (disch := first | assumption | ((try simp only [push_next, put_next, adv_next, List.length_cons, List.length_nil, List.length_map, List.length_set]); omega) | simp) [e5]
    exact hq h2 fr1 fo1 (A2.cast (gath_zup hrD)) (U1.trans U2)
  | succ k =>
    have hlt : (n : Int) < 256 := by omega
    simp (maxSteps := 1000000) (disch := first | assumption | ((try simp only [push_next, put_next, adv_next, List.length_cons, List.length_nil, List.length_map, List.length_set]); omega) | simp) [e0, e1, e5, hlt]
    refine A1.take (fun hno h2 K2 => ?_) fun ev E hL hx h2 nw A2 U2' => ?_
    · have hd : Y.due (k + 1) now = (0, Y) := by
        unfold BS.due
        cases hY : Y.S.L with
        | nil => rfl
        | cons x E =>
          have := hno x (by simp [hY])
          simp only
          rw [if_neg (by omega)]
      rw [hd] at hD
      simp only [Nat.add_zero] at hD
      subst hD
      simp (maxSteps := 1000000) (disch := first | assumption | ((try simp only [push_next, put_next, adv_next, List.length_cons, List.length_nil, List.length_map, List.length_set]); omega) | simp) [e0, e1, e5]
      have K3 : Kp h1 (h2.push (.cells false [.int .i64 0, .int .i64 0, .int .i64 0])) := K2.push _
      refine zgather (A1.kp K3) fun h3 A3 U3 => ?_
      simp (maxSteps := 1000000) (disch := first | assumption | ((try simp only [push_next, put_next, adv_next, List.length_cons, List.length_nil, List.length_map, List.length_set]); omega) | simp) [e5]
      exact hq h3 fr1 fo1 (A3.cast (gath_zup hrD)) (U1.trans (.kp1 K3 U3))
    · have pos : 0 ≤ ev.at' := A1.wi.pos ev (by rw [hL]; simp)
      have K3 : Kp h2 (h2.push (.cells false [.int .i64 ev.at', .int .i64 ev.dev, .int .i64 ev.seq])) := (Kp.refl h2).push _
      have hd : Y.due (k + 1) now = ((BS.due k (BS.fire { Y with S := ⟨E, Y.S.n⟩ } ev.dev ev.at') now).1 + 1, (BS.due k (BS.fire { Y with S := ⟨E, Y.S.n⟩ } ev.dev ev.at') now).2) := by
        conv => lhs; unfold BS.due
        rw [hL]
        simp only
        rw [if_pos hx]
      rw [hd] at hD
      simp (maxSteps := 1000000) (disch := first | assumption | ((try simp only [push_next, put_next, adv_next, List.length_cons, List.length_nil, List.length_map, List.length_set]); omega) | simp) [Hp.rdn]
      simp (maxSteps := 1000000) (disch := first | assumption | ((try simp only [push_next, put_next, adv_next, List.length_cons, List.length_nil, List.length_map, List.length_set]); omega) | simp) [e0, e1, e5]
      refine zb (A2.kp K3) ⟨pos, by omega⟩ fun h4 fr4 fo4 A4 U4 => ?_
      have hn1 : IntKind.i64.wrap ((n : Int) + 1) = ((n + 1 : Nat) : Int) := by
        rw [wrap_i64 (by omega) (by omega)]
        rfl
      simp (maxSteps := 1000000) (disch := first | assumption | ((try simp only [push_next, put_next, adv_next, List.length_cons, List.length_nil, List.length_map, List.length_set]); omega) | simp) [e0, e1, e5]
      refine ih k (by omega) _ _ ⟨n + 1, _, fr4, fo4, by omega, by simp [e0], by simp [e1], by simp, A4, (U1.trans U2').trans (.kp1 K3 U4), ?_⟩
      rw [hD]
      congr 1
      omega
theorem bout (A : BW h L fp fo X) (hq : ∀ a c h', Sees encB h' a X.U.out → Kp h h' → q (.slice a X.U.out.length c) h') : WC T n_bus_Bus_Out [ptr L.b 0] h q := by
  have g := A.bs
  rw [w_bus_Bus_Out]
  simp (maxSteps := 1000000) (disch := first | assumption | ((try simp only [push_next, put_next, adv_next, List.length_cons, List.length_nil, List.length_map, List.length_set]); omega) | simp) [g]
  refine uout A.ua fun a c h1 S1 K1 => ?_
  simp (maxSteps := 1000000) (disch := first | assumption | ((try simp only [push_next, put_next, adv_next, List.length_cons, List.length_nil, List.length_map, List.length_set]); omega) | simp)
  exact hq a c h1 S1 K1
theorem bdisk (A : BW h L fp fo X) (hq : ∀ a c h', Sees encB h' a X.E → Kp h h' → q (.slice a X.E.length c) h') : WC T n_bus_Bus_Disk [ptr L.b 0] h q := by
  have g := A.bs
  rw [w_bus_Bus_Disk]
  simp (maxSteps := 1000000) (disch := first | assumption | ((try simp only [push_next, put_next, adv_next, List.length_cons, List.length_nil, List.length_map, List.length_set]); omega) | simp) [g]
  refine kbytes A.dk fun a c h1 S1 K1 => ?_
  simp (maxSteps := 1000000) (disch := first | assumption | ((try simp only [push_next, put_next, adv_next, List.length_cons, List.length_nil, List.length_map, List.length_set]); omega) | simp)
  exact hq a c h1 S1 K1
theorem bevents (A : BW h L fp fo X) (hq : ∀ a c h', Sees encEv h' a X.S.L → Kp h h' → q (.slice a X.S.L.length c) h') : WC T n_bus_Bus_Events [ptr L.b 0] h q := by
  have g := A.bs
  have hlen := A.wh.wi.len
  rw [w_bus_Bus_Events]
  simp (maxSteps := 1000000) (disch := first | assumption | ((try simp only [push_next, put_next, adv_next, List.length_cons, List.length_nil, List.length_map, List.length_set]); omega) | simp) [g]
  refine wall A.wh.wh (by omega) fun a c h1 S1 K1 => ?_
  simp (maxSteps := 1000000) (disch := first | assumption | ((try simp only [push_next, put_next, adv_next, List.length_cons, List.length_nil, List.length_map, List.length_set]); omega) | simp)
  exact hq a c h1 S1 K1
end
end Go.Proofs.YtpdfdemoflofhaaGreat.Cd

/- BusTimes: two timers that go off again and again. -/
set_option maxRecDepth 1000000
set_option maxHeartbeats 2000000
set_option linter.unusedSimpArgs false
set_option linter.unusedVariables false
namespace Go.Proofs.YtpdfdemoflofhaaGreat.Cd
open Go Go.Dx
/-- Has it gone off? -/
def gon (m : Int) : BitVec 32 := if m = 0 then 0#32 else 1#32
/-- Two timers: how often each went off. -/
structure Two (X : BS) (x y : BitVec 32) (m1 m2 : Int) : Prop where
  t1 : X.T1 = ⟨3#32, x, gon m1⟩
  t2 : X.T2 = ⟨3#32, y, gon m2⟩
  ev : ∃ n1 n2, (X.S.L = [⟨(m1 + 1) * x.toNat, 1, n1⟩, ⟨(m2 + 1) * y.toNat, 2, n2⟩] ∧ (m1 + 1) * x.toNat ≤ (m2 + 1) * y.toNat) ∨ (X.S.L = [⟨(m2 + 1) * y.toNat, 2, n2⟩, ⟨(m1 + 1) * x.toNat, 1, n1⟩] ∧ (m2 + 1) * y.toNat ≤ (m1 + 1) * x.toNat)
  u : X.U.ctl = 0#32
  d : X.D.s = 0#32
  k : X.K.s = 0#32
theorem insl_one {a b : Ev} : insl (·.at') a [b] = if a.at' < b.at' then [a, b] else [b, a] := by
  have := insl_nil (key := fun e : Ev => e.at') a
  by_cases h : a.at' < b.at'
  · rw [if_pos h]
    have := insl_lt (key := fun e : Ev => e.at') (x := a) (y := b) [] h
    simpa using this
  · rw [if_neg h]
    have := insl_le (key := fun e : Ev => e.at') (x := a) (y := b) [] h
    simpa using this
theorem tper_of {x : BitVec 32} (h : 2 ≤ x.toNat) : tper x = x.toNat := by
  unfold tper
  rw [if_pos (by rw [BitVec.lt_def]; simp; omega)]
section
variable {X : BS} {x y : BitVec 32} {m1 m2 : Int}
theorem Two.one (A : Two X x y m1 m2) (hx : 2 ≤ x.toNat) (h1 : 0 ≤ m1) (h2 : 0 ≤ m2) {n1 n2 n : Int} (hL : X.S.L = [⟨(m1 + 1) * x.toNat, 1, n1⟩, ⟨(m2 + 1) * y.toNat, 2, n2⟩]) :
    Two (BS.fire { X with S := ⟨[⟨(m2 + 1) * y.toNat, 2, n2⟩], n⟩ } 1 ((m1 + 1) * x.toNat)) x y (m1 + 1) m2 := by
  have e1 : (m1 + 1) * (x.toNat : Int) + x.toNat = (m1 + 1 + 1) * x.toNat := by rw [Int.add_mul (m1 + 1)]; omega
  have p1 : 0 ≤ (m1 + 1 + 1) * (x.toNat : Int) := Int.mul_nonneg (by omega) (by omega)
  have g : gon (m1 + 1) = 1#32 := by unfold gon; rw [if_neg (by omega)]
  have hS : (TmS.firew X.T1 ⟨[⟨(m2 + 1) * y.toNat, 2, n2⟩], n⟩ 1 ((m1 + 1) * x.toNat)).L = if (m1 + 1 + 1) * (x.toNat : Int) < (m2 + 1) * y.toNat then [⟨(m1 + 1 + 1) * x.toNat, 1, n⟩, ⟨(m2 + 1) * y.toNat, 2, n2⟩] else [⟨(m2 + 1) * y.toNat, 2, n2⟩, ⟨(m1 + 1 + 1) * x.toNat, 1, n⟩] := by
    rw [A.t1]
    simp only [TmS.firew, show (3#32 &&& 2#32 = 0#32) = False by decide, if_false, tper_of hx, e1, WhS.arm]
    rw [if_neg (by simp only [wbad, Bool.or_eq_true, decide_eq_true_eq]; omega)]
    simp only [wcan, List.eraseP, show decide ((2 : Int) = 1) = false from rfl]
    exact insl_one
  refine ⟨?_, A.t2, ⟨n, n2, ?_⟩, A.u, A.d, A.k⟩
  · simp [BS.fire, A.t1, TmS.fire, g]
  · by_cases c : (m1 + 1 + 1) * (x.toNat : Int) < (m2 + 1) * y.toNat
    · rw [if_pos c] at hS
      exact .inl ⟨by simpa [BS.fire] using hS, by omega⟩
    · rw [if_neg c] at hS
      exact .inr ⟨by simpa [BS.fire] using hS, by omega⟩
theorem Two.two (A : Two X x y m1 m2) (hy : 2 ≤ y.toNat) (h1 : 0 ≤ m1) (h2 : 0 ≤ m2) {n1 n2 n : Int} (hL : X.S.L = [⟨(m2 + 1) * y.toNat, 2, n2⟩, ⟨(m1 + 1) * x.toNat, 1, n1⟩]) :
    Two (BS.fire { X with S := ⟨[⟨(m1 + 1) * x.toNat, 1, n1⟩], n⟩ } 2 ((m2 + 1) * y.toNat)) x y m1 (m2 + 1) := by
  have e1 : (m2 + 1) * (y.toNat : Int) + y.toNat = (m2 + 1 + 1) * y.toNat := by rw [Int.add_mul (m2 + 1)]; omega
  have p1 : 0 ≤ (m2 + 1 + 1) * (y.toNat : Int) := Int.mul_nonneg (by omega) (by omega)
  have g : gon (m2 + 1) = 1#32 := by unfold gon; rw [if_neg (by omega)]
  have hS : (TmS.firew X.T2 ⟨[⟨(m1 + 1) * x.toNat, 1, n1⟩], n⟩ 2 ((m2 + 1) * y.toNat)).L = if (m2 + 1 + 1) * (y.toNat : Int) < (m1 + 1) * x.toNat then [⟨(m2 + 1 + 1) * y.toNat, 2, n⟩, ⟨(m1 + 1) * x.toNat, 1, n1⟩] else [⟨(m1 + 1) * x.toNat, 1, n1⟩, ⟨(m2 + 1 + 1) * y.toNat, 2, n⟩] := by
    rw [A.t2]
    simp only [TmS.firew, show (3#32 &&& 2#32 = 0#32) = False by decide, if_false, tper_of hy, e1, WhS.arm]
    rw [if_neg (by simp only [wbad, Bool.or_eq_true, decide_eq_true_eq]; omega)]
    simp only [wcan, List.eraseP, show decide ((1 : Int) = 2) = false from rfl]
    exact insl_one
  refine ⟨A.t1, ?_, ⟨n1, n, ?_⟩, A.u, A.d, A.k⟩
  · simp [BS.fire, A.t2, TmS.fire, g]
  · by_cases c : (m2 + 1 + 1) * (y.toNat : Int) < (m1 + 1) * x.toNat
    · rw [if_pos c] at hS
      exact .inr ⟨by simpa [BS.fire] using hS, by omega⟩
    · rw [if_neg c] at hS
      exact .inl ⟨by simpa [BS.fire] using hS, by omega⟩
theorem due_cons {k : Nat} {now : Int} {e : Ev} {E : List Ev} (hL : X.S.L = e :: E) (ht : e.at' ≤ now) : X.due (k + 1) now = ((BS.due k (BS.fire { X with S := ⟨E, X.S.n⟩ } e.dev e.at') now).1 + 1, (BS.due k (BS.fire { X with S := ⟨E, X.S.n⟩ } e.dev e.at') now).2) := by
  conv => lhs; unfold BS.due
  rw [hL]
  simp only
  rw [if_pos ht]
theorem due_stop {k : Nat} {now : Int} {e : Ev} {E : List Ev} (hL : X.S.L = e :: E) (ht : ¬ e.at' ≤ now) : X.due k now = (0, X) := by
  cases k with
  | zero => rfl
  | succ k =>
    unfold BS.due
    rw [hL]
    simp only
    rw [if_neg ht]
theorem fire_keep {X : BS} {d t : Int} (hd : d = 1 ∨ d = 2) : (X.fire d t).m = X.m ∧ (X.fire d t).r = X.r := by
  rcases hd with rfl | rfl <;> simp [BS.fire]
theorem Two.due {now : Int} (hx : 2 ≤ x.toNat) (hy : 2 ≤ y.toNat) : ∀ (k : Nat) (X : BS) (m1 m2 : Int), Two X x y m1 m2 → 0 ≤ m1 → 0 ≤ m2 → m1 ≤ now / x.toNat → m2 ≤ now / y.toNat → (now / x.toNat - m1) + (now / y.toNat - m2) ≤ k →
    (((X.due k now).1 : Nat) : Int) = now / x.toNat - m1 + (now / y.toNat - m2) ∧ Two (X.due k now).2 x y (now / x.toNat) (now / y.toNat) ∧ (X.due k now).2.m = X.m ∧ (X.due k now).2.r = X.r := by
  intro k
  have le1 : ∀ m : Int, (m + 1) * x.toNat ≤ now ↔ m + 1 ≤ now / x.toNat := fun m => (Int.le_ediv_iff_mul_le (by omega)).symm
  have le2 : ∀ m : Int, (m + 1) * y.toNat ≤ now ↔ m + 1 ≤ now / y.toNat := fun m => (Int.le_ediv_iff_mul_le (by omega)).symm
  induction k with
  | zero =>
    intro X m1 m2 A p1 p2 l1 l2 hk
    have : now / x.toNat = m1 := by omega
    have : now / y.toNat = m2 := by omega
    simp only [BS.due]
    refine ⟨by omega, ?_, by simp, by simp⟩
    rw [‹now / x.toNat = m1›, ‹now / y.toNat = m2›]
    exact A
  | succ k ih =>
    intro X m1 m2 A p1 p2 l1 l2 hk
    have stop : ∀ e E, X.S.L = e :: E → ¬ e.at' ≤ now → now / x.toNat = m1 → now / y.toNat = m2 → (((X.due (k + 1) now).1 : Nat) : Int) = now / x.toNat - m1 + (now / y.toNat - m2) ∧ Two (X.due (k + 1) now).2 x y (now / x.toNat) (now / y.toNat) ∧ (X.due (k + 1) now).2.m = X.m ∧ (X.due (k + 1) now).2.r = X.r := fun e E hL hn e1 e2 => by
      rw [due_stop hL hn, e1, e2]
      exact ⟨by simp, A, rfl, rfl⟩
    obtain ⟨n1, n2, ⟨hL, hle⟩ | ⟨hL, hle⟩⟩ := A.ev
    · by_cases c : (m1 + 1) * (x.toNat : Int) ≤ now
      · rw [due_cons hL c]
        have A1 := A.one hx p1 p2 (n := X.S.n) hL
        have := (le1 m1).1 c
        obtain ⟨r1, r2, r3, r4⟩ := ih _ _ _ A1 (by omega) p2 this l2 (by omega)
        obtain ⟨f1, f2⟩ := fire_keep (X := { X with S := ⟨[⟨(m2 + 1) * y.toNat, 2, n2⟩], X.S.n⟩ }) (t := (m1 + 1) * x.toNat) (d := 1) (.inl rfl)
        exact ⟨by rw [show ∀ (p : Nat) (z : BS), ((p + 1, z).1 : Nat) = p + 1 from fun _ _ => rfl, Int.natCast_add, r1]; omega, r2, r3.trans f1, r4.trans f2⟩
      · refine stop _ _ hL c ?_ ?_
        · have := mt (le1 m1).2 c; omega
        · have : ¬ (m2 + 1) * (y.toNat : Int) ≤ now := by omega
          have := mt (le2 m2).2 this; omega
    · by_cases c : (m2 + 1) * (y.toNat : Int) ≤ now
      · rw [due_cons hL c]
        have A1 := A.two hy p1 p2 (n := X.S.n) hL
        have := (le2 m2).1 c
        obtain ⟨r1, r2, r3, r4⟩ := ih _ _ _ A1 p1 (by omega) l1 this (by omega)
        obtain ⟨f1, f2⟩ := fire_keep (X := { X with S := ⟨[⟨(m1 + 1) * x.toNat, 1, n1⟩], X.S.n⟩ }) (t := (m2 + 1) * y.toNat) (d := 2) (.inr rfl)
        exact ⟨by rw [show ∀ (p : Nat) (z : BS), ((p + 1, z).1 : Nat) = p + 1 from fun _ _ => rfl, Int.natCast_add, r1]; omega, r2, r3.trans f1, r4.trans f2⟩
      · refine stop _ _ hL c ?_ ?_
        · have : ¬ (m1 + 1) * (x.toNat : Int) ≤ now := by omega
          have := mt (le1 m1).2 this; omega
        · have := mt (le2 m2).2 c; omega
/-- Which lines are up. -/
def bit2 (m1 m2 : Int) : BitVec 32 := (if m1 = 0 then 0#32 else 2#32) ||| (if m2 = 0 then 0#32 else 4#32)
theorem Two.up (A : Two X x y m1 m2) {k1 k2 : Int} (hr : X.r = bit2 k1 k2) : X.up = bit2 m1 m2 := by
  have l1 : X.line 1 = decide (m1 ≠ 0) := by simp only [BS.line, A.t1, gon, if_true]; by_cases h : m1 = 0 <;> simp [h]
  have l2 : X.line 2 = decide (m2 ≠ 0) := by simp only [BS.line, A.t2, gon]; by_cases h : m2 = 0 <;> simp [h]
  have l3 : X.line 3 = false := by simp [BS.line, UaS.line, A.u]
  have l4 : X.line 4 = false := by simp [BS.line, A.d]
  have l5 : X.line 5 = false := by simp [BS.line, A.k]
  rw [BS.up, l1, l2, l3, l4, l5, hr]
  unfold bit2
  by_cases a1 : m1 = 0 <;> by_cases a2 : m2 = 0 <;> by_cases b1 : k1 = 0 <;> by_cases b2 : k2 = 0 <;> simp only [a1, a2, b1, b2, if_true, if_false, ne_eq, not_true_eq_false, not_false_eq_true, decide_true, decide_false] <;> decide
theorem Two.gath (A : Two X x y m1 m2) {k1 k2 : Int} (hr : X.r = bit2 k1 k2) : Two X.gath x y m1 m2 ∧ X.gath.r = bit2 m1 m2 ∧ X.gath.m = X.m :=
  ⟨⟨A.t1, A.t2, A.ev, A.u, A.d, A.k⟩, A.up hr, rfl⟩
end
end Go.Proofs.YtpdfdemoflofhaaGreat.Cd

/- BusTimes: the runs that are told. -/
set_option maxRecDepth 1000000
set_option maxHeartbeats 2000000
set_option linter.unusedSimpArgs false
set_option linter.unusedVariables false
namespace Go.Proofs.YtpdfdemoflofhaaGreat.Cd
open Go Go.Dx
section
variable {h h' g : Hp} {q : Value → Hp → Prop}
theorem BS.lds_B {X : BS} {a : BitVec 32} {n : Int} : (X.lds a n).B = X.B ∧ (X.lds a n).m = X.m := by
  have h1 : ∀ d, (X.rds d a).B = X.B ∧ (X.rds d a).m = X.m := fun d => by unfold BS.rds; split <;> simp
  unfold BS.lds BS.gath BS.rds
  split
  · simp
  · split
    · split <;> simp
    · simp
theorem _root_.Go.Dx.Upd.fresh {h0 h h' : Hp} {p p' : List Nat} (U : Upd h h' p p') (K : Kp h0 h) (hp : ∀ b ∈ p, h0.next ≤ b) : Kp h0 h' ∧ ∀ b ∈ p', h0.next ≤ b := ⟨U.kp' K hp, fun b hb => by
  rcases U.sub b hb with h5 | h5
  · exact hp b h5
  · exact Nat.le_trans K.le h5⟩
theorem BW.fresh {L : BL} {fp fo : List Nat} {X : BS} (A : BW h L fp fo X) (hx : g.next ≤ L.x) : ∀ b ∈ L.fp fp fo, g.next ≤ b := fun b hb => by
  have ho := A.lay
  unfold BL.ok at ho
  rcases List.mem_append.1 hb with hb | hb
  · have := (L.mem A.lay hb).1
    omega
  · rcases List.mem_append.1 hb with hb | hb
    · have := A.gf b hb; omega
    · have := (A.go b hb).1; omega
theorem mk_len (n : Int) (im se : By) : (BS.mk0 n im se).B.length = 1024 * pgs n := by
  simp only [BS.mk0]
  rw [ovB_length (by rw [List.length_take, List.length_replicate]; omega), List.length_replicate]
theorem bknown : WC T n_pianolalaw15_known [] g fun v h' => v = .bool true ∧ Kp g h' := by
  rw [w_pianolalaw15_known]
  simp (maxSteps := 1000000) (disch := first | assumption | ((try simp only [push_next, put_next, adv_next, List.length_cons, List.length_nil, List.length_map, List.length_set]); omega) | simp)
  have S0 : Sees encB (g.push (.cells false [u8 1#8, u8 2#8, u8 3#8, u8 4#8])) (some ⟨g.next, 0, none⟩) [1#8, 2#8, 3#8, 4#8] := sees_b get_push_self
  have K0 : Kp g (g.push (.cells false [u8 1#8, u8 2#8, u8 3#8, u8 4#8])) := (Kp.refl g).push _
  generalize g.push (.cells false [u8 1#8, u8 2#8, u8 3#8, u8 4#8]) = h0 at *
  have hb := bnew (n := 1) (ci := 4) (cs := 0) (h := h0) (q := fun v h' => ∃ L, BW h' L [] [] (BS.mk0 1 [1#8, 2#8, 3#8, 4#8] []) ∧ h0.next ≤ L.x ∧ Kp h0 h' ∧ v = ptr L.b 0) S0 .nul (by decide) (by decide) (by decide) fun h' L A hx K => ⟨L, A, hx, K, rfl⟩
  refine GC_intro hb fun v h1 ⟨L, A1, hx, K1, hv⟩ => ?_
  subst hv
  have hx : g.next ≤ L.x := Nat.le_trans K0.le hx
  have K1 := K0.trans K1
  have hlen : (BS.mk0 1 [1#8, 2#8, 3#8, 4#8] []).B.length = 1024 := mk_len ..
  have hld : (BS.mk0 1 [1#8, 2#8, 3#8, 4#8] []).ld 0#32 4 0 = 16909060#32 ∧ (BS.mk0 1 [1#8, 2#8, 3#8, 4#8] []).ok 0#32 4 = true := by
    have he : evB (BS.mk0 1 [1#8, 2#8, 3#8, 4#8] []).B 0#32 4 = true := by simp [evB, hlen]
    refine ⟨?_, by simp [BS.ok, hlen, he]⟩
    simp only [BS.ld, he, hlen]
    simp only [show (0#32).toNat < 1024 by decide, if_true, ldB]
    have : ((BS.mk0 1 [1#8, 2#8, 3#8, 4#8] []).B.drop (0#32).toNat).take (Int.toNat 4) = [1#8, 2#8, 3#8, 4#8] := by
      simp only [BS.mk0, ovB, show pgs 1 = 1 from rfl]
      simp
    rw [this]
    decide
  have hr0 : (BS.mk0 1 [1#8, 2#8, 3#8, 4#8] []).r = 0#32 := rfl
  generalize BS.mk0 1 [1#8, 2#8, 3#8, 4#8] [] = X at *
  simp (maxSteps := 1000000) (disch := first | assumption | ((try simp only [push_next, put_next, adv_next, List.length_cons, List.length_nil, List.length_map, List.length_set]); omega) | simp)
  refine bload A1 fun h2 A2 U2 => ?_
  obtain ⟨K2, F2⟩ := U2.fresh K1 (A1.fresh hx)
  rw [hld.1, hld.2]
  have e2 : X.lds 0#32 4 = X := by simp [BS.lds, hlen]
  rw [e2] at A2
  simp (maxSteps := 1000000) (disch := first | assumption | ((try simp only [push_next, put_next, adv_next, List.length_cons, List.length_nil, List.length_map, List.length_set]); omega) | simp)
  refine bload A2 fun h3 A3 U3 => ?_
  obtain ⟨K3, F3⟩ := U3.fresh K2 F2
  have hl3 : X.ld 520093696#32 4 0 = 0#32 ∧ X.ok 520093696#32 4 = true := by
    constructor
    · simp only [BS.ld, hlen]
      simp [show bwin 520093696#32 4 = true by decide, show bwd 520093696#32 = 0 by decide, show bwo 520093696#32 = 0#32 by decide, BS.rd, lrd, hr0]
    · simp only [BS.ok, hlen]
      simp [show bwin 520093696#32 4 = true by decide, show bwd 520093696#32 = 0 by decide, show bwo 520093696#32 = 0#32 by decide, wok, lat]
  rw [hl3.1, hl3.2]
  simp (maxSteps := 1000000) (disch := first | assumption | ((try simp only [push_next, put_next, adv_next, List.length_cons, List.length_nil, List.length_map, List.length_set]); omega) | simp)
  refine bload A3 fun h4 A4 U4 => ?_
  obtain ⟨K4, F4⟩ := U4.fresh K3 F3
  have hlen3 : (X.lds 520093696#32 4).B.length = 1024 := by rw [BS.lds_B.1, hlen]
  have hl4 : (X.lds 520093696#32 4).ok 520093697#32 1 = false := by
    simp only [BS.ok, hlen3]
    simp [show bwin 520093697#32 1 = false by decide]
  rw [hl4]
  simp (maxSteps := 1000000) (disch := first | assumption | ((try simp only [push_next, put_next, adv_next, List.length_cons, List.length_nil, List.length_map, List.length_set]); omega) | simp)
  refine bstore A4 (by omega) fun h5 fp5 A5 U5 => ?_
  obtain ⟨K5, F5⟩ := U5.fresh K4 F4
  have hlen4 : ((X.lds 520093696#32 4).lds 520093697#32 1).B.length = 1024 := by rw [BS.lds_B.1, hlen3]
  have hl5 : ((X.lds 520093696#32 4).lds 520093697#32 1).ok 4294967292#32 4 = false := by
    simp only [BS.ok, hlen4]
    simp [show bwin 4294967292#32 4 = false by decide]
  have hlen5 : (((X.lds 520093696#32 4).lds 520093697#32 1).st 4294967292#32 4 1#32 0).B.length = 1024 := by
    simp only [BS.st, hlen4]
    simp [show bwin 4294967292#32 4 = false by decide, hlen4]
  rw [hl5]
  have hr5 := A5.ra
  simp (maxSteps := 1000000) (disch := first | assumption | ((try simp only [push_next, put_next, adv_next, List.length_cons, List.length_nil, List.length_map, List.length_set]); omega) | simp) [GC_of (fun q => bram (q := q) A5), GCI_of (fun q => bram (q := q) A5), GC_of (fun q => rsize (q := q) hr5), hlen5]
  exact K5
end
end Go.Proofs.YtpdfdemoflofhaaGreat.Cd

/- BusPlays: the bus and the document's bus, side by side. -/
set_option maxRecDepth 1000000
set_option maxHeartbeats 8000000
set_option linter.unusedSimpArgs false
set_option linter.unusedVariables false
namespace Go.Proofs.YtpdfdemoflofhaaGreat.Cd
open Go Go.Dx
/-- Both. -/
structure BP (g h : Hp) (L : BL) (x : Nat) (fp fo fr fq : List Nat) (X Y : BS) : Prop where
  bw : BW h L fp fo X
  rw' : RW h x fr fq Y
  lo : L.b < x
  d1 : ∀ b, b ∈ fp ∨ b ∈ fo → x + 5 < b ∧ b ∉ fr ∧ b ∉ fq
  kp : Kp g h
  gn : g.next ≤ L.x
section
variable {g h h' : Hp} {q : Value → Hp → Prop} {L : BL} {x : Nat} {fp fo fr fq fp' fo' fr' fq' : List Nat} {X Y X' Y' : BS} {now : Int} {a v : BitVec 32}
theorem BP.off (A : BP g h L x fp fo fr fq X Y) : ∀ b ∈ L.fp fp fo, b ∉ RL x fr fq := fun b hb hm => by
  have hlo := A.lo
  simp only [RL, List.mem_append] at hm
  rcases List.mem_append.1 hb with hb | hb
  · have := (L.mem A.bw.lay hb).2
    rcases hm with hm | hm | hm
    · simp at hm; omega
    · have := (A.rw'.fr b hm).1; omega
    · have := A.rw'.fo b hm; omega
  · have := A.d1 b (List.mem_append.1 hb)
    rcases hm with hm | hm | hm
    · simp at hm; omega
    · exact this.2.1 hm
    · exact this.2.2 hm
theorem BP.dev (A : BP g h L x fp fo fr fq X Y) (k : BW h' L fp' fo' X') (U : Upd h h' (L.fp fp fo) (L.fp fp' fo')) : BP g h' L x fp' fo' fr fq X' Y := by
  have hl := A.rw'.lt
  have hlo := A.lo
  refine ⟨k, A.rw'.upd U fun b hb hm => A.off b hm hb, A.lo, fun b hb => ?_, U.kp' A.kp (A.bw.fresh A.gn), A.gn⟩
  rcases U.sub b (List.mem_append_right _ (List.mem_append.2 hb)) with h5 | h5
  · rcases List.mem_append.1 h5 with h5 | h5
    · have h6 := (L.mem A.bw.lay h5).2
      rcases hb with hb | hb
      · have := k.gf b hb; omega
      · have := (k.go b hb).1; omega
    · exact A.d1 b (List.mem_append.1 h5)
  · exact ⟨by omega, fun hm => by have := (A.rw'.fr b hm).2.1; omega, fun hm => by have := A.rw'.folt b hm; omega⟩
theorem BP.ref (A : BP g h L x fp fo fr fq X Y) (k : RW h' x fr' fq' Y') (U : Upd h h' (RL x fr fq) (RL x fr' fq')) : BP g h' L x fp fo fr' fq' X Y' := by
  have hl := A.rw'.lt
  have hlo := A.lo
  refine ⟨A.bw.upd U A.off, k, A.lo, fun b hb => ?_, U.kp' A.kp fun b hb => ?_, A.gn⟩
  · have h1 := A.d1 b hb
    have hbl := A.bw.live b (List.mem_append_right _ (List.mem_append.2 hb))
    have go : b ∉ RL x fr' fq' ∨ b ∈ RL x fr fq := by
      by_cases hm : b ∈ RL x fr' fq'
      · rcases U.sub b hm with h5 | h5
        · exact .inr h5
        · omega
      · exact .inl hm
    rcases go with h5 | h5
    · exact ⟨h1.1, fun hm => h5 (by simp [RL, hm]), fun hm => h5 (by simp [RL, hm])⟩
    · exact absurd h5 (A.off b (List.mem_append_right _ (List.mem_append.2 hb)))
  · have hlx := L.mem A.bw.lay (c := L.b) (by simp [BL.fx])
    have := A.gn
    simp only [RL, List.mem_append] at hb
    rcases hb with hb | hb | hb
    · simp at hb; omega
    · have := (A.rw'.fr b hb).1; omega
    · have := A.rw'.fo b hb; omega
theorem BP.more (A : BP g h L x fp fo fr fq X Y) (K : Kp h h') : BP g h' L x fp fo fr fq X Y := ⟨A.bw.kp K, A.rw'.kp K, A.lo, A.d1, A.kp.trans K, A.gn⟩
/-- Are both the same? -/
theorem bsame (A : BP g h L x fp fo fr fq X X) (hq : ∀ h', Kp h h' → q (.bool true) h') : WC T n_pianolalaw15_same [ptr L.b 0, ptr (x + 4) 0] h q := by
  have hn1 := fun q => bnext (q := q) A.bw
  have hn2 := fun q => znext (q := q) A.rw'
  have hr1 := fun q => braised (q := q) A.bw
  have hr2 := fun q => zraised (q := q) A.rw'
  obtain ⟨vL, vi, vo, vu, S⟩ := A.rw'.bs
  have g1 := S.g
  simp only [rcl, rrest] at g1
  have hwl := A.bw.wh.wi.len
  obtain ⟨av, cv, hv, sv, hcv, hbv⟩ := S.sL
  obtain ⟨au, cu, hvu, su, hcu, hbu⟩ := S.su.len
  subst hv
  subst hvu
  rw [w_pianolalaw15_same]
  simp (maxSteps := 1000000) (disch := first | assumption | ((try simp only [push_next, put_next, adv_next, List.length_cons, List.length_nil, List.length_map, List.length_set]); omega) | simp) [GC_of hn1, GC_of hn2, GC_of hr1, GC_of hr2, GCI_of hr1, GCI_of hr2, g1]
  refine GCI_intro (bevents A.bw (q := fun v h' => ∃ a c, v = .slice a X.S.L.length c ∧ Sees encEv h' a X.S.L ∧ Kp h h') fun a c h' hs K => ⟨a, c, rfl, hs, K⟩) fun v h1 ⟨a1, c1, hv, s1, K1⟩ => ?_
  subst hv
  have P1 := A.more K1
  have S1 := RS.kp A.rw' S K1
  have g2 := S1.g
  simp only [rcl, rrest] at g2
  have hu1 := b2sV_sees (c := cu) (su.kp K1)
  have hd1 := b2sV_sees (c := X.E.length) (sees_b P1.rw'.dk)
  simp (maxSteps := 1000000) (disch := first | assumption | ((try simp only [push_next, put_next, adv_next, List.length_cons, List.length_nil, List.length_map, List.length_set]); omega) | simp) [g2]
  refine GCI_intro (same_ev (q := fun v h' => v = .bool true ∧ h' = h1) s1 (sv.kp K1) (by omega) (by simp)) fun v h2 ⟨hv, hh⟩ => ?_
  subst hv
  subst hh
  simp (maxSteps := 1000000) (disch := first | assumption | ((try simp only [push_next, put_next, adv_next, List.length_cons, List.length_nil, List.length_map, List.length_set]); omega) | simp) [g2, hu1, hd1]
  refine GCI_intro (bout P1.bw (q := fun v h' => ∃ a c, v = .slice a X.U.out.length c ∧ Sees encB h' a X.U.out ∧ Kp h2 h') fun a c h' hs K => ⟨a, c, rfl, hs, K⟩) fun v h3 ⟨a3, c3, hv, s3, K3⟩ => ?_
  subst hv
  have P3 := P1.more K3
  have S3 := RS.kp P1.rw' S1 K3
  have g3 := S3.g
  simp only [rcl, rrest] at g3
  have hu3 := b2sV_sees (c := cu) (su.kp (K1.trans K3))
  have hu4 := b2sV_sees (c := c3) s3
  have hd3 := b2sV_sees (c := X.E.length) (sees_b P3.rw'.dk)
  simp (maxSteps := 1000000) (disch := first | assumption | ((try simp only [push_next, put_next, adv_next, List.length_cons, List.length_nil, List.length_map, List.length_set]); omega) | simp) [g3, hu3, hu4, hd3]
  refine ⟨by simp [strB, veq, veqF], ?_⟩
  refine GCI_intro (bdisk P3.bw (q := fun v h' => ∃ a c, v = .slice a X.E.length c ∧ Sees encB h' a X.E ∧ Kp h3 h') fun a c h' hs K => ⟨a, c, rfl, hs, K⟩) fun v h4 ⟨a4, c4, hv, s4, K4⟩ => ?_
  subst hv
  have P4 := P3.more K4
  have S4 := RS.kp P3.rw' S3 K4
  have g4 := S4.g
  simp only [rcl, rrest] at g4
  have hd4 := b2sV_sees (c := X.E.length) (sees_b P4.rw'.dk)
  have hd5 := b2sV_sees (c := c4) s4
  simp (maxSteps := 1000000) (disch := first | assumption | ((try simp only [push_next, put_next, adv_next, List.length_cons, List.length_nil, List.length_map, List.length_set]); omega) | simp) [g4, hd4, hd5]
  exact ⟨by simp [strB, veq, veqF], hq _ ((K1.trans K3).trans K4)⟩
theorem R5.lds {n : Int} (h : R5 X.r) : R5 (X.lds a n).r := by
  unfold BS.lds
  split
  · exact h
  · split
    · exact R5.gath (by rw [BS.rds_r]; exact h)
    · exact h
theorem R5.st {n : Int} (h : R5 X.r) : R5 (X.st a n v now).r := by
  unfold BS.st
  split
  · split
    · exact h
    · exact h
  · split
    · exact R5.gath (by rw [BS.wr_r]; exact h)
    · exact h
/-- What is asked. -/
structure AskB where
  k : Int
  n : Int
  d : Int
  a : BitVec 32
  v : BitVec 32
  t : Int
  b : BitVec 8
def encAskB : Enc AskB := ⟨7, fun x => [.int .i64 x.k, .int .i64 x.n, .int .i64 x.d, u32 x.a, u32 x.v, .int .i64 x.t, u8 x.b], fun _ => rfl, fun _ => rfl, by decide⟩
@[simp] theorem encAskB_sz : encAskB.sz = 7 := rfl
/-- Where play stands. -/
structure BK (g h : Hp) (L : BL) (x : Nat) (now : Int) (ml : Nat) (X : BS) : Prop where
  pw : ∃ fp fo fr fq, BP g h L x fp fo fr fq X X
  r5 : R5 X.r
  n0' : 0 ≤ now
  ml : X.M.length = ml
end
end Go.Proofs.YtpdfdemoflofhaaGreat.Cd

/- BusPlays: all calls. -/
set_option maxRecDepth 1000000
set_option maxHeartbeats 8000000
set_option linter.unusedSimpArgs false
set_option linter.unusedVariables false
namespace Go.Proofs.YtpdfdemoflofhaaGreat.Cd
open Go Go.Dx
section
variable {g h h' : Hp} {q : Value → Hp → Prop} {L : BL} {x : Nat} {fp fo fr fq : List Nat} {X : BS} {now : Int}
theorem BK.more {ml : Nat} (A : BK g h L x now ml X) (K : Kp h h') : BK g h' L x now ml X := by
  obtain ⟨fp, fo, fr, fq, P⟩ := A.pw
  exact ⟨⟨fp, fo, fr, fq, P.more K⟩, A.r5, A.n0', A.ml⟩
end
end Go.Proofs.YtpdfdemoflofhaaGreat.Cd

/- BusNumbers: the closed sentence. -/
set_option maxRecDepth 1000000
set_option maxHeartbeats 8000000
set_option linter.unusedSimpArgs false
set_option linter.unusedVariables false
namespace Go.Proofs.YtpdfdemoflofhaaGreat.Cd
open Go Go.Dx
/-- Both, and a table beside them. -/
structure BN (g h : Hp) (L : BL) (x tb : Nat) (V : List Value) (fp fo fr fq : List Nat) (X Y : BS) : Prop where
  p : BP g h L x fp fo fr fq X Y
  t : h.get tb = some (.cells false V)
  n1 : tb ∉ L.fp fp fo
  n2 : tb ∉ RL x fr fq
@[simp] theorem opV_ms {e : Env} {h : Hp} {x : Dx.X} : opV e h (.ms x) = (match x.ev e with
    | .slice (some ⟨b, o, none⟩) n c => (match h.get b with | some (.cells false _) => some (.slice (some ⟨b, o, none⟩) n c, h) | _ => none)
    | _ => none) := rfl
section
variable {g h h' : Hp} {q : Value → Hp → Prop} {L : BL} {x tb : Nat} {V : List Value} {fp fo fr fq fp' fo' fr' fq' : List Nat} {X Y X' Y' : BS} {now : Int}
theorem BN.dev (A : BN g h L x tb V fp fo fr fq X Y) (k : BW h' L fp' fo' X') (U : Upd h h' (L.fp fp fo) (L.fp fp' fo')) : BN g h' L x tb V fp' fo' fr fq X' Y := by
  have hl := lt_of_get A.t
  refine ⟨A.p.dev k U, (U.get tb hl A.n1).trans A.t, fun hm => ?_, A.n2⟩
  rcases U.sub tb hm with h5 | h5
  · exact A.n1 h5
  · omega
theorem BN.ref (A : BN g h L x tb V fp fo fr fq X Y) (k : RW h' x fr' fq' Y') (U : Upd h h' (RL x fr fq) (RL x fr' fq')) : BN g h' L x tb V fp fo fr' fq' X Y' := by
  have hl := lt_of_get A.t
  refine ⟨A.p.ref k U, (U.get tb hl A.n2).trans A.t, A.n1, fun hm => ?_⟩
  rcases U.sub tb hm with h5 | h5
  · exact A.n2 h5
  · omega
theorem BN.more (A : BN g h L x tb V fp fo fr fq X Y) (K : Kp h h') : BN g h' L x tb V fp fo fr fq X Y := ⟨A.p.more K, (K.get tb (lt_of_get A.t)).trans A.t, A.n1, A.n2⟩
theorem BP.tab (A : BP g h L x fp fo fr fq X Y) : BN g (h.push (.cells false V)) L x h.next V fp fo fr fq X Y := by
  refine ⟨A.more ((Kp.refl h).push _), get_push_self, fun hm => ?_, fun hm => ?_⟩
  · have := A.bw.live _ hm; omega
  · have := A.rw'.live _ hm; omega
theorem bn1 {Q : Ex → Env → Hp → Prop} {e : Env} {F : List Fr} {at' : BitVec 32} {n : Int} (A : BN g h L x tb V fp fo fr fq X X) (r5 : R5 X.r) (e1 : e 1 = ptr L.b 0) (e2 : e 2 = ptr (x + 4) 0) (e3 : e 3 = u32 at') (e5 : e 5 = .int .i64 n)
    (hk : ∀ e' : Env, e' 1 = e 1 → e' 2 = e 2 → e' 3 = e 3 → e' 31 = e 31 → e' 32 = e 32 → e' 33 = e 33 → ∀ h' fp' fo' fr' fq' X', BN g h' L x tb V fp' fo' fr' fq' X' X' → R5 X'.r → GR T Q F .n e' h') : G T Q c2_pianolalaw15_BusNumbers F e h := by
  simp (maxSteps := 1000000) (disch := first | assumption | ((try simp only [push_next, put_next, adv_next, List.length_cons, List.length_nil, List.length_map, List.length_set]); omega) | simp) [e1, e3, e5, -g1_pianolalaw15_BusNumbers, -g0_pianolalaw15_BusNumbers]
  refine bload A.p.bw fun h1 B1 U1 => ?_
  have P1 := A.dev B1 U1
  simp (maxSteps := 1000000) (disch := first | assumption | ((try simp only [push_next, put_next, adv_next, List.length_cons, List.length_nil, List.length_map, List.length_set]); omega) | simp) [e2, e3, e5, -g0_pianolalaw15_BusNumbers]
  refine zLoad P1.p.rw' r5 (by omega) fun h2 fr2 R2 U2 => ?_
  have P2 := P1.ref R2 U2
  have r2 := R5.lds (n := n) (a := 520093688#32 + at') r5
  simp (maxSteps := 1000000) (disch := first | assumption | ((try simp only [push_next, put_next, adv_next, List.length_cons, List.length_nil, List.length_map, List.length_set]); omega) | simp) [e1, e2, e3, e5]
  refine bstore P2.p.bw (by omega) fun h3 fp3 B3 U3 => ?_
  have P3 := P2.dev B3 U3
  simp (maxSteps := 1000000) (disch := first | assumption | ((try simp only [push_next, put_next, adv_next, List.length_cons, List.length_nil, List.length_map, List.length_set]); omega) | simp) [e1, e2, e3, e5]
  refine zStore P3.p.rw' r2 (by omega) fun h4 fr4 R4 U4 => ?_
  have P4 := P3.ref R4 U4
  have r4 := R5.st (n := n) (a := 520093688#32 + at') (v := at') (now := 5) r2
  simp (maxSteps := 1000000) (disch := first | assumption | ((try simp only [push_next, put_next, adv_next, List.length_cons, List.length_nil, List.length_map, List.length_set]); omega) | simp) [e1, e2, e3, e5]
  refine bsame P4.p fun h5 K5 => ?_
  simp (maxSteps := 1000000) (disch := first | assumption | ((try simp only [push_next, put_next, adv_next, List.length_cons, List.length_nil, List.length_map, List.length_set]); omega) | simp)
  refine hk _ ?_ ?_ ?_ ?_ ?_ ?_ _ _ _ _ _ _ (P4.more K5) r4 <;> simp
theorem bn2 {Q : Ex → Env → Hp → Prop} {e : Env} {F : List Fr} {at' : BitVec 32} {n : Nat} (A : BN g h L x tb V fp fo fr fq X X) (r5 : R5 X.r) (hn : n < 6) (e1 : e 1 = ptr L.b 0) (e2 : e 2 = ptr (x + 4) 0) (e11 : e 11 = u32 at') (e12 : e 12 = .int .i64 n)
    (hk : ∀ e' : Env, e' 1 = e 1 → e' 2 = e 2 → e' 11 = e 11 → e' 12 = .int .i64 ((n + 1 : Nat) : Int) → e' 83 = e 83 → e' 84 = e 84 → e' 85 = e 85 → ∀ h' fp' fo' fr' fq' X', BN g h' L x tb V fp' fo' fr' fq' X' X' → R5 X'.r → GR T Q F .n e' h') : G T Q c8_pianolalaw15_BusNumbers F e h := by
  simp (maxSteps := 1000000) (disch := first | assumption | ((try simp only [push_next, put_next, adv_next, List.length_cons, List.length_nil, List.length_map, List.length_set]); omega) | simp) [e1, e11, e12, -g7_pianolalaw15_BusNumbers]
  refine bload A.p.bw fun h1 B1 U1 => ?_
  have P1 := A.dev B1 U1
  simp (maxSteps := 1000000) (disch := first | assumption | ((try simp only [push_next, put_next, adv_next, List.length_cons, List.length_nil, List.length_map, List.length_set]); omega) | simp) [e2, e11, e12, -g6_pianolalaw15_BusNumbers]
  refine zLoad P1.p.rw' r5 (by omega) fun h2 fr2 R2 U2 => ?_
  have P2 := P1.ref R2 U2
  have r2 := R5.lds (n := (n : Int)) (a := at') r5
  simp (maxSteps := 1000000) (disch := first | assumption | ((try simp only [push_next, put_next, adv_next, List.length_cons, List.length_nil, List.length_map, List.length_set]); omega) | simp) [e1, e2, e11, e12]
  refine bstore P2.p.bw (by omega) fun h3 fp3 B3 U3 => ?_
  have P3 := P2.dev B3 U3
  simp (maxSteps := 1000000) (disch := first | assumption | ((try simp only [push_next, put_next, adv_next, List.length_cons, List.length_nil, List.length_map, List.length_set]); omega) | simp) [e1, e2, e11, e12]
  refine zStore P3.p.rw' r2 (by omega) fun h4 fr4 R4 U4 => ?_
  have P4 := P3.ref R4 U4
  have r4 := R5.st (n := (n : Int)) (a := at') (v := 7#32) (now := 9) r2
  simp (maxSteps := 1000000) (disch := first | assumption | ((try simp only [push_next, put_next, adv_next, List.length_cons, List.length_nil, List.length_map, List.length_set]); omega) | simp) [e12]
  refine hk _ ?_ ?_ ?_ ?_ ?_ ?_ ?_ _ _ _ _ _ _ P4 r4 <;> simp
theorem bn3 {Q : Ex → Env → Hp → Prop} {e : Env} {F : List Fr} {at' : BitVec 32} (A : BP g h L x fp fo fr fq X X) (r5 : R5 X.r) (e1 : e 1 = ptr L.b 0) (e2 : e 2 = ptr (x + 4) 0) (e3 : e 3 = u32 at')
    (hk : ∀ e' : Env, e' 1 = e 1 → e' 2 = e 2 → e' 3 = u32 (at' + 1#32) → ∀ h' fp' fo' fr' fq' X', BP g h' L x fp' fo' fr' fq' X' X' → R5 X'.r → GR T Q F .n e' h') : G T Q c4_pianolalaw15_BusNumbers F e h := by
  simp (maxSteps := 1000000) (disch := first | assumption | ((try simp only [push_next, put_next, adv_next, List.length_cons, List.length_nil, List.length_map, List.length_set]); omega) | simp)
  have P0 := A.tab (V := [.int .i64 1, .int .i64 2, .int .i64 4, .int .i64 3])
  generalize hH : h.push _ = H at *
  have hn : h.next = h.next := rfl
  generalize h.next = tb at *
  refine G_loop (fun k e' h' => ∃ (i : Nat) (fp fo fr fq : List Nat) (X : BS), k = 4 - i ∧ i ≤ 4 ∧ e' 1 = ptr L.b 0 ∧ e' 2 = ptr (x + 4) 0 ∧ e' 3 = u32 at' ∧ e' 31 = .slice (some ⟨tb, 0, none⟩) 4 4 ∧ e' 32 = .int .i64 4 ∧ e' 33 = .int .i64 i ∧ BN g h' L x tb [.int .i64 1, .int .i64 2, .int .i64 4, .int .i64 3] fp fo fr fq X X ∧ R5 X.r) ?_ 4 _ _ ⟨0, fp, fo, fr, fq, X, rfl, by omega, by simp [e1], by simp [e2], by simp [e3], by simp, by simp, by simp, P0, r5⟩
  clear P0 hH r5 A H
  rintro k ih e' h' ⟨i, fp, fo, fr, fq, X, rfl, i4, f1, f2, f3, f31, f32, f33, P, r5⟩
  have ht := P.t
  by_cases c : i < 4
  · have c' : (i : Int) < 4 := by omega
    have hvn : ∃ n : Int, [Value.int .i64 1, .int .i64 2, .int .i64 4, .int .i64 3][i]? = some (.int .i64 n) := by
      obtain rfl | rfl | rfl | rfl : i = 0 ∨ i = 1 ∨ i = 2 ∨ i = 3 := by omega
      all_goals exact ⟨_, rfl⟩
    have hvl : [Value.int .i64 1, .int .i64 2, .int .i64 4, .int .i64 3].length = 4 := rfl
    generalize [Value.int .i64 1, .int .i64 2, .int .i64 4, .int .i64 3] = V at *
    obtain ⟨n, hn1⟩ := hvn
    have hn2 : ∀ hh : i < V.length, V[i]'hh = .int .i64 n := fun hh => by rw [List.getElem?_eq_getElem hh] at hn1; exact Option.some.inj hn1
    simp (maxSteps := 1000000) (disch := first | assumption | ((try simp only [push_next, put_next, adv_next, List.length_cons, List.length_nil, List.length_map, List.length_set]); omega) | simp) [f31, f32, f33, c', c, ht, hvl, hn1, hn2, -g2_pianolalaw15_BusNumbers]
    refine bn1 (at' := at') (n := n) P r5 (by simp [f1]) (by simp [f2]) (by simp [f3]) (by simp) fun e3' k1 k2 k3 k31 k32 k33 h3 fp3 fo3 fr3 fq3 X3 P3 r53 => ?_
    have k33' : e3' 33 = .int .i64 i := by rw [k33]; simp [f33]
    simp (maxSteps := 1000000) (disch := first | assumption | ((try simp only [push_next, put_next, adv_next, List.length_cons, List.length_nil, List.length_map, List.length_set]); omega) | simp) [k33']
    exact ih (4 - (i + 1)) (by omega) _ _ ⟨i + 1, fp3, fo3, fr3, fq3, X3, rfl, by omega, by simp [k1, f1], by simp [k2, f2], by simp [k3, f3], by simp [k31, f31], by simp [k32, f32], by simp, P3, r53⟩
  · obtain rfl : i = 4 := by omega
    simp (maxSteps := 1000000) (disch := first | assumption | ((try simp only [push_next, put_next, adv_next, List.length_cons, List.length_nil, List.length_map, List.length_set]); omega) | simp) [f3, f32, f33]
    exact hk _ (by simp [f1, e1]) (by simp [f2, e2]) (by simp) _ _ _ _ _ _ P.p r5
theorem bn4 {Q : Ex → Env → Hp → Prop} {e : Env} {F : List Fr} (A : BP g h L x fp fo fr fq X X) (r5 : R5 X.r) (e1 : e 1 = ptr L.b 0) (e2 : e 2 = ptr (x + 4) 0) (e3 : e 3 = u32 0#32)
    (hk : ∀ e' : Env, e' 1 = e 1 → e' 2 = e 2 → ∀ h' fp' fo' fr' fq' X', BP g h' L x fp' fo' fr' fq' X' X' → R5 X'.r → GR T Q F (.x 0) e' h') : G T Q (.loop c5_pianolalaw15_BusNumbers) F e h := by
  refine G_loop (fun k e' h' => ∃ (at' : BitVec 32) (fp fo fr fq : List Nat) (X : BS), k = 448 - at'.toNat ∧ at'.toNat ≤ 448 ∧ e' 1 = ptr L.b 0 ∧ e' 2 = ptr (x + 4) 0 ∧ e' 3 = u32 at' ∧ BP g h' L x fp fo fr fq X X ∧ R5 X.r) ?_ 448 _ _ ⟨0#32, fp, fo, fr, fq, X, rfl, by simp, e1, e2, e3, A, r5⟩
  rintro k ih e' h' ⟨at', fp, fo, fr, fq, X, rfl, i4, f1, f2, f3, P, r5⟩
  by_cases c : at'.toNat < 448
  · have c' : at' < 448#32 := by rw [BitVec.lt_def]; simpa using c
    simp (maxSteps := 1000000) (disch := first | assumption | ((try simp only [push_next, put_next, adv_next, List.length_cons, List.length_nil, List.length_map, List.length_set]); omega) | simp) [f3, c', c, -g4_pianolalaw15_BusNumbers]
    refine bn3 (at' := at') P r5 (by simp [f1]) (by simp [f2]) (by simp [f3]) fun e3 k1 k2 k3 h3 fp3 fo3 fr3 fq3 X3 P3 r53 => ?_
    have et : (at' + 1#32).toNat = at'.toNat + 1 := by rw [BitVec.toNat_add]; simp; omega
    exact ih (448 - (at' + 1#32).toNat) (by omega) _ _ ⟨at' + 1#32, fp3, fo3, fr3, fq3, X3, rfl, by omega, by simp [k1, f1], by simp [k2, f2], k3, P3, r53⟩
  · have c' : ¬ at' < 448#32 := by rw [BitVec.lt_def]; simpa using c
    simp (maxSteps := 1000000) (disch := first | assumption | ((try simp only [push_next, put_next, adv_next, List.length_cons, List.length_nil, List.length_map, List.length_set]); omega) | simp) [f3, c', c]
    exact hk _ (by simp [f1, e1]) (by simp [f2, e2]) _ _ _ _ _ _ P r5
/-- The second table: six places, six lengths each. -/
theorem bn5 {Q : Ex → Env → Hp → Prop} {e : Env} {F : List Fr} {at' : BitVec 32} (A : BN g h L x tb V fp fo fr fq X X) (r5 : R5 X.r) (e1 : e 1 = ptr L.b 0) (e2 : e 2 = ptr (x + 4) 0) (e11 : e 11 = u32 at') (e12 : e 12 = .int .i64 0)
    (hk : ∀ e' : Env, e' 1 = e 1 → e' 2 = e 2 → e' 83 = e 83 → e' 84 = e 84 → e' 85 = e 85 → ∀ h' fp' fo' fr' fq' X', BN g h' L x tb V fp' fo' fr' fq' X' X' → R5 X'.r → GR T Q F (.x 6) e' h') : G T Q (.loop c9_pianolalaw15_BusNumbers) F e h := by
  refine G_loop (fun k e' h' => ∃ (i : Nat) (fp fo fr fq : List Nat) (X : BS), k = 6 - i ∧ i ≤ 6 ∧ e' 1 = ptr L.b 0 ∧ e' 2 = ptr (x + 4) 0 ∧ e' 11 = u32 at' ∧ e' 12 = .int .i64 i ∧ e' 83 = e 83 ∧ e' 84 = e 84 ∧ e' 85 = e 85 ∧ BN g h' L x tb V fp fo fr fq X X ∧ R5 X.r) ?_ 6 _ _ ⟨0, fp, fo, fr, fq, X, rfl, by omega, e1, e2, e11, e12, rfl, rfl, rfl, A, r5⟩
  clear A r5 e12 e11
  rintro k ih e' h' ⟨i, fp, fo, fr, fq, X, rfl, i6, f1, f2, f11, f12, f83, f84, f85, P, r5⟩
  by_cases c : i < 6
  · have c' : (i : Int) < 6 := by omega
    simp (maxSteps := 1000000) (disch := first | assumption | ((try simp only [push_next, put_next, adv_next, List.length_cons, List.length_nil, List.length_map, List.length_set]); omega) | simp) [f12, c', c, -g8_pianolalaw15_BusNumbers]
    refine bn2 (at' := at') (n := i) P r5 c (by simp [f1]) (by simp [f2]) (by simp [f11]) (by simp [f12]) fun e3 k1 k2 k11 k12 k83 k84 k85 h3 fp3 fo3 fr3 fq3 X3 P3 r53 => ?_
    exact ih (6 - (i + 1)) (by omega) _ _ ⟨i + 1, fp3, fo3, fr3, fq3, X3, rfl, by omega, by simp [k1, f1], by simp [k2, f2], by simp [k11, f11], k12, by simp [k83, f83], by simp [k84, f84], by simp [k85, f85], P3, r53⟩
  · obtain rfl : i = 6 := by omega
    simp (maxSteps := 1000000) (disch := first | assumption | ((try simp only [push_next, put_next, adv_next, List.length_cons, List.length_nil, List.length_map, List.length_set]); omega) | simp) [f12]
    exact hk _ (by simp [f1, e1]) (by simp [f2, e2]) (by simp [f83]) (by simp [f84]) (by simp [f85]) _ _ _ _ _ _ P r5
theorem bn6 {Q : Ex → Env → Hp → Prop} {e : Env} {F : List Fr} (A : BP g h L x fp fo fr fq X X) (r5 : R5 X.r) (e1 : e 1 = ptr L.b 0) (e2 : e 2 = ptr (x + 4) 0)
    (hk : ∀ e' : Env, e' 1 = e 1 → e' 2 = e 2 → ∀ h' fp' fo' fr' fq' X', BP g h' L x fp' fo' fr' fq' X' X' → R5 X'.r → G T Q c12_pianolalaw15_BusNumbers F e' h') : G T Q c13_pianolalaw15_BusNumbers F e h := by
  simp (maxSteps := 1000000) (disch := first | assumption | ((try simp only [push_next, put_next, adv_next, List.length_cons, List.length_nil, List.length_map, List.length_set]); omega) | simp) [-g12_pianolalaw15_BusNumbers]
  have P0 := A.tab (V := [u32 1020#32, u32 1023#32, u32 1024#32, u32 2000#32, u32 2147483648#32, u32 4294967295#32])
  generalize hH : h.push _ = H at *
  generalize h.next = tb at *
  refine G_loop (fun k e' h' => ∃ (i : Nat) (fp fo fr fq : List Nat) (X : BS), k = 6 - i ∧ i ≤ 6 ∧ e' 1 = ptr L.b 0 ∧ e' 2 = ptr (x + 4) 0 ∧ e' 83 = .slice (some ⟨tb, 0, none⟩) 6 6 ∧ e' 84 = .int .i64 6 ∧ e' 85 = .int .i64 i ∧ BN g h' L x tb [u32 1020#32, u32 1023#32, u32 1024#32, u32 2000#32, u32 2147483648#32, u32 4294967295#32] fp fo fr fq X X ∧ R5 X.r) ?_ 6 _ _ ⟨0, fp, fo, fr, fq, X, rfl, by omega, by simp [e1], by simp [e2], by simp, by simp, by simp, P0, r5⟩
  clear P0 hH r5 A H
  rintro k ih e' h' ⟨i, fp, fo, fr, fq, X, rfl, i4, f1, f2, f83, f84, f85, P, r5⟩
  have ht := P.t
  by_cases c : i < 6
  · have c' : (i : Int) < 6 := by omega
    have hvn : ∃ n : BitVec 32, [u32 1020#32, u32 1023#32, u32 1024#32, u32 2000#32, u32 2147483648#32, u32 4294967295#32][i]? = some (u32 n) := by
      obtain rfl | rfl | rfl | rfl | rfl | rfl : i = 0 ∨ i = 1 ∨ i = 2 ∨ i = 3 ∨ i = 4 ∨ i = 5 := by omega
      all_goals exact ⟨_, rfl⟩
    have hvl : [u32 1020#32, u32 1023#32, u32 1024#32, u32 2000#32, u32 2147483648#32, u32 4294967295#32].length = 6 := rfl
    generalize [u32 1020#32, u32 1023#32, u32 1024#32, u32 2000#32, u32 2147483648#32, u32 4294967295#32] = V at *
    obtain ⟨n, hn1⟩ := hvn
    have hn2 : ∀ hh : i < V.length, V[i]'hh = u32 n := fun hh => by rw [List.getElem?_eq_getElem hh] at hn1; exact Option.some.inj hn1
    simp (maxSteps := 1000000) (disch := first | assumption | ((try simp only [push_next, put_next, adv_next, List.length_cons, List.length_nil, List.length_map, List.length_set]); omega) | simp) [f83, f84, f85, c', c, ht, hvl, hn1, hn2, -g9_pianolalaw15_BusNumbers]
    refine bn5 (at' := n) P r5 (by simp [f1]) (by simp [f2]) (by simp) (by simp) fun e3' k1 k2 k83 k84 k85 h3 fp3 fo3 fr3 fq3 X3 P3 r53 => ?_
    have k85' : e3' 85 = .int .i64 i := by rw [k85]; simp [f85]
    simp (maxSteps := 1000000) (disch := first | assumption | ((try simp only [push_next, put_next, adv_next, List.length_cons, List.length_nil, List.length_map, List.length_set]); omega) | simp) [k85']
    exact ih (6 - (i + 1)) (by omega) _ _ ⟨i + 1, fp3, fo3, fr3, fq3, X3, rfl, by omega, by simp [k1, f1], by simp [k2, f2], by simp [k83, f83], by simp [k84, f84], by simp, P3, r53⟩
  · obtain rfl : i = 6 := by omega
    simp (maxSteps := 1000000) (disch := first | assumption | ((try simp only [push_next, put_next, adv_next, List.length_cons, List.length_nil, List.length_map, List.length_set]); omega) | simp) [f84, f85, -g12_pianolalaw15_BusNumbers]
    exact hk _ (by simp [f1, e1]) (by simp [f2, e2]) _ _ _ _ _ _ P.p r5
theorem bnumbers : WC T n_pianolalaw15_BusNumbers [] g fun v h' => v = .bool true := by
  have fini : ∀ (e : Env) (h : Hp) (L : BL) (x : Nat) (fp fo fr fq : List Nat) (X : BS), BP g h L x fp fo fr fq X X → R5 X.r → e 1 = ptr L.b 0 → e 2 = ptr (x + 4) 0 → e 3 = u32 0#32 → G T (fin [.t 0] (some []) g.next fun v h' => v = .bool true) (.loop c5_pianolalaw15_BusNumbers) [Fr.block 0, Fr.seq c13_pianolalaw15_BusNumbers] e h := fun e h L x fp fo fr fq X P r5 e1 e2 e3 => by
    refine bn4 P r5 e1 e2 e3 fun e' k1 k2 h1 fp1 fo1 fr1 fq1 X1 P1 r51 => ?_
    simp (maxSteps := 1000000) (disch := first | assumption | ((try simp only [push_next, put_next, adv_next, List.length_cons, List.length_nil, List.length_map, List.length_set]); omega) | simp) [-g13_pianolalaw15_BusNumbers]
    refine bn6 P1 r51 (by simp [k1, e1]) (by simp [k2, e2]) fun e'' l1 l2 h2 fp2 fo2 fr2 fq2 X2 P2 r52 => ?_
    have m1 : e'' 1 = ptr L.b 0 := by rw [l1, k1, e1]
    have m2 : e'' 2 = ptr (x + 4) 0 := by rw [l2, k2, e2]
    simp (maxSteps := 1000000) (disch := first | assumption | ((try simp only [push_next, put_next, adv_next, List.length_cons, List.length_nil, List.length_map, List.length_set]); omega) | simp) [m1, m2]
    refine bFire P2.bw (by omega) fun h3 fp3 fo3 B3 U3 => ?_
    have P3 := P2.dev B3 U3
    simp (maxSteps := 1000000) (disch := first | assumption | ((try simp only [push_next, put_next, adv_next, List.length_cons, List.length_nil, List.length_map, List.length_set]); omega) | simp) [m1, m2]
    refine zFire P3.rw' r52 (by omega) fun h4 fr4 fo4 R4 U4 => ?_
    have P4 := P3.ref R4 U4
    simp (maxSteps := 1000000) (disch := first | assumption | ((try simp only [push_next, put_next, adv_next, List.length_cons, List.length_nil, List.length_map, List.length_set]); omega) | simp) [m1, m2]
    refine bsame P4 fun h5 K5 => ?_
    simp (maxSteps := 1000000) (disch := first | assumption | ((try simp only [push_next, put_next, adv_next, List.length_cons, List.length_nil, List.length_map, List.length_set]); omega) | simp)
    refine bknown.mono fun u g1 hu => ?_
    obtain ⟨rfl, _⟩ := hu
    simp (maxSteps := 1000000) (disch := first | assumption | ((try simp only [push_next, put_next, adv_next, List.length_cons, List.length_nil, List.length_map, List.length_set]); omega) | simp)
  rw [w_pianolalaw15_BusNumbers]
  simp (maxSteps := 1000000) (disch := first | assumption | ((try simp only [push_next, put_next, adv_next, List.length_cons, List.length_nil, List.length_map, List.length_set]); omega) | simp) [-List.reduceReplicate]
  have hrep : List.replicate 2000 (u8 0#8) = (List.replicate 2000 0#8).map u8 := by rw [List.map_replicate]
  have hlen : (List.replicate 2000 0#8).length = 2000 := List.length_replicate
  rw [hrep]
  generalize List.replicate 2000 0#8 = im at *
  generalize hH : ((g.adv 4).put g.next (some (Ob.cells false (im.map u8)))).put (g.next + 1) (some (Ob.cells false [u8 120#8])) = h0
  have hn0 : h0.next = g.next + 4 := by rw [← hH]; rfl
  have K0 : Kp g h0 := by rw [← hH]; exact (((Kp.refl g).adv 4).put (Nat.le_refl _) _).put (by omega) _
  have b0 : h0.get g.next = some (.cells false (im.map u8)) := by rw [← hH, get_put_ne (by omega), get_put_self (by simp)]
  have b1 : h0.get (g.next + 1) = some (.cells false [u8 120#8]) := by rw [← hH, get_put_self (by simp)]
  have S0 : Sees encB h0 (some ⟨g.next, 0, none⟩) im := sees_b b0
  have S1 : Sees encB h0 (some ⟨g.next + 1, 0, none⟩) [120#8] := sees_b b1
  have hb := bnew (n := 1) (ci := 2000) (cs := 1) (h := h0) (q := fun v h' => ∃ L, BW h' L [] [] (BS.mk0 1 im [120#8]) ∧ h0.next ≤ L.x ∧ Kp h0 h' ∧ v = ptr L.b 0) S0 S1 (by omega) (by decide) (by omega) fun h' L A hx K => ⟨L, A, hx, K, rfl⟩
  rw [hlen] at hb
  simp only [List.length_cons, List.length_nil] at hb
  refine GCI_intro hb fun v h1 ⟨L, A1, hx, K1, hv⟩ => ?_
  subst hv
  have hle := K1.le
  simp (maxSteps := 1000000) (disch := first | assumption | ((try simp only [push_next, put_next, adv_next, List.length_cons, List.length_nil, List.length_map, List.length_set]); omega) | simp) [-List.reduceReplicate]
  rw [hrep]
  have hfr : ∀ b ∈ L.fp [] [], g.next + 4 ≤ b := fun b hb => by have := A1.fresh hx b hb; omega
  have A2 : BW ((h1.put (g.next + 2) (some (Ob.cells false (im.map u8)))).put (g.next + 3) (some (Ob.cells false [u8 120#8]))) L [] [] (BS.mk0 1 im [120#8]) :=
    A1.keep fun b hb => by have := hfr b hb; rw [get_put_ne (by omega), get_put_ne (by omega)]
  have K2 : Kp g ((h1.put (g.next + 2) (some (Ob.cells false (im.map u8)))).put (g.next + 3) (some (Ob.cells false [u8 120#8]))) := ((K0.trans K1).put (by omega) _).put (by omega) _
  have c0 : ((h1.put (g.next + 2) (some (Ob.cells false (im.map u8)))).put (g.next + 3) (some (Ob.cells false [u8 120#8]))).get (g.next + 2) = some (.cells false (im.map u8)) := by rw [get_put_ne (by omega), get_put_self (by omega)]
  have c1 : ((h1.put (g.next + 2) (some (Ob.cells false (im.map u8)))).put (g.next + 3) (some (Ob.cells false [u8 120#8]))).get (g.next + 3) = some (.cells false [u8 120#8]) := by rw [get_put_self (by simp; omega)]
  have hn2 : ((h1.put (g.next + 2) (some (Ob.cells false (im.map u8)))).put (g.next + 3) (some (Ob.cells false [u8 120#8]))).next = h1.next := rfl
  generalize (h1.put (g.next + 2) (some (Ob.cells false (im.map u8)))).put (g.next + 3) (some (Ob.cells false [u8 120#8])) = h2 at *
  have T0 : Sees encB h2 (some ⟨g.next + 2, 0, none⟩) im := sees_b c0
  have T1 : Sees encB h2 (some ⟨g.next + 3, 0, none⟩) [120#8] := sees_b c1
  have hz := znew (n := 1) (ci := 2000) (cs := 1) (h := h2) (q := fun v h' => RW h' h2.next [] [] (BS.mk0 1 im [120#8]) ∧ Kp h2 h' ∧ v = ptr (h2.next + 4) 0) T0 T1 (by omega) (by decide) fun h' A K _ => ⟨A, K, rfl⟩
  rw [hlen] at hz
  simp only [List.length_cons, List.length_nil] at hz
  refine GCI_intro hz fun v h3 ⟨A3, K3, hv⟩ => ?_
  subst hv
  have P3 : BP g h3 L h2.next [] [] [] [] (BS.mk0 1 im [120#8]) (BS.mk0 1 im [120#8]) := ⟨A2.kp K3, A3, by have := A2.lt; omega, by simp, K2.trans K3, by omega⟩
  have hr5 : R5 (BS.mk0 1 im [120#8]).r := ⟨false, false, false, false, false, rfl⟩
  generalize BS.mk0 1 im [120#8] = X at *
  simp (maxSteps := 1000000) (disch := first | assumption | ((try simp only [push_next, put_next, adv_next, List.length_cons, List.length_nil, List.length_map, List.length_set]); omega) | simp) [-g13_pianolalaw15_BusNumbers]
  exact fini _ _ _ _ _ _ _ _ _ P3 hr5 (by simp) (by simp) (by simp)
end
end Go.Proofs.YtpdfdemoflofhaaGreat.Cd
