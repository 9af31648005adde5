/- A timer: what each function does. -/
import Derived.Test.YtppgoobhlcdbbaaWheelP
set_option maxRecDepth 1000000
set_option linter.unusedSimpArgs false
set_option linter.unusedVariables false
namespace Go.Proofs.Ytppgoobhlcdbbaa.Cd
open Go Go.Dx
/-- A timer in memory. -/
def Tm (h : Hp) (t w : Nat) (d : Int) (c p s : BitVec 32) : Prop := h.get t = some (.cells false [.int .i64 d, ptr w 0, u32 c, u32 p, u32 s])
/-- A timer and its wheel. -/
structure TW (g h : Hp) (t w : Nat) (d : Int) (c p s : BitVec 32) (L : List Ev) (q : Int) (fp : List Nat) : Prop where
  tm : Tm h t w d c p s
  wh : Wh h w L q fp
  wi : WI L
  off : t ∉ w :: fp
  kp : Kp g h
  gf : ∀ b ∈ w :: fp, g.next ≤ b
  gt : g.next ≤ t
section
variable {g h : Hp} {q : Value → Hp → Prop} {t w : Nat} {d now n : Int} {c p s : BitVec 32} {L : List Ev} {fp : List Nat}
theorem tline (M : Tm h t w d c p s) : WC T n_timer_Timer_Line [ptr t 0] h q ↔ q (.bool (s != 0#32)) h := by
  unfold Tm at M
  rw [w_timer_Timer_Line]
  simp (disch := first | assumption | ((try simp only [push_next, put_next, adv_next, List.length_cons, List.length_nil]); omega) | simp) [M]
/-- A period, one at least. -/
def per (p : BitVec 32) : Int := ((if 1#32 < p then p else 1#32).toNat : Int)
theorem per_pos (p : BitVec 32) : 1 ≤ per p ∧ per p < 4294967296 := by
  unfold per
  split
  · rename_i h
    have h1 := BitVec.lt_def.1 h
    have h2 := p.isLt
    simp at h1
    omega
  · decide
theorem TW.arm {L' : List Ev} {n' : Int} {fp' : List Nat} {h' : Hp} (X : TW g h t w d c p s L n fp) (W : Wh h' w L' n' fp') (U : Upd h h' (w :: fp) (w :: fp')) (I : WI L') : TW g h' t w d c p s L' n' fp' := by
  obtain ⟨f1, K1⟩ := fpUp X.gf X.kp U
  have M := X.tm
  unfold Tm at M
  have hl := lt_of_get M
  refine ⟨by unfold Tm; rw [U.get t hl X.off, M], W, I, fun hc => ?_, K1, f1, X.gt⟩
  rcases U.sub t hc with h5 | h5
  · exact X.off h5
  · omega
theorem TW.more {h' : Hp} (X : TW g h t w d c p s L n fp) (K : Kp h h') : TW g h' t w d c p s L n fp := by
  have M := X.tm
  unfold Tm at M
  exact ⟨by unfold Tm; rw [K.get t (lt_of_get M), M], X.wh.kp K, X.wi, X.off, X.kp.trans K, X.gf, X.gt⟩
theorem TW.put {c' p' s' : BitVec 32} (X : TW g h t w d c p s L n fp) : TW g (h.put t (some (.cells false [.int .i64 d, ptr w 0, u32 c', u32 p', u32 s']))) t w d c' p' s' L n fp := by
  have M := X.tm
  unfold Tm at M
  exact ⟨by unfold Tm; rw [get_put_self (lt_of_get M)], X.wh.keep fun b hb => get_put_ne fun e => X.off (e ▸ hb), X.wi, X.off, X.kp.put X.gt _, X.gf, X.gt⟩
theorem tarm (X : TW g h t w d c p s L n fp) (hd : 0 ≤ d ∧ d < 16) (hn : 0 ≤ now ∧ now ≤ 2 ^ 60)
    (hq : ∀ h' fp', TW g h' t w d c p s (insl (·.at') ⟨now + per p, d, n⟩ (wcan d L)) (IntKind.i64.wrap (n + 1)) fp' → q (.tuple #[]) h') : WC T n_timer_Timer_arm [ptr t 0, .int .i64 now] h q := by
  have M := X.tm
  unfold Tm at M
  obtain ⟨p1, p2⟩ := per_pos p
  have hw : IntKind.i64.wrap (now + per p) = now + per p := wrap_i64 (by omega) (by omega)
  have hw' : IntKind.i64.wrap (now + ((if 1#32 < p then p else 1#32).toNat : Int)) = now + per p := hw
  rw [w_timer_Timer_arm]
  simp (disch := first | assumption | ((try simp only [push_next, put_next, adv_next, List.length_cons, List.length_nil]); omega) | simp) [M, hw']
  refine warmI X.wh X.wi (fun hb => ?_) fun _ h1 fp1 I1 W1 U1 => ?_
  · simp [wbad] at hb
    omega
  · simp (disch := first | assumption | ((try simp only [push_next, put_next, adv_next, List.length_cons, List.length_nil]); omega) | simp)
    exact hq _ _ (X.arm W1 U1 I1)
theorem tnew (hw : w < h.next) : WC T n_timer_New [.int .i64 d, ptr w 0] h q ↔ q (ptr h.next 0) (h.push (.cells false [.int .i64 d, ptr w 0, u32 0#32, u32 0#32, u32 0#32])) := by
  rw [w_timer_New]
  simp (disch := first | assumption | ((try simp only [push_next, put_next, adv_next, List.length_cons, List.length_nil]); omega) | simp)
theorem tnew_nil : WC T n_timer_New [.int .i64 d, .pointer none] h q ↔ q (.pointer none) h := by
  rw [w_timer_New]
  simp (disch := first | assumption | ((try simp only [push_next, put_next, adv_next, List.length_cons, List.length_nil]); omega) | simp)
/-- What the word at an address tells. -/
def trd (c p s a : BitVec 32) : BitVec 32 := if a = 0#32 then c else if a = 4#32 then p else if a = 8#32 then s else 0#32
def tat (a : BitVec 32) : Bool := a == 0#32 || a == 4#32 || a == 8#32
theorem tread {a : BitVec 32} (M : Tm h t w d c p s) : WC T n_timer_Timer_Read [ptr t 0, u32 a] h q ↔ q (.tuple #[u32 (trd c p s a), .bool (tat a)]) h := by
  unfold Tm at M
  rw [w_timer_Timer_Read]
  by_cases a0 : a = 0#32
  · simp (disch := first | assumption | ((try simp only [push_next, put_next, adv_next, List.length_cons, List.length_nil]); omega) | simp) [M, a0, trd, tat]
  by_cases a4 : a = 4#32
  · simp (disch := first | assumption | ((try simp only [push_next, put_next, adv_next, List.length_cons, List.length_nil]); omega) | simp) [M, a4, trd, tat]
  by_cases a8 : a = 8#32
  · simp (disch := first | assumption | ((try simp only [push_next, put_next, adv_next, List.length_cons, List.length_nil]); omega) | simp) [M, a8, trd, tat]
  have b0 : (a == 0#32) = false := by simpa using a0
  have b4 : (a == 4#32) = false := by simpa using a4
  have b8 : (a == 8#32) = false := by simpa using a8
  simp (disch := first | assumption | ((try simp only [push_next, put_next, adv_next, List.length_cons, List.length_nil]); omega) | simp) [M, a0, a4, a8, b0, b4, b8, trd, tat]
theorem twrite {a v : BitVec 32} (X : TW g h t w d c p s L n fp) (hd : 0 ≤ d ∧ d < 16) (hn : 0 ≤ now ∧ now ≤ 2 ^ 60)
    (hq : ∀ c' p' s' L' n' h' fp', TW g h' t w d c' p' s' L' n' fp' →
      (a = 0#32 → c' = v &&& 3#32 ∧ p' = p ∧ s' = s ∧ (v &&& 1#32 ≠ 0#32 → L' = insl (·.at') ⟨now + per p, d, n⟩ (wcan d L) ∧ n' = IntKind.i64.wrap (n + 1)) ∧ (v &&& 1#32 = 0#32 → L' = wcan d L ∧ n' = n)) →
      (a = 4#32 → c' = c ∧ p' = v ∧ s' = s ∧ L' = L ∧ n' = n) → (a = 8#32 → c' = c ∧ p' = p ∧ s' = (if v &&& 1#32 = 0#32 then s else 0#32) ∧ L' = L ∧ n' = n) → (tat a = false → c' = c ∧ p' = p ∧ s' = s ∧ L' = L ∧ n' = n) →
      q (.bool (tat a)) h') : WC T n_timer_Timer_Write [ptr t 0, u32 a, u32 v, .int .i64 now] h q := by
  have M := X.tm
  unfold Tm at M
  have hl := lt_of_get M
  rw [w_timer_Timer_Write]
  by_cases a0 : a = 0#32
  · subst a0
    by_cases v1 : v &&& 1#32 = 0#32
    · have X1 := X.put (c' := v &&& 3#32) (p' := p) (s' := s)
      have M1 := X1.tm
      unfold Tm at M1
      simp (disch := first | assumption | ((try simp only [push_next, put_next, adv_next, List.length_cons, List.length_nil]); omega) | simp) [M, v1]
      have hlen := X.wi.len
      refine wcancel X1.wh (by omega) fun h1 fp1 W1 U1 => ?_
      simp (disch := first | assumption | ((try simp only [push_next, put_next, adv_next, List.length_cons, List.length_nil]); omega) | simp)
      refine hq _ _ _ _ _ _ _ (X1.arm W1 U1 (X.wi.can d)) (fun _ => ⟨rfl, rfl, rfl, fun hne => absurd v1 hne, fun _ => ⟨rfl, rfl⟩⟩) (fun h => by simp at h) (fun h => by simp at h) (fun h => by simp [tat] at h)
    · have X1 := X.put (c' := v &&& 3#32) (p' := p) (s' := s)
      simp (disch := first | assumption | ((try simp only [push_next, put_next, adv_next, List.length_cons, List.length_nil]); omega) | simp) [M, v1]
      refine tarm X1 hd hn fun h1 fp1 X2 => ?_
      simp (disch := first | assumption | ((try simp only [push_next, put_next, adv_next, List.length_cons, List.length_nil]); omega) | simp)
      refine hq _ _ _ _ _ _ _ X2 (fun _ => ⟨rfl, rfl, rfl, fun _ => ⟨rfl, rfl⟩, fun he => absurd he v1⟩) (fun h => by simp at h) (fun h => by simp at h) (fun h => by simp [tat] at h)
  by_cases a4 : a = 4#32
  · subst a4
    simp (disch := first | assumption | ((try simp only [push_next, put_next, adv_next, List.length_cons, List.length_nil]); omega) | simp) [M]
    exact hq _ _ _ _ _ _ _ (X.put (c' := c) (p' := v) (s' := s)) (fun h => by simp at h) (fun _ => ⟨rfl, rfl, rfl, rfl, rfl⟩) (fun h => by simp at h) (fun h => by simp [tat] at h)
  by_cases a8 : a = 8#32
  · subst a8
    by_cases v1 : v &&& 1#32 = 0#32
    · simp (disch := first | assumption | ((try simp only [push_next, put_next, adv_next, List.length_cons, List.length_nil]); omega) | simp) [M, v1]
      exact hq _ _ _ _ _ _ _ X (fun h => by simp at h) (fun h => by simp at h) (fun _ => ⟨rfl, rfl, by rw [if_pos v1], rfl, rfl⟩) (fun h => by simp [tat] at h)
    · simp (disch := first | assumption | ((try simp only [push_next, put_next, adv_next, List.length_cons, List.length_nil]); omega) | simp) [M, v1]
      exact hq _ _ _ _ _ _ _ (X.put (c' := c) (p' := p) (s' := 0#32)) (fun h => by simp at h) (fun h => by simp at h) (fun _ => ⟨rfl, rfl, by rw [if_neg v1], rfl, rfl⟩) (fun h => by simp [tat] at h)
  have b0 : (a == 0#32) = false := by simpa using a0
  have b4 : (a == 4#32) = false := by simpa using a4
  have b8 : (a == 8#32) = false := by simpa using a8
  have ht : tat a = false := by simp [tat, b0, b4, b8]
  have h9 := hq c p s L n h fp X (fun h => absurd h a0) (fun h => absurd h a4) (fun h => absurd h a8) (fun _ => ⟨rfl, rfl, rfl, rfl, rfl⟩)
  rw [ht] at h9
  simp (disch := first | assumption | ((try simp only [push_next, put_next, adv_next, List.length_cons, List.length_nil]); omega) | simp) [M, a0, a4, a8, b0, b4, b8]
  exact h9
theorem tfire (X : TW g h t w d c p s L n fp) (hd : 0 ≤ d ∧ d < 16) (hn : 0 ≤ now ∧ now ≤ 2 ^ 60)
    (hq : ∀ c' L' n' h' fp', TW g h' t w d c' p 1#32 L' n' fp' → (c &&& 2#32 ≠ 0#32 → c' = c ∧ L' = insl (·.at') ⟨now + per p, d, n⟩ (wcan d L) ∧ n' = IntKind.i64.wrap (n + 1)) → (c &&& 2#32 = 0#32 → c' = c &&& ~~~ 1#32 ∧ L' = L ∧ n' = n) → q (.tuple #[]) h') :
    WC T n_timer_Timer_Fire [ptr t 0, .int .i64 now] h q := by
  have M := X.tm
  unfold Tm at M
  have hl := lt_of_get M
  rw [w_timer_Timer_Fire]
  by_cases c2 : c &&& 2#32 = 0#32
  · simp (disch := first | assumption | ((try simp only [push_next, put_next, adv_next, List.length_cons, List.length_nil]); omega) | simp) [M, c2]
    exact hq _ _ _ _ _ (X.put (c' := c &&& ~~~ 1#32) (p' := p) (s' := 1#32)) (fun h => absurd c2 h) (fun _ => ⟨rfl, rfl, rfl⟩)
  · have X1 := X.put (c' := c) (p' := p) (s' := 1#32)
    simp (disch := first | assumption | ((try simp only [push_next, put_next, adv_next, List.length_cons, List.length_nil]); omega) | simp) [M, c2]
    refine tarm X1 hd hn fun h1 fp1 X2 => ?_
    simp (disch := first | assumption | ((try simp only [push_next, put_next, adv_next, List.length_cons, List.length_nil]); omega) | simp)
    exact hq _ _ _ _ _ X2 (fun _ => ⟨rfl, rfl, rfl⟩) (fun h => absurd h c2)
end
end Go.Proofs.Ytppgoobhlcdbbaa.Cd
