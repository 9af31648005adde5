/- Insertion sort of a row, as the library does it. -/
import Derived.Test.YtppgoobhlcdbbaaCdT
import Derived.Test.YtppgoobhlcdbbaaSx11
set_option maxRecDepth 1000000
set_option linter.unusedSimpArgs false
set_option linter.unusedVariables false
namespace Go.Proofs.Ytppgoobhlcdbbaa.Cd
open Go Go.Dx
structure Key where
  at' : Int
  b : BitVec 8
def encKey : Enc Key := ⟨2, fun x => [.int .i64 x.at', u8 x.b], fun _ => rfl, fun _ => rfl, by decide⟩
@[simp] theorem encKey_sz : encKey.sz = 2 := rfl
theorem isNaN {n : Int} {h : Hp} {q : Value → Hp → Prop} : WC T n_cmp_isNaN_int64 [.int .i64 n] h q ↔ q (.bool false) h := by
  rw [w_cmp_isNaN_int64]
  simp
theorem compare {m n : Int} {h : Hp} {q : Value → Hp → Prop} : WC T n_cmp_Compare_int64 [.int .i64 m, .int .i64 n] h q ↔ q (.int .i64 (cmpI m n)) h := by
  rw [w_cmp_Compare_int64]
  simp [GC_of (fun q => isNaN)]
  unfold cmpI
  by_cases h1 : m < n
  · simp [h1]
  · by_cases h2 : n < m
    · simp [h1, h2]
    · simp [h1, h2]
section
variable {h : Hp} {b n c a z : Nat} {sp : Option Nat} {fc : Nat} {key : Key → Int} {r : List Value}
def Cmp (fc : Nat) (key : Key → Int) : Prop := ∀ x y (h : Hp), WC T fc [.agg (encKey.enc x).toArray, .agg (encKey.enc y).toArray] h fun v h' => v = .int .i64 (cmpI (key x) (key y)) ∧ Kp h h'
theorem isort_inner {e : Env} {Q : Ex → Env → Hp → Prop} {k : List Fr} (hc : Cmp fc key) {u rest : List Key} {x : Key} {p : List Key} (hn : n = (u ++ p ++ x :: rest).length) (hbig : n < 2 ^ 62)
    (R : Env → Hp → Prop) (hR : ∀ e' h', R e' h' → GR T Q k (.x 2) e' h')
    (hout : ∀ e' h', (∀ t, t ≤ 8 → e' t = e t) → h'.get b = some (.cells false (encKey.all (u ++ insl key x p ++ rest) ++ r)) → Upd h h' [b] [b] → R e' h')
    (hg : h.get b = some (.cells false (encKey.all (u ++ p ++ x :: rest) ++ r))) (h0 : e 0 = .slice (some ⟨b, 0, sp⟩) n c) (h1 : e 1 = .int .i64 u.length) (h3 : e 3 = .func (.func fc) #[] #[]) (h9 : e 9 = .int .i64 (u ++ p).length) :
    G T Q (.loop c1_slices_insertionSortCmpFunc_input_Key) k e h := by
  refine G_loop (fun m e' h' => ∃ q s, m = q.length ∧ p = q ++ s ∧ insl key x p = insl key x q ++ s ∧ h'.get b = some (.cells false (encKey.all (u ++ q ++ x :: (s ++ rest)) ++ r)) ∧ Upd h h' [b] [b] ∧ (∀ t, t ≤ 8 → e' t = e t) ∧ e' 9 = .int .i64 (u ++ q).length) ?_ p.length e h
    ⟨p, [], rfl, by simp, by simp, by simpa using hg, .refl, fun _ _ => rfl, h9⟩
  rintro m ih e' h' ⟨q, s, rfl, hp, hi, hg', U, he, e9⟩
  have e0 := (he 0 (by omega)).trans h0
  have e1 := (he 1 (by omega)).trans h1
  have e3 := (he 3 (by omega)).trans h3
  have hlt := lt_of_get hg'
  induction q using snocInd with
  | nil =>
    simp (disch := first | assumption | ((try simp only [push_next, put_next, adv_next, List.length_cons, List.length_nil]); omega) | simp) [e0, e1, e3, e9]
    refine hR _ _ (hout _ _ (fun t ht => ?_) (by rw [hi]; simpa using hg') U)
    repeat rw [upd_ne _ (by omega)]
    exact he t ht
  | append_singleton q y _ =>
    have hl : (u ++ (q ++ [y])).length = (u ++ q).length + 1 := by simp; omega
    have hnl : (u ++ q).length + 1 < n := by rw [hn, hp]; simp; omega
    have rx : h'.rdn b (((u ++ q).length + 1) * 2) 2 = some (encKey.enc x) := by
      have := rd_mid (E := encKey) hg'
      rw [hl] at this
      exact this
    have ry : h'.rdn b ((u ++ q).length * 2) 2 = some (encKey.enc y) :=
      rd_mid (E := encKey) (ro := false) (r := r) (A := u ++ q) (B := x :: (s ++ rest)) (by rw [hg']; simp)
    have e9' : e' 9 = .int .i64 (((u ++ q).length : Int) + 1) := by rw [e9, hl]; rfl
    have gt : (u.length : Int) < ((u ++ q).length : Int) + 1 := by simp; omega
    clear e9
    generalize hA : (u ++ q).length = A at *
    simp (disch := first | assumption | ((try simp only [push_next, put_next, adv_next, List.length_cons, List.length_nil]); omega) | simp) [e0, e1, e3, e9', gt, rx, ry]
    refine GC_intro (hc x y h') fun v h2 ⟨hv, K⟩ => ?_
    subst hv
    have hg2 : h2.get b = some (.cells false (encKey.all (u ++ (q ++ [y]) ++ x :: (s ++ rest)) ++ r)) := by rw [K.get b hlt, hg']
    have hlt2 := lt_of_get hg2
    have U2 : Upd h h2 [b] [b] := U.trans ⟨K.le, fun k hk _ => K.get k hk, fun k hk => .inl hk⟩
    by_cases hlt3 : key x < key y
    · have hcm : cmpI (key x) (key y) < 0 := cmpI_lt.2 hlt3
      have rx2 : h2.rdn b ((A + 1) * 2) 2 = some (encKey.enc x) := rdn_kp rx (K.get b hlt)
      have ry2 : h2.rdn b (A * 2) 2 = some (encKey.enc y) := rdn_kp ry (K.get b hlt)
      have w1 : h2.wr b ((A + 1) * 2) (encKey.enc y) = some (h2.put b (some (.cells false (encKey.all (u ++ (q ++ [y]) ++ y :: (s ++ rest)) ++ r)))) := by
        have := wr_mid (E := encKey) (y := y) hg2
        rw [hl] at this
        exact this
      have w2 : (h2.put b (some (.cells false (encKey.all (u ++ (q ++ [y]) ++ y :: (s ++ rest)) ++ r)))).wr b (A * 2) (encKey.enc x) = some (h2.put b (some (.cells false (encKey.all ((u ++ q) ++ x :: (y :: (s ++ rest))) ++ r)))) := by
        have := wr_mid (E := encKey) (h := h2.put b (some (.cells false (encKey.all (u ++ (q ++ [y]) ++ y :: (s ++ rest)) ++ r)))) (b := b) (A := u ++ q) (x := y) (y := x) (B := y :: (s ++ rest)) (r := r) (by rw [get_put_self hlt2]; simp)
        rw [hA, put_put] at this
        exact this
      generalize encKey.all (u ++ (q ++ [y]) ++ y :: (s ++ rest)) ++ r = C1 at w1 w2
      generalize hC2 : encKey.all ((u ++ q) ++ x :: (y :: (s ++ rest))) ++ r = C2 at w2
      simp (disch := first | assumption | ((try simp only [push_next, put_next, adv_next, List.length_cons, List.length_nil]); omega) | simp) [hcm, e0, e1, e3, e9', rx2, ry2, w1, w2, -Hp.wr, -over, encKey.len, show encKey.sz = 2 from rfl]
      apply ih q.length (by simp)
      refine ⟨q, y :: s, rfl, by rw [hp]; simp, by rw [hi, insl_lt key q hlt3]; simp, by rw [get_put_self hlt2, ← hC2]; simp, ⟨U2.le, fun k hk hn => ?_, fun k hk => .inl hk⟩, fun t ht => ?_, ?_⟩
      · rw [get_put_ne (by simpa using hn), U2.get k hk hn]
      · repeat rw [upd_ne _ (by omega)]
        exact he t ht
      · simp [hA]
    · have hcm : ¬ cmpI (key x) (key y) < 0 := fun hh => hlt3 (cmpI_lt.1 hh)
      simp (disch := first | assumption | ((try simp only [push_next, put_next, adv_next, List.length_cons, List.length_nil]); omega) | simp) [hcm]
      refine hR _ _ (hout _ _ (fun t ht => ?_) (by rw [hi, insl_le key q hlt3, hg2]; simp) U2)
      repeat rw [upd_ne _ (by omega)]
      exact he t ht
theorem isort_run (hc : Cmp fc key) {u m t : List Key} (hn : n = (u ++ m ++ t).length) (hbig : n < 2 ^ 62) (hg : h.get b = some (.cells false (encKey.all (u ++ m ++ t) ++ r))) :
    WC T n_slices_insertionSortCmpFunc_input_Key [.slice (some ⟨b, 0, sp⟩) n c, .int .i64 u.length, .int .i64 (u.length + m.length : Nat), .func (.func fc) #[] #[]] h fun _ h' => h'.get b = some (.cells false (encKey.all (u ++ isort key m ++ t) ++ r)) ∧ Upd h h' [b] [b] := by
  have hul : u.length < n ∨ (u.length ≤ n ∧ m = []) := by
    rw [hn]
    cases m <;> simp
  rw [w_slices_insertionSortCmpFunc_input_Key]
  simp (disch := first | assumption | ((try simp only [push_next, put_next, adv_next, List.length_cons, List.length_nil]); omega) | simp)
  refine G_loop (fun k e h' => ∃ m1 m2 : List Key, k = m2.length ∧ m = m1 ++ m2 ∧ (m1 = [] → m2 = []) ∧ e 0 = .slice (some ⟨b, 0, sp⟩) n c ∧ e 1 = .int .i64 u.length ∧ e 2 = .int .i64 (u.length + m.length : Nat) ∧ e 3 = .func (.func fc) #[] #[] ∧ (m1 ≠ [] → e 8 = .int .i64 (u.length + m1.length : Nat)) ∧ (m1 = [] → e 8 = .int .i64 (u.length + 1 : Nat)) ∧
      h'.get b = some (.cells false (encKey.all (u ++ isort key m1 ++ m2 ++ t) ++ r)) ∧ Upd h h' [b] [b]) ?_ (m.length - 1) _ _ ?_
  · rintro k ih e h' ⟨m1, m2, rfl, rfl, h10, e0, e1, e2, e3, e8, e8', hg', U⟩
    cases m2 with
    | nil =>
      by_cases h1 : m1 = []
      · subst h1
        simp (disch := first | assumption | ((try simp only [push_next, put_next, adv_next, List.length_cons, List.length_nil]); omega) | simp) [e0, e1, e2, e3, e8' rfl, show ¬ ((u.length : Int) + 1 < u.length) by omega]
        refine ⟨by simpa using hg', U⟩
      · simp (disch := first | assumption | ((try simp only [push_next, put_next, adv_next, List.length_cons, List.length_nil]); omega) | simp) [e0, e1, e2, e3, e8 h1]
        refine ⟨by simpa using hg', U⟩
    | cons x m2 =>
      have h1 : m1 ≠ [] := fun hh => by cases h10 hh
      have hb : (u.length : Int) + m1.length + 1 < 9223372036854775808 := by
        have := hn
        simp at this
        omega
      have hlen : (u.length : Int) + m1.length < u.length + (m1.length + (m2.length + 1)) := by omega
      simp (disch := first | assumption | ((try simp only [push_next, put_next, adv_next, List.length_cons, List.length_nil]); omega) | simp) [e0, e1, e2, e3, e8 h1, hlen, -g1_slices_insertionSortCmpFunc_input_Key]
      refine isort_inner hc (u := u) (rest := m2 ++ t) (x := x) (p := isort key m1) (r := r) (n := n) (c := c) (sp := sp) (b := b) (by rw [hn]; simp) hbig (fun e' h2 => e' 0 = .slice (some ⟨b, 0, sp⟩) n c ∧ e' 1 = .int .i64 u.length ∧ e' 2 = .int .i64 (u.length + (m1 ++ x :: m2).length : Nat) ∧ e' 3 = .func (.func fc) #[] #[] ∧ e' 8 = .int .i64 (u.length + m1.length : Nat) ∧ h2.get b = some (.cells false (encKey.all (u ++ insl key x (isort key m1) ++ (m2 ++ t)) ++ r)) ∧ Upd h' h2 [b] [b]) ?_ ?_ ?_ (by simp [e0]) (by simp [e1]) (by simp [e3]) (by simp)
      · rintro e' h2 ⟨f0, f1, f2, f3, f8, hg2, U2⟩
        simp (disch := first | assumption | ((try simp only [push_next, put_next, adv_next, List.length_cons, List.length_nil]); omega) | simp) [f8, -g2_slices_insertionSortCmpFunc_input_Key]
        apply ih m2.length (by simp)
        refine ⟨m1 ++ [x], m2, rfl, by simp, by simp, by simp [f0], by simp [f1], by simp [f2], by simp [f3], fun _ => ?_, by simp, by rw [isort_snoc, hg2]; simp, U.trans U2⟩
        simp
        omega
      · intro e' h2 he hg2 U2
        refine ⟨by rw [he 0 (by omega)]; simp [e0], by rw [he 1 (by omega)]; simp [e1], by rw [he 2 (by omega)]; simp [e2], by rw [he 3 (by omega)]; simp [e3], by rw [he 8 (by omega)]; simp [e8 h1], hg2, U2⟩
      · rw [hg']; simp
  · cases m with
    | nil => exact ⟨[], [], rfl, rfl, fun _ => rfl, by simp, by simp, by simp, by simp, by simp, by simp, by simpa using hg, .refl⟩
    | cons x m => exact ⟨[x], m, rfl, rfl, by simp, by simp, by simp, by simp, by simp, by simp, by simp, by simpa using hg, .refl⟩
end
end Go.Proofs.Ytppgoobhlcdbbaa.Cd
