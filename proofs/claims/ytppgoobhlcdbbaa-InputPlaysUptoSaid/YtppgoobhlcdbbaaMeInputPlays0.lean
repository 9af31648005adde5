/- Texts of one kind, one behind the other. -/
import Derived.Test.YtppgoobhlcdbbaaMd0
import Derived.Test.YtppgoobhlcdbbaaMc0
/- Insertion sort of a row, as the library does it. -/
set_option maxRecDepth 1000000
set_option linter.unusedSimpArgs false
set_option linter.unusedVariables false
namespace Go.Proofs.Ytppgoobhlcdbbaa.Cd
open Go Go.Dx
structure Key where
  at' : Int
  b : BitVec 8
def encKey : Enc Key := ⟨2, fun x => [.int .i64 x.at', u8 x.b], fun _ => rfl, fun _ => rfl, by decide⟩
@[simp] theorem encKey_sz : encKey.sz = 2 := rfl
theorem isNaN {n : Int} {h : Hp} {q : Value → Hp → Prop} : WC T n_cmp_isNaN_int64 [.int .i64 n] h q ↔ q (.bool false) h := by
  rw [w_cmp_isNaN_int64]
  simp
theorem compare {m n : Int} {h : Hp} {q : Value → Hp → Prop} : WC T n_cmp_Compare_int64 [.int .i64 m, .int .i64 n] h q ↔ q (.int .i64 (cmpI m n)) h := by
  rw [w_cmp_Compare_int64]
  simp [GC_of (fun q => isNaN)]
  unfold cmpI
  by_cases h1 : m < n
  · simp [h1]
  · by_cases h2 : n < m
    · simp [h1, h2]
    · simp [h1, h2]
section
variable {h : Hp} {b n c a z : Nat} {sp : Option Nat} {fc : Nat} {key : Key → Int} {r : List Value}
def Cmp (fc : Nat) (key : Key → Int) : Prop := ∀ x y (h : Hp), WC T fc [.agg (encKey.enc x).toArray, .agg (encKey.enc y).toArray] h fun v h' => v = .int .i64 (cmpI (key x) (key y)) ∧ Kp h h'
theorem isort_inner {e : Env} {Q : Ex → Env → Hp → Prop} {k : List Fr} (hc : Cmp fc key) {u rest : List Key} {x : Key} {p : List Key} (hn : n = (u ++ p ++ x :: rest).length) (hbig : n < 2 ^ 62)
    (R : Env → Hp → Prop) (hR : ∀ e' h', R e' h' → GR T Q k (.x 2) e' h')
    (hout : ∀ e' h', (∀ t, t ≤ 8 → e' t = e t) → h'.get b = some (.cells false (encKey.all (u ++ insl key x p ++ rest) ++ r)) → Upd h h' [b] [b] → R e' h')
    (hg : h.get b = some (.cells false (encKey.all (u ++ p ++ x :: rest) ++ r))) (h0 : e 0 = .slice (some ⟨b, 0, sp⟩) n c) (h1 : e 1 = .int .i64 u.length) (h3 : e 3 = .func (.func fc) #[] #[]) (h9 : e 9 = .int .i64 (u ++ p).length) :
    G T Q (.loop c1_slices_insertionSortCmpFunc_input_Key) k e h := by
  refine G_loop (fun m e' h' => ∃ q s, m = q.length ∧ p = q ++ s ∧ insl key x p = insl key x q ++ s ∧ h'.get b = some (.cells false (encKey.all (u ++ q ++ x :: (s ++ rest)) ++ r)) ∧ Upd h h' [b] [b] ∧ (∀ t, t ≤ 8 → e' t = e t) ∧ e' 9 = .int .i64 (u ++ q).length) ?_ p.length e h
    ⟨p, [], rfl, by simp, by simp, by simpa using hg, .refl, fun _ _ => rfl, h9⟩
  rintro m ih e' h' ⟨q, s, rfl, hp, hi, hg', U, he, e9⟩
  have e0 := (he 0 (by omega)).trans h0
  have e1 := (he 1 (by omega)).trans h1
  have e3 := (he 3 (by omega)).trans h3
  have hlt := lt_of_get hg'
  induction q using snocInd with
  | nil =>
    simp (maxSteps := 1000000) (disch := first | assumption | ((try simp only [push_next, put_next, adv_next, List.length_cons, List.length_nil, List.length_map, List.length_set]); omega) | simp) [e0, e1, e3, e9]
    refine hR _ _ (hout _ _ (fun t ht => ?_) (by rw [hi]; simpa using hg') U)
    repeat rw [upd_ne _ (by omega)]
    exact he t ht
  | append_singleton q y _ =>
    have hl : (u ++ (q ++ [y])).length = (u ++ q).length + 1 := by simp; omega
    have hnl : (u ++ q).length + 1 < n := by rw [hn, hp]; simp; omega
    have rx : h'.rdn b (((u ++ q).length + 1) * 2) 2 = some (encKey.enc x) := by
      have := rd_mid (E := encKey) hg'
      rw [hl] at this
      exact this
    have ry : h'.rdn b ((u ++ q).length * 2) 2 = some (encKey.enc y) :=
      rd_mid (E := encKey) (ro := false) (r := r) (A := u ++ q) (B := x :: (s ++ rest)) (by rw [hg']; simp)
    have e9' : e' 9 = .int .i64 (((u ++ q).length : Int) + 1) := by rw [e9, hl]; rfl
    have gt : (u.length : Int) < ((u ++ q).length : Int) + 1 := by simp; omega
    clear e9
    generalize hA : (u ++ q).length = A at *
    simp (maxSteps := 1000000) (disch := first | assumption | ((try simp only [push_next, put_next, adv_next, List.length_cons, List.length_nil, List.length_map, List.length_set]); omega) | simp) [e0, e1, e3, e9', gt, rx, ry]
    refine GC_intro (hc x y h') fun v h2 ⟨hv, K⟩ => ?_
    subst hv
    have hg2 : h2.get b = some (.cells false (encKey.all (u ++ (q ++ [y]) ++ x :: (s ++ rest)) ++ r)) := by rw [K.get b hlt, hg']
    have hlt2 := lt_of_get hg2
    have U2 : Upd h h2 [b] [b] := U.trans ⟨K.le, fun k hk _ => K.get k hk, fun k hk => .inl hk⟩
    by_cases hlt3 : key x < key y
    · have hcm : cmpI (key x) (key y) < 0 := cmpI_lt.2 hlt3
      have rx2 : h2.rdn b ((A + 1) * 2) 2 = some (encKey.enc x) := rdn_kp rx (K.get b hlt)
      have ry2 : h2.rdn b (A * 2) 2 = some (encKey.enc y) := rdn_kp ry (K.get b hlt)
      have w1 : h2.wr b ((A + 1) * 2) (encKey.enc y) = some (h2.put b (some (.cells false (encKey.all (u ++ (q ++ [y]) ++ y :: (s ++ rest)) ++ r)))) := by
        have := wr_mid (E := encKey) (y := y) hg2
        rw [hl] at this
        exact this
      have w2 : (h2.put b (some (.cells false (encKey.all (u ++ (q ++ [y]) ++ y :: (s ++ rest)) ++ r)))).wr b (A * 2) (encKey.enc x) = some (h2.put b (some (.cells false (encKey.all ((u ++ q) ++ x :: (y :: (s ++ rest))) ++ r)))) := by
        have := wr_mid (E := encKey) (h := h2.put b (some (.cells false (encKey.all (u ++ (q ++ [y]) ++ y :: (s ++ rest)) ++ r)))) (b := b) (A := u ++ q) (x := y) (y := x) (B := y :: (s ++ rest)) (r := r) (by rw [get_put_self hlt2]; simp)
        rw [hA, put_put] at this
        exact this
      generalize encKey.all (u ++ (q ++ [y]) ++ y :: (s ++ rest)) ++ r = C1 at w1 w2
      generalize hC2 : encKey.all ((u ++ q) ++ x :: (y :: (s ++ rest))) ++ r = C2 at w2
      simp (maxSteps := 1000000) (disch := first | assumption | ((try simp only [push_next, put_next, adv_next, List.length_cons, List.length_nil, List.length_map, List.length_set]); omega) | simp) [hcm, e0, e1, e3, e9', rx2, ry2, w1, w2, -Hp.wr, -over, encKey.len, show encKey.sz = 2 from rfl]
      apply ih q.length (by simp)
      refine ⟨q, y :: s, rfl, by rw [hp]; simp, by rw [hi, insl_lt key q hlt3]; simp, by rw [get_put_self hlt2, ← hC2]; simp, ⟨U2.le, fun k hk hn => ?_, fun k hk => .inl hk⟩, fun t ht => ?_, ?_⟩
      · rw [get_put_ne (by simpa using hn), U2.get k hk hn]
      · repeat rw [upd_ne _ (by omega)]
        exact he t ht
      · simp [hA]
    · have hcm : ¬ cmpI (key x) (key y) < 0 := fun hh => hlt3 (cmpI_lt.1 hh)
      simp (maxSteps := 1000000) (disch := first | assumption | ((try simp only [push_next, put_next, adv_next, List.length_cons, List.length_nil, List.length_map, List.length_set]); omega) | simp) [hcm]
      refine hR _ _ (hout _ _ (fun t ht => ?_) (by rw [hi, insl_le key q hlt3, hg2]; simp) U2)
      repeat rw [upd_ne _ (by omega)]
      exact he t ht
theorem isort_run (hc : Cmp fc key) {u m t : List Key} (hn : n = (u ++ m ++ t).length) (hbig : n < 2 ^ 62) (hg : h.get b = some (.cells false (encKey.all (u ++ m ++ t) ++ r))) :
    WC T n_slices_insertionSortCmpFunc_input_Key [.slice (some ⟨b, 0, sp⟩) n c, .int .i64 u.length, .int .i64 (u.length + m.length : Nat), .func (.func fc) #[] #[]] h fun _ h' => h'.get b = some (.cells false (encKey.all (u ++ isort key m ++ t) ++ r)) ∧ Upd h h' [b] [b] := by
  have hul : u.length < n ∨ (u.length ≤ n ∧ m = []) := by
    rw [hn]
    cases m <;> simp
  rw [w_slices_insertionSortCmpFunc_input_Key]
  simp (maxSteps := 1000000) (disch := first | assumption | ((try simp only [push_next, put_next, adv_next, List.length_cons, List.length_nil, List.length_map, List.length_set]); omega) | simp)
  refine G_loop (fun k e h' => ∃ m1 m2 : List Key, k = m2.length ∧ m = m1 ++ m2 ∧ (m1 = [] → m2 = []) ∧ e 0 = .slice (some ⟨b, 0, sp⟩) n c ∧ e 1 = .int .i64 u.length ∧ e 2 = .int .i64 (u.length + m.length : Nat) ∧ e 3 = .func (.func fc) #[] #[] ∧ (m1 ≠ [] → e 8 = .int .i64 (u.length + m1.length : Nat)) ∧ (m1 = [] → e 8 = .int .i64 (u.length + 1 : Nat)) ∧
      h'.get b = some (.cells false (encKey.all (u ++ isort key m1 ++ m2 ++ t) ++ r)) ∧ Upd h h' [b] [b]) ?_ (m.length - 1) _ _ ?_
  · rintro k ih e h' ⟨m1, m2, rfl, rfl, h10, e0, e1, e2, e3, e8, e8', hg', U⟩
    cases m2 with
    | nil =>
      by_cases h1 : m1 = []
      · subst h1
        simp (maxSteps := 1000000) (disch := first | assumption | ((try simp only [push_next, put_next, adv_next, List.length_cons, List.length_nil, List.length_map, List.length_set]); omega) | simp) [e0, e1, e2, e3, e8' rfl, show ¬ ((u.length : Int) + 1 < u.length) by omega]
        refine ⟨by simpa using hg', U⟩
      · simp (maxSteps := 1000000) (disch := first | assumption | ((try simp only [push_next, put_next, adv_next, List.length_cons, List.length_nil, List.length_map, List.length_set]); omega) | simp) [e0, e1, e2, e3, e8 h1]
        refine ⟨by simpa using hg', U⟩
    | cons x m2 =>
      have h1 : m1 ≠ [] := fun hh => by cases h10 hh
      have hb : (u.length : Int) + m1.length + 1 < 9223372036854775808 := by
        have := hn
        simp at this
        omega
      have hlen : (u.length : Int) + m1.length < u.length + (m1.length + (m2.length + 1)) := by omega
      simp (maxSteps := 1000000) (disch := first | assumption | ((try simp only [push_next, put_next, adv_next, List.length_cons, List.length_nil, List.length_map, List.length_set]); omega) | simp) [e0, e1, e2, e3, e8 h1, hlen, -g1_slices_insertionSortCmpFunc_input_Key]
      refine isort_inner hc (u := u) (rest := m2 ++ t) (x := x) (p := isort key m1) (r := r) (n := n) (c := c) (sp := sp) (b := b) (by rw [hn]; simp) hbig (fun e' h2 => e' 0 = .slice (some ⟨b, 0, sp⟩) n c ∧ e' 1 = .int .i64 u.length ∧ e' 2 = .int .i64 (u.length + (m1 ++ x :: m2).length : Nat) ∧ e' 3 = .func (.func fc) #[] #[] ∧ e' 8 = .int .i64 (u.length + m1.length : Nat) ∧ h2.get b = some (.cells false (encKey.all (u ++ insl key x (isort key m1) ++ (m2 ++ t)) ++ r)) ∧ Upd h' h2 [b] [b]) ?_ ?_ ?_ (by simp [e0]) (by simp [e1]) (by simp [e3]) (by simp)
      · rintro e' h2 ⟨f0, f1, f2, f3, f8, hg2, U2⟩
        simp (maxSteps := 1000000) (disch := first | assumption | ((try simp only [push_next, put_next, adv_next, List.length_cons, List.length_nil, List.length_map, List.length_set]); omega) | simp) [f8, -g2_slices_insertionSortCmpFunc_input_Key]
        apply ih m2.length (by simp)
        refine ⟨m1 ++ [x], m2, rfl, by simp, by simp, by simp [f0], by simp [f1], by simp [f2], by simp [f3], fun _ => ?_, by simp, by rw [isort_snoc, hg2]; simp, U.trans U2⟩
        simp
        omega
      · intro e' h2 he hg2 U2
        refine ⟨by rw [he 0 (by omega)]; simp [e0], by rw [he 1 (by omega)]; simp [e1], by rw [he 2 (by omega)]; simp [e2], by rw [he 3 (by omega)]; simp [e3], by rw [he 8 (by omega)]; simp [e8 h1], hg2, U2⟩
      · rw [hg']; simp
  · cases m with
    | nil => exact ⟨[], [], rfl, rfl, fun _ => rfl, by simp, by simp, by simp, by simp, by simp, by simp, by simpa using hg, .refl⟩
    | cons x m => exact ⟨[x], m, rfl, rfl, by simp, by simp, by simp, by simp, by simp, by simp, by simp, by simpa using hg, .refl⟩
end
end Go.Proofs.Ytppgoobhlcdbbaa.Cd

/- Stable sorting of a row, as the library does it: blocks, merged by rotation. -/
set_option maxRecDepth 1000000
set_option linter.unusedSimpArgs false
set_option linter.unusedVariables false
namespace Go.Proofs.Ytppgoobhlcdbbaa.Cd
open Go Go.Dx
section
variable {h : Hp} {b n c : Nat} {sp : Option Nat} {fc : Nat} {key : Key → Int} {r : List Value} {q : Value → Hp → Prop}
theorem swapRange {A X B Y C : List Key} {i1 i2 i3 : Int} (hk : X.length = Y.length) (hn : n = (A ++ (X ++ (B ++ (Y ++ C)))).length) (hbig : n < 2 ^ 62) (h1 : i1 = A.length) (h2 : i2 = A.length + X.length + B.length) (h3 : i3 = X.length)
    (hg : h.get b = some (.cells false (encKey.all (A ++ (X ++ (B ++ (Y ++ C)))) ++ r))) (hq : ∀ v h', h'.get b = some (.cells false (encKey.all (A ++ (Y ++ (B ++ (X ++ C)))) ++ r)) → Upd h h' [b] [b] → q v h') :
    WC T n_slices_swapRangeCmpFunc_input_Key [.slice (some ⟨b, 0, sp⟩) n c, .int .i64 i1, .int .i64 i2, .int .i64 i3, .func (.func fc) #[] #[]] h q := by
  rw [w_slices_swapRangeCmpFunc_input_Key]
  simp (maxSteps := 1000000) (disch := first | assumption | ((try simp only [push_next, put_next, adv_next, List.length_cons, List.length_nil, List.length_map, List.length_set]); omega) | simp)
  refine G_loop (fun m e h' => ∃ X1 X2 Y1 Y2, m = X2.length ∧ X = X1 ++ X2 ∧ Y = Y1 ++ Y2 ∧ X1.length = Y1.length ∧ e 0 = .slice (some ⟨b, 0, sp⟩) n c ∧ e 1 = .int .i64 i1 ∧ e 2 = .int .i64 i2 ∧ e 3 = .int .i64 i3 ∧ e 10 = .int .i64 X1.length ∧
      h'.get b = some (.cells false (encKey.all (A ++ (Y1 ++ (X2 ++ (B ++ (X1 ++ (Y2 ++ C)))))) ++ r)) ∧ Upd h h' [b] [b]) ?_ X.length _ _ ⟨[], X, [], Y, rfl, rfl, rfl, rfl, by simp, by simp, by simp, by simp, by simp, by simpa using hg, .refl⟩
  rintro m ih e h' ⟨X1, X2, Y1, Y2, rfl, rfl, rfl, h12, e0, e1, e2, e3, e10, hg', U⟩
  have hlt := lt_of_get hg'
  cases X2 with
  | nil =>
    have : Y2 = [] := by
      simp at hk
      apply List.eq_nil_of_length_eq_zero
      omega
    subst this
    simp (maxSteps := 1000000) (disch := first | assumption | ((try simp only [push_next, put_next, adv_next, List.length_cons, List.length_nil, List.length_map, List.length_set]); omega) | simp) [e0, e1, e2, e3, e10, show ¬ ((X1.length : Int) < i3) by rw [h3]; simp]
    exact hq _ _ (by simpa using hg') U
  | cons x X2 =>
    cases Y2 with
    | nil => simp at hk; omega
    | cons y Y2 =>
      obtain ⟨p1, hp1⟩ : ∃ p, p = (A ++ Y1).length := ⟨_, rfl⟩
      obtain ⟨p2, hp2⟩ : ∃ p, p = (A ++ (Y1 ++ (x :: X2 ++ (B ++ X1)))).length := ⟨_, rfl⟩
      have rx : h'.rdn b (p1 * 2) 2 = some (encKey.enc x) := by
        rw [hp1]
        exact rd_mid (E := encKey) (ro := false) (r := r) (A := A ++ Y1) (B := X2 ++ (B ++ (X1 ++ (y :: Y2 ++ C)))) (by rw [hg']; simp)
      have ry : h'.rdn b (p2 * 2) 2 = some (encKey.enc y) := by
        rw [hp2]
        exact rd_mid (E := encKey) (ro := false) (r := r) (A := A ++ (Y1 ++ (x :: X2 ++ (B ++ X1)))) (B := Y2 ++ C) (by rw [hg']; simp)
      have w1 : h'.wr b (p1 * 2) (encKey.enc y) = some (h'.put b (some (.cells false (encKey.all (A ++ Y1 ++ y :: (X2 ++ (B ++ (X1 ++ (y :: Y2 ++ C))))) ++ r)))) := by
        rw [hp1]
        exact wr_mid (E := encKey) (x := x) (by rw [hg']; simp)
      have w2 : (h'.put b (some (.cells false (encKey.all (A ++ Y1 ++ y :: (X2 ++ (B ++ (X1 ++ (y :: Y2 ++ C))))) ++ r)))).wr b (p2 * 2) (encKey.enc x) = some (h'.put b (some (.cells false (encKey.all (A ++ (Y1 ++ (y :: X2 ++ (B ++ X1))) ++ x :: (Y2 ++ C)) ++ r)))) := by
        have := wr_mid (E := encKey) (h := h'.put b (some (.cells false (encKey.all (A ++ Y1 ++ y :: (X2 ++ (B ++ (X1 ++ (y :: Y2 ++ C))))) ++ r)))) (b := b) (A := A ++ (Y1 ++ (y :: X2 ++ (B ++ X1)))) (x := y) (y := x) (B := Y2 ++ C) (r := r) (by rw [get_put_self hlt]; simp)
        rw [put_put, show (A ++ (Y1 ++ (y :: X2 ++ (B ++ X1)))).length = p2 by rw [hp2]; simp] at this
        exact this
      have s1 : i1 + (X1.length : Int) = (p1 : Int) := by rw [hp1, h1]; simp; omega
      have s2 : i2 + (X1.length : Int) = (p2 : Int) := by rw [hp2, h2]; simp; omega
      have b1 : p1 < n := by rw [hp1, hn]; simp; omega
      have b2 : p2 < n := by rw [hp2, hn]; simp; omega
      have b3 : X1.length < n := by rw [hn]; simp; omega
      have s3 : (X1.length : Int) < i3 := by rw [h3]; simp; omega
      generalize encKey.all (A ++ Y1 ++ y :: (X2 ++ (B ++ (X1 ++ (y :: Y2 ++ C))))) ++ r = C1 at w1 w2
      generalize hC2 : encKey.all (A ++ (Y1 ++ (y :: X2 ++ (B ++ X1))) ++ x :: (Y2 ++ C)) ++ r = C2 at w2
      simp (maxSteps := 1000000) (disch := first | assumption | ((try simp only [push_next, put_next, adv_next, List.length_cons, List.length_nil, List.length_map, List.length_set]); omega) | simp) [e0, e1, e2, e3, e10, s1, s2, s3, rx, ry, w1, w2, -Hp.wr, -over, encKey.len, show encKey.sz = 2 from rfl]
      apply ih X2.length (by simp)
      refine ⟨X1 ++ [x], X2, Y1 ++ [y], Y2, rfl, by simp, by simp, by simp [h12], by simp [e0], by simp [e1], by simp [e2], by simp [e3], by simp, by rw [get_put_self hlt, ← hC2]; simp, ⟨U.le, fun k hk hn => ?_, fun k hk => .inl hk⟩⟩
      rw [get_put_ne (by simpa using hn), U.get k hk hn]
theorem rotate {A P Q C : List Key} {i1 i2 i3 : Int} (hP : P ≠ []) (hQ : Q ≠ []) (hn : n = (A ++ (P ++ (Q ++ C))).length) (hbig : n < 2 ^ 62) (h1 : i1 = A.length) (h2 : i2 = A.length + P.length) (h3 : i3 = A.length + P.length + Q.length)
    (hg : h.get b = some (.cells false (encKey.all (A ++ (P ++ (Q ++ C))) ++ r))) (hq : ∀ v h', h'.get b = some (.cells false (encKey.all (A ++ (Q ++ (P ++ C))) ++ r)) → Upd h h' [b] [b] → q v h') :
    WC T n_slices_rotateCmpFunc_input_Key [.slice (some ⟨b, 0, sp⟩) n c, .int .i64 i1, .int .i64 i2, .int .i64 i3, .func (.func fc) #[] #[]] h q := by
  have hn0 := hn
  simp at hn0
  rw [w_slices_rotateCmpFunc_input_Key]
  simp (maxSteps := 1000000) (disch := first | assumption | ((try simp only [push_next, put_next, adv_next, List.length_cons, List.length_nil, List.length_map, List.length_set]); omega) | simp) [-g2_slices_rotateCmpFunc_input_Key]
  refine G_loop (fun m e h' => ∃ (A' P' Q' C' : List Key) (i j : Int), m = P'.length + Q'.length ∧ i = P'.length ∧ j = Q'.length ∧ 0 < P'.length ∧ 0 < Q'.length ∧ A ++ (Q ++ (P ++ C)) = A' ++ (Q' ++ (P' ++ C')) ∧ n = (A' ++ (P' ++ (Q' ++ C'))).length ∧ i2 = A'.length + P'.length ∧ e 0 = .slice (some ⟨b, 0, sp⟩) n c ∧ e 2 = .int .i64 i2 ∧ e 4 = .func (.func fc) #[] #[] ∧ e 10 = .int .i64 i ∧ e 11 = .int .i64 j ∧
      h'.get b = some (.cells false (encKey.all (A' ++ (P' ++ (Q' ++ C'))) ++ r)) ∧ Upd h h' [b] [b]) ?_ (P.length + Q.length) _ _
    ⟨A, P, Q, C, i2 - i1, i3 - i2, rfl, by omega, by omega, List.length_pos_iff.2 hP, List.length_pos_iff.2 hQ, rfl, hn, h2, by simp, by simp, by simp, by simp, by simp, hg, .refl⟩
  rintro m ih e h' ⟨A', P', Q', C', i, j, rfl, hi, hj, hP', hQ', hT, hn', h2', e0, e2, e4, e10, e11, hg', U⟩
  have hn1 := hn'
  simp at hn1
  rcases Int.lt_trichotomy i j with hij | hij | hij
  · obtain ⟨Q1, Q2, rfl, hl⟩ : ∃ Q1 Q2, Q' = Q1 ++ Q2 ∧ Q2.length = P'.length := ⟨Q'.take (Q'.length - P'.length), Q'.drop (Q'.length - P'.length), (List.take_append_drop _ _).symm, by simp; omega⟩
    simp at hj hQ' hn1
    simp (maxSteps := 1000000) (disch := first | assumption | ((try simp only [push_next, put_next, adv_next, List.length_cons, List.length_nil, List.length_map, List.length_set]); omega) | simp) [e0, e2, e4, e10, e11, show i ≠ j by omega, show ¬ j < i by omega]
    refine GC_intro (swapRange (r := r) (A := A') (X := P') (B := Q1) (Y := Q2) (C := C') hl.symm (by rw [hn']; simp) hbig (by omega) (by omega) (by omega) (by rw [hg']; simp) fun v h2 hg2 U2 => ?_) fun v h2 hh => hh
    simp (maxSteps := 1000000) (disch := first | assumption | ((try simp only [push_next, put_next, adv_next, List.length_cons, List.length_nil, List.length_map, List.length_set]); omega) | simp) [e0, e2, e4, e10, e11]
    apply ih (Q2.length + Q1.length) (by simp; omega)
    refine ⟨A', Q2, Q1, P' ++ C', i, j - i, rfl, by omega, by omega, by omega, by omega, by rw [hT]; simp, by rw [hn']; simp; omega, by omega, by simp [e0], by simp [e2], by simp [e4], by simp [e10], by simp, by rw [hg2], U.trans U2⟩
  · simp (maxSteps := 1000000) (disch := first | assumption | ((try simp only [push_next, put_next, adv_next, List.length_cons, List.length_nil, List.length_map, List.length_set]); omega) | simp) [e0, e2, e4, e10, e11, hij]
    refine GC_intro (swapRange (r := r) (A := A') (X := P') (B := []) (Y := Q') (C := C') (by omega) (by rw [hn']; simp) hbig (by omega) (by simp; omega) (by omega) (by rw [hg']; simp) fun v h2 hg2 U2 => ?_) fun v h2 hh => hh
    simp (maxSteps := 1000000) (disch := first | assumption | ((try simp only [push_next, put_next, adv_next, List.length_cons, List.length_nil, List.length_map, List.length_set]); omega) | simp)
    exact hq _ _ (by rw [hT, hg2]; simp) (U.trans U2)
  · obtain ⟨P1, P2, rfl, hl⟩ : ∃ P1 P2, P' = P1 ++ P2 ∧ P1.length = Q'.length := ⟨P'.take Q'.length, P'.drop Q'.length, (List.take_append_drop _ _).symm, by simp; omega⟩
    simp at hi hP' hn1 h2'
    simp (maxSteps := 1000000) (disch := first | assumption | ((try simp only [push_next, put_next, adv_next, List.length_cons, List.length_nil, List.length_map, List.length_set]); omega) | simp) [e0, e2, e4, e10, e11, show i ≠ j by omega, hij]
    refine GC_intro (swapRange (r := r) (A := A') (X := P1) (B := P2) (Y := Q') (C := C') hl (by rw [hn']; simp) hbig (by omega) (by omega) (by omega) (by rw [hg']; simp) fun v h2 hg2 U2 => ?_) fun v h2 hh => hh
    simp (maxSteps := 1000000) (disch := first | assumption | ((try simp only [push_next, put_next, adv_next, List.length_cons, List.length_nil, List.length_map, List.length_set]); omega) | simp) [e0, e2, e4, e10, e11]
    apply ih (P2.length + P1.length) (by simp; omega)
    refine ⟨A' ++ Q', P2, P1, C', i - j, j, rfl, by omega, by omega, by omega, by omega, by rw [hT]; simp, by rw [hn']; simp; omega, by simp; omega, by simp [e0], by simp [e2], by simp [e4], by simp, by simp [e11], by rw [hg2]; simp, U.trans U2⟩
theorem half {x : Int} {m : Nat} (h0 : 0 ≤ x) (hx : x < 2 ^ 63) (hm : (m : Int) = x / 2) : cvt .i64 (u64 (BitVec.ofInt 64 x >>> 1)) = some (.int .i64 m) := by
  obtain ⟨k, rfl⟩ := Int.eq_ofNat_of_zero_le h0
  have hk : (BitVec.ofInt 64 (k : Int) >>> 1).toNat = m := by
    rw [BitVec.ofInt_natCast, BitVec.toNat_ushiftRight, BitVec.toNat_ofNat, Nat.mod_eq_of_lt (by omega), Nat.shiftRight_eq_div_pow]
    omega
  rw [u64, hk]
  unfold cvt
  simp only []
  rw [wrap_i64 (by omega) (by omega)]
theorem rd_at {L : List Key} {k : Nat} {x : Key} {ro : Bool} (hx : L[k]? = some x) (hg : h.get b = some (.cells ro (encKey.all L ++ r))) : h.rdn b (k * 2) 2 = some (encKey.enc x) := by
  obtain ⟨hk, rfl⟩ := List.getElem?_eq_some_iff.1 hx
  have := rd_mid (E := encKey) (ro := ro) (r := r) (h := h) (b := b) (A := L.take k) (x := L[k]) (B := L.drop (k + 1)) (by rw [hg]; simp)
  rw [List.length_take, Nat.min_eq_left (by omega)] at this
  exact this
theorem search1 {e : Env} {Q : Ex → Env → Hp → Prop} {k : List Fr} (hc : Cmp fc key) {L : List Key} {i j a : Nat} {x : Key} (hn : n = L.length) (hbig : n < 2 ^ 62) (hx : L[a]? = some x)
    (hR : ∀ e' h' s, (∀ t, t ≤ 9 → e' t = e t) → e' 10 = .int .i64 (s : Nat) → i ≤ s → s ≤ j → (i < s → ∀ y, L[s - 1]? = some y → key y < key x) → (s < j → ∀ y, L[s]? = some y → ¬ key y < key x) → Kp h h' → GR T Q k (.x 0) e' h')
    (hg : h.get b = some (.cells false (encKey.all L ++ r))) (h0 : e 0 = .slice (some ⟨b, 0, sp⟩) n c) (h1 : e 1 = .int .i64 a) (h4 : e 4 = .func (.func fc) #[] #[]) (h10 : e 10 = .int .i64 i) (h11 : e 11 = .int .i64 j) (hij : i ≤ j) (hj : j ≤ n) :
    G T Q (.loop c2_slices_symMergeCmpFunc_input_Key) k e h := by
  refine G_loop (fun m e' h' => ∃ u v : Nat, m = v - u ∧ i ≤ u ∧ u ≤ v ∧ v ≤ j ∧ (i < u → ∀ y, L[u - 1]? = some y → key y < key x) ∧ (v < j → ∀ y, L[v]? = some y → ¬ key y < key x) ∧ (∀ t, t ≤ 9 → e' t = e t) ∧ e' 10 = .int .i64 u ∧ e' 11 = .int .i64 v ∧ Kp h h') ?_ (j - i) e h
    ⟨i, j, rfl, Nat.le_refl _, hij, Nat.le_refl _, fun hh => absurd hh (Nat.lt_irrefl _), fun hh => absurd hh (Nat.lt_irrefl _), fun _ _ => rfl, h10, h11, .refl _⟩
  rintro m ih e' h' ⟨u, v, rfl, hu, huv, hv, gu, gv, he, e10, e11, K⟩
  have e0 := (he 0 (by omega)).trans h0
  have e1 := (he 1 (by omega)).trans h1
  have e4 := (he 4 (by omega)).trans h4
  have hlt := lt_of_get hg
  by_cases huv' : u < v
  · have hm : u ≤ (u + v) / 2 ∧ (u + v) / 2 < v := by omega
    obtain ⟨c', hc'⟩ : ∃ m, m = (u + v) / 2 := ⟨_, rfl⟩
    have hy : L[c']? = some L[c'] := List.getElem?_eq_getElem (by omega)
    have ha : a < n := by rw [hn]; exact (List.getElem?_eq_some_iff.1 hx).1
    generalize L[c'] = y at hy
    have rx := rdn_kp (rd_at hx hg) (K.get b hlt)
    have ry := rdn_kp (rd_at hy hg) (K.get b hlt)
    have hh := half (x := (u : Int) + (v : Int)) (m := c') (by omega) (by omega) (by omega)
    simp (maxSteps := 1000000) (disch := first | assumption | ((try simp only [push_next, put_next, adv_next, List.length_cons, List.length_nil, List.length_map, List.length_set]); omega) | simp) [e0, e1, e4, e10, e11, huv', hh, rx, ry]
    refine GC_intro (hc y x h') fun v' h2 ⟨hv', K2⟩ => ?_
    subst hv'
    by_cases hlt3 : key y < key x
    · have hcm : cmpI (key y) (key x) < 0 := cmpI_lt.2 hlt3
      simp (maxSteps := 1000000) (disch := first | assumption | ((try simp only [push_next, put_next, adv_next, List.length_cons, List.length_nil, List.length_map, List.length_set]); omega) | simp) [hcm]
      apply ih (v - (c' + 1)) (by omega)
      refine ⟨c' + 1, v, rfl, by omega, by omega, hv, fun _ z hz => ?_, gv, fun t ht => ?_, by simp, by simp [e11], K.trans K2⟩
      · rw [show c' + 1 - 1 = c' by omega, hy] at hz
        cases hz
        exact hlt3
      · repeat rw [upd_ne _ (by omega)]
        exact he t ht
    · have hcm : ¬ cmpI (key y) (key x) < 0 := fun hh => hlt3 (cmpI_lt.1 hh)
      simp (maxSteps := 1000000) (disch := first | assumption | ((try simp only [push_next, put_next, adv_next, List.length_cons, List.length_nil, List.length_map, List.length_set]); omega) | simp) [hcm]
      apply ih (c' - u) (by omega)
      refine ⟨u, c', rfl, hu, by omega, by omega, gu, fun _ z hz => ?_, fun t ht => ?_, by simp [e10], by simp, K.trans K2⟩
      · rw [hy] at hz
        cases hz
        exact hlt3
      · repeat rw [upd_ne _ (by omega)]
        exact he t ht
  · simp (maxSteps := 1000000) (disch := first | assumption | ((try simp only [push_next, put_next, adv_next, List.length_cons, List.length_nil, List.length_map, List.length_set]); omega) | simp) [e0, e1, e4, e10, e11, huv']
    have : v = u := by omega
    subst this
    exact hR _ _ _ (fun t ht => by repeat rw [upd_ne _ (by omega)]
                                   exact he t ht) (by simp [e10]) hu hv gu gv K
theorem search2 {e : Env} {Q : Ex → Env → Hp → Prop} {k : List Fr} (hc : Cmp fc key) {L : List Key} {i j a : Nat} {x : Key} (hn : n = L.length) (hbig : n < 2 ^ 62) (hx : L[a]? = some x)
    (hR : ∀ e' h' s, (∀ t, t ≤ 13 → e' t = e t) → e' 14 = .int .i64 (s : Nat) → i ≤ s → s ≤ j → (i < s → ∀ y, L[s - 1]? = some y → ¬ key x < key y) → (s < j → ∀ y, L[s]? = some y → key x < key y) → Kp h h' → GR T Q k (.x 4) e' h')
    (hg : h.get b = some (.cells false (encKey.all L ++ r))) (h0 : e 0 = .slice (some ⟨b, 0, sp⟩) n c) (h2 : e 2 = .int .i64 a) (h4 : e 4 = .func (.func fc) #[] #[]) (h10 : e 14 = .int .i64 i) (h11 : e 15 = .int .i64 j) (hij : i ≤ j) (hj : j ≤ n) :
    G T Q (.loop c8_slices_symMergeCmpFunc_input_Key) k e h := by
  refine G_loop (fun m e' h' => ∃ u v : Nat, m = v - u ∧ i ≤ u ∧ u ≤ v ∧ v ≤ j ∧ (i < u → ∀ y, L[u - 1]? = some y → ¬ key x < key y) ∧ (v < j → ∀ y, L[v]? = some y → key x < key y) ∧ (∀ t, t ≤ 13 → e' t = e t) ∧ e' 14 = .int .i64 u ∧ e' 15 = .int .i64 v ∧ Kp h h') ?_ (j - i) e h
    ⟨i, j, rfl, Nat.le_refl _, hij, Nat.le_refl _, fun hh => absurd hh (Nat.lt_irrefl _), fun hh => absurd hh (Nat.lt_irrefl _), fun _ _ => rfl, h10, h11, .refl _⟩
  rintro m ih e' h' ⟨u, v, rfl, hu, huv, hv, gu, gv, he, e10, e11, K⟩
  have e0 := (he 0 (by omega)).trans h0
  have e1 := (he 2 (by omega)).trans h2
  have e4 := (he 4 (by omega)).trans h4
  have hlt := lt_of_get hg
  by_cases huv' : u < v
  · have hm : u ≤ (u + v) / 2 ∧ (u + v) / 2 < v := by omega
    obtain ⟨c', hc'⟩ : ∃ m, m = (u + v) / 2 := ⟨_, rfl⟩
    have hy : L[c']? = some L[c'] := List.getElem?_eq_getElem (by omega)
    have ha : a < n := by rw [hn]; exact (List.getElem?_eq_some_iff.1 hx).1
    generalize L[c'] = y at hy
    have rx := rdn_kp (rd_at hx hg) (K.get b hlt)
    have ry := rdn_kp (rd_at hy hg) (K.get b hlt)
    have hh := half (x := (u : Int) + (v : Int)) (m := c') (by omega) (by omega) (by omega)
    simp (maxSteps := 1000000) (disch := first | assumption | ((try simp only [push_next, put_next, adv_next, List.length_cons, List.length_nil, List.length_map, List.length_set]); omega) | simp) [e0, e1, e4, e10, e11, huv', hh, rx, ry]
    refine GC_intro (hc x y h') fun v' h3 ⟨hv', K2⟩ => ?_
    subst hv'
    by_cases hlt3 : key x < key y
    · have hcm : cmpI (key x) (key y) < 0 := cmpI_lt.2 hlt3
      simp (maxSteps := 1000000) (disch := first | assumption | ((try simp only [push_next, put_next, adv_next, List.length_cons, List.length_nil, List.length_map, List.length_set]); omega) | simp) [hcm]
      apply ih (c' - u) (by omega)
      refine ⟨u, c', rfl, hu, by omega, by omega, gu, fun _ z hz => ?_, fun t ht => ?_, by simp [e10], by simp, K.trans K2⟩
      · rw [hy] at hz
        cases hz
        exact hlt3
      · repeat rw [upd_ne _ (by omega)]
        exact he t ht
    · have hcm : ¬ cmpI (key x) (key y) < 0 := fun hh => hlt3 (cmpI_lt.1 hh)
      simp (maxSteps := 1000000) (disch := first | assumption | ((try simp only [push_next, put_next, adv_next, List.length_cons, List.length_nil, List.length_map, List.length_set]); omega) | simp) [hcm]
      apply ih (v - (c' + 1)) (by omega)
      refine ⟨c' + 1, v, rfl, by omega, by omega, hv, fun _ z hz => ?_, gv, fun t ht => ?_, by simp, by simp [e11], K.trans K2⟩
      · rw [show c' + 1 - 1 = c' by omega, hy] at hz
        cases hz
        exact hlt3
      · repeat rw [upd_ne _ (by omega)]
        exact he t ht
  · simp (maxSteps := 1000000) (disch := first | assumption | ((try simp only [push_next, put_next, adv_next, List.length_cons, List.length_nil, List.length_map, List.length_set]); omega) | simp) [e0, e1, e4, e10, e11, huv']
    have : v = u := by omega
    subst this
    exact hR _ _ _ (fun t ht => by repeat rw [upd_ne _ (by omega)]
                                   exact he t ht) (by simp [e10]) hu hv gu gv K
theorem search3 {e : Env} {Q : Ex → Env → Hp → Prop} {k : List Fr} (hc : Cmp fc key) {L : List Key} {i j p : Nat} (hn : n = L.length) (hbig : n < 2 ^ 62)
    (hR : ∀ e' h' s, (∀ t, t ≤ 19 → e' t = e t) → e' 20 = .int .i64 (s : Nat) → i ≤ s → s ≤ j → (i < s → ∀ x y, L[p - (s - 1)]? = some x → L[s - 1]? = some y → ¬ key x < key y) → (s < j → ∀ x y, L[p - s]? = some x → L[s]? = some y → key x < key y) → Kp h h' → GR T Q k (.x 8) e' h')
    (hg : h.get b = some (.cells false (encKey.all L ++ r))) (h0 : e 0 = .slice (some ⟨b, 0, sp⟩) n c) (h4 : e 4 = .func (.func fc) #[] #[]) (h20 : e 20 = .int .i64 i) (h21 : e 21 = .int .i64 j) (h22 : e 22 = .int .i64 p) (hij : i ≤ j) (hj : j ≤ n) (hjp : j ≤ p + 1) (hpn : p < n + i) :
    G T Q (.loop c15_slices_symMergeCmpFunc_input_Key) k e h := by
  refine G_loop (fun m e' h' => ∃ u v : Nat, m = v - u ∧ i ≤ u ∧ u ≤ v ∧ v ≤ j ∧ (i < u → ∀ x y, L[p - (u - 1)]? = some x → L[u - 1]? = some y → ¬ key x < key y) ∧ (v < j → ∀ x y, L[p - v]? = some x → L[v]? = some y → key x < key y) ∧ (∀ t, t ≤ 19 → e' t = e t) ∧ e' 20 = .int .i64 u ∧ e' 21 = .int .i64 v ∧ e' 22 = .int .i64 p ∧ Kp h h') ?_ (j - i) e h
    ⟨i, j, rfl, Nat.le_refl _, hij, Nat.le_refl _, fun hh => absurd hh (Nat.lt_irrefl _), fun hh => absurd hh (Nat.lt_irrefl _), fun _ _ => rfl, h20, h21, h22, .refl _⟩
  rintro m ih e' h' ⟨u, v, rfl, hu, huv, hv, gu, gv, he, e20, e21, e22, K⟩
  have e0 := (he 0 (by omega)).trans h0
  have e4 := (he 4 (by omega)).trans h4
  have hlt := lt_of_get hg
  by_cases huv' : u < v
  · have hm : u ≤ (u + v) / 2 ∧ (u + v) / 2 < v := by omega
    obtain ⟨c', hc'⟩ : ∃ m, m = (u + v) / 2 := ⟨_, rfl⟩
    obtain ⟨d, hd⟩ : ∃ d, d = p - c' := ⟨_, rfl⟩
    have hx : L[d]? = some L[d] := List.getElem?_eq_getElem (by omega)
    have hy : L[c']? = some L[c'] := List.getElem?_eq_getElem (by omega)
    have hdn : d < n := by omega
    have hcn : c' < n := by omega
    have hpb : p < 2 ^ 63 := by omega
    generalize L[c'] = y at hy
    generalize L[d] = x at hx
    have rx := rdn_kp (rd_at hx hg) (K.get b hlt)
    have ry := rdn_kp (rd_at hy hg) (K.get b hlt)
    have hh := half (x := (u : Int) + (v : Int)) (m := c') (by omega) (by omega) (by omega)
    have hs : (p : Int) - (c' : Int) = (d : Int) := by omega
    simp (maxSteps := 1000000) (disch := first | assumption | ((try simp only [push_next, put_next, adv_next, List.length_cons, List.length_nil, List.length_map, List.length_set]); omega) | simp) [e0, e4, e20, e21, e22, huv', hh, hs, rx, ry]
    refine GC_intro (hc x y h') fun v' h3 ⟨hv', K2⟩ => ?_
    subst hv'
    by_cases hlt3 : key x < key y
    · have hcm : cmpI (key x) (key y) < 0 := cmpI_lt.2 hlt3
      simp (maxSteps := 1000000) (disch := first | assumption | ((try simp only [push_next, put_next, adv_next, List.length_cons, List.length_nil, List.length_map, List.length_set]); omega) | simp) [hcm]
      apply ih (c' - u) (by omega)
      refine ⟨u, c', rfl, hu, by omega, by omega, gu, fun _ z w hz hw => ?_, fun t ht => ?_, by simp [e20], by simp, by simp [e22], K.trans K2⟩
      · rw [← hd, hx] at hz
        rw [hy] at hw
        cases hz
        cases hw
        exact hlt3
      · repeat rw [upd_ne _ (by omega)]
        exact he t ht
    · have hcm : ¬ cmpI (key x) (key y) < 0 := fun hh => hlt3 (cmpI_lt.1 hh)
      simp (maxSteps := 1000000) (disch := first | assumption | ((try simp only [push_next, put_next, adv_next, List.length_cons, List.length_nil, List.length_map, List.length_set]); omega) | simp) [hcm]
      apply ih (v - (c' + 1)) (by omega)
      refine ⟨c' + 1, v, rfl, by omega, by omega, hv, fun _ z w hz hw => ?_, gv, fun t ht => ?_, by simp, by simp [e21], by simp [e22], K.trans K2⟩
      · rw [show c' + 1 - 1 = c' by omega] at hz hw
        rw [← hd, hx] at hz
        rw [hy] at hw
        cases hz
        cases hw
        exact hlt3
      · repeat rw [upd_ne _ (by omega)]
        exact he t ht
  · simp (maxSteps := 1000000) (disch := first | assumption | ((try simp only [push_next, put_next, adv_next, List.length_cons, List.length_nil, List.length_map, List.length_set]); omega) | simp) [e0, e4, e20, e21, huv']
    have : v = u := by omega
    subst this
    exact hR _ _ _ (fun t ht => by repeat rw [upd_ne _ (by omega)]
                                   exact he t ht) (by simp [e20]) hu hv gu gv K
theorem bubble1 {e : Env} {Q : Ex → Env → Hp → Prop} {k : List Fr} {A R D : List Key} {x : Key} {i : Int} (hn : n = (A ++ (x :: (R ++ D))).length) (hbig : n < 2 ^ 62) (hi : i = A.length + R.length + 1)
    (hR : ∀ e' h', h'.get b = some (.cells false (encKey.all (A ++ (R ++ (x :: D))) ++ r)) → Upd h h' [b] [b] → GR T Q k (.x 2) e' h')
    (hg : h.get b = some (.cells false (encKey.all (A ++ (x :: (R ++ D))) ++ r))) (h0 : e 0 = .slice (some ⟨b, 0, sp⟩) n c) (h10 : e 10 = .int .i64 i) (h13 : e 13 = .int .i64 A.length) :
    G T Q (.loop c4_slices_symMergeCmpFunc_input_Key) k e h := by
  refine G_loop (fun m e' h' => ∃ S1 S2, m = S2.length ∧ R = S1 ++ S2 ∧ e' 0 = .slice (some ⟨b, 0, sp⟩) n c ∧ e' 10 = .int .i64 i ∧ e' 13 = .int .i64 (A ++ S1).length ∧
      h'.get b = some (.cells false (encKey.all (A ++ (S1 ++ (x :: (S2 ++ D)))) ++ r)) ∧ Upd h h' [b] [b]) ?_ R.length e h ⟨[], R, rfl, rfl, h0, h10, by simpa using h13, by simpa using hg, .refl⟩
  rintro m ih e' h' ⟨S1, S2, rfl, rfl, e0, e10, e13, hg', U⟩
  have hlt := lt_of_get hg'
  have hn1 := hn
  simp at hn1 hi
  obtain ⟨p, hp⟩ : ∃ p, p = (A ++ S1).length := ⟨_, rfl⟩
  rw [← hp] at e13
  have hp1 := hp
  simp at hp1
  cases S2 with
  | nil =>
    simp at hn1 hi
    simp (maxSteps := 1000000) (disch := first | assumption | ((try simp only [push_next, put_next, adv_next, List.length_cons, List.length_nil, List.length_map, List.length_set]); omega) | simp) [e0, e10, e13, show ¬ (p : Int) < i - 1 by omega]
    exact hR _ _ (by rw [hg']; simp) U
  | cons y S2 =>
    simp at hn1 hi
    have rx : h'.rdn b (p * 2) 2 = some (encKey.enc x) := by
      rw [hp]
      exact rd_mid (E := encKey) (ro := false) (r := r) (A := A ++ S1) (B := y :: (S2 ++ D)) (by rw [hg']; simp)
    have ry : h'.rdn b ((p + 1) * 2) 2 = some (encKey.enc y) := by
      have := rd_mid (E := encKey) (h := h') (b := b) (ro := false) (r := r) (A := A ++ (S1 ++ [x])) (x := y) (B := S2 ++ D) (by rw [hg']; simp)
      rw [show (A ++ (S1 ++ [x])).length = p + 1 by rw [hp]; simp; omega] at this
      exact this
    have w1 : h'.wr b (p * 2) (encKey.enc y) = some (h'.put b (some (.cells false (encKey.all (A ++ S1 ++ y :: (y :: (S2 ++ D))) ++ r)))) := by
      rw [hp]
      exact wr_mid (E := encKey) (x := x) (by rw [hg']; simp)
    have w2 : (h'.put b (some (.cells false (encKey.all (A ++ S1 ++ y :: (y :: (S2 ++ D))) ++ r)))).wr b ((p + 1) * 2) (encKey.enc x) = some (h'.put b (some (.cells false (encKey.all (A ++ (S1 ++ [y]) ++ x :: (S2 ++ D)) ++ r)))) := by
      have := wr_mid (E := encKey) (h := h'.put b (some (.cells false (encKey.all (A ++ S1 ++ y :: (y :: (S2 ++ D))) ++ r)))) (b := b) (A := A ++ (S1 ++ [y])) (x := y) (y := x) (B := S2 ++ D) (r := r) (by rw [get_put_self hlt]; simp)
      rw [put_put, show (A ++ (S1 ++ [y])).length = p + 1 by rw [hp]; simp; omega] at this
      exact this
    generalize encKey.all (A ++ S1 ++ y :: (y :: (S2 ++ D))) ++ r = C1 at w1 w2
    generalize hC2 : encKey.all (A ++ (S1 ++ [y]) ++ x :: (S2 ++ D)) ++ r = C2 at w2
    have b1 : (p : Int) + 1 < n := by omega
    simp (maxSteps := 1000000) (disch := first | assumption | ((try simp only [push_next, put_next, adv_next, List.length_cons, List.length_nil, List.length_map, List.length_set]); omega) | simp) [e0, e10, e13, show (p : Int) < i - 1 by omega, rx, ry, w1, w2, -Hp.wr, -over, encKey.len, show encKey.sz = 2 from rfl]
    apply ih S2.length (by simp)
    refine ⟨S1 ++ [y], S2, rfl, by simp, by simp [e0], by simp [e10], by simp; omega, by rw [get_put_self hlt, ← hC2]; simp, ⟨U.le, fun k hk hn => ?_, fun k hk => .inl hk⟩⟩
    rw [get_put_ne (by simpa using hn), U.get k hk hn]
theorem bubble2 {e : Env} {Q : Ex → Env → Hp → Prop} {k : List Fr} {A R D : List Key} {x : Key} {i : Int} (hn : n = (A ++ (R ++ (x :: D))).length) (hbig : n < 2 ^ 62) (hi : i = A.length)
    (hR : ∀ e' h', h'.get b = some (.cells false (encKey.all (A ++ (x :: (R ++ D))) ++ r)) → Upd h h' [b] [b] → GR T Q k (.x 6) e' h')
    (hg : h.get b = some (.cells false (encKey.all (A ++ (R ++ (x :: D))) ++ r))) (h0 : e 0 = .slice (some ⟨b, 0, sp⟩) n c) (h14 : e 14 = .int .i64 i) (h17 : e 17 = .int .i64 (A ++ R).length) :
    G T Q (.loop c10_slices_symMergeCmpFunc_input_Key) k e h := by
  refine G_loop (fun m e' h' => ∃ S1 S2, m = S1.length ∧ R = S1 ++ S2 ∧ e' 0 = .slice (some ⟨b, 0, sp⟩) n c ∧ e' 14 = .int .i64 i ∧ e' 17 = .int .i64 (A ++ S1).length ∧
      h'.get b = some (.cells false (encKey.all (A ++ (S1 ++ (x :: (S2 ++ D)))) ++ r)) ∧ Upd h h' [b] [b]) ?_ R.length e h ⟨R, [], rfl, by simp, h0, h14, h17, by simpa using hg, .refl⟩
  rintro m ih e' h' ⟨S1, S2, rfl, rfl, e0, e14, e17, hg', U⟩
  have hlt := lt_of_get hg'
  have hn1 := hn
  simp at hn1
  obtain ⟨p, hp⟩ : ∃ p, p = (A ++ S1).length := ⟨_, rfl⟩
  rw [← hp] at e17
  have hp1 := hp
  simp at hp1
  induction S1 using snocInd with
  | nil =>
    simp at hp1
    simp (maxSteps := 1000000) (disch := first | assumption | ((try simp only [push_next, put_next, adv_next, List.length_cons, List.length_nil, List.length_map, List.length_set]); omega) | simp) [e0, e14, e17, show ¬ i < (p : Int) by omega]
    exact hR _ _ (by rw [hg']; simp) U
  | append_singleton S1 y _ =>
    simp at hn1 hp1
    obtain ⟨o, ho⟩ : ∃ o, o = (A ++ S1).length := ⟨_, rfl⟩
    have ho1 := ho
    simp at ho1
    have hpo : p = o + 1 := by omega
    subst hpo
    have rx : h'.rdn b ((o + 1) * 2) 2 = some (encKey.enc x) := by
      rw [hp]
      exact rd_mid (E := encKey) (ro := false) (r := r) (A := A ++ (S1 ++ [y])) (B := S2 ++ D) (by rw [hg']; simp)
    have ry : h'.rdn b (o * 2) 2 = some (encKey.enc y) := by
      rw [ho]
      exact rd_mid (E := encKey) (h := h') (b := b) (ro := false) (r := r) (A := A ++ S1) (x := y) (B := x :: (S2 ++ D)) (by rw [hg']; simp)
    have w1 : h'.wr b ((o + 1) * 2) (encKey.enc y) = some (h'.put b (some (.cells false (encKey.all (A ++ (S1 ++ [y]) ++ y :: (S2 ++ D)) ++ r)))) := by
      rw [hp]
      exact wr_mid (E := encKey) (x := x) (by rw [hg']; simp)
    have w2 : (h'.put b (some (.cells false (encKey.all (A ++ (S1 ++ [y]) ++ y :: (S2 ++ D)) ++ r)))).wr b (o * 2) (encKey.enc x) = some (h'.put b (some (.cells false (encKey.all (A ++ S1 ++ x :: (y :: (S2 ++ D))) ++ r)))) := by
      have := wr_mid (E := encKey) (h := h'.put b (some (.cells false (encKey.all (A ++ (S1 ++ [y]) ++ y :: (S2 ++ D)) ++ r)))) (b := b) (A := A ++ S1) (x := y) (y := x) (B := y :: (S2 ++ D)) (r := r) (by rw [get_put_self hlt]; simp)
      rw [put_put, ← ho] at this
      exact this
    generalize encKey.all (A ++ (S1 ++ [y]) ++ y :: (S2 ++ D)) ++ r = C1 at w1 w2
    generalize hC2 : encKey.all (A ++ S1 ++ x :: (y :: (S2 ++ D))) ++ r = C2 at w2
    have e17' : e' 17 = .int .i64 ((o : Int) + 1) := by rw [e17]; rfl
    have b1 : (o : Int) + 1 < n := by omega
    clear e17
    simp (maxSteps := 1000000) (disch := first | assumption | ((try simp only [push_next, put_next, adv_next, List.length_cons, List.length_nil, List.length_map, List.length_set]); omega) | simp) [e0, e14, e17', show i < (o : Int) + 1 by omega, rx, ry, w1, w2, -Hp.wr, -over, encKey.len, show encKey.sz = 2 from rfl]
    apply ih S1.length (by simp)
    refine ⟨S1, y :: S2, rfl, by simp, by simp [e0], by simp [e14], by simp; omega, by rw [get_put_self hlt, ← hC2]; simp, ⟨U.le, fun k hk hn => ?_, fun k hk => .inl hk⟩⟩
    rw [get_put_ne (by simpa using hn), U.get k hk hn]
theorem srt_take {R : List Key} (hs : Srt key R) {t : Int} {k : Nat} (hk : k ≤ R.length) (hh : 0 < k → ∀ y, R[k - 1]? = some y → key y ≤ t) : ∀ y ∈ R.take k, key y ≤ t := by
  intro y hy
  obtain ⟨i, hi, rfl⟩ := List.mem_take_iff_getElem.1 hy
  have hi' : i < k ∧ i < R.length := by omega
  have h1 := hh (by omega) R[k - 1] (List.getElem?_eq_getElem (by omega))
  rcases Nat.lt_or_ge i (k - 1) with h2 | h2
  · have := List.pairwise_iff_getElem.1 hs i (k - 1) (by omega) (by omega) h2
    omega
  · have : i = k - 1 := by omega
    subst this
    exact h1
theorem srt_drop {R : List Key} (hs : Srt key R) {t : Int} {k : Nat} (hh : k < R.length → ∀ y, R[k]? = some y → t ≤ key y) : ∀ y ∈ R.drop k, t ≤ key y := by
  intro y hy
  obtain ⟨i, hi, rfl⟩ := List.mem_drop_iff_getElem.1 hy
  have h1 := hh (by omega) R[k] (List.getElem?_eq_getElem (by omega))
  rcases Nat.eq_zero_or_pos i with h2 | h2
  · subst h2
    exact h1
  · have := List.pairwise_iff_getElem.1 hs k (k + i) (by omega) (by omega) (by omega)
    omega
theorem srt_split {P P' : List Key} : Srt key (P ++ P') → Srt key P ∧ Srt key P' := fun hs => ⟨(List.pairwise_append.1 hs).1, (List.pairwise_append.1 hs).2.1⟩
theorem isort_ins1 {x : Key} {R1 R2 : List Key} (hR : Srt key (R1 ++ R2)) (h1 : ∀ y ∈ R1, key y < key x) (h2 : ∀ y ∈ R2, key x ≤ key y) : isort key (x :: (R1 ++ R2)) = R1 ++ x :: R2 := by
  have := isort_rotate key (l1 := []) (l2 := [x]) (r1 := R1) (r2 := R2) (by simpa using h1) (by simp) (by simp [Srt]) hR
  simp at this
  rw [this, isort_of_srt key (srt_split hR).1, isort_of_srt key (List.pairwise_cons.2 ⟨h2, (srt_split hR).2⟩)]
theorem isort_ins2 {y : Key} {P1 P2 : List Key} (hP : Srt key (P1 ++ P2)) (h1 : ∀ x ∈ P1, key x ≤ key y) (h2 : ∀ x ∈ P2, key y < key x) : isort key (P1 ++ (P2 ++ [y])) = P1 ++ y :: P2 := by
  have := isort_rotate key (l1 := P1) (l2 := P2) (r1 := [y]) (r2 := []) (by simpa using h2) (by simp) hP (by simp [Srt])
  simp at this
  rw [this, isort_of_srt key (srt_split hP).2, isort_of_srt key ((srt_snoc key).2 ⟨(srt_split hP).1, h1⟩)]
  simp
theorem get_app {α : Type} {A B : List α} {k j : Nat} (hk : k = A.length + j) : (A ++ B)[k]? = B[j]? := by
  subst hk
  rw [List.getElem?_append_right (by omega)]
  simp
set_option maxHeartbeats 1000000 in
theorem symMerge (hc : Cmp fc key) (hbig : n < 2 ^ 62) (N : Nat) : ∀ {A P R C : List Key} {i1 i2 i3 : Int} {h : Hp} {q : Value → Hp → Prop}, P.length + R.length ≤ N → P ≠ [] → R ≠ [] → Srt key P → Srt key R → n = (A ++ (P ++ (R ++ C))).length → i1 = A.length → i2 = A.length + P.length → i3 = A.length + P.length + R.length →
    h.get b = some (.cells false (encKey.all (A ++ (P ++ (R ++ C))) ++ r)) → (∀ v h', h'.get b = some (.cells false (encKey.all (A ++ (isort key (P ++ R) ++ C)) ++ r)) → Upd h h' [b] [b] → q v h') →
    WC T n_slices_symMergeCmpFunc_input_Key [.slice (some ⟨b, 0, sp⟩) n c, .int .i64 i1, .int .i64 i2, .int .i64 i3, .func (.func fc) #[] #[]] h q := by
  induction N with
  | zero =>
    intro A P R C i1 i2 i3 h q hN hP hR
    cases P with
    | nil => exact absurd rfl hP
    | cons => simp at hN
  | succ N ih =>
  intro A P R C i1 i2 i3 h q hN hP hR sP sR hn h1 h2 h3 hg hq
  obtain ⟨a, ha⟩ : ∃ a, a = A.length := ⟨_, rfl⟩
  obtain ⟨m, hm⟩ : ∃ m, m = A.length + P.length := ⟨_, rfl⟩
  obtain ⟨z, hz⟩ : ∃ z, z = A.length + P.length + R.length := ⟨_, rfl⟩
  obtain rfl : i1 = (a : Int) := by omega
  obtain rfl : i2 = (m : Int) := by omega
  obtain rfl : i3 = (z : Int) := by omega
  clear h1 h2 h3
  have hlP := List.length_pos_iff.2 hP
  have hlR := List.length_pos_iff.2 hR
  have hn1 := hn
  simp at hn1
  have hlt := lt_of_get hg
  rw [w_slices_symMergeCmpFunc_input_Key]
  by_cases c1 : P.length = 1
  · obtain ⟨x, rfl⟩ := List.length_eq_one_iff.1 c1
    simp at hm hz hn1
    simp (maxSteps := 1000000) (disch := first | assumption | ((try simp only [push_next, put_next, adv_next, List.length_cons, List.length_nil, List.length_map, List.length_set]); omega) | simp) [show (m : Int) - a = 1 by omega, -g2_slices_symMergeCmpFunc_input_Key, -g4_slices_symMergeCmpFunc_input_Key]
    refine search1 (r := r) (sp := sp) (c := c) hc (L := A ++ ([x] ++ (R ++ C))) (i := m) (j := z) (a := a) (x := x) hn hbig (by rw [get_app (j := 0) ha]; simp) ?_ hg (by simp) (by simp) (by simp) (by simp) (by simp) (by omega) (by omega)
    intro e' h' s he e10 hs1 hs2 g1 g2 K
    have hgx : ∀ j, j < R.length → (A ++ ([x] ++ (R ++ C)))[m + j]? = R[j]? := fun j hj => by
      rw [show A ++ ([x] ++ (R ++ C)) = (A ++ [x]) ++ (R ++ C) by simp, get_app (j := j) (by simp; omega), List.getElem?_append_left hj]
    have e0 := he 0 (by omega)
    have e1 := he 1 (by omega)
    simp at e0 e1
    simp (maxSteps := 1000000) (disch := first | assumption | ((try simp only [push_next, put_next, adv_next, List.length_cons, List.length_nil, List.length_map, List.length_set]); omega) | simp) [e0, e1, e10, -g4_slices_symMergeCmpFunc_input_Key]
    have hRs : R.take (s - m) ++ R.drop (s - m) = R := List.take_append_drop _ _
    refine bubble1 (r := r) (A := A) (R := R.take (s - m)) (D := R.drop (s - m) ++ C) (x := x) (i := s) (n := n) (c := c) (b := b) (sp := sp) (by rw [hn]; simp; omega) hbig (by simp; omega) ?_ (by rw [K.get b hlt, hg, ← List.append_assoc (R.take _), hRs]; simp) (by simp [e0]) (by simp [e10]) (by simp; omega)
    intro e2 h2 hg2 U2
    simp (maxSteps := 1000000) (disch := first | assumption | ((try simp only [push_next, put_next, adv_next, List.length_cons, List.length_nil, List.length_map, List.length_set]); omega) | simp)
    refine hq _ _ ?_ ((show Upd h h' [b] [b] from ⟨K.le, fun k hk _ => K.get k hk, fun k hk => .inl hk⟩).trans U2)
    have key1 := srt_take (t := key x - 1) sR (k := s - m) (by omega) fun h0 y hy => by
      have := g1 (by omega) y (by rw [show s - 1 = m + (s - m - 1) by omega, hgx _ (by omega)]; exact hy)
      omega
    have key2 := srt_drop (t := key x) sR (k := s - m) fun h0 y hy => by
      have := g2 (by omega) y (by rw [show s = m + (s - m) by omega, hgx _ (by omega)]; exact hy)
      omega
    have hI := isort_ins1 (x := x) (R1 := R.take (s - m)) (R2 := R.drop (s - m)) (by rw [hRs]; exact sR) (fun y hy => by have := key1 y hy; omega) key2
    rw [hRs] at hI
    rw [hg2, show [x] ++ R = x :: R from rfl, hI]
    simp
  by_cases c2 : R.length = 1
  · obtain ⟨x, rfl⟩ := List.length_eq_one_iff.1 c2
    simp at hm hz hn1
    simp (maxSteps := 1000000) (disch := first | assumption | ((try simp only [push_next, put_next, adv_next, List.length_cons, List.length_nil, List.length_map, List.length_set]); omega) | simp) [show ¬ (m : Int) - a = 1 by omega, show (z : Int) - m = 1 by omega, -g8_slices_symMergeCmpFunc_input_Key, -g10_slices_symMergeCmpFunc_input_Key]
    refine search2 (r := r) (sp := sp) (c := c) hc (L := A ++ (P ++ ([x] ++ C))) (i := a) (j := m) (a := m) (x := x) hn hbig (by rw [show A ++ (P ++ ([x] ++ C)) = (A ++ P) ++ ([x] ++ C) by simp, get_app (j := 0) (by simp; omega)]; simp) ?_ hg (by simp) (by simp) (by simp) (by simp) (by simp) (by omega) (by omega)
    intro e' h' s he e14 hs1 hs2 g1 g2 K
    have hgx : ∀ j, j < P.length → (A ++ (P ++ ([x] ++ C)))[a + j]? = P[j]? := fun j hj => by
      rw [get_app (j := j) (by omega), List.getElem?_append_left hj]
    have e0 := he 0 (by omega)
    have e2 := he 2 (by omega)
    simp at e0 e2
    simp (maxSteps := 1000000) (disch := first | assumption | ((try simp only [push_next, put_next, adv_next, List.length_cons, List.length_nil, List.length_map, List.length_set]); omega) | simp) [e0, e2, e14, -g10_slices_symMergeCmpFunc_input_Key]
    have hPs : P.take (s - a) ++ P.drop (s - a) = P := List.take_append_drop _ _
    refine bubble2 (r := r) (A := A ++ P.take (s - a)) (R := P.drop (s - a)) (D := C) (x := x) (i := s) (n := n) (c := c) (b := b) (sp := sp) (by rw [hn]; simp; omega) hbig (by simp; omega) ?_ (by rw [K.get b hlt, hg, List.append_assoc, ← List.append_assoc (P.take _), hPs]; simp) (by simp [e0]) (by simp [e14]) (by simp; omega)
    intro e2 h2 hg2 U2
    simp (maxSteps := 1000000) (disch := first | assumption | ((try simp only [push_next, put_next, adv_next, List.length_cons, List.length_nil, List.length_map, List.length_set]); omega) | simp)
    refine hq _ _ ?_ ((show Upd h h' [b] [b] from ⟨K.le, fun k hk _ => K.get k hk, fun k hk => .inl hk⟩).trans U2)
    have key1 := srt_take (t := key x) sP (k := s - a) (by omega) fun h0 y hy => by
      have := g1 (by omega) y (by rw [show s - 1 = a + (s - a - 1) by omega, hgx _ (by omega)]; exact hy)
      omega
    have key2 := srt_drop (t := key x + 1) sP (k := s - a) fun h0 y hy => by
      have := g2 (by omega) y (by rw [show s = a + (s - a) by omega, hgx _ (by omega)]; exact hy)
      omega
    have hI := isort_ins2 (y := x) (P1 := P.take (s - a)) (P2 := P.drop (s - a)) (by rw [hPs]; exact sP) key1 (fun y hy => by have := key2 y hy; omega)
    rw [← List.append_assoc, hPs] at hI
    rw [hg2, hI]
    simp
  obtain ⟨M, hM⟩ : ∃ M, M = (a + z) / 2 := ⟨_, rfl⟩
  obtain ⟨w, hw⟩ : ∃ w, w = M + m := ⟨_, rfl⟩
  have hh := half (x := (a : Int) + (z : Int)) (m := M) (by omega) (by omega) (by omega)
  have hwz : (M : Int) + (m : Int) = (w : Int) := by omega
  have main : ∀ (e : Env) (lo hi : Nat), (M < m ∧ lo = w - z ∧ hi = M) ∨ (m ≤ M ∧ lo = a ∧ hi = m) → e 0 = .slice (some ⟨b, 0, sp⟩) n c → e 1 = .int .i64 a → e 2 = .int .i64 m → e 3 = .int .i64 z → e 4 = .func (.func fc) #[] #[] → e 18 = .int .i64 M → e 19 = .int .i64 w → e 20 = .int .i64 lo → e 21 = .int .i64 hi →
      G T (fin [] (some []) h.next q) c19_slices_symMergeCmpFunc_input_Key [] e h := by
    intro e lo hi hlh e0 e1 e2 e3 e4 e18 e19 e20 e21
    simp (maxSteps := 1000000) (disch := first | assumption | ((try simp only [push_next, put_next, adv_next, List.length_cons, List.length_nil, List.length_map, List.length_set]); omega) | simp) [e19, -g18_slices_symMergeCmpFunc_input_Key, -g15_slices_symMergeCmpFunc_input_Key]
    refine search3 (r := r) (sp := sp) (c := c) hc (L := A ++ (P ++ (R ++ C))) (i := lo) (j := hi) (p := w - 1) hn hbig ?_ hg (by simp [e0]) (by simp [e4]) (by simp [e20]) (by simp [e21]) (by simp; omega) (by omega) (by omega) (by omega) (by omega)
    intro e' h' s he e20' hs1 hs2 g1 g2 K
    obtain ⟨en, hen⟩ : ∃ en, en = w - s := ⟨_, rfl⟩
    have hens : (w : Int) - (s : Int) = (en : Int) := by omega
    have f0 := he 0 (by omega)
    have f1 := he 1 (by omega)
    have f2 := he 2 (by omega)
    have f3 := he 3 (by omega)
    have f4 := he 4 (by omega)
    have f18 := he 18 (by omega)
    have f19 := he 19 (by omega)
    simp [e0, e1, e2, e3, e4, e18, e19] at f0 f1 f2 f3 f4 f18 f19
    have pget : ∀ j k, k = a + j → j < P.length → (A ++ (P ++ (R ++ C)))[k]? = P[j]? := fun j k hk hj => by
      rw [get_app (j := j) (by omega), List.getElem?_append_left hj]
    have rget : ∀ j k, k = m + j → j < R.length → (A ++ (P ++ (R ++ C)))[k]? = R[j]? := fun j k hk hj => by
      rw [show A ++ (P ++ (R ++ C)) = (A ++ P) ++ (R ++ C) by simp, get_app (j := j) (by simp; omega), List.getElem?_append_left hj]
    have hA : ∀ x ∈ P.drop (s - a), ∀ y ∈ R.take (en - m), key y < key x := by
      intro x hx y hy
      have l1 := List.length_pos_of_mem hx
      have l2 := List.length_pos_of_mem hy
      simp at l1 l2
      have q1 : R[en - m - 1]? = some R[en - m - 1] := List.getElem?_eq_getElem (by omega)
      have q2 : P[s - a]? = some P[s - a] := List.getElem?_eq_getElem (by omega)
      generalize R[en - m - 1] = y0 at q1
      generalize P[s - a] = x0 at q2
      have := g2 (by omega) y0 x0 (by rw [rget (en - m - 1) _ (by omega) (by omega), q1]) (by rw [pget (s - a) _ (by omega) (by omega), q2])
      have k1 := srt_take (t := key y0) sR (k := en - m) (by omega) (fun _ u hu => by rw [q1] at hu; cases hu; exact Int.le_refl _) y hy
      have k2 := srt_drop (t := key x0) sP (k := s - a) (fun _ u hu => by rw [q2] at hu; cases hu; exact Int.le_refl _) x hx
      omega
    have hB : ∀ x ∈ P.take (s - a), ∀ y ∈ R.drop (en - m), key x ≤ key y := by
      intro x hx y hy
      have l1 := List.length_pos_of_mem hx
      have l2 := List.length_pos_of_mem hy
      simp at l1 l2
      have q1 : R[en - m]? = some R[en - m] := List.getElem?_eq_getElem (by omega)
      have q2 : P[s - a - 1]? = some P[s - a - 1] := List.getElem?_eq_getElem (by omega)
      generalize R[en - m] = y0 at q1
      generalize P[s - a - 1] = x0 at q2
      have := g1 (by omega) y0 x0 (by rw [rget (en - m) _ (by omega) (by omega), q1]) (by rw [pget (s - a - 1) _ (by omega) (by omega), q2])
      have k1 := srt_drop (t := key y0) sR (k := en - m) (fun _ u hu => by rw [q1] at hu; cases hu; exact Int.le_refl _) y hy
      have k2 := srt_take (t := key x0) sP (k := s - a) (by omega) (fun _ u hu => by rw [q2] at hu; cases hu; exact Int.le_refl _) x hx
      omega
    obtain ⟨P1, P2, hP12, lP1, hA1, hB1⟩ : ∃ P1 P2, P = P1 ++ P2 ∧ P1.length = s - a ∧ (∀ x ∈ P2, ∀ y ∈ R.take (en - m), key y < key x) ∧ (∀ x ∈ P1, ∀ y ∈ R.drop (en - m), key x ≤ key y) :=
      ⟨P.take (s - a), P.drop (s - a), (List.take_append_drop _ _).symm, by simp; omega, hA, hB⟩
    obtain ⟨R1, R2, hR12, lR1, hA2, hB2⟩ : ∃ R1 R2, R = R1 ++ R2 ∧ R1.length = en - m ∧ (∀ x ∈ P2, ∀ y ∈ R1, key y < key x) ∧ (∀ x ∈ P1, ∀ y ∈ R2, key x ≤ key y) :=
      ⟨R.take (en - m), R.drop (en - m), (List.take_append_drop _ _).symm, by simp; omega, hA1, hB1⟩
    clear hA hB hA1 hB1 pget rget g1 g2
    subst hP12
    subst hR12
    have hI := isort_rotate key hA2 hB2 sP sR
    simp at hlP hlR hm hz hN hn1 c1 c2
    have sP1 := (srt_split sP).1
    have sP2 := (srt_split sP).2
    have sR1 := (srt_split sR).1
    have sR2 := (srt_split sR).2
    have nil_of : ∀ {l : List Key}, l.length = 0 → l = [] := fun hh => List.eq_nil_of_length_eq_zero hh
    have st3 : ∀ (e : Env) (h1 : Hp), e 0 = .slice (some ⟨b, 0, sp⟩) n c → e 3 = .int .i64 z → e 4 = .func (.func fc) #[] #[] → e 18 = .int .i64 M → e 24 = .int .i64 en → h1.get b = some (.cells false (encKey.all (A ++ (isort key (P1 ++ R1) ++ (P2 ++ (R2 ++ C)))) ++ r)) → Upd h h1 [b] [b] →
        G T (fin [] (some []) h.next q) c16_slices_symMergeCmpFunc_input_Key [] e h1 := by
      intro e h1 e0 e3 e4 e18 e24 hg1 U1
      have no : P2 = [] ∨ R2 = [] → ∀ v, q v h1 := fun hor v => hq _ _ (by
        rw [hI, hg1]
        rcases hor with rfl | rfl
        · rw [show ([] : List Key) ++ R2 = R2 from rfl, isort_of_srt key sR2]; simp
        · rw [show P2 ++ ([] : List Key) = P2 from List.append_nil _, isort_of_srt key sP2]; simp) U1
      by_cases t1 : M < en
      · by_cases t2 : en < z
        · simp (maxSteps := 1000000) (disch := first | assumption | ((try simp only [push_next, put_next, adv_next, List.length_cons, List.length_nil, List.length_map, List.length_set]); omega) | simp) [e0, e3, e4, e18, e24, t1, t2]
          refine GC_intro (ih (A := A ++ isort key (P1 ++ R1)) (P := P2) (R := R2) (C := C) (by omega) (List.length_pos_iff.1 (by omega)) (List.length_pos_iff.1 (by omega)) sP2 sR2 (by rw [hn]; simp; omega) (by simp; omega) (by simp; omega) (by simp; omega) (by rw [hg1]; simp) fun v h2 hg2 U2 => ?_) fun v h2 hh => hh
          simp (maxSteps := 1000000) (disch := first | assumption | ((try simp only [push_next, put_next, adv_next, List.length_cons, List.length_nil, List.length_map, List.length_set]); omega) | simp)
          exact hq _ _ (by rw [hI, hg2]; simp) (U1.trans U2)
        · simp (maxSteps := 1000000) (disch := first | assumption | ((try simp only [push_next, put_next, adv_next, List.length_cons, List.length_nil, List.length_map, List.length_set]); omega) | simp) [e0, e3, e4, e18, e24, t1, t2]
          exact no (.inr (nil_of (by omega))) _
      · simp (maxSteps := 1000000) (disch := first | assumption | ((try simp only [push_next, put_next, adv_next, List.length_cons, List.length_nil, List.length_map, List.length_set]); omega) | simp) [e0, e3, e4, e18, e24, t1]
        exact no (.inl (nil_of (by omega))) _
    have st2 : ∀ (e : Env) (h1 : Hp), e 0 = .slice (some ⟨b, 0, sp⟩) n c → e 1 = .int .i64 a → e 3 = .int .i64 z → e 4 = .func (.func fc) #[] #[] → e 18 = .int .i64 M → e 20 = .int .i64 s → e 24 = .int .i64 en → h1.get b = some (.cells false (encKey.all (A ++ (P1 ++ (R1 ++ (P2 ++ (R2 ++ C))))) ++ r)) → Upd h h1 [b] [b] →
        G T (fin [] (some []) h.next q) c17_slices_symMergeCmpFunc_input_Key [] e h1 := by
      intro e h1 e0 e1 e3 e4 e18 e20 e24 hg1 U1
      have no : P1 = [] ∨ R1 = [] → h1.get b = some (.cells false (encKey.all (A ++ (isort key (P1 ++ R1) ++ (P2 ++ (R2 ++ C)))) ++ r)) := fun hor => by
        rw [hg1]
        rcases hor with rfl | rfl
        · rw [show ([] : List Key) ++ R1 = R1 from rfl, isort_of_srt key sR1]; simp
        · rw [show P1 ++ ([] : List Key) = P1 from List.append_nil _, isort_of_srt key sP1]; simp
      by_cases t1 : a < s
      · by_cases t2 : s < M
        · simp (maxSteps := 1000000) (disch := first | assumption | ((try simp only [push_next, put_next, adv_next, List.length_cons, List.length_nil, List.length_map, List.length_set]); omega) | simp) [e0, e1, e3, e4, e18, e20, e24, t1, t2, -g16_slices_symMergeCmpFunc_input_Key]
          refine GC_intro (ih (A := A) (P := P1) (R := R1) (C := P2 ++ (R2 ++ C)) (by omega) (List.length_pos_iff.1 (by omega)) (List.length_pos_iff.1 (by omega)) sP1 sR1 (by rw [hn]; simp; omega) (by omega) (by omega) (by omega) hg1 fun v h2 hg2 U2 => ?_) fun v h2 hh => hh
          simp (maxSteps := 1000000) (disch := first | assumption | ((try simp only [push_next, put_next, adv_next, List.length_cons, List.length_nil, List.length_map, List.length_set]); omega) | simp) [-g16_slices_symMergeCmpFunc_input_Key]
          exact st3 _ _ (by simp [e0]) (by simp [e3]) (by simp [e4]) (by simp [e18]) (by simp [e24]) hg2 (U1.trans U2)
        · simp (maxSteps := 1000000) (disch := first | assumption | ((try simp only [push_next, put_next, adv_next, List.length_cons, List.length_nil, List.length_map, List.length_set]); omega) | simp) [e0, e1, e3, e4, e18, e20, e24, t1, t2, -g16_slices_symMergeCmpFunc_input_Key]
          exact st3 _ _ (by simp [e0]) (by simp [e3]) (by simp [e4]) (by simp [e18]) (by simp [e24]) (no (.inr (nil_of (by omega)))) U1
      · simp (maxSteps := 1000000) (disch := first | assumption | ((try simp only [push_next, put_next, adv_next, List.length_cons, List.length_nil, List.length_map, List.length_set]); omega) | simp) [e0, e1, e3, e4, e18, e20, e24, t1, -g16_slices_symMergeCmpFunc_input_Key]
        exact st3 _ _ (by simp [e0]) (by simp [e3]) (by simp [e4]) (by simp [e18]) (by simp [e24]) (no (.inl (nil_of (by omega)))) U1
    have hg' : h'.get b = some (.cells false (encKey.all (A ++ (P1 ++ (P2 ++ (R1 ++ (R2 ++ C))))) ++ r)) := by rw [K.get b hlt, hg]; simp
    have U' : Upd h h' [b] [b] := ⟨K.le, fun k hk _ => K.get k hk, fun k hk => .inl hk⟩
    have no : P2 = [] ∨ R1 = [] → h'.get b = some (.cells false (encKey.all (A ++ (P1 ++ (R1 ++ (P2 ++ (R2 ++ C))))) ++ r)) := fun hor => by
      rw [hg']
      rcases hor with rfl | rfl <;> simp
    by_cases t1 : s < m
    · by_cases t2 : m < en
      · simp (maxSteps := 1000000) (disch := first | assumption | ((try simp only [push_next, put_next, adv_next, List.length_cons, List.length_nil, List.length_map, List.length_set]); omega) | simp) [f0, f1, f2, f3, f4, f18, f19, e20', hens, t1, t2, -g17_slices_symMergeCmpFunc_input_Key]
        refine GC_intro (rotate (r := r) (A := A ++ P1) (P := P2) (Q := R1) (C := R2 ++ C) (List.length_pos_iff.1 (by omega)) (List.length_pos_iff.1 (by omega)) (by rw [hn]; simp) hbig (by simp; omega) (by simp; omega) (by simp; omega) (by rw [hg']; simp) fun v h2 hg2 U2 => ?_) fun v h2 hh => hh
        simp (maxSteps := 1000000) (disch := first | assumption | ((try simp only [push_next, put_next, adv_next, List.length_cons, List.length_nil, List.length_map, List.length_set]); omega) | simp) [-g17_slices_symMergeCmpFunc_input_Key]
        exact st2 _ _ (by simp [f0]) (by simp [f1]) (by simp [f3]) (by simp [f4]) (by simp [f18]) (by simp [e20']) (by simp) (by rw [hg2]; simp) (U'.trans U2)
      · simp (maxSteps := 1000000) (disch := first | assumption | ((try simp only [push_next, put_next, adv_next, List.length_cons, List.length_nil, List.length_map, List.length_set]); omega) | simp) [f0, f1, f2, f3, f4, f18, f19, e20', hens, t1, t2, -g17_slices_symMergeCmpFunc_input_Key]
        exact st2 _ _ (by simp [f0]) (by simp [f1]) (by simp [f3]) (by simp [f4]) (by simp [f18]) (by simp [e20']) (by simp) (no (.inr (nil_of (by omega)))) U'
    · simp (maxSteps := 1000000) (disch := first | assumption | ((try simp only [push_next, put_next, adv_next, List.length_cons, List.length_nil, List.length_map, List.length_set]); omega) | simp) [f0, f1, f2, f3, f4, f18, f19, e20', hens, t1, -g17_slices_symMergeCmpFunc_input_Key]
      exact st2 _ _ (by simp [f0]) (by simp [f1]) (by simp [f3]) (by simp [f4]) (by simp [f18]) (by simp [e20']) (by simp) (no (.inl (nil_of (by omega)))) U'
  have d1 : ¬ (m : Int) - a = 1 := by omega
  have d2 : ¬ (z : Int) - m = 1 := by omega
  by_cases hmM : M < m
  · simp (maxSteps := 1000000) (disch := first | assumption | ((try simp only [push_next, put_next, adv_next, List.length_cons, List.length_nil, List.length_map, List.length_set]); omega) | simp) [d1, d2, hh, hwz, hmM, -g19_slices_symMergeCmpFunc_input_Key]
    exact main _ (w - z) M (.inl ⟨hmM, rfl, rfl⟩) (by simp) (by simp) (by simp) (by simp) (by simp) (by simp) (by simp) (by simp; omega) (by simp)
  · simp (maxSteps := 1000000) (disch := first | assumption | ((try simp only [push_next, put_next, adv_next, List.length_cons, List.length_nil, List.length_map, List.length_set]); omega) | simp) [d1, d2, hh, hwz, hmM, -g19_slices_symMergeCmpFunc_input_Key]
    exact main _ a m (.inr ⟨by omega, rfl, rfl⟩) (by simp) (by simp) (by simp) (by simp) (by simp) (by simp) (by simp) (by simp) (by simp)
end
end Go.Proofs.Ytppgoobhlcdbbaa.Cd

/- Stable sorting of a row, as the library does it: the whole. -/
set_option maxRecDepth 1000000
set_option linter.unusedSimpArgs false
set_option linter.unusedVariables false
namespace Go.Proofs.Ytppgoobhlcdbbaa.Cd
open Go Go.Dx
section
variable {α : Type} (key : α → Int)
theorem insl_cut (y : α) (p : List α) : ∃ p1 p2, p = p1 ++ p2 ∧ insl key y p = p1 ++ y :: p2 ∧ ∀ x ∈ p2, key y < key x := by
  induction p using snocInd with
  | nil => exact ⟨[], [], rfl, rfl, by simp⟩
  | append_singleton p z ih =>
    by_cases hz : key y < key z
    · obtain ⟨p1, p2, h1, h2, h3⟩ := ih
      refine ⟨p1, p2 ++ [z], by rw [h1]; simp, by rw [insl_lt key p hz, h2]; simp, fun x hx => ?_⟩
      rcases List.mem_append.1 hx with hx | hx
      · exact h3 x hx
      · simp at hx
        subst hx
        exact hz
    · exact ⟨p ++ [z], [], by simp, by rw [insl_le key p hz]; simp, by simp⟩
theorem isort_right (a b : List α) : isort key (a ++ isort key b) = isort key (a ++ b) := by
  induction b using snocInd with
  | nil => rfl
  | append_singleton b y ih =>
    obtain ⟨p1, p2, h1, h2, h3⟩ := insl_cut key y (isort key b)
    have := isort_move key p2 h3 (a ++ p1) []
    rw [isort_snoc, h2, show a ++ (p1 ++ y :: p2) = (a ++ p1) ++ y :: (p2 ++ []) by simp, ← this, show (a ++ p1) ++ (p2 ++ [y]) = (a ++ (p1 ++ p2)) ++ [y] by simp, ← h1, isort_snoc, ih, ← isort_snoc]
    simp
theorem isort_mid (a b d : List α) : isort key (a ++ (isort key b ++ d)) = isort key (a ++ (b ++ d)) := by
  rw [← List.append_assoc, isort_foldl, isort_right, ← isort_foldl, List.append_assoc]
end
section
variable {h : Hp} {b n c : Nat} {sp : Option Nat} {fc : Nat} {key : Key → Int} {r : List Value} {q : Value → Hp → Prop}
theorem isortq (hc : Cmp fc key) {u m t : List Key} {i1 i2 : Int} (hn : n = (u ++ (m ++ t)).length) (hbig : n < 2 ^ 62) (h1 : i1 = u.length) (h2 : i2 = u.length + m.length) (hg : h.get b = some (.cells false (encKey.all (u ++ (m ++ t)) ++ r)))
    (hq : ∀ v h', h'.get b = some (.cells false (encKey.all (u ++ (isort key m ++ t)) ++ r)) → Upd h h' [b] [b] → q v h') :
    WC T n_slices_insertionSortCmpFunc_input_Key [.slice (some ⟨b, 0, sp⟩) n c, .int .i64 i1, .int .i64 i2, .func (.func fc) #[] #[]] h q := by
  subst h1
  obtain rfl : i2 = ((u.length + m.length : Nat) : Int) := by omega
  exact (isort_run (r := r) (t := t) hc (u := u) (m := m) (by rw [hn]; simp) hbig (by rw [hg]; simp)).mono fun v h' ⟨a, b⟩ => hq v h' (by rw [a]; simp) b
theorem flat_len {l : List (List Key)} {k : Nat} (hl : ∀ x ∈ l, Srt key x ∧ x.length = k) : l.flatten.length = l.length * k := by
  induction l with
  | nil => simp
  | cons x l ih =>
    rw [List.flatten_cons, List.length_append, ih fun y hy => hl y (by simp [hy]), (hl x (by simp)).2, List.length_cons, Nat.add_mul]
    omega
theorem stable_inner {e : Env} {Q : Ex → Env → Hp → Prop} {k : List Fr} (hc : Cmp fc key) (hbig : n < 2 ^ 40) {L last : List Key} {xss : List (List Key)} {bs : Nat} (hbs : 0 < bs) (hbn : bs < n) (hls : Srt key last) (hll : last.length < bs) (hx : ∀ x ∈ xss, Srt key x ∧ x.length = bs)
    (hR : ∀ (e' : Env) (h' : Hp) (yss : List (List Key)) (xs : List Key), (∀ t, t ≤ 6 → e' t = e t) → e' 7 = .int .i64 (yss.flatten.length : Nat) → (∀ y ∈ yss, Srt key y ∧ y.length = 2 * bs) → (xs = [] ∨ Srt key xs ∧ xs.length = bs) → h'.get b = some (.cells false (encKey.all (yss.flatten ++ (xs ++ last)) ++ r)) → isort key (yss.flatten ++ (xs ++ last)) = isort key L → n = (yss.flatten ++ (xs ++ last)).length → Upd h h' [b] [b] → GR T Q k (.x 4) e' h')
    (hn : n = (xss.flatten ++ last).length) (hI : isort key (xss.flatten ++ last) = isort key L) (hg : h.get b = some (.cells false (encKey.all (xss.flatten ++ last) ++ r))) (h0 : e 0 = .slice (some ⟨b, 0, sp⟩) n c) (h1 : e 1 = .int .i64 n) (h2 : e 2 = .func (.func fc) #[] #[]) (h6 : e 6 = .int .i64 bs) (h7 : e 7 = .int .i64 0) (h8 : e 8 = .int .i64 (2 * bs : Nat)) :
    G T Q (.loop c3_slices_stableCmpFunc_input_Key) k e h := by
  refine G_loop (fun m e' h' => ∃ (yss zss : List (List Key)) (a b' : Nat), m = zss.length ∧ a = yss.flatten.length ∧ b' = a + 2 * bs ∧ (∀ t, t ≤ 6 → e' t = e t) ∧ e' 7 = .int .i64 a ∧ e' 8 = .int .i64 b' ∧ (∀ y ∈ yss, Srt key y ∧ y.length = 2 * bs) ∧ (∀ x ∈ zss, Srt key x ∧ x.length = bs) ∧
      h'.get b = some (.cells false (encKey.all (yss.flatten ++ (zss.flatten ++ last)) ++ r)) ∧ isort key (yss.flatten ++ (zss.flatten ++ last)) = isort key L ∧ n = (yss.flatten ++ (zss.flatten ++ last)).length ∧ Upd h h' [b] [b]) ?_ xss.length e h
    ⟨[], xss, 0, 2 * bs, rfl, rfl, by omega, fun _ _ => rfl, h7, h8, by simp, hx, hg, hI, hn, .refl⟩
  rintro m ih e' h' ⟨yss, zss, a, b', rfl, ha, hb', he, e7, e8, hy, hz, hg', hI', hn', U⟩
  have e0 := (he 0 (by omega)).trans h0
  have e1 := (he 1 (by omega)).trans h1
  have e2 := (he 2 (by omega)).trans h2
  have e6 := (he 6 (by omega)).trans h6
  have hzl := flat_len hz
  have hn1 := hn'
  rw [List.length_append, List.length_append, hzl, ← ha] at hn1
  match zss, hz, hzl, hg', hI', hn', hn1, ih with
  | [], hz, hzl, hg', hI', hn', hn1, ih =>
    simp at hn1
    have t : ¬ b' ≤ n := by omega
    simp (maxSteps := 1000000) (disch := first | assumption | ((try simp only [push_next, put_next, adv_next, List.length_cons, List.length_nil, List.length_map, List.length_set]); omega) | simp) [e0, e1, e2, e6, e7, e8, t]
    exact hR _ _ yss [] (fun t ht => by repeat rw [upd_ne _ (by omega)]
                                        exact he t ht) (by rw [← ha]; simp [e7]) hy (.inl rfl) hg' hI' hn' U
  | [x], hz, hzl, hg', hI', hn', hn1, ih =>
    simp at hn1
    have t : ¬ b' ≤ n := by omega
    simp (maxSteps := 1000000) (disch := first | assumption | ((try simp only [push_next, put_next, adv_next, List.length_cons, List.length_nil, List.length_map, List.length_set]); omega) | simp) [e0, e1, e2, e6, e7, e8, t]
    exact hR _ _ yss x (fun t ht => by repeat rw [upd_ne _ (by omega)]
                                       exact he t ht) (by rw [← ha]; simp [e7]) hy (.inr (hz x (by simp))) (by rw [hg']; simp) (by rw [← hI']; simp) (by rw [hn']; simp) U
  | x :: y :: zss, hz, hzl, hg', hI', hn', hn1, ih =>
    simp [Nat.add_mul] at hn1
    have t : b' ≤ n := by omega
    have hx1 := hz x (by simp)
    have hy1 := hz y (by simp)
    have hab : (a : Int) + (bs : Int) = ((a + bs : Nat) : Int) := by omega
    simp (maxSteps := 1000000) (disch := first | assumption | ((try simp only [push_next, put_next, adv_next, List.length_cons, List.length_nil, List.length_map, List.length_set]); omega) | simp) [e0, e1, e2, e6, e7, e8, t]
    refine GC_intro (symMerge (r := r) hc (by omega) (x.length + y.length) (A := yss.flatten) (P := x) (R := y) (C := zss.flatten ++ last) (Nat.le_refl _) (List.length_pos_iff.1 (by omega)) (List.length_pos_iff.1 (by omega)) hx1.1 hy1.1 (by rw [hn']; simp) (by omega) (by omega) (by omega) (by rw [hg']; simp) fun v h2 hg2 U2 => ?_) fun v h2 hh => hh
    simp (maxSteps := 1000000) (disch := first | assumption | ((try simp only [push_next, put_next, adv_next, List.length_cons, List.length_nil, List.length_map, List.length_set]); omega) | simp) [e0, e1, e2, e6, e7, e8]
    apply ih zss.length (by simp; omega)
    refine ⟨yss ++ [isort key (x ++ y)], zss, b', b' + 2 * bs, rfl, by rw [List.flatten_append, List.length_append, ← ha]; simp; omega, rfl, fun t ht => ?_, by simp, by simp, fun w hw => ?_, fun w hw => hz w (by simp [hw]), by rw [hg2]; simp, ?_, by rw [hn']; simp; omega, U.trans U2⟩
    · repeat rw [upd_ne _ (by omega)]
      exact he t ht
    · rcases List.mem_append.1 hw with hw | hw
      · exact hy w hw
      · simp at hw
        subst hw
        exact ⟨srt_isort key _, by simp; omega⟩
    · have := isort_mid key yss.flatten (x ++ y) (zss.flatten ++ last)
      rw [← hI']
      simp at this ⊢
      exact this
theorem stable_outer {e : Env} {Q : Ex → Env → Hp → Prop} {k : List Fr} (hc : Cmp fc key) (hbig : n < 2 ^ 40) {L last : List Key} {xss : List (List Key)} {bs : Nat} (hbs : 0 < bs) (hls : Srt key last) (hll : last.length < bs) (hx : ∀ x ∈ xss, Srt key x ∧ x.length = bs)
    (hR : ∀ e' h', h'.get b = some (.cells false (encKey.all (isort key L) ++ r)) → Upd h h' [b] [b] → GR T Q k (.x 2) e' h')
    (hn : n = (xss.flatten ++ last).length) (hI : isort key (xss.flatten ++ last) = isort key L) (hg : h.get b = some (.cells false (encKey.all (xss.flatten ++ last) ++ r))) (h0 : e 0 = .slice (some ⟨b, 0, sp⟩) n c) (h1 : e 1 = .int .i64 n) (h2 : e 2 = .func (.func fc) #[] #[]) (h6 : e 6 = .int .i64 bs) :
    G T Q (.loop c6_slices_stableCmpFunc_input_Key) k e h := by
  refine G_loop (fun m e' h' => ∃ (zss : List (List Key)) (las : List Key) (s : Nat), m = n - s ∧ 0 < s ∧ Srt key las ∧ las.length < s ∧ (∀ x ∈ zss, Srt key x ∧ x.length = s) ∧ n = (zss.flatten ++ las).length ∧ isort key (zss.flatten ++ las) = isort key L ∧ h'.get b = some (.cells false (encKey.all (zss.flatten ++ las) ++ r)) ∧
      e' 0 = .slice (some ⟨b, 0, sp⟩) n c ∧ e' 1 = .int .i64 n ∧ e' 2 = .func (.func fc) #[] #[] ∧ e' 6 = .int .i64 s ∧ Upd h h' [b] [b]) ?_ (n - bs) e h ⟨xss, last, bs, rfl, hbs, hls, hll, hx, hn, hI, hg, h0, h1, h2, h6, .refl⟩
  rintro m ih e' h' ⟨zss, las, s, rfl, hs, sl, ll, hz, hn', hI', hg', e0, e1, e2, e6, U⟩
  by_cases hsn : s < n
  · have t2 : (2 : Int) * (s : Int) = ((2 * s : Nat) : Int) := by omega
    simp (maxSteps := 1000000) (disch := first | assumption | ((try simp only [push_next, put_next, adv_next, List.length_cons, List.length_nil, List.length_map, List.length_set]); omega) | simp) [e0, e1, e2, e6, hsn, -g3_slices_stableCmpFunc_input_Key]
    refine stable_inner (r := r) (sp := sp) (c := c) hc hbig (L := L) hs hsn sl ll hz ?_ hn' hI' hg' (by simp [e0]) (by simp [e1]) (by simp [e2]) (by simp [e6]) (by simp) (by simp)
    intro e1' h1' yss xs he f7 hy hxs hg1 hI1 hn1 U1
    have f0 := he 0 (by omega)
    have f1 := he 1 (by omega)
    have f2 := he 2 (by omega)
    have f6 := he 6 (by omega)
    simp [e0, e1, e2, e6] at f0 f1 f2 f6
    have hlen := hn1
    rw [List.length_append, List.length_append] at hlen
    obtain ⟨a, ha⟩ : ∃ a, a = yss.flatten.length := ⟨_, rfl⟩
    rw [← ha] at f7 hlen
    obtain ⟨mm, hmm⟩ : ∃ mm, mm = a + s := ⟨_, rfl⟩
    have hms : (a : Int) + (s : Int) = (mm : Int) := by omega
    have done : ∀ (e : Env) (h2 : Hp) (w : List Key), Srt key w → w.length < 2 * s → n = (yss.flatten ++ w).length → isort key (yss.flatten ++ w) = isort key L → h2.get b = some (.cells false (encKey.all (yss.flatten ++ w) ++ r)) → e 0 = .slice (some ⟨b, 0, sp⟩) n c → e 1 = .int .i64 n → e 2 = .func (.func fc) #[] #[] → e 6 = .int .i64 (2 * s : Nat) → Upd h h2 [b] [b] → G T Q (.loop c6_slices_stableCmpFunc_input_Key) k e h2 := fun e h2 w w1 w2 w3 w4 w5 w6 w7 w8 w9 w10 =>
      ih (n - 2 * s) (by omega) _ _ ⟨yss, w, 2 * s, rfl, by omega, w1, w2, hy, w3, w4, w5, w6, w7, w8, w9, w10⟩
    by_cases tm : mm < n
    · have hx1 : Srt key xs ∧ xs.length = s := by
        rcases hxs with rfl | hh
        · simp at hlen
          omega
        · exact hh
      simp (maxSteps := 1000000) (disch := first | assumption | ((try simp only [push_next, put_next, adv_next, List.length_cons, List.length_nil, List.length_map, List.length_set]); omega) | simp) [f0, f1, f2, f6, f7, hms, tm, -g6_slices_stableCmpFunc_input_Key]
      refine GC_intro (symMerge (r := r) hc (by omega) (xs.length + las.length) (A := yss.flatten) (P := xs) (R := las) (C := []) (Nat.le_refl _) (List.length_pos_iff.1 (by omega)) (List.length_pos_iff.1 (by omega)) hx1.1 sl (by rw [hn1]; simp) (by omega) (by omega) (by omega) (by rw [hg1]; simp) fun v h2 hg2 U2 => ?_) fun v h2 hh => hh
      simp (maxSteps := 1000000) (disch := first | assumption | ((try simp only [push_next, put_next, adv_next, List.length_cons, List.length_nil, List.length_map, List.length_set]); omega) | simp) [f0, f1, f2, f6, f7, -g6_slices_stableCmpFunc_input_Key]
      refine done _ _ (isort key (xs ++ las)) (srt_isort key _) (by simp; omega) (by rw [hn1]; simp) (by rw [isort_right, hI1]) (by rw [hg2]; simp) (by simp [f0]) (by simp [f1]) (by simp [f2]) (by simp; omega) ((U.trans U1).trans U2)
    · simp (maxSteps := 1000000) (disch := first | assumption | ((try simp only [push_next, put_next, adv_next, List.length_cons, List.length_nil, List.length_map, List.length_set]); omega) | simp) [f0, f1, f2, f6, f7, hms, tm, -g6_slices_stableCmpFunc_input_Key]
      refine done _ _ (xs ++ las) ?_ ?_ hn1 hI1 hg1 (by simp [f0]) (by simp [f1]) (by simp [f2]) (by simp; omega) (U.trans U1)
      · rcases hxs with rfl | hh
        · exact sl
        · have : las = [] := List.eq_nil_of_length_eq_zero (by omega)
          subst this
          simpa using hh.1
      · rcases hxs with rfl | hh
        · simp; omega
        · simp; omega
  · simp (maxSteps := 1000000) (disch := first | assumption | ((try simp only [push_next, put_next, adv_next, List.length_cons, List.length_nil, List.length_map, List.length_set]); omega) | simp) [e0, e1, e2, e6, hsn]
    refine hR _ _ ?_ U
    have hzl := flat_len hz
    have hn1 := hn'
    rw [List.length_append, hzl] at hn1
    have sc : Srt key (zss.flatten ++ las) := by
      match zss, hz, hn1 with
      | [], hz, hn1 => simpa using sl
      | [x], hz, hn1 =>
        simp at hn1
        have : las = [] := List.eq_nil_of_length_eq_zero (by omega)
        subst this
        simpa using (hz x (by simp)).1
      | x :: y :: zss, hz, hn1 =>
        simp [Nat.add_mul] at hn1
        omega
    rw [hg', ← hI', isort_of_srt key sc]
theorem stable (hc : Cmp fc key) {L : List Key} (hn : n = L.length) (hbig : n < 2 ^ 40) (hg : h.get b = some (.cells false (encKey.all L ++ r))) (hq : ∀ v h', h'.get b = some (.cells false (encKey.all (isort key L) ++ r)) → Upd h h' [b] [b] → q v h') :
    WC T n_slices_stableCmpFunc_input_Key [.slice (some ⟨b, 0, sp⟩) n c, .int .i64 n, .func (.func fc) #[] #[]] h q := by
  rw [w_slices_stableCmpFunc_input_Key]
  simp (maxSteps := 1000000) (disch := first | assumption | ((try simp only [push_next, put_next, adv_next, List.length_cons, List.length_nil, List.length_map, List.length_set]); omega) | simp) [-g1_slices_stableCmpFunc_input_Key, -g6_slices_stableCmpFunc_input_Key]
  refine G_loop (fun m e' h' => ∃ (yss : List (List Key)) (rest : List Key) (a b' : Nat), m = rest.length ∧ a = yss.flatten.length ∧ b' = a + 20 ∧ (∀ y ∈ yss, Srt key y ∧ y.length = 20) ∧ n = (yss.flatten ++ rest).length ∧ isort key (yss.flatten ++ rest) = isort key L ∧ h'.get b = some (.cells false (encKey.all (yss.flatten ++ rest) ++ r)) ∧
      e' 0 = .slice (some ⟨b, 0, sp⟩) n c ∧ e' 1 = .int .i64 n ∧ e' 2 = .func (.func fc) #[] #[] ∧ e' 6 = .int .i64 20 ∧ e' 7 = .int .i64 a ∧ e' 8 = .int .i64 b' ∧ Upd h h' [b] [b]) ?_ L.length _ _
    ⟨[], L, 0, 20, rfl, rfl, rfl, by simp, by simpa using hn, rfl, by simpa using hg, by simp, by simp, by simp, by simp, by simp, by simp, .refl⟩
  rintro m ih e' h' ⟨yss, rest, a, b', rfl, ha, hb', hy, hn', hI', hg', e0, e1, e2, e6, e7, e8, U⟩
  have hn1 := hn'
  rw [List.length_append, ← ha] at hn1
  by_cases t : b' ≤ n
  · obtain ⟨x, rst, rfl, hl⟩ : ∃ x rst, rest = x ++ rst ∧ x.length = 20 := ⟨rest.take 20, rest.drop 20, (List.take_append_drop _ _).symm, by simp; omega⟩
    simp at hn1
    simp (maxSteps := 1000000) (disch := first | assumption | ((try simp only [push_next, put_next, adv_next, List.length_cons, List.length_nil, List.length_map, List.length_set]); omega) | simp) [e0, e1, e2, e6, e7, e8, t, -g6_slices_stableCmpFunc_input_Key]
    refine GC_intro (isortq (r := r) hc (u := yss.flatten) (m := x) (t := rst) hn' (by omega) (by omega) (by omega) hg' fun v h2 hg2 U2 => ?_) fun v h2 hh => hh
    simp (maxSteps := 1000000) (disch := first | assumption | ((try simp only [push_next, put_next, adv_next, List.length_cons, List.length_nil, List.length_map, List.length_set]); omega) | simp) [e0, e1, e2, e6, e7, e8, -g6_slices_stableCmpFunc_input_Key]
    apply ih rst.length (by simp; omega)
    refine ⟨yss ++ [isort key x], rst, b', b' + 20, rfl, by rw [List.flatten_append, List.length_append, ← ha]; simp; omega, rfl, fun w hw => ?_, by rw [hn']; simp, ?_, by rw [hg2]; simp, by simp [e0], by simp [e1], by simp [e2], by simp [e6], by simp, by simp, U.trans U2⟩
    · rcases List.mem_append.1 hw with hw | hw
      · exact hy w hw
      · simp at hw
        subst hw
        exact ⟨srt_isort key _, by simp [hl]⟩
    · have := isort_mid key yss.flatten x rst
      rw [← hI', ← this]
      simp
  · simp (maxSteps := 1000000) (disch := first | assumption | ((try simp only [push_next, put_next, adv_next, List.length_cons, List.length_nil, List.length_map, List.length_set]); omega) | simp) [e0, e1, e2, e6, e7, e8, t, -g6_slices_stableCmpFunc_input_Key]
    refine GC_intro (isortq (r := r) hc (u := yss.flatten) (m := rest) (t := []) (by rw [hn']; simp) (by omega) (by omega) (by omega) (by rw [hg']; simp) fun v h2 hg2 U2 => ?_) fun v h2 hh => hh
    simp (maxSteps := 1000000) (disch := first | assumption | ((try simp only [push_next, put_next, adv_next, List.length_cons, List.length_nil, List.length_map, List.length_set]); omega) | simp) [e0, e1, e2, e6, e7, e8, -g6_slices_stableCmpFunc_input_Key]
    refine stable_outer (r := r) (sp := sp) (c := c) hc hbig (L := L) (xss := yss) (last := isort key rest) (bs := 20) (by omega) (srt_isort key _) (by simp; omega) hy ?_ (by rw [hn']; simp) (by rw [isort_right, hI']) (by rw [hg2]; simp) (by simp [e0]) (by simp [e1]) (by simp [e2]) (by simp [e6])
    intro e3 h3 hg3 U3
    simp (maxSteps := 1000000) (disch := first | assumption | ((try simp only [push_next, put_next, adv_next, List.length_cons, List.length_nil, List.length_map, List.length_set]); omega) | simp)
    exact hq _ _ hg3 ((U.trans U2).trans U3)
end
end Go.Proofs.Ytppgoobhlcdbbaa.Cd

/- Clone of a row, and whether two rows are the same. -/
set_option maxRecDepth 1000000
set_option linter.unusedSimpArgs false
set_option linter.unusedVariables false
namespace Go.Proofs.Ytppgoobhlcdbbaa.Cd
open Go Go.Dx
section
variable {h : Hp} {a a' : Option Addr} {c c' : Nat} {xs ys : List Key}
theorem clone_key {q : Value → Hp → Prop} (hs : Sees encKey h a xs) (hb : xs.length < 2 ^ 40) (hq : ∀ a' c' h', Sees encKey h' a' xs → Kp h h' → (∀ A, a' = some A → h.next ≤ A.block) → (xs = [] ∨ ∃ fp, Own encKey h' (.slice a' xs.length c') xs fp ∧ ∀ b ∈ fp, h.next ≤ b) → q (.slice a' xs.length c') h') : WC T n_slices_Clone_input_Key_input_Key [.slice a xs.length c] h q := by
  rw [w_slices_Clone_input_Key_input_Key]
  cases a with
  | none =>
    have := hs.nil rfl
    subst this
    simp (maxSteps := 1000000) (disch := first | assumption | ((try simp only [push_next, put_next, adv_next, List.length_cons, List.length_nil, List.length_map, List.length_set]); omega) | simp) [isNil]
    exact hq none 0 h Sees.nul (.refl _) (fun A hA => (by cases hA)) (.inl rfl)
  | some A =>
    simp (maxSteps := 1000000) (disch := first | assumption | ((try simp only [push_next, put_next, adv_next, List.length_cons, List.length_nil, List.length_map, List.length_set]); omega) | simp) [isNil]
    have K1 : Kp h (h.push (.cells false [])) := (Kp.refl h).push _
    have he := (hs.kp K1).elems (c := c)
    by_cases h0 : xs.length = 0
    · have : xs = [] := List.length_eq_zero_iff.1 h0
      subst this
      have e : appendV (h.push (.cells false [])) 2 16 (.slice (some ⟨h.next, 0, none⟩) 0 0) (.slice (some A) 0 c) = some (.slice (some ⟨h.next, 0, none⟩) 0 0, h.push (.cells false [])) := by
        have he' : elems (h.push (.cells false [])) 2 0 (.slice (some A) 0 c) = some [] := he
        simp [appendV, lenV, he']
      simp only [List.length_nil, e]
      simp (maxSteps := 1000000) (disch := first | assumption | ((try simp only [push_next, put_next, adv_next, List.length_cons, List.length_nil, List.length_map, List.length_set]); omega) | simp)
      refine hq _ 0 _ ⟨fun hA => (by cases hA), fun B hB => ?_, fun B hB => (by cases hB; first | exact .inl rfl | exact .inr rfl)⟩ K1 (fun A hA => by cases hA; exact Nat.le_refl _) (.inl rfl)
      cases hB
      simp [Hp.rdn, get_push_self]
    · have e : appendV (h.push (.cells false [])) 2 16 (.slice (some ⟨h.next, 0, none⟩) 0 0) (.slice (some A) xs.length c) = some (.slice (some ⟨h.next + 1, 0, some 2⟩) xs.length xs.length, (h.push (.cells false [])).push (.cells false (encKey.all xs))) := by
        have he' : elems (h.push (.cells false [])) 2 xs.length (.slice (some A) xs.length c) = some (encKey.all xs) := he
        have hl : (encKey.all xs).length = xs.length * 2 := encKey.all_length xs
        simp only [appendV, lenV, he', hl, if_true, Nat.zero_add]
        rw [if_neg (by omega), if_pos ⟨by omega, by omega⟩]
        simp [Hp.rdn, get_push_self]
      rw [e]
      simp (maxSteps := 1000000) (disch := first | assumption | ((try simp only [push_next, put_next, adv_next, List.length_cons, List.length_nil, List.length_map, List.length_set]); omega) | simp)
      refine hq _ _ _ ⟨fun hA => (by cases hA), fun B hB => ?_, fun B hB => (by cases hB; first | exact .inl rfl | exact .inr rfl)⟩ (K1.push _) (fun A hA => by cases hA; simp) (.inr ⟨_, .blk (E := encKey) (r := []) (by rw [show h.next + 1 = (h.push (.cells false [])).next from rfl, get_push_self]; simp) rfl (Nat.le_refl _) (by omega) (by simp), by simp⟩)
      cases hB
      simp only [Hp.rdn, Hp.cells, show h.next + 1 = (h.push (.cells false [])).next from rfl, get_push_self, Option.bind_some, Nat.zero_add]
      rw [if_pos (by simp), List.drop_zero, List.take_of_length_le (by simp)]
end
end Go.Proofs.Ytppgoobhlcdbbaa.Cd

/- The plan of bytes: what its functions answer. -/
set_option maxRecDepth 1000000
set_option linter.unusedSimpArgs false
set_option linter.unusedVariables false
namespace Go.Proofs.Ytppgoobhlcdbbaa.Cd
open Go Go.Dx
def encB8 : Enc (BitVec 8) := ⟨1, fun x => [u8 x], fun _ => rfl, fun _ => rfl, by decide⟩
@[simp] theorem encB8_sz : encB8.sz = 1 := rfl
section
variable {h : Hp} {b n c p : Nat} {a : Option Addr} {L : List Key} {q : Value → Hp → Prop}
theorem icmp : Cmp n_input_New_1 (·.at') := by
  intro x y h
  rw [w_input_New_1]
  simp (maxSteps := 1000000) (disch := first | assumption | ((try simp only [push_next, put_next, adv_next, List.length_cons, List.length_nil, List.length_map, List.length_set]); omega) | simp) [encKey]
  rw [GC_of fun q => compare]
  simp (maxSteps := 1000000) (disch := first | assumption | ((try simp only [push_next, put_next, adv_next, List.length_cons, List.length_nil, List.length_map, List.length_set]); omega) | simp)
  exact ((Kp.refl h).push _).push _
theorem ins0 {fc : Nat} (hq : ∀ v, q v h) : WC T n_slices_insertionSortCmpFunc_input_Key [.slice a 0 c, .int .i64 0, .int .i64 0, .func (.func fc) #[] #[]] h q := by
  rw [w_slices_insertionSortCmpFunc_input_Key]
  simp (maxSteps := 1000000) (disch := first | assumption | ((try simp only [push_next, put_next, adv_next, List.length_cons, List.length_nil, List.length_map, List.length_set]); omega) | simp)
  rw [G_round]
  simp (maxSteps := 1000000) (disch := first | assumption | ((try simp only [push_next, put_next, adv_next, List.length_cons, List.length_nil, List.length_map, List.length_set]); omega) | simp)
  exact hq _
theorem stab0 {fc : Nat} (hq : ∀ v, q v h) : WC T n_slices_stableCmpFunc_input_Key [.slice a 0 c, .int .i64 0, .func (.func fc) #[] #[]] h q := by
  rw [w_slices_stableCmpFunc_input_Key]
  simp (maxSteps := 1000000) (disch := first | assumption | ((try simp only [push_next, put_next, adv_next, List.length_cons, List.length_nil, List.length_map, List.length_set]); omega) | simp) [-g1_slices_stableCmpFunc_input_Key, -g6_slices_stableCmpFunc_input_Key]
  rw [G_round]
  simp (maxSteps := 1000000) (disch := first | assumption | ((try simp only [push_next, put_next, adv_next, List.length_cons, List.length_nil, List.length_map, List.length_set]); omega) | simp) [-g6_slices_stableCmpFunc_input_Key]
  refine GC_intro (ins0 fun v => ?_) fun v h2 hh => hh
  simp (maxSteps := 1000000) (disch := first | assumption | ((try simp only [push_next, put_next, adv_next, List.length_cons, List.length_nil, List.length_map, List.length_set]); omega) | simp) [-g6_slices_stableCmpFunc_input_Key]
  rw [G_round]
  simp (maxSteps := 1000000) (disch := first | assumption | ((try simp only [push_next, put_next, adv_next, List.length_cons, List.length_nil, List.length_map, List.length_set]); omega) | simp)
  exact hq _
theorem stable0 {fc : Nat} (hq : ∀ v, q v h) : WC T n_slices_SortStableFunc_input_Key_input_Key [.slice a 0 c, .func (.func fc) #[] #[]] h q := by
  rw [w_slices_SortStableFunc_input_Key_input_Key]
  simp (maxSteps := 1000000) (disch := first | assumption | ((try simp only [push_next, put_next, adv_next, List.length_cons, List.length_nil, List.length_map, List.length_set]); omega) | simp)
  refine GC_intro (stab0 fun v => ?_) fun v h2 hh => hh
  simp (maxSteps := 1000000) (disch := first | assumption | ((try simp only [push_next, put_next, adv_next, List.length_cons, List.length_nil, List.length_map, List.length_set]); omega) | simp)
  exact hq _
theorem sstable {fc : Nat} {key : Key → Int} {sp : Option Nat} {r : List Value} (hc : Cmp fc key) (hn : n = L.length) (hbig : n < 2 ^ 40) (hg : h.get b = some (.cells false (encKey.all L ++ r))) (hq : ∀ v h', h'.get b = some (.cells false (encKey.all (isort key L) ++ r)) → Upd h h' [b] [b] → q v h') :
    WC T n_slices_SortStableFunc_input_Key_input_Key [.slice (some ⟨b, 0, sp⟩) n c, .func (.func fc) #[] #[]] h q := by
  rw [w_slices_SortStableFunc_input_Key_input_Key]
  simp (maxSteps := 1000000) (disch := first | assumption | ((try simp only [push_next, put_next, adv_next, List.length_cons, List.length_nil, List.length_map, List.length_set]); omega) | simp)
  refine GC_intro (stable (r := r) hc hn hbig hg fun v h2 hg2 U2 => ?_) fun v h2 hh => hh
  simp (maxSteps := 1000000) (disch := first | assumption | ((try simp only [push_next, put_next, adv_next, List.length_cons, List.length_nil, List.length_map, List.length_set]); omega) | simp)
  exact hq _ _ hg2 U2
def PL (h : Hp) (p : Nat) (L : List Key) (fp : List Nat) : Prop := ∃ a c, h.get p = some (.cells false [.slice a L.length c]) ∧ Sees encKey h a L ∧ L.length ≤ c ∧ p ∈ fp ∧ ∀ A, a = some A → A.block ≠ p ∧ A.block ∈ fp
theorem Sees.keep {α : Type} {E : Enc α} {g h : Hp} {a : Option Addr} {xs : List α} (x : Sees E g a xs) (f : ∀ A, a = some A → h.get A.block = g.get A.block) : Sees E h a xs := ⟨x.nil, fun A hA => rdn_kp (x.get A hA) (f A hA), x.sp⟩
theorem PL.keep {h' : Hp} {fp : List Nat} (P : PL h p L fp) (K : ∀ b ∈ fp, h'.get b = h.get b) : PL h' p L fp := by
  obtain ⟨a, c, g, s, hc, hp, hne⟩ := P
  exact ⟨a, c, by rw [K p hp, g], Sees.keep s fun A hA => K _ (hne A hA).2, hc, hp, hne⟩
theorem PL.lt {fp : List Nat} (P : PL h p L fp) : p < h.next := by
  obtain ⟨a, c, g, s, hc, hp, hne⟩ := P
  exact lt_of_get g
theorem sliceV_block {sz n c n' c' : Nat} {a' : Option Addr} {l u : Option Value} (hh : sliceV sz (.slice a n c) l u none = some (.slice a' n' c')) : ∀ A', a' = some A' → ∃ A, a = some A ∧ A'.block = A.block := by
  intro A' hA
  subst hA
  cases a with
  | none =>
    simp only [sliceV] at hh
    split at hh <;> simp at hh
  | some A =>
    obtain ⟨b, o, sp⟩ := A
    refine ⟨_, rfl, ?_⟩
    cases sp <;> simp only [sliceV] at hh <;> split at hh <;> (try split at hh) <;> simp at hh <;> (try (rw [← hh.1]))
theorem inext {fp : List Nat} (P : PL h p L fp) : WC T n_input_Plan_Next [ptr p 0] h q ↔ q (.tuple #[.int .i64 (L.head?.elim 0 (·.at')), .bool (!L.isEmpty)]) h := by
  obtain ⟨a, c, g, s, hc, hp, hne⟩ := P
  rw [w_input_Plan_Next]
  cases L with
  | nil => simp (maxSteps := 1000000) (disch := first | assumption | ((try simp only [push_next, put_next, adv_next, List.length_cons, List.length_nil, List.length_map, List.length_set]); omega) | simp) [g]
  | cons x L =>
    obtain ⟨A, rfl, hr⟩ := s.at' 0 (by simp)
    obtain ⟨ro, C, gA, hC⟩ := rdn_cells hr
    have c0 : C[A.off]? = some (.int .i64 x.at') := hC 0 (by simp)
    simp (maxSteps := 1000000) (disch := first | assumption | ((try simp only [push_next, put_next, adv_next, List.length_cons, List.length_nil, List.length_map, List.length_set]); omega) | simp) [g, gA, c0, show ¬ ((L.length : Int) + 1 = 0) by omega]
theorem ileft {fp : List Nat} (P : PL h p L fp) : WC T n_input_Plan_Left [ptr p 0] h q ↔ q (.int .i64 L.length) h := by
  obtain ⟨a, c, g, s, hc, hp, hne⟩ := P
  rw [w_input_Plan_Left]
  simp (maxSteps := 1000000) (disch := first | assumption | ((try simp only [push_next, put_next, adv_next, List.length_cons, List.length_nil, List.length_map, List.length_set]); omega) | simp) [g]
theorem inew (hs : Sees encKey h a L) (hc : L.length ≤ c) (hb : L.length < 2 ^ 39) (hq : ∀ h' p fp, (∀ b ∈ fp, h.next ≤ b) → (∀ b ∈ fp, b < h'.next) → PL h' p (isort (·.at') (L.take 256)) fp → Kp h h' → q (ptr p 0) h') : WC T n_input_New [.slice a L.length c] h q := by
  rw [w_input_New]
  obtain ⟨m, hm, hmi⟩ : ∃ m : Nat, m = min L.length 256 ∧ (if (256 : Int) < L.length then 256 else (L.length : Int)) = m := ⟨_, rfl, by split <;> omega⟩
  obtain ⟨a1, c1, hsl, hc1, s1⟩ := hs.part (c := c) (lo := 0) (hi := m) (by omega) (by omega) hc (l := none) (u := some (.int .i64 m)) (.inl ⟨rfl, rfl⟩) (.inr ⟨_, rfl⟩)
  simp at hsl s1
  have ht : (L.take m).length = m := by simp; omega
  have hLt : L.take 256 = L.take m := by
    rw [hm]
    rcases Nat.lt_or_ge L.length 256 with h1 | h1
    · rw [Nat.min_eq_left (by omega), List.take_of_length_le (by omega), List.take_of_length_le (by omega)]
    · rw [Nat.min_eq_right (by omega)]
  rw [hLt] at hq
  generalize L.take m = M at *
  subst ht
  simp (maxSteps := 1000000) (disch := first | assumption | ((try simp only [push_next, put_next, adv_next, List.length_cons, List.length_nil, List.length_map, List.length_set]); omega) | simp) [hmi, hsl]
  refine GC_intro (clone_key s1 (by omega) fun a' c' h' s2 K A1 A2 => ?_) fun v h2 hh => hh
  simp (maxSteps := 1000000) (disch := first | assumption | ((try simp only [push_next, put_next, adv_next, List.length_cons, List.length_nil, List.length_map, List.length_set]); omega) | simp)
  have K1 : Kp h (h'.push (.cells false [.slice a' M.length c'])) := K.trans ((Kp.refl h').push _)
  by_cases hM : M = []
  · subst hM
    simp (maxSteps := 1000000) (disch := first | assumption | ((try simp only [push_next, put_next, adv_next, List.length_cons, List.length_nil, List.length_map, List.length_set]); omega) | simp)
    refine GC_intro (stable0 fun v => ?_) fun v h2 hh => hh
    simp (maxSteps := 1000000) (disch := first | assumption | ((try simp only [push_next, put_next, adv_next, List.length_cons, List.length_nil, List.length_map, List.length_set]); omega) | simp)
    cases a' with
    | none => exact hq _ _ [h'.next] (by simpa using K.le) (by simp) ⟨none, c', get_push_self, s2.kp ((Kp.refl h').push _), by simp, by simp, fun A hA => (by cases hA)⟩ K1
    | some A =>
      have := lt_of_rdn (s2.get A rfl)
      exact hq _ _ [h'.next, A.block] (by simpa using ⟨K.le, A1 A rfl⟩) (by simp; omega) ⟨some A, c', get_push_self, s2.kp ((Kp.refl h').push _), by simp, by simp, fun B hB => by cases hB; exact ⟨by omega, by simp⟩⟩ K1
  rcases A2 with h0 | ⟨fp, O, hf⟩
  · exact absurd h0 hM
  obtain ⟨b1, r, rfl, hg1, hc', hb1⟩ : ∃ b1 r, a' = some ⟨b1, 0, some 2⟩ ∧ h'.get b1 = some (.cells false (encKey.all M ++ r)) ∧ M.length ≤ c' ∧ h.next ≤ b1 := by
    generalize hv : Value.slice a' M.length c' = v at O
    cases O with
    | nul => exact absurd rfl hM
    | blk g1 g2 g3 g4 g5 =>
      cases hv
      exact ⟨_, _, rfl, g1, g3, hf _ (by simp)⟩
    | emp => exact absurd rfl hM
  have hl1 := lt_of_get hg1
  generalize hh2 : h'.push (.cells false [.slice (some ⟨b1, 0, some 2⟩) M.length c']) = h2 at *
  have hg2 : h2.get b1 = some (.cells false (encKey.all M ++ r)) := by rw [← hh2, get_push_ne (by omega), hg1]
  have hp2 : h2.get h'.next = some (.cells false [.slice (some ⟨b1, 0, some 2⟩) M.length c']) := by rw [← hh2, get_push_self]
  refine GC_intro (sstable (r := r) icmp rfl (by omega) hg2 fun v h3 hg3 U3 => ?_) fun v h3 hh => hh
  simp (maxSteps := 1000000) (disch := first | assumption | ((try simp only [push_next, put_next, adv_next, List.length_cons, List.length_nil, List.length_map, List.length_set]); omega) | simp)
  have hp3 := lt_of_get hp2
  refine hq _ _ [h'.next, b1] (by simpa using ⟨K.le, hb1⟩) (by have := U3.le; simp; omega) ⟨some ⟨b1, 0, some 2⟩, c', ?_, ⟨fun hA => (by cases hA), fun B hB => ?_, fun B hB => (by cases hB; exact .inr rfl)⟩, by simpa using hc', by simp, fun A hA => by cases hA; exact ⟨show b1 ≠ _ by omega, by simp⟩⟩ (U3.kp' K1 (by simpa using hb1))
  · rw [U3.get _ hp3 (by simp; omega), hp2]
    simp
  · cases hB
    simp only [Hp.rdn, Hp.cells, hg3, Option.bind_some]
    rw [if_pos (by simp), List.drop_zero, List.take_left' (by simp)]
theorem tw_eq {P : Key → Bool} {l r : List Key} (h1 : ∀ x ∈ l, P x = true) (h2 : ∀ x, r.head? = some x → P x = false) : (l ++ r).takeWhile P = l ∧ (l ++ r).dropWhile P = r := by
  induction l with
  | nil => cases r with
    | nil => simp
    | cons x r => simp [h2 x rfl]
  | cons y l ih =>
    have := ih fun x hx => h1 x (by simp [hx])
    simp [h1 y (by simp), this]
theorem itake {fp : List Nat} {now : Int} (P : PL h p L fp) (hb : L.length < 2 ^ 39) (hfp : ∀ b ∈ fp, b < h.next)
    (hq : ∀ v h' fp', Own encB8 h' v ((L.takeWhile fun x => decide (x.at' ≤ now)).map (·.b)) fp' → (∀ b ∈ fp', h.next ≤ b) → PL h' p (L.dropWhile fun x => decide (x.at' ≤ now)) fp → Upd h h' [p] (p :: fp') → q v h') : WC T n_input_Plan_Take [ptr p 0, .int .i64 now] h q := by
  rw [w_input_Plan_Take]
  simp (maxSteps := 1000000) (disch := first | assumption | ((try simp only [push_next, put_next, adv_next, List.length_cons, List.length_nil, List.length_map, List.length_set]); omega) | simp) [-g2_input_Plan_Take]
  refine G_loop (fun m e' h' => ∃ (l r : List Key) (v : Value) (fo : List Nat), m = r.length ∧ L = l ++ r ∧ (∀ x ∈ l, x.at' ≤ now) ∧ e' 0 = ptr p 0 ∧ e' 1 = .int .i64 now ∧ e' 5 = v ∧ Own encB8 h' v (l.map (·.b)) fo ∧ (∀ b ∈ fo, h.next ≤ b) ∧ PL h' p r fp ∧ Upd h h' [p] (p :: fo)) ?_ L.length _ _
    ⟨[], L, _, [], rfl, rfl, by simp, by simp, by simp, rfl, by simpa using Own.nul, by simp, P, .refl⟩
  rintro m ih e' h' ⟨l, r, v, fo, rfl, rfl, hl, e0, e1, e5, O, hfo, P', U⟩
  have out : (∀ x, r.head? = some x → ¬ x.at' ≤ now) → q v h' := fun hh => by
    obtain ⟨t1, t2⟩ := tw_eq (P := fun x => decide (x.at' ≤ now)) (l := l) (r := r) (by simpa using hl) (by simpa using hh)
    rw [t1, t2] at hq
    exact hq v h' fo O hfo P' U
  obtain ⟨a, c, g, s, hc, hp, hne⟩ := P'
  cases r with
  | nil =>
    simp (maxSteps := 1000000) (disch := first | assumption | ((try simp only [push_next, put_next, adv_next, List.length_cons, List.length_nil, List.length_map, List.length_set]); omega) | simp) [e0, e1, e5, g]
    exact out (by simp)
  | cons x r =>
    obtain ⟨A, rfl, hr⟩ := s.at' 0 (by simp)
    obtain ⟨ro, C, gA, hC⟩ := rdn_cells hr
    have c0 : C[A.off]? = some (.int .i64 x.at') := hC 0 (by simp)
    have c1 : C[A.off + 1]? = some (u8 x.b) := hC 1 (by simp)
    by_cases t : x.at' ≤ now
    · simp (maxSteps := 1000000) (disch := first | assumption | ((try simp only [push_next, put_next, adv_next, List.length_cons, List.length_nil, List.length_map, List.length_set]); omega) | simp) [e0, e1, e5, g, gA, c0, c1, t, -g0_input_Plan_Take]
      have hAf := hne A rfl
      simp at hb
      refine GV_app1 (E := encB8) (x := x.b) O (by simp; omega) (by simp; omega) fun v' h2 fp' O' U' => ?_
      have hnp : ∀ b ∈ fo, b ∉ fp := fun b hb1 hb2 => by have := hfp b hb2; have := hfo b hb1; omega
      have g2 : h2.get p = some (.cells false [.slice (some A) (r.length + 1) c]) := by rw [U'.get p (lt_of_get g) (fun hh => hnp p hh hp), g]; simp
      have s2 : Sees encKey h2 (some A) (x :: r) := Sees.keep s fun B hB => by
        cases hB
        exact U'.get _ (lt_of_get gA) fun hh => hnp _ hh hAf.2
      obtain ⟨a3, c3, hsl, hc3, s3⟩ := s2.part (c := c) (lo := 1) (hi := r.length + 1) (by omega) (by simp) hc (l := some (.int .i64 1)) (u := none) (.inr ⟨_, rfl⟩) (.inl ⟨rfl, rfl⟩)
      simp at hsl s3 hc3
      have hbk := sliceV_block hsl
      have hlt2 := lt_of_get g2
      simp (maxSteps := 1000000) (disch := first | assumption | ((try simp only [push_next, put_next, adv_next, List.length_cons, List.length_nil, List.length_map, List.length_set]); omega) | simp) [e0, g2, hsl]
      apply ih r.length (by simp)
      refine ⟨l ++ [x], r, v', fp', rfl, by simp, fun y hy => ?_, by simp [e0], by simp [e1], by simp, ?_, fun b hb1 => ?_, ⟨a3, c3, by rw [get_put_self hlt2], Sees.keep s3 fun B hB => ?_, hc3, hp, fun B hB => ?_⟩, ?_⟩
      · rcases List.mem_append.1 hy with hy | hy
        · exact hl y hy
        · simp at hy; subst hy; exact t
      · rw [List.map_append]
        refine O'.keep fun b hb1 => get_put_ne fun hh => ?_
        subst hh
        rcases U'.sub _ hb1 with h5 | h5
        · exact hnp _ h5 hp
        · have := lt_of_get g; omega
      · rcases U'.sub b hb1 with h5 | h5
        · exact hfo b h5
        · have := U.le; omega
      · obtain ⟨A', hA', hAb⟩ := hbk B hB
        cases hA'
        rw [get_put_ne (by rw [hAb]; exact hAf.1)]
      · obtain ⟨A', hA', hAb⟩ := hbk B hB
        cases hA'
        rw [hAb]
        exact hAf
      · refine ⟨Nat.le_trans U.le U'.le, fun k hk hn => ?_, fun k hk => ?_⟩
        · simp at hn
          rw [get_put_ne hn, U'.get k (Nat.lt_of_lt_of_le hk U.le) (fun hh => by have := hfo k hh; omega), U.get k hk (by simpa using hn)]
        · rcases List.mem_cons.1 hk with hk | hk
          · exact .inl (by simp [hk])
          · rcases U'.sub k hk with h5 | h5
            · exact .inr (hfo k h5)
            · have := U.le; exact .inr (by omega)
    · simp (maxSteps := 1000000) (disch := first | assumption | ((try simp only [push_next, put_next, adv_next, List.length_cons, List.length_nil, List.length_map, List.length_set]); omega) | simp) [e0, e1, e5, g, gA, c0, t]
      exact out (by simpa using t)
end
end Go.Proofs.Ytppgoobhlcdbbaa.Cd

/- The statements about the plan of bytes. -/
set_option maxRecDepth 1000000
set_option linter.unusedSimpArgs false
set_option linter.unusedVariables false
namespace Go.Proofs.Ytppgoobhlcdbbaa.Cd
open Go Go.Dx
def bstr (xs : List (BitVec 8)) : ByteArray := ⟨(xs.map fun b => UInt8.ofNat b.toNat).toArray⟩
theorem b2s_sees {e : Env} {h : Hp} {x : X} {a : Option Addr} {c : Nat} {xs : List (BitVec 8)} (hx : x.ev e = .slice a xs.length c) (s : Sees encB8 h a xs) : opV e h (.b2s x) = some (.string (bstr xs), h) := by
  have hm : ∀ f : Value → Option UInt8, (∀ y, f (u8 y) = some (UInt8.ofNat y.toNat)) → ∀ l : List (BitVec 8), (encB8.all l).mapM f = some (l.map fun b => UInt8.ofNat b.toNat) := fun f hf l => by
    induction l with
    | nil => rfl
    | cons y l ih =>
      rw [Enc.all_cons, show encB8.enc y = [u8 y] from rfl, List.singleton_append, List.mapM_cons, ih, hf]
      rfl
  unfold opV
  simp only [hx]
  cases a with
  | none =>
    have := s.nil rfl
    subst this
    rfl
  | some A =>
    have hg := s.get A rfl
    rw [encB8_sz, Nat.mul_one] at hg
    have : (if xs.length = 0 then some [] else h.rdn A.block A.off xs.length) = some (encB8.all xs) := by
      split
      · rename_i h0
        have : xs = [] := List.length_eq_zero_iff.1 h0
        subst this
        rfl
      · exact hg
    simp only [this, Option.bind_some]
    rw [hm _ (fun y => by simp [u8]) xs]
    rfl
def b2sV (h : Hp) (v : Value) : Option (Value × Hp) := opV (fun _ => v) h (.b2s (.t 0))
@[simp] theorem opV_b2s {e : Env} {h : Hp} {x : X} : opV e h (.b2s x) = b2sV h (x.ev e) := rfl
theorem b2sV_sees {h : Hp} {a : Option Addr} {n c : Nat} {xs : List (BitVec 8)} (s : Sees encB8 h a xs) (hn : n = xs.length) : b2sV h (.slice a n c) = some (.string (bstr xs), h) := by
  subst hn
  exact b2s_sees rfl s
section
variable {h : Hp} {b n c p : Nat} {a : Option Addr} {L : List Key} {q : Value → Hp → Prop}
theorem iknown (hq : ∀ h', Kp h h' → q (.bool true) h') : WC T n_pianolalaw24_known [] h q := by
  rw [w_pianolalaw24_known]
  simp (maxSteps := 1000000) (disch := first | assumption | ((try simp only [push_next, put_next, adv_next, List.length_cons, List.length_nil, List.length_map, List.length_set]); omega) | simp)
  generalize hg0 : h.push _ = g0
  have K0 : Kp h g0 := by rw [← hg0]; exact (Kp.refl h).push _
  have s0 : Sees encKey g0 (some ⟨h.next, 0, none⟩) [⟨5, 97⟩, ⟨2, 98⟩] := by
    refine ⟨fun hA => (by cases hA), fun B hB => ?_, fun B hB => (by cases hB; exact .inl rfl)⟩
    cases hB
    rw [← hg0]
    simp [Hp.rdn, get_push_self, encKey]
  refine GC_intro (inew (c := 2) (L := [⟨5, 97⟩, ⟨2, 98⟩]) s0 (by simp) (by simp) fun h1 p fp f1 f2 P K1 => ?_) fun v h2 hh => hh
  have hI : isort (·.at') (List.take 256 [(⟨5, 97⟩ : Key), ⟨2, 98⟩]) = [⟨2, 98⟩, ⟨5, 97⟩] := rfl
  rw [hI] at P
  simp (maxSteps := 1000000) (disch := first | assumption | ((try simp only [push_next, put_next, adv_next, List.length_cons, List.length_nil, List.length_map, List.length_set]); omega) | simp)
  refine GC_intro (itake P (by simp) f2 fun v1 h2 fp1 O1 hf1 P2 U2 => ?_) fun v h2 hh => hh
  have T1 : List.takeWhile (fun x : Key => decide (x.at' ≤ 1)) [⟨2, 98⟩, ⟨5, 97⟩] = [] := rfl
  have D1 : List.dropWhile (fun x : Key => decide (x.at' ≤ 1)) [⟨2, 98⟩, ⟨5, 97⟩] = [⟨2, 98⟩, ⟨5, 97⟩] := rfl
  rw [T1] at O1
  rw [D1] at P2
  obtain ⟨a1, c1, rfl, s1, -, -⟩ := O1.len
  have hp : p ∈ fp := by obtain ⟨_, _, _, _, _, hp, _⟩ := P; exact hp
  have K2 := U2.kp' (K0.trans K1) (by simpa using Nat.le_trans K0.le (f1 p hp))
  simp (maxSteps := 1000000) (disch := first | assumption | ((try simp only [push_next, put_next, adv_next, List.length_cons, List.length_nil, List.length_map, List.length_set]); omega) | simp) [GC_of (fun q => inext P2)]
  refine GC_intro (itake P2 (by simp) (fun b hb => Nat.lt_of_lt_of_le (f2 b hb) U2.le) fun v2 h3 fp3 O3 hf3 P3 U3 => ?_) fun v h2 hh => hh
  have T3 : List.takeWhile (fun x : Key => decide (x.at' ≤ 9)) [⟨2, 98⟩, ⟨5, 97⟩] = [⟨2, 98⟩, ⟨5, 97⟩] := rfl
  have D3 : List.dropWhile (fun x : Key => decide (x.at' ≤ 9)) [⟨2, 98⟩, ⟨5, 97⟩] = [] := rfl
  rw [T3] at O3
  rw [D3] at P3
  obtain ⟨a3, c3, rfl, s3, -, -⟩ := O3.len
  have K3 := U3.kp' K2 (by simpa using Nat.le_trans K0.le (f1 p hp))
  have hb3 : b2sV h3 (.slice a3 2 c3) = some (.string (bstr [98, 97]), h3) := b2sV_sees s3 rfl
  have hs3 : binV .eql (.string (bstr [98#8, 97#8])) (.string ⟨#[98, 97]⟩) = some (.bool true) := by
    rw [show bstr [98#8, 97#8] = ⟨#[98, 97]⟩ from rfl]
    simp [binV, binS]
  simp (maxSteps := 1000000) (disch := first | assumption | ((try simp only [push_next, put_next, adv_next, List.length_cons, List.length_nil, List.length_map, List.length_set]); omega) | simp) [GC_of (fun q => inext P3), GC_of (fun q => ileft P3), hb3, hs3]
  exact hq _ K3
end
end Go.Proofs.Ytppgoobhlcdbbaa.Cd

/- Are two rows the same? -/
set_option maxRecDepth 1000000
set_option linter.unusedSimpArgs false
set_option linter.unusedVariables false
namespace Go.Proofs.Ytppgoobhlcdbbaa.Cd
open Go Go.Dx
instance (x y : Key) : Decidable (x = y) :=
  if h : x.at' = y.at' ∧ x.b = y.b then .isTrue (by cases x; cases y; simp_all) else .isFalse (fun e => h (by subst e; simp))
theorem eq_key (x y : Key) : eqV (.agg [(0, 1, false, (.int .i64)), (1, 1, false, (.int .u8))]) (.agg (encKey.enc x).toArray) (.agg (encKey.enc y).toArray) = some (decide (x = y)) := by
  obtain ⟨a, b⟩ := x
  obtain ⟨a', b'⟩ := y
  simp only [eqV, eqAt, encKey, eqParts]
  by_cases h1 : a = a'
  · by_cases h2 : b = b'
    · simp [h1, h2, u8]
    · have h3 : ¬ (b.toNat : Int) = (b'.toNat : Int) := fun hh => h2 (BitVec.eq_of_toNat_eq (by omega))
      simp [h1, h2, u8, h3]
  · simp [h1]
theorem same_key {h : Hp} {q : Value → Hp → Prop} {a a' : Option Addr} {c c' : Nat} {xs ys : List Key} (hx : Sees encKey h a xs) (hy : Sees encKey h a' ys) (hb : xs.length < 2 ^ 40) (hq : q (.bool (decide (xs = ys))) h) : WC T n_pianolabook_Same_input_Key [.slice a xs.length c, .slice a' ys.length c'] h q := by
  rw [w_pianolabook_Same_input_Key]
  by_cases hl : xs.length = ys.length
  case neg =>
    have hne : xs ≠ ys := fun e => hl (by rw [e])
    have hl' : ¬ ((xs.length : Int) = ys.length) := by omega
    simp (maxSteps := 1000000) (disch := first | assumption | ((try simp only [push_next, put_next, adv_next, List.length_cons, List.length_nil, List.length_map, List.length_set]); omega) | simp) [hl']
    simpa [hne] using hq
  simp (maxSteps := 1000000) (disch := first | assumption | ((try simp only [push_next, put_next, adv_next, List.length_cons, List.length_nil, List.length_map, List.length_set]); omega) | simp) [hl]
  refine G_loop (fun n e h' => ∃ us vs ws, n = vs.length ∧ h' = h ∧ xs = us ++ vs ∧ ys = us ++ ws ∧ e 0 = .slice a xs.length c ∧ e 1 = .slice a' ys.length c' ∧ e 5 = .int .i64 us.length) ?_ xs.length _ _ ⟨[], xs, ys, rfl, rfl, rfl, rfl, by simp [hl], by simp, by simp⟩
  rintro n ih e h' ⟨us, vs, ws, rfl, rfl, h1, h2, e0, e1, e5⟩
  cases vs with
  | nil =>
    have hw : ws = [] := by
      have h3 := hl
      rw [h1, h2] at h3
      simpa using h3
    subst hw
    have hxs : xs = us := by simpa using h1
    have hxy : xs = ys := by rw [h1, h2]
    have hll : us.length = xs.length := by rw [hxs]
    simp (maxSteps := 1000000) (disch := first | assumption | ((try simp only [push_next, put_next, adv_next, List.length_cons, List.length_nil, List.length_map, List.length_set]); omega) | simp) [e0, e5, hll]
    simpa [hxy] using hq
  | cons x vs =>
    cases ws with
    | nil =>
      have h3 := hl
      rw [h1, h2] at h3
      simp at h3
    | cons y ws =>
      have hlt : (us.length : Int) < xs.length := by rw [h1]; simp; omega
      have hlt' : (us.length : Int) < ys.length := by omega
      obtain ⟨A, hA, hr⟩ := Sees.mid (A := us) (x := x) (B := vs) (by rw [← h1]; exact hx)
      obtain ⟨A', hA', hr'⟩ := Sees.mid (A := us) (x := y) (B := ws) (by rw [← h2]; exact hy)
      have g1 : h'.rdn A.block (A.off + us.length * 2) 2 = some (encKey.enc x) := hr
      have g2 : h'.rdn A'.block (A'.off + us.length * 2) 2 = some (encKey.enc y) := hr'
      have he := eq_key x y
      by_cases hxy : x = y
      · simp [hxy] at he
        simp (maxSteps := 1000000) (disch := first | assumption | ((try simp only [push_next, put_next, adv_next, List.length_cons, List.length_nil, List.length_map, List.length_set]); omega) | simp) [e0, e1, e5, hlt, hlt', hA, hA', g1, g2, he, hxy]
        apply ih vs.length (by simp)
        refine ⟨us ++ [x], vs, ws, rfl, rfl, by simp [h1], by simp [h2, hxy], by simp [e0, hA], by simp [e1, hA'], by simp⟩
      · simp [hxy] at he
        have hne : xs ≠ ys := fun e => by rw [h1, h2] at e; simp [hxy] at e
        simp (maxSteps := 1000000) (disch := first | assumption | ((try simp only [push_next, put_next, adv_next, List.length_cons, List.length_nil, List.length_map, List.length_set]); omega) | simp) [e0, e1, e5, hlt, hlt', hA, hA', g1, g2, he]
        simpa [hne] using hq
end Go.Proofs.Ytppgoobhlcdbbaa.Cd

/- A row with room behind it: made, and looked at again. -/
set_option maxRecDepth 1000000
set_option linter.unusedSimpArgs false
set_option linter.unusedVariables false
namespace Go.Proofs.Ytppgoobhlcdbbaa.Cd
open Go Go.Dx
theorem all_rep {z : Key} (n : Nat) : (List.replicate n (encKey.enc z)).flatten = encKey.all (List.replicate n z) := by
  induction n with
  | zero => rfl
  | succ n ih => rw [List.replicate_succ, List.replicate_succ, List.flatten_cons, ih]; rfl
theorem roomy {h : Hp} {q : Value → Hp → Prop} {a : Option Addr} {c : Nat} {L : List Key} {x : Key} (hs : Sees encKey h a L) (hb : L.length < 2 ^ 40) (hq : ∀ b h', h.next ≤ b → h'.get b = some (.cells false (encKey.all (L ++ List.replicate 80 x))) → Kp h h' → q (.slice (some ⟨b, 0, none⟩) (L.length + 80) (L.length + 80)) h') :
    WC T n_pianolabook_Roomy_input_Key [.slice a L.length c, .agg (encKey.enc x).toArray] h q := by
  rw [w_pianolabook_Roomy_input_Key]
  have hm : ∀ id : Nat, makeS id [.int .i64 0, u8 0#8] 16 (.int .i64 ((L.length : Int) + 80)) (.int .i64 ((L.length : Int) + 80)) = some (.slice (some ⟨id, 0, none⟩) (L.length + 80) (L.length + 80), .cells false (encKey.all (List.replicate (L.length + 80) (⟨0, 0⟩ : Key)))) := fun id => by
    have := all_rep (z := (⟨0, 0⟩ : Key)) (L.length + 80)
    simp only [makeS]
    rw [if_pos ⟨by omega, by omega, by omega, by omega⟩, show ((L.length : Int) + 80).toNat = L.length + 80 by omega, ← this]
    rfl
  simp (maxSteps := 1000000) (disch := first | assumption | ((try simp only [push_next, put_next, adv_next, List.length_cons, List.length_nil, List.length_map, List.length_set]); omega) | simp) [hm, -g1_pianolabook_Roomy_input_Key]
  have K1 : Kp h ((h.push (.cells false (encKey.enc x))).push (.cells false (encKey.all (List.replicate (L.length + 80) (⟨0, 0⟩ : Key))))) := ((Kp.refl h).push _).push _
  have b1 : ((h.push (.cells false (encKey.enc x))).push (.cells false (encKey.all (List.replicate (L.length + 80) (⟨0, 0⟩ : Key))))).get h.next = some (.cells false (encKey.enc x)) := by rw [get_push_ne (by simp), get_push_self]
  have b2 : ((h.push (.cells false (encKey.enc x))).push (.cells false (encKey.all (List.replicate (L.length + 80) (⟨0, 0⟩ : Key))))).get (h.next + 1) = some (.cells false (encKey.all (List.replicate (L.length + 80) (⟨0, 0⟩ : Key)))) := by
    rw [show h.next + 1 = (h.push (.cells false (encKey.enc x))).next from rfl, get_push_self]
  generalize (h.push (.cells false (encKey.enc x))).push (.cells false (encKey.all (List.replicate (L.length + 80) (⟨0, 0⟩ : Key)))) = h1 at *
  have hl2 := lt_of_get b2
  have hcp : ∃ v h2, copyV h1 2 (.slice (some ⟨h.next + 1, 0, none⟩) (L.length + 80) (L.length + 80)) (.slice a L.length c) = some (v, h2) ∧ h2.get (h.next + 1) = some (.cells false (encKey.all (L ++ List.replicate 80 (⟨0, 0⟩ : Key)))) ∧ Kp h h2 ∧ h2.get h.next = h1.get h.next := by
    have he : elems h1 2 L.length (.slice a L.length c) = some (encKey.all L) := (hs.kp K1).elems
    have hmin : min L.length (L.length + 80) = L.length := by omega
    by_cases h0 : L.length = 0
    · have : L = [] := List.length_eq_zero_iff.1 h0
      subst this
      exact ⟨.int .i64 0, h1, by simp [copyV, lenV] at he ⊢; simp [he], by simpa using b2, K1, rfl⟩
    · have hw : h1.wr (h.next + 1) 0 (encKey.all L) = some (h1.put (h.next + 1) (some (.cells false (encKey.all (L ++ List.replicate 80 (⟨0, 0⟩ : Key)))))) := by
        have := wr_ok (h := h1) (b := h.next + 1) (o := 0) (vs := encKey.all L) b2 (by simp; omega) (encKey.all_one L)
        rw [this]
        have ho := encKey.over (List.replicate (L.length + 80) (⟨0, 0⟩ : Key)) L [] 0 (by simp)
        rw [Nat.zero_mul, List.append_nil, List.append_nil] at ho
        rw [ho]
        simp
      refine ⟨_, _, by simp only [copyV, lenV, hmin, he, hw]; rw [if_neg h0]; rfl, get_put_self hl2, K1.put (by omega) _, get_put_ne (by omega)⟩
  obtain ⟨v, h2, hcp, g2, K2, b3⟩ := hcp
  rw [b1] at b3
  clear b1 b2 hl2 K1
  simp (maxSteps := 1000000) (disch := first | assumption | ((try simp only [push_next, put_next, adv_next, List.length_cons, List.length_nil, List.length_map, List.length_set]); omega) | simp) [hcp, -g1_pianolabook_Roomy_input_Key]
  refine G_loop (fun m e h' => ∃ i : Nat, m = 80 - i ∧ i ≤ 80 ∧ e 3 = ptr h.next 0 ∧ e 5 = .slice (some ⟨h.next + 1, 0, none⟩) (L.length + 80) (L.length + 80) ∧ e 6 = .int .i64 (L.length + i : Nat) ∧ h'.get h.next = some (.cells false (encKey.enc x)) ∧ h'.get (h.next + 1) = some (.cells false (encKey.all (L ++ List.replicate i x ++ List.replicate (80 - i) (⟨0, 0⟩ : Key)))) ∧ Kp h h') ?_ 80 _ _
    ⟨0, rfl, by omega, by simp, by simp, by simp, b3, by simpa using g2, K2⟩
  rintro m ih e h' ⟨i, rfl, hi, e3, e5, e6, gb, ga, K⟩
  obtain ⟨p, hp⟩ : ∃ p, p = L.length + i := ⟨_, rfl⟩
  rw [← hp] at e6
  have hlt := lt_of_get ga
  by_cases t : i < 80
  · have rb : h'.rdn h.next 0 2 = some (encKey.enc x) := by
      have := encKey.len x
      simp only [Hp.rdn, Hp.cells, gb, Option.bind_some]
      rw [if_pos (by rw [this]; decide), List.drop_zero, List.take_of_length_le (by rw [this]; decide)]
    have w1 : h'.wr (h.next + 1) (p * 2) (encKey.enc x) = some (h'.put (h.next + 1) (some (.cells false (encKey.all (L ++ List.replicate i x ++ x :: List.replicate (80 - (i + 1)) (⟨0, 0⟩ : Key)))))) := by
      have := wr_mid (E := encKey) (h := h') (b := h.next + 1) (A := L ++ List.replicate i x) (x := (⟨0, 0⟩ : Key)) (y := x) (B := List.replicate (80 - (i + 1)) (⟨0, 0⟩ : Key)) (r := []) (by rw [ga, show 80 - i = (80 - (i + 1)) + 1 by omega, List.replicate_succ]; simp)
      rw [show (L ++ List.replicate i x).length = p by simp [hp], List.append_nil] at this
      exact this
    have t' : (p : Int) < (L.length : Int) + 80 := by omega
    simp (maxSteps := 1000000) (disch := first | assumption | ((try simp only [push_next, put_next, adv_next, List.length_cons, List.length_nil, List.length_map, List.length_set]); omega) | simp) [e3, e5, e6, t', rb, w1, -Hp.wr, -over, encKey.len, show encKey.sz = 2 from rfl]
    apply ih (80 - (i + 1)) (by omega)
    refine ⟨i + 1, rfl, by omega, by simp [e3], by simp [e5], by simp; omega, by rw [get_put_ne (by omega), gb], ?_, K.put (by omega) _⟩
    rw [get_put_self hlt, List.replicate_succ']
    simp
  · have : i = 80 := by omega
    subst this
    have t' : ¬ (p : Int) < (L.length : Int) + 80 := by omega
    simp (maxSteps := 1000000) (disch := first | assumption | ((try simp only [push_next, put_next, adv_next, List.length_cons, List.length_nil, List.length_map, List.length_set]); omega) | simp) [e3, e5, e6, t']
    exact hq _ _ (by omega) (by rw [ga]; simp) K
theorem intact {h : Hp} {q : Value → Hp → Prop} {a a1 : Option Addr} {c cf : Nat} {L : List Key} {x : Key} (hf : Sees encKey h a1 (L ++ List.replicate 80 x)) (hs : Sees encKey h a L) (hcf : L.length + 80 ≤ cf) (hb : L.length < 2 ^ 39) (hq : ∀ h', Kp h h' → q (.bool true) h') :
    WC T n_pianolabook_Intact_input_Key [.slice a1 (L.length + 80) cf, .slice a L.length c, .agg (encKey.enc x).toArray] h q := by
  rw [w_pianolabook_Intact_input_Key]
  have K1 : Kp h (h.push (.cells false (encKey.enc x))) := (Kp.refl h).push _
  have b1 : (h.push (.cells false (encKey.enc x))).get h.next = some (.cells false (encKey.enc x)) := get_push_self
  have hf1 := hf.kp K1
  have hs1 := hs.kp K1
  obtain ⟨a3, c3, hsl, hc3, s3⟩ := hf1.part (c := cf) (lo := 0) (hi := L.length) (by omega) (by simp) (by simpa using hcf) (l := none) (u := some (.int .i64 L.length)) (.inl ⟨rfl, rfl⟩) (.inr ⟨_, rfl⟩)
  simp at hsl s3
  simp (maxSteps := 1000000) (disch := first | assumption | ((try simp only [push_next, put_next, adv_next, List.length_cons, List.length_nil, List.length_map, List.length_set]); omega) | simp) [hsl, -g1_pianolabook_Intact_input_Key]
  generalize h.push (.cells false (encKey.enc x)) = h1 at *
  refine GC_intro (same_key s3 hs1 (by omega) ?_) fun v h2 hh => hh
  simp (maxSteps := 1000000) (disch := first | assumption | ((try simp only [push_next, put_next, adv_next, List.length_cons, List.length_nil, List.length_map, List.length_set]); omega) | simp) [-g1_pianolabook_Intact_input_Key]
  have rb : h1.rdn h.next 0 2 = some (encKey.enc x) := by
    have := encKey.len x
    simp only [Hp.rdn, Hp.cells, b1, Option.bind_some]
    rw [if_pos (by rw [this]; decide), List.drop_zero, List.take_of_length_le (by rw [this]; decide)]
  refine G_loop (fun m e h' => ∃ i : Nat, m = 80 - i ∧ i ≤ 80 ∧ h' = h1 ∧ e 0 = .slice a1 (L.length + 80) cf ∧ e 5 = ptr h.next 0 ∧ e 7 = .int .i64 (L.length + i : Nat)) ?_ 80 _ _ ⟨0, rfl, by omega, rfl, by simp, by simp, by simp⟩
  rintro m ih e h' ⟨i, rfl, hi, rfl, e0, e5, e7⟩
  obtain ⟨p, hp⟩ : ∃ p, p = L.length + i := ⟨_, rfl⟩
  rw [← hp] at e7
  by_cases t : i < 80
  · obtain ⟨A, rfl, hr⟩ := Sees.mid (A := L ++ List.replicate i x) (x := x) (B := List.replicate (80 - (i + 1)) x) (by
      rw [show (L ++ List.replicate i x) ++ x :: List.replicate (80 - (i + 1)) x = L ++ List.replicate 80 x by
        rw [← List.replicate_succ, List.append_assoc, List.replicate_append_replicate, show i + (80 - (i + 1) + 1) = 80 by omega]]
      exact hf1)
    rw [show (L ++ List.replicate i x).length = p by simp [hp]] at hr
    have hr' : h'.rdn A.block (A.off + p * 2) 2 = some (encKey.enc x) := hr
    have t' : (p : Int) < (L.length : Int) + 80 := by omega
    have he := eq_key x x
    simp only [decide_true] at he
    simp (maxSteps := 1000000) (disch := first | assumption | ((try simp only [push_next, put_next, adv_next, List.length_cons, List.length_nil, List.length_map, List.length_set]); omega) | simp) [e0, e5, e7, t', rb, hr', he]
    apply ih (80 - (i + 1)) (by omega)
    refine ⟨i + 1, rfl, by omega, rfl, by simp [e0], by simp [e5], by simp; omega⟩
  · have t' : ¬ (p : Int) < (L.length : Int) + 80 := by omega
    simp (maxSteps := 1000000) (disch := first | assumption | ((try simp only [push_next, put_next, adv_next, List.length_cons, List.length_nil, List.length_map, List.length_set]); omega) | simp) [e0, e5, e7, t']
    exact hq _ K1
end Go.Proofs.Ytppgoobhlcdbbaa.Cd

/- The document's own order of the plan. -/
set_option maxRecDepth 1000000
set_option linter.unusedSimpArgs false
set_option linter.unusedVariables false
namespace Go.Proofs.Ytppgoobhlcdbbaa.Cd
open Go Go.Dx
section
variable {g h : Hp} {a a1 : Option Addr} {c c1 : Nat} {L S : List Key} {q : Value → Hp → Prop}
theorem back_loop {e : Env} {Q : Ex → Env → Hp → Prop} {k : List Fr} {i : Nat} {x : Key} (hs : Sees encKey h a L) (hx : L[i]? = some x) (hS : Sees encKey h a1 S) (sS : Srt (·.at') S) (hb : S.length < 2 ^ 40)
    (h0 : e 0 = .slice a L.length c) (h3 : e 3 = .slice a1 S.length c1) (h4 : e 4 = .int .i64 i) (h5 : e 5 = .int .i64 S.length)
    (hR : ∀ e' k', (∀ t, t ≤ 4 → e' t = e t) → e' 5 = .int .i64 (k' : Nat) → k' ≤ S.length → insl (·.at') x S = S.take k' ++ x :: S.drop k' → GR T Q k (.x 2) e' h) : G T Q (.loop c0_pianolalaw24_sorted) k e h := by
  have hi : i < L.length := (List.getElem?_eq_some_iff.1 hx).1
  refine G_loop (fun m e' h' => m ≤ S.length ∧ h' = h ∧ (∀ t, t ≤ 4 → e' t = e t) ∧ e' 5 = .int .i64 m ∧ ∀ y ∈ S.drop m, x.at' < y.at') ?_ S.length e h ⟨Nat.le_refl _, rfl, fun _ _ => rfl, h5, by simp⟩
  rintro m ih e' h' ⟨hm, rfl, he, e5, hd⟩
  have e0 := (he 0 (by omega)).trans h0
  have e3 := (he 3 (by omega)).trans h3
  have e4 := (he 4 (by omega)).trans h4
  have out : (0 < m → ∀ y, S[m - 1]? = some y → y.at' ≤ x.at') → insl (·.at') x S = S.take m ++ x :: S.drop m := fun hh => by
    have := insl_split (·.at') (x := x) (p := S.take m) (q := S.drop m) (srt_take (key := (·.at')) sS (t := x.at') hm hh) hd
    rwa [List.take_append_drop] at this
  cases m with
  | zero =>
    simp (maxSteps := 1000000) (disch := first | assumption | ((try simp only [push_next, put_next, adv_next, List.length_cons, List.length_nil, List.length_map, List.length_set]); omega) | simp) [e0, e3, e4, e5]
    exact hR _ 0 (fun t ht => by repeat rw [upd_ne _ (by omega)]
                                 exact he t ht) (by simp [e5]) hm (out (by omega))
  | succ m =>
    obtain ⟨A, rfl, hr⟩ := hs.at' i hi
    obtain ⟨ro, C, gA, hC⟩ := rdn_cells hr
    have c0 : C[A.off + i * 2]? = some (.int .i64 x.at') := by
      have := hC 0 (by simp)
      rw [List.getElem?_eq_getElem hi] at hx
      cases hx
      exact this
    obtain ⟨A1, rfl, hr1⟩ := hS.at' m (by omega)
    obtain ⟨ro1, C1, gA1, hC1⟩ := rdn_cells hr1
    have hy : S[m]? = some S[m] := List.getElem?_eq_getElem (by omega)
    have c1' : C1[A1.off + m * 2]? = some (.int .i64 S[m].at') := hC1 0 (by simp)
    have hmS : m < S.length := by omega
    generalize S[m] = y at hy c1'
    have e5' : e' 5 = .int .i64 ((m : Int) + 1) := by rw [e5]; rfl
    have gt : (0 : Int) < (m : Int) + 1 := by omega
    clear e5
    by_cases t : x.at' < y.at'
    · simp (maxSteps := 1000000) (disch := first | assumption | ((try simp only [push_next, put_next, adv_next, List.length_cons, List.length_nil, List.length_map, List.length_set]); omega) | simp) [e0, e3, e4, e5', gt, gA, gA1, c0, c1', hi, hmS, t]
      refine ih m (by omega) _ _ ⟨by omega, rfl, fun t ht => ?_, by simp, fun z hz => ?_⟩
      · repeat rw [upd_ne _ (by omega)]
        exact he t ht
      · have := List.getElem?_eq_some_iff.1 hy
        rw [List.drop_eq_getElem_cons hmS] at hz
        rcases List.mem_cons.1 hz with hz | hz
        · rw [hz, this.2]; exact t
        · exact hd z hz
    · simp (maxSteps := 1000000) (disch := first | assumption | ((try simp only [push_next, put_next, adv_next, List.length_cons, List.length_nil, List.length_map, List.length_set]); omega) | simp) [e0, e3, e4, e5', gt, gA, gA1, c0, c1', hi, hmS, t]
      exact hR _ (m + 1) (fun t ht => by repeat rw [upd_ne _ (by omega)]
                                         exact he t ht) (by simp [e5']) hm (out fun _ z hz => by
        rw [Nat.add_sub_cancel, hy] at hz
        cases hz
        omega)
theorem isorted (hs : Sees encKey g a L) (hq : ∀ a' c' h', Sees encKey h' a' (isort (·.at') (L.take 256)) → (isort (·.at') (L.take 256)).length ≤ c' → Kp g h' → (∀ A, a' = some A → g.next ≤ A.block) → q (.slice a' (isort (·.at') (L.take 256)).length c') h') : WC T n_pianolalaw24_sorted [.slice a L.length c] g q := by
  rw [w_pianolalaw24_sorted]
  simp (maxSteps := 1000000) (disch := first | assumption | ((try simp only [push_next, put_next, adv_next, List.length_cons, List.length_nil, List.length_map, List.length_set]); omega) | simp) [-g2_pianolalaw24_sorted]
  refine G_loop (fun m e h => ∃ (i : Nat) (a1 : Option Addr) (c1 : Nat) (S : List Key), m = 256 - i ∧ i ≤ 256 ∧ i ≤ L.length ∧ S = isort (·.at') (L.take i) ∧ S.length = i ∧ Sees encKey h a1 S ∧ S.length ≤ c1 ∧ Kp g h ∧ (∀ A, a1 = some A → g.next ≤ A.block) ∧ e 0 = .slice a L.length c ∧ e 3 = .slice a1 S.length c1 ∧ e 4 = .int .i64 i) ?_ 256 _ _
    ⟨0, none, 0, [], rfl, by omega, by omega, rfl, rfl, Sees.nul, by simp, .refl _, fun A hA => (by cases hA), by simp, by simp, by simp⟩
  rintro m ih e h ⟨i, a1, c1, S, rfl, hi, hiL, hSe, hSl, hS, hc1, K, hA1, e0, e3, e4⟩
  have fin : i = min L.length 256 → q (.slice a1 S.length c1) h := fun hh => by
    have : L.take 256 = L.take i := by
      rcases Nat.lt_or_ge L.length 256 with h1 | h1
      · rw [List.take_of_length_le (by omega), List.take_of_length_le (by omega)]
      · rw [hh, Nat.min_eq_right h1]
    rw [this, ← hSe] at hq
    exact hq a1 c1 h hS hc1 K hA1
  by_cases t1 : i < L.length
  · by_cases t2 : i < 256
    · have t2' : (i : Int) < 256 := by omega
      have hx : L[i]? = some L[i] := List.getElem?_eq_getElem t1
      generalize L[i] = x at hx
      simp (maxSteps := 1000000) (disch := first | assumption | ((try simp only [push_next, put_next, adv_next, List.length_cons, List.length_nil, List.length_map, List.length_set]); omega) | simp) [e0, e3, e4, t1, t2', -g0_pianolalaw24_sorted]
      refine back_loop (a := a) (c := c) (L := L) (a1 := a1) (c1 := c1) (S := S) (i := i) (x := x) (hs.kp K) hx hS (by rw [hSe]; exact srt_isort _ _) (by omega) (by simp [e0]) (by simp [e3]) (by simp [e4]) (by simp) ?_
      intro e1 k he f5 hk hins
      have f0 := he 0 (by omega)
      have f3 := he 3 (by omega)
      have f4 := he 4 (by omega)
      simp [e0, e3, e4] at f0 f3 f4
      obtain ⟨A, rfl, hr⟩ := (hs.kp K).at' i t1
      have hr' : h.rdn A.block (A.off + i * 2) 2 = some (encKey.enc x) := by
        rw [List.getElem?_eq_getElem t1] at hx
        cases hx
        exact hr
      clear hr
      have hr2 : (h.adv 2).rdn A.block (A.off + i * 2) 2 = some (encKey.enc x) := hr'
      obtain ⟨a3, c3, hsl1, hc3, s3⟩ := hS.part (c := c1) (lo := 0) (hi := k) (by omega) hk hc1 (l := none) (u := some (.int .i64 k)) (.inl ⟨rfl, rfl⟩) (.inr ⟨_, rfl⟩)
      obtain ⟨a4, c4, hsl2, hc4, s4⟩ := hS.part (c := c1) (lo := k) (hi := S.length) hk (Nat.le_refl _) hc1 (l := some (.int .i64 k)) (u := none) (.inr ⟨_, rfl⟩) (.inl ⟨rfl, rfl⟩)
      simp at hsl1 s3
      simp at hsl2
      rw [List.take_of_length_le (by simp)] at s4
      have K1 : Kp h ((h.adv 2).put h.next (some (.cells false []))) := (Kp.adv (.refl h) 2).put (Nat.le_refl _) _
      have o1 : Own encKey ((h.adv 2).put h.next (some (.cells false []))) (.slice (some ⟨h.next, 0, none⟩) 0 0) [] [h.next] := .emp (get_put_self (show h.next < h.next + 2 by omega))
      have n1 : ((h.adv 2).put h.next (some (.cells false []))).next = h.next + 2 := rfl
      simp (maxSteps := 1000000) (disch := first | assumption | ((try simp only [push_next, put_next, adv_next, List.length_cons, List.length_nil, List.length_map, List.length_set]); omega) | simp) [f0, f3, f4, f5, t1, hr2, hsl1]
      generalize (h.adv 2).put h.next (some (.cells false [])) = h1 at *
      refine GVI_app (E := encKey) o1 (s3.kp K1) (by simp; omega) (by simp; omega) (by simp; omega) fun v1 h2 fp1 O1 U1 => ?_
      have K2 := U1.kp' K1 (by simp)
      have hr3 : h2.rdn A.block (A.off + i * 2) 2 = some (encKey.enc x) := rdn_kp hr' (K2.get _ (lt_of_rdn hr'))
      have hvq : veq (.agg (encKey.enc x).toArray) (.agg (encKey.enc x).toArray) = true := by simp [veq, veqF, veqL, encKey, u8]
      have n2 := U1.le
      have hel : (encKey.enc x).length = 2 := rfl
      have hl : h.next + 1 < h2.next := by omega
      have hf1 : ∀ b ∈ fp1, h.next ≤ b ∧ b ≠ h.next + 1 := fun b hb => by
        rcases U1.sub b hb with h7 | h7
        · simp at h7; omega
        · omega
      have K3 : Kp h (h2.put (h.next + 1) (some (.cells false (encKey.enc x)))) := K2.put (by omega) _
      have O2 : Own encKey (h2.put (h.next + 1) (some (.cells false (encKey.enc x)))) v1 ([] ++ S.take k) fp1 := O1.keep fun b hb => get_put_ne (hf1 b hb).2
      have sx : Sees encKey (h2.put (h.next + 1) (some (.cells false (encKey.enc x)))) (some ⟨h.next + 1, 0, none⟩) [x] := by
        refine ⟨fun hA => (by cases hA), fun B hB => ?_, fun B hB => (by cases hB; exact .inl rfl)⟩
        cases hB
        simp [Hp.rdn, get_put_self hl, encKey]
      simp (maxSteps := 1000000) (disch := first | assumption | ((try simp only [push_next, put_next, adv_next, List.length_cons, List.length_nil, List.length_map, List.length_set]); omega) | simp) [hr3, hvq, hel]
      generalize h2.put (h.next + 1) (some (.cells false (encKey.enc x))) = h3 at *
      refine GVI_app (E := encKey) O2 sx (by simp) (by simp; omega) (by simp; omega) fun v2 h4 fp2 O3 U2 => ?_
      have K4 := U2.kp' K3 (fun b hb => (hf1 b hb).1)
      have hf2 : ∀ b ∈ fp2, h.next ≤ b := fun b hb => by
        rcases U2.sub b hb with h7 | h7
        · exact (hf1 b h7).1
        · have := K3.le; omega
      simp (maxSteps := 1000000) (disch := first | assumption | ((try simp only [push_next, put_next, adv_next, List.length_cons, List.length_nil, List.length_map, List.length_set]); omega) | simp) [f3, f5, hsl2]
      refine GVI_app (E := encKey) O3 (s4.kp K4) (by simp) (by simp; omega) (by simp; omega) fun v3 h5 fp3 O4 U3 => ?_
      have K5 := U3.kp' K4 hf2
      obtain ⟨a5, c5, rfl, s5, hc5, hA5⟩ := O4.len
      have hnew : [] ++ S.take k ++ [x] ++ S.drop k = isort (·.at') (L.take (i + 1)) := by
        rw [List.take_add_one, hx]
        simp only [Option.toList_some]
        rw [isort_snoc, ← hSe, hins]
        simp
      rw [hnew] at s5 hc5
      have hnl : (isort (·.at') (L.take (i + 1))).length = i + 1 := by simp; omega
      simp (maxSteps := 1000000) (disch := first | assumption | ((try simp only [push_next, put_next, adv_next, List.length_cons, List.length_nil, List.length_map, List.length_set]); omega) | simp) [f0, f4]
      apply ih (256 - (i + 1)) (by omega)
      refine ⟨i + 1, a5, c5, _, rfl, by omega, by omega, rfl, hnl, s5, hc5, K.trans K5, fun B hB => ?_, by simp [f0], ?_, by simp⟩
      · have h9 := hA5 B hB
        rcases U3.sub _ h9 with h7 | h7
        · exact Nat.le_trans K.le (hf2 _ h7)
        · have := K4.le; have := K.le; omega
      have hnn := congrArg List.length hnew
      rw [hnl] at hnn
      simp at hnn
      simp [hnl]
      omega
    · have t2' : ¬ (i : Int) < 256 := by omega
      simp (maxSteps := 1000000) (disch := first | assumption | ((try simp only [push_next, put_next, adv_next, List.length_cons, List.length_nil, List.length_map, List.length_set]); omega) | simp) [e0, e3, e4, t1, t2']
      exact fin (by omega)
  · simp (maxSteps := 1000000) (disch := first | assumption | ((try simp only [push_next, put_next, adv_next, List.length_cons, List.length_nil, List.length_map, List.length_set]); omega) | simp) [e0, e3, e4, t1]
    exact fin (by omega)
end
end Go.Proofs.Ytppgoobhlcdbbaa.Cd

/- Bytes taken time by time are those taken at once. -/
set_option maxRecDepth 1000000
set_option linter.unusedSimpArgs false
set_option linter.unusedVariables false
namespace Go.Proofs.Ytppgoobhlcdbbaa.Cd
open Go Go.Dx
def encI : Enc Int := ⟨1, fun n => [.int .i64 n], fun _ => rfl, fun _ => rfl, by decide⟩
@[simp] theorem encI_sz : encI.sz = 1 := rfl
section
variable {g h : Hp} {a a1 : Option Addr} {c c1 : Nat} {xs : List Key} {ns : List Int}
end
end Go.Proofs.Ytppgoobhlcdbbaa.Cd

/- Plans are what the document says. -/
set_option maxRecDepth 1000000
set_option linter.unusedSimpArgs false
set_option linter.unusedVariables false
namespace Go.Proofs.Ytppgoobhlcdbbaa.Cd
open Go Go.Dx
section
variable {g h : Hp} {a a1 : Option Addr} {c c1 : Nat} {L : List Key} {ns : List Int}
theorem take_loop {e : Env} {Q : Ex → Env → Hp → Prop} {k : List Fr} {am : Option Addr} {cm : Nat} {M : List Key} {now : Int} (hs : Sees encKey h am M) (hc : M.length ≤ cm) (hb : M.length < 2 ^ 39) (h7 : e 7 = .slice am M.length cm) (h12 : e 12 = .int .i64 now) (h13 : e 13 = .slice none 0 0)
    (hR : ∀ (e' : Env) h' am' cm' (M' : List Key) v fo, (∀ t, t ≤ 6 ∨ (8 ≤ t ∧ t ≤ 12) → e' t = e t) → e' 7 = .slice am' M'.length cm' → e' 13 = v → M' = (M.dropWhile fun x => decide (x.at' ≤ now)) → Sees encKey h' am' M' → M'.length ≤ cm' → (∀ A', am' = some A' → ∃ A, am = some A ∧ A'.block = A.block) →
      Own encB8 h' v ((M.takeWhile fun x => decide (x.at' ≤ now)).map (·.b)) fo → (∀ b ∈ fo, h.next ≤ b) → Kp h h' → GR T Q k (.x 2) e' h') : G T Q (.loop c1_pianolalaw24_InputPlays) k e h := by
  refine G_loop (fun m e' h' => ∃ (l r : List Key) (v : Value) (fo : List Nat) (am' : Option Addr) (cm' : Nat), m = r.length ∧ M = l ++ r ∧ (∀ x ∈ l, x.at' ≤ now) ∧ (∀ t, t ≤ 6 ∨ (8 ≤ t ∧ t ≤ 12) → e' t = e t) ∧ e' 7 = .slice am' r.length cm' ∧ e' 13 = v ∧ Own encB8 h' v (l.map (·.b)) fo ∧ (∀ b ∈ fo, h.next ≤ b) ∧ Sees encKey h' am' r ∧ r.length ≤ cm' ∧ (∀ A', am' = some A' → ∃ A, am = some A ∧ A'.block = A.block) ∧ Kp h h') ?_ M.length _ _
    ⟨[], M, _, [], am, cm, rfl, rfl, by simp, fun _ _ => rfl, h7, h13, by simpa using Own.nul, by simp, hs, hc, fun A hA => ⟨A, hA, rfl⟩, .refl _⟩
  rintro m ih e' h' ⟨l, r, v, fo, am', cm', rfl, rfl, hl, he, e7, e13, O, hfo, s, hcm, hbk, K⟩
  have e12 := (he 12 (by omega)).trans h12
  have out : ∀ e' : Env, (∀ t, t ≤ 6 ∨ (8 ≤ t ∧ t ≤ 12) → e' t = e t) → e' 7 = .slice am' r.length cm' → e' 13 = v → (∀ x, r.head? = some x → ¬ x.at' ≤ now) → GR T Q k (.x 2) e' h' := fun e' f1 f2 f3 hh => by
    obtain ⟨t1, t2⟩ := tw_eq (P := fun x => decide (x.at' ≤ now)) (l := l) (r := r) (by simpa using hl) (by simpa using hh)
    exact hR e' h' am' cm' r v fo f1 f2 f3 t2.symm s hcm hbk (by rw [t1]; exact O) hfo K
  cases r with
  | nil =>
    simp (maxSteps := 1000000) (disch := first | assumption | ((try simp only [push_next, put_next, adv_next, List.length_cons, List.length_nil, List.length_map, List.length_set]); omega) | simp) [e7, e12, e13]
    exact out _ (fun t ht => by repeat rw [upd_ne _ (by omega)]
                                exact he t ht) (by simp [e7]) (by simp [e13]) (by simp)
  | cons x r =>
    obtain ⟨A, rfl, hr⟩ := s.at' 0 (by simp)
    obtain ⟨ro, C, gA, hC⟩ := rdn_cells hr
    have c0 : C[A.off]? = some (.int .i64 x.at') := hC 0 (by simp)
    have c1 : C[A.off + 1]? = some (u8 x.b) := hC 1 (by simp)
    by_cases t : x.at' ≤ now
    · simp (maxSteps := 1000000) (disch := first | assumption | ((try simp only [push_next, put_next, adv_next, List.length_cons, List.length_nil, List.length_map, List.length_set]); omega) | simp) [e7, e12, e13, gA, c0, c1, t]
      simp at hb
      refine GV_app1 (E := encB8) (x := x.b) O (by simp; omega) (by simp; omega) fun v' h2 fp' O' U' => ?_
      have K' := U'.kp' K hfo
      have s2 : Sees encKey h2 (some A) (x :: r) := Sees.keep s fun B hB => by
        cases hB
        obtain ⟨A0, hA0, hAb⟩ := hbk A rfl
        have h9 := lt_of_rdn (hs.get A0 hA0)
        exact U'.get _ (lt_of_get gA) fun hh => by have := hfo _ hh; omega
      obtain ⟨a3, c3, hsl, hc3, s3⟩ := s2.part (c := cm') (lo := 1) (hi := r.length + 1) (by omega) (by simp) hcm (l := some (.int .i64 1)) (u := none) (.inr ⟨_, rfl⟩) (.inl ⟨rfl, rfl⟩)
      simp at hsl s3 hc3
      have hbk3 := sliceV_block hsl
      simp (maxSteps := 1000000) (disch := first | assumption | ((try simp only [push_next, put_next, adv_next, List.length_cons, List.length_nil, List.length_map, List.length_set]); omega) | simp) [e7, hsl]
      apply ih r.length (by simp)
      refine ⟨l ++ [x], r, v', fp', a3, c3, rfl, by simp, fun y hy => ?_, fun t ht => ?_, by simp, by simp, by rw [List.map_append]; exact O', fun b hb1 => ?_, s3, hc3, fun B hB => ?_, K'⟩
      · rcases List.mem_append.1 hy with hy | hy
        · exact hl y hy
        · simp at hy; subst hy; exact t
      · repeat rw [upd_ne _ (by omega)]
        exact he t ht
      · rcases U'.sub b hb1 with h5 | h5
        · exact hfo b h5
        · have := K.le; omega
      · obtain ⟨A', hA', hAb⟩ := hbk3 B hB
        cases hA'
        obtain ⟨A0, h1, h2⟩ := hbk A rfl
        exact ⟨A0, h1, hAb.trans h2⟩
    · simp (maxSteps := 1000000) (disch := first | assumption | ((try simp only [push_next, put_next, adv_next, List.length_cons, List.length_nil, List.length_map, List.length_set]); omega) | simp) [e7, e12, e13, gA, c0, t]
      exact out _ (fun t ht => by repeat rw [upd_ne _ (by omega)]
                                  exact he t ht) (by simp [e7]) (by simp [e13]) (by simpa using t)
theorem round2 {e : Env} {Q : Ex → Env → Hp → Prop} {k : List Fr} {p : Nat} {fp fo : List Nat} {M : List Key} {now : Int} {v : Value} (P : PL h p M fp) (hb : M.length < 2 ^ 39) (hfp : ∀ b ∈ fp, b < h.next) (O : Own encB8 h v ((M.takeWhile fun x => decide (x.at' ≤ now)).map (·.b)) fo) (hfo : p ∉ fo)
    (h6 : e 6 = ptr p 0) (h12 : e 12 = .int .i64 now) (h13 : e 13 = v)
    (hR : ∀ e' h', (∀ t, t ≤ 13 → e' t = e t) → PL h' p (M.dropWhile fun x => decide (x.at' ≤ now)) fp → (∀ b, b < h.next → b ≠ p → h'.get b = h.get b) → h.next ≤ h'.next → GR T Q k .n e' h') : G T Q c2_pianolalaw24_InputPlays k e h := by
  generalize hW : (M.takeWhile fun x => decide (x.at' ≤ now)).map (·.b) = W at O
  obtain ⟨a2, c2, rfl, s2, -, -⟩ := O.len
  have hb1 : b2sV h (.slice a2 W.length c2) = some (.string (bstr W), h) := b2sV_sees s2 rfl
  simp (maxSteps := 1000000) (disch := first | assumption | ((try simp only [push_next, put_next, adv_next, List.length_cons, List.length_nil, List.length_map, List.length_set]); omega) | simp) [h6, h12, h13, hb1]
  refine itake P hb hfp fun v1 h1 f1 O1 hf1 P1 U1 => ?_
  rw [hW] at O1
  obtain ⟨a3, c3, rfl, s3, -, -⟩ := O1.len
  have s4 : Sees encB8 h1 a2 W := by
    have o6 := O.keep (h' := h1) fun b hb => U1.get b (O.live b hb) (by simp; intro hh; subst hh; exact hfo hb)
    obtain ⟨a8, c8, he, s8, -, -⟩ := o6.len
    cases he
    exact s8
  have hb2 : b2sV h1 (.slice a2 W.length c2) = some (.string (bstr W), h1) := b2sV_sees s4 rfl
  have hb3 : b2sV h1 (.slice a3 W.length c3) = some (.string (bstr W), h1) := b2sV_sees s3 rfl
  generalize bstr W = w at *
  have hse : binV .neq (.string w) (.string w) = some (.bool false) := by simp [binV, binS]
  have hvq : veq (.string w) (.string w) = true := by simp [veq, veqF]
  simp (maxSteps := 1000000) (disch := first | assumption | ((try simp only [push_next, put_next, adv_next, List.length_cons, List.length_nil, List.length_map, List.length_set]); omega) | simp) [hb2, hb3, hse, hvq]
  exact hR _ _ (fun t ht => by repeat rw [upd_ne _ (by omega)]) P1 (fun b hb hne => U1.get b hb (by simpa using hne)) U1.le
theorem round3 {e : Env} {Q : Ex → Env → Hp → Prop} {k : List Fr} {p i : Nat} {fp : List Nat} {am : Option Addr} {cm : Nat} {M : List Key} {now : Int} (P : PL h p M fp) (hs : Sees encKey h am M) (hc : M.length ≤ cm) (hb : M.length < 2 ^ 39) (hA : ∀ A, am = some A → A.block ≠ p) (hfp : ∀ b ∈ fp, b < h.next)
    (h6 : e 6 = ptr p 0) (h7 : e 7 = .slice am M.length cm) (h8 : e 8 = .int .i64 i) (h12 : e 12 = .int .i64 now)
    (hR : ∀ (e' : Env) h' am' cm' (M' : List Key), (∀ t, t ≤ 6 ∨ t = 8 → e' t = e t) → e' 7 = .slice am' M'.length cm' → PL h' p M' fp → Sees encKey h' am' M' → M'.length ≤ cm' → M'.length ≤ M.length → (∀ A, am' = some A → A.block ≠ p) → (∀ b, b < h.next → b ≠ p → h'.get b = h.get b) → h.next ≤ h'.next → GR T Q k .n e' h') :
    G T Q c3_pianolalaw24_InputPlays k e h := by
  have rest : ∀ (e1 e' : Env) (h' : Hp) (now : Int) (am' : Option Addr) (cm' : Nat) (M' : List Key) (v : Value) (fo : List Nat), (∀ t, t ≤ 6 ∨ t = 8 → e1 t = e t) → e1 12 = .int .i64 now → (∀ t, t ≤ 6 ∨ (8 ≤ t ∧ t ≤ 12) → e' t = e1 t) → e' 7 = .slice am' M'.length cm' → e' 13 = v → M' = (M.dropWhile fun x => decide (x.at' ≤ now)) → Sees encKey h' am' M' → M'.length ≤ cm' → (∀ A', am' = some A' → ∃ A, am = some A ∧ A'.block = A.block) →
      Own encB8 h' v ((M.takeWhile fun x => decide (x.at' ≤ now)).map (·.b)) fo → (∀ b ∈ fo, h.next ≤ b) → Kp h h' → G T Q c2_pianolalaw24_InputPlays k e' h' := by
    intro e1 e' h' now am' cm' M' v fo h1 h12 he e7 e13 hM s hcm hbk O hfo K
    have hp := P.lt
    refine round2 (P.keep fun b hb => K.get b (hfp b hb)) hb (fun b hb => Nat.lt_of_lt_of_le (hfp b hb) K.le) O (fun hh => by have := hfo p hh; omega) ((he 6 (by omega)).trans ((h1 6 (by omega)).trans h6)) ((he 12 (by omega)).trans h12) e13 ?_
    intro e2 h2 he2 P2 U2 n2
    rw [← hM] at P2
    have hnp : ∀ A, am' = some A → A.block ≠ p := fun A hA' => by
      obtain ⟨A0, h3, h4⟩ := hbk A hA'
      rw [h4]
      exact hA A0 h3
    refine hR e2 h2 am' cm' M' (fun t ht => ?_) ((he2 7 (by omega)).trans e7) P2 (Sees.keep s fun A hA' => U2 _ (lt_of_rdn (s.get A hA')) (hnp A hA')) hcm ?_ hnp (fun b hb hne => by rw [U2 b (Nat.lt_of_lt_of_le hb K.le) hne, K.get b hb]) (Nat.le_trans K.le n2)
    · rw [he2 t (by omega), he t (by omega), h1 t ht]
    · rw [hM]
      exact (List.dropWhile_sublist _).length_le
  by_cases t : (i : Int).tmod 2 = 0
  · simp (maxSteps := 1000000) (disch := first | assumption | ((try simp only [push_next, put_next, adv_next, List.length_cons, List.length_nil, List.length_map, List.length_set]); omega) | simp) [h8, h12, t, -g1_pianolalaw24_InputPlays, -g2_pianolalaw24_InputPlays]
    refine take_loop (now := now.tmod 60) hs hc hb (by simp [h7]) (by simp) (by simp) ?_
    intro e' h' am' cm' M' v fo he e7 e13 hM s hcm hbk O hfo K
    simp (maxSteps := 1000000) (disch := first | assumption | ((try simp only [push_next, put_next, adv_next, List.length_cons, List.length_nil, List.length_map, List.length_set]); omega) | simp) [-g2_pianolalaw24_InputPlays]
    refine rest _ e' h' (now.tmod 60) am' cm' M' v fo (fun t ht => ?_) (by simp) he e7 e13 hM s hcm hbk O hfo K
    repeat rw [upd_ne _ (by omega)]
  · simp (maxSteps := 1000000) (disch := first | assumption | ((try simp only [push_next, put_next, adv_next, List.length_cons, List.length_nil, List.length_map, List.length_set]); omega) | simp) [h8, h12, t, -g1_pianolalaw24_InputPlays, -g2_pianolalaw24_InputPlays]
    refine take_loop (now := now) hs hc hb (by simp [h7]) (by simp [h12]) (by simp) ?_
    intro e' h' am' cm' M' v fo he e7 e13 hM s hcm hbk O hfo K
    simp (maxSteps := 1000000) (disch := first | assumption | ((try simp only [push_next, put_next, adv_next, List.length_cons, List.length_nil, List.length_map, List.length_set]); omega) | simp) [-g2_pianolalaw24_InputPlays]
    refine rest _ e' h' now am' cm' M' v fo (fun t ht => ?_) (by simp [h12]) he e7 e13 hM s hcm hbk O hfo K
    repeat rw [upd_ne _ (by omega)]
theorem iplays {q : Value → Hp → Prop} (hs0 : Sees encKey g a L) (hc0 : L.length ≤ c) (hb : L.length < 2 ^ 38) (hs1 : Sees encI g a1 ns) (hq : ∀ h', Kp g h' → q (.bool true) h') : WC T n_pianolalaw24_InputPlays [.slice a L.length c, .slice a1 ns.length c1] g q := by
  rw [w_pianolalaw24_InputPlays]
  simp (maxSteps := 1000000) (disch := first | assumption | ((try simp only [push_next, put_next, adv_next, List.length_cons, List.length_nil, List.length_map, List.length_set]); omega) | simp)
  refine GC_intro (roomy (x := ⟨165, 0⟩) hs0 (by omega) fun b h1 hb1 g1 K1 => ?_) fun v h2 hh => hh
  have sF : Sees encKey h1 (some ⟨b, 0, none⟩) (L ++ List.replicate 80 (⟨165, 0⟩ : Key)) := by
    refine ⟨fun hA => (by cases hA), fun B hB => ?_, fun B hB => (by cases hB; exact .inl rfl)⟩
    cases hB
    simp only [Hp.rdn, Hp.cells, g1, Option.bind_some]
    rw [if_pos (by rw [Enc.all_length, Nat.zero_add]; exact Nat.le_refl _), List.drop_zero, List.take_of_length_le (by rw [Enc.all_length]; exact Nat.le_refl _)]
  have hl1 := lt_of_get g1
  obtain ⟨a3, c3, hsl, hc3, s3⟩ := sF.part (c := L.length + 80) (lo := 0) (hi := L.length) (by omega) (by simp) (by simp) (l := none) (u := some (.int .i64 L.length)) (.inl ⟨rfl, rfl⟩) (.inr ⟨_, rfl⟩)
  simp at hsl s3 hc3
  simp (maxSteps := 1000000) (disch := first | assumption | ((try simp only [push_next, put_next, adv_next, List.length_cons, List.length_nil, List.length_map, List.length_set]); omega) | simp) [hsl]
  refine GC_intro (inew s3 hc3 (by omega) fun h2 p fp f1 f2 P K2 => ?_) fun v h2 hh => hh
  simp (maxSteps := 1000000) (disch := first | assumption | ((try simp only [push_next, put_next, adv_next, List.length_cons, List.length_nil, List.length_map, List.length_set]); omega) | simp)
  refine GC_intro (isorted (hs0.kp (K1.trans K2)) fun am cm h3 sm hcm K3 hAm => ?_) fun v h2 hh => hh
  have hp : p ∈ fp := by obtain ⟨_, _, _, _, _, hp, _⟩ := P; exact hp
  have P3 := P.keep fun b hb => K3.get b (f2 b hb)
  have hMl : (isort (·.at') (L.take 256)).length ≤ 256 := by simp; omega
  generalize isort (·.at') (L.take 256) = M at *
  have hgp : g.next ≤ p := Nat.le_trans K1.le (f1 p hp)
  have hbp : b ≠ p := fun hh => by have := f1 p hp; omega
  simp (maxSteps := 1000000) (disch := first | assumption | ((try simp only [push_next, put_next, adv_next, List.length_cons, List.length_nil, List.length_map, List.length_set]); omega) | simp) [-g8_pianolalaw24_InputPlays]
  refine G_loop (fun m e h => ∃ (i : Nat) (M : List Key) (am : Option Addr) (cm : Nat), m = 30 - i ∧ i ≤ 30 ∧ PL h p M fp ∧ Sees encKey h am M ∧ M.length ≤ cm ∧ M.length ≤ 256 ∧ (∀ A, am = some A → A.block ≠ p) ∧ Sees encKey h (some ⟨b, 0, none⟩) (L ++ List.replicate 80 (⟨165, 0⟩ : Key)) ∧ Kp g h ∧ h3.next ≤ h.next ∧
      e 0 = .slice a L.length c ∧ e 1 = .slice a1 ns.length c1 ∧ e 5 = .slice (some ⟨b, 0, none⟩) (L.length + 80) (L.length + 80) ∧ e 6 = ptr p 0 ∧ e 7 = .slice am M.length cm ∧ e 8 = .int .i64 i) ?_ 30 _ _
    ⟨0, M, am, cm, rfl, by omega, P3, sm, hcm, hMl, fun A hA => by have := hAm A hA; have := f2 p hp; omega, sF.kp (K2.trans K3), K1.trans (K2.trans K3), Nat.le_refl _, by simp, by simp, by simp, by simp, by simp, by simp⟩
  clear P P3 sm hcm hAm hMl
  rintro m ih e h ⟨i, M, am, cm, rfl, hi, P, sm, hcm, hMl, hA, sFh, K, hle, e0, e1, e5, e6, e7, e8⟩
  have out : ∀ e : Env, e 0 = .slice a L.length c → e 5 = .slice (some ⟨b, 0, none⟩) (L.length + 80) (L.length + 80) → e 6 = ptr p 0 → G T (fin [.t 4] (some []) g.next q) c9_pianolalaw24_InputPlays [] e h := fun e e0 e5 e6 => by
    simp (maxSteps := 1000000) (disch := first | assumption | ((try simp only [push_next, put_next, adv_next, List.length_cons, List.length_nil, List.length_map, List.length_set]); omega) | simp) [e0, e5, e6]
    refine GC_intro (intact (x := ⟨165, 0⟩) sFh (hs0.kp K) (by omega) (by omega) fun h5 K5 => ?_) fun v h2 hh => hh
    simp (maxSteps := 1000000) (disch := first | assumption | ((try simp only [push_next, put_next, adv_next, List.length_cons, List.length_nil, List.length_map, List.length_set]); omega) | simp)
    refine GC_intro (iknown fun h6 K6 => ?_) fun v h2 hh => hh
    simp (maxSteps := 1000000) (disch := first | assumption | ((try simp only [push_next, put_next, adv_next, List.length_cons, List.length_nil, List.length_map, List.length_set]); omega) | simp)
    exact hq _ (K.trans (K5.trans K6))
  by_cases t1 : i < ns.length
  · by_cases t2 : i < 30
    · have t2' : (i : Int) < 30 := by omega
      obtain ⟨A, rfl, hr⟩ := hs1.at' i t1
      have hri := rdn_kp hr (K.get _ (lt_of_rdn hr))
      obtain ⟨ro, C, hg, hC⟩ := rdn_cells hri
      have c0 : C[A.off + i]? = some (.int .i64 ns[i]) := by simpa [encI] using hC 0 (by simp)
      have next : ∀ (e' : Env) h' am' cm' (M' : List Key), (∀ t, t ≤ 6 ∨ t = 8 → e' t = e t) → e' 7 = .slice am' M'.length cm' → PL h' p M' fp → Sees encKey h' am' M' → M'.length ≤ cm' → M'.length ≤ M.length → (∀ A, am' = some A → A.block ≠ p) → (∀ b, b < h.next → b ≠ p → h'.get b = h.get b) → h.next ≤ h'.next →
          G T (fin [.t 4] (some []) g.next q) (.loop c8_pianolalaw24_InputPlays) [.block 0, .seq c9_pianolalaw24_InputPlays] (upd e' 8 (.int .i64 ((i : Int) + 1))) h' := by
        intro e' h' am' cm' M' he e7' P' s' hcm' hMM hA' U hn
        apply ih (30 - (i + 1)) (by omega)
        refine ⟨i + 1, M', am', cm', rfl, by omega, P', s', hcm', by omega, hA', Sees.keep sFh fun B hB => ?_, ⟨Nat.le_trans K.le hn, fun b hb => ?_⟩, Nat.le_trans hle hn, ?_, ?_, ?_, ?_, ?_, by simp⟩
        · cases hB
          exact U b (lt_of_rdn (sFh.get _ rfl)) hbp
        · rw [U b (Nat.lt_of_lt_of_le hb K.le) (by omega), K.get b hb]
        · rw [upd_ne _ (by omega), he 0 (by omega), e0]
        · rw [upd_ne _ (by omega), he 1 (by omega), e1]
        · rw [upd_ne _ (by omega), he 5 (by omega), e5]
        · rw [upd_ne _ (by omega), he 6 (by omega), e6]
        · rw [upd_ne _ (by omega), e7']
      have hfp : ∀ b ∈ fp, b < h.next := fun b hb => by have := f2 b hb; have := K3.le; omega
      cases M with
      | nil =>
        simp (maxSteps := 1000000) (disch := first | assumption | ((try simp only [push_next, put_next, adv_next, List.length_cons, List.length_nil, List.length_map, List.length_set]); omega) | simp) [e0, e1, e5, e6, e7, e8, t1, t2', GC_of (fun q => inext P), GC_of (fun q => ileft P), hg, c0, -g3_pianolalaw24_InputPlays]
        refine round3 (M := []) (now := ns[i]) (i := i) P sm hcm (by omega) hA hfp (by simp [e6]) (by simp [e7]) (by simp [e8]) (by simp) ?_
        intro e' h' am' cm' M' he e7' P' s' hcm' hMM hA' U hn
        have e8' := he 8 (by omega)
        simp [e8] at e8'
        simp (maxSteps := 1000000) (disch := first | assumption | ((try simp only [push_next, put_next, adv_next, List.length_cons, List.length_nil, List.length_map, List.length_set]); omega) | simp) [e8', -g8_pianolalaw24_InputPlays]
        refine next (upd (upd e' 32 _) 33 _) h' am' cm' M' (fun t ht => ?_) (by simp [e7']) P' s' hcm' hMM hA' U hn
        rw [upd_ne _ (by omega), upd_ne _ (by omega), he t ht]
        repeat rw [upd_ne _ (by omega)]
      | cons x M =>
        obtain ⟨A2, rfl, hr2⟩ := sm.at' 0 (by simp)
        obtain ⟨ro2, C2, hg2, hC2⟩ := rdn_cells hr2
        have d0 : C2[A2.off]? = some (.int .i64 x.at') := hC2 0 (by simp)
        have gt : (0 : Int) < (M.length : Int) + 1 := by omega
        simp (maxSteps := 1000000) (disch := first | assumption | ((try simp only [push_next, put_next, adv_next, List.length_cons, List.length_nil, List.length_map, List.length_set]); omega) | simp) [e0, e1, e5, e6, e7, e8, t1, t2', GC_of (fun q => inext P), GC_of (fun q => ileft P), hg, c0, hg2, d0, gt, -g3_pianolalaw24_InputPlays]
        refine round3 (M := x :: M) (now := ns[i]) (i := i) P sm hcm (by omega) hA hfp (by simp [e6]) (by simp [e7]) (by simp [e8]) (by simp) ?_
        intro e' h' am' cm' M' he e7' P' s' hcm' hMM hA' U hn
        have e8' := he 8 (by omega)
        simp [e8] at e8'
        simp (maxSteps := 1000000) (disch := first | assumption | ((try simp only [push_next, put_next, adv_next, List.length_cons, List.length_nil, List.length_map, List.length_set]); omega) | simp) [e8', -g8_pianolalaw24_InputPlays]
        refine next (upd (upd e' 32 _) 33 _) h' am' cm' M' (fun t ht => ?_) (by simp [e7']) P' s' hcm' hMM hA' U hn
        rw [upd_ne _ (by omega), upd_ne _ (by omega), he t ht]
        repeat rw [upd_ne _ (by omega)]
    · have t2' : ¬ (i : Int) < 30 := by omega
      simp (maxSteps := 1000000) (disch := first | assumption | ((try simp only [push_next, put_next, adv_next, List.length_cons, List.length_nil, List.length_map, List.length_set]); omega) | simp) [e1, e8, t1, t2', -g9_pianolalaw24_InputPlays]
      exact out _ (by simp [e0]) (by simp [e5]) (by simp [e6])
  · simp (maxSteps := 1000000) (disch := first | assumption | ((try simp only [push_next, put_next, adv_next, List.length_cons, List.length_nil, List.length_map, List.length_set]); omega) | simp) [e1, e8, t1, -g9_pianolalaw24_InputPlays]
    exact out _ (by simp [e0]) (by simp [e5]) (by simp [e6])
end
end Go.Proofs.Ytppgoobhlcdbbaa.Cd
