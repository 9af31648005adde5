/- Stable sorting of a row, as the library does it: blocks, merged by rotation. -/
import Derived.Test.YtppgoobhlcdbbaaSortKey
import Derived.Test.YtppgoobhlcdbbaaSx12
set_option maxRecDepth 1000000
set_option linter.unusedSimpArgs false
set_option linter.unusedVariables false
namespace Go.Proofs.Ytppgoobhlcdbbaa.Cd
open Go Go.Dx
section
variable {h : Hp} {b n c : Nat} {sp : Option Nat} {fc : Nat} {key : Key → Int} {r : List Value} {q : Value → Hp → Prop}
theorem swapRange {A X B Y C : List Key} {i1 i2 i3 : Int} (hk : X.length = Y.length) (hn : n = (A ++ (X ++ (B ++ (Y ++ C)))).length) (hbig : n < 2 ^ 62) (h1 : i1 = A.length) (h2 : i2 = A.length + X.length + B.length) (h3 : i3 = X.length)
    (hg : h.get b = some (.cells false (encKey.all (A ++ (X ++ (B ++ (Y ++ C)))) ++ r))) (hq : ∀ v h', h'.get b = some (.cells false (encKey.all (A ++ (Y ++ (B ++ (X ++ C)))) ++ r)) → Upd h h' [b] [b] → q v h') :
    WC T n_slices_swapRangeCmpFunc_input_Key [.slice (some ⟨b, 0, sp⟩) n c, .int .i64 i1, .int .i64 i2, .int .i64 i3, .func (.func fc) #[] #[]] h q := by
  rw [w_slices_swapRangeCmpFunc_input_Key]
  simp (disch := first | assumption | ((try simp only [push_next, put_next, adv_next, List.length_cons, List.length_nil]); omega) | simp)
  refine G_loop (fun m e h' => ∃ X1 X2 Y1 Y2, m = X2.length ∧ X = X1 ++ X2 ∧ Y = Y1 ++ Y2 ∧ X1.length = Y1.length ∧ e 0 = .slice (some ⟨b, 0, sp⟩) n c ∧ e 1 = .int .i64 i1 ∧ e 2 = .int .i64 i2 ∧ e 3 = .int .i64 i3 ∧ e 10 = .int .i64 X1.length ∧
      h'.get b = some (.cells false (encKey.all (A ++ (Y1 ++ (X2 ++ (B ++ (X1 ++ (Y2 ++ C)))))) ++ r)) ∧ Upd h h' [b] [b]) ?_ X.length _ _ ⟨[], X, [], Y, rfl, rfl, rfl, rfl, by simp, by simp, by simp, by simp, by simp, by simpa using hg, .refl⟩
  rintro m ih e h' ⟨X1, X2, Y1, Y2, rfl, rfl, rfl, h12, e0, e1, e2, e3, e10, hg', U⟩
  have hlt := lt_of_get hg'
  cases X2 with
  | nil =>
    have : Y2 = [] := by
      simp at hk
      apply List.eq_nil_of_length_eq_zero
      omega
    subst this
    simp (disch := first | assumption | ((try simp only [push_next, put_next, adv_next, List.length_cons, List.length_nil]); omega) | simp) [e0, e1, e2, e3, e10, show ¬ ((X1.length : Int) < i3) by rw [h3]; simp]
    exact hq _ _ (by simpa using hg') U
  | cons x X2 =>
    cases Y2 with
    | nil => simp at hk; omega
    | cons y Y2 =>
      obtain ⟨p1, hp1⟩ : ∃ p, p = (A ++ Y1).length := ⟨_, rfl⟩
      obtain ⟨p2, hp2⟩ : ∃ p, p = (A ++ (Y1 ++ (x :: X2 ++ (B ++ X1)))).length := ⟨_, rfl⟩
      have rx : h'.rdn b (p1 * 2) 2 = some (encKey.enc x) := by
        rw [hp1]
        exact rd_mid (E := encKey) (ro := false) (r := r) (A := A ++ Y1) (B := X2 ++ (B ++ (X1 ++ (y :: Y2 ++ C)))) (by rw [hg']; simp)
      have ry : h'.rdn b (p2 * 2) 2 = some (encKey.enc y) := by
        rw [hp2]
        exact rd_mid (E := encKey) (ro := false) (r := r) (A := A ++ (Y1 ++ (x :: X2 ++ (B ++ X1)))) (B := Y2 ++ C) (by rw [hg']; simp)
      have w1 : h'.wr b (p1 * 2) (encKey.enc y) = some (h'.put b (some (.cells false (encKey.all (A ++ Y1 ++ y :: (X2 ++ (B ++ (X1 ++ (y :: Y2 ++ C))))) ++ r)))) := by
        rw [hp1]
        exact wr_mid (E := encKey) (x := x) (by rw [hg']; simp)
      have w2 : (h'.put b (some (.cells false (encKey.all (A ++ Y1 ++ y :: (X2 ++ (B ++ (X1 ++ (y :: Y2 ++ C))))) ++ r)))).wr b (p2 * 2) (encKey.enc x) = some (h'.put b (some (.cells false (encKey.all (A ++ (Y1 ++ (y :: X2 ++ (B ++ X1))) ++ x :: (Y2 ++ C)) ++ r)))) := by
        have := wr_mid (E := encKey) (h := h'.put b (some (.cells false (encKey.all (A ++ Y1 ++ y :: (X2 ++ (B ++ (X1 ++ (y :: Y2 ++ C))))) ++ r)))) (b := b) (A := A ++ (Y1 ++ (y :: X2 ++ (B ++ X1)))) (x := y) (y := x) (B := Y2 ++ C) (r := r) (by rw [get_put_self hlt]; simp)
        rw [put_put, show (A ++ (Y1 ++ (y :: X2 ++ (B ++ X1)))).length = p2 by rw [hp2]; simp] at this
        exact this
      have s1 : i1 + (X1.length : Int) = (p1 : Int) := by rw [hp1, h1]; simp; omega
      have s2 : i2 + (X1.length : Int) = (p2 : Int) := by rw [hp2, h2]; simp; omega
      have b1 : p1 < n := by rw [hp1, hn]; simp; omega
      have b2 : p2 < n := by rw [hp2, hn]; simp; omega
      have b3 : X1.length < n := by rw [hn]; simp; omega
      have s3 : (X1.length : Int) < i3 := by rw [h3]; simp; omega
      generalize encKey.all (A ++ Y1 ++ y :: (X2 ++ (B ++ (X1 ++ (y :: Y2 ++ C))))) ++ r = C1 at w1 w2
      generalize hC2 : encKey.all (A ++ (Y1 ++ (y :: X2 ++ (B ++ X1))) ++ x :: (Y2 ++ C)) ++ r = C2 at w2
      simp (disch := first | assumption | ((try simp only [push_next, put_next, adv_next, List.length_cons, List.length_nil]); omega) | simp) [e0, e1, e2, e3, e10, s1, s2, s3, rx, ry, w1, w2, -Hp.wr, -over, encKey.len, show encKey.sz = 2 from rfl]
      apply ih X2.length (by simp)
      refine ⟨X1 ++ [x], X2, Y1 ++ [y], Y2, rfl, by simp, by simp, by simp [h12], by simp [e0], by simp [e1], by simp [e2], by simp [e3], by simp, by rw [get_put_self hlt, ← hC2]; simp, ⟨U.le, fun k hk hn => ?_, fun k hk => .inl hk⟩⟩
      rw [get_put_ne (by simpa using hn), U.get k hk hn]
theorem rotate {A P Q C : List Key} {i1 i2 i3 : Int} (hP : P ≠ []) (hQ : Q ≠ []) (hn : n = (A ++ (P ++ (Q ++ C))).length) (hbig : n < 2 ^ 62) (h1 : i1 = A.length) (h2 : i2 = A.length + P.length) (h3 : i3 = A.length + P.length + Q.length)
    (hg : h.get b = some (.cells false (encKey.all (A ++ (P ++ (Q ++ C))) ++ r))) (hq : ∀ v h', h'.get b = some (.cells false (encKey.all (A ++ (Q ++ (P ++ C))) ++ r)) → Upd h h' [b] [b] → q v h') :
    WC T n_slices_rotateCmpFunc_input_Key [.slice (some ⟨b, 0, sp⟩) n c, .int .i64 i1, .int .i64 i2, .int .i64 i3, .func (.func fc) #[] #[]] h q := by
  have hn0 := hn
  simp at hn0
  rw [w_slices_rotateCmpFunc_input_Key]
  simp (disch := first | assumption | ((try simp only [push_next, put_next, adv_next, List.length_cons, List.length_nil]); omega) | simp) [-g2_slices_rotateCmpFunc_input_Key]
  refine G_loop (fun m e h' => ∃ (A' P' Q' C' : List Key) (i j : Int), m = P'.length + Q'.length ∧ i = P'.length ∧ j = Q'.length ∧ 0 < P'.length ∧ 0 < Q'.length ∧ A ++ (Q ++ (P ++ C)) = A' ++ (Q' ++ (P' ++ C')) ∧ n = (A' ++ (P' ++ (Q' ++ C'))).length ∧ i2 = A'.length + P'.length ∧ e 0 = .slice (some ⟨b, 0, sp⟩) n c ∧ e 2 = .int .i64 i2 ∧ e 4 = .func (.func fc) #[] #[] ∧ e 10 = .int .i64 i ∧ e 11 = .int .i64 j ∧
      h'.get b = some (.cells false (encKey.all (A' ++ (P' ++ (Q' ++ C'))) ++ r)) ∧ Upd h h' [b] [b]) ?_ (P.length + Q.length) _ _
    ⟨A, P, Q, C, i2 - i1, i3 - i2, rfl, by omega, by omega, List.length_pos_iff.2 hP, List.length_pos_iff.2 hQ, rfl, hn, h2, by simp, by simp, by simp, by simp, by simp, hg, .refl⟩
  rintro m ih e h' ⟨A', P', Q', C', i, j, rfl, hi, hj, hP', hQ', hT, hn', h2', e0, e2, e4, e10, e11, hg', U⟩
  have hn1 := hn'
  simp at hn1
  rcases Int.lt_trichotomy i j with hij | hij | hij
  · obtain ⟨Q1, Q2, rfl, hl⟩ : ∃ Q1 Q2, Q' = Q1 ++ Q2 ∧ Q2.length = P'.length := ⟨Q'.take (Q'.length - P'.length), Q'.drop (Q'.length - P'.length), (List.take_append_drop _ _).symm, by simp; omega⟩
    simp at hj hQ' hn1
    simp (disch := first | assumption | ((try simp only [push_next, put_next, adv_next, List.length_cons, List.length_nil]); omega) | simp) [e0, e2, e4, e10, e11, show i ≠ j by omega, show ¬ j < i by omega]
    refine GC_intro (swapRange (r := r) (A := A') (X := P') (B := Q1) (Y := Q2) (C := C') hl.symm (by rw [hn']; simp) hbig (by omega) (by omega) (by omega) (by rw [hg']; simp) fun v h2 hg2 U2 => ?_) fun v h2 hh => hh
    simp (disch := first | assumption | ((try simp only [push_next, put_next, adv_next, List.length_cons, List.length_nil]); omega) | simp) [e0, e2, e4, e10, e11]
    apply ih (Q2.length + Q1.length) (by simp; omega)
    refine ⟨A', Q2, Q1, P' ++ C', i, j - i, rfl, by omega, by omega, by omega, by omega, by rw [hT]; simp, by rw [hn']; simp; omega, by omega, by simp [e0], by simp [e2], by simp [e4], by simp [e10], by simp, by rw [hg2], U.trans U2⟩
  · simp (disch := first | assumption | ((try simp only [push_next, put_next, adv_next, List.length_cons, List.length_nil]); omega) | simp) [e0, e2, e4, e10, e11, hij]
    refine GC_intro (swapRange (r := r) (A := A') (X := P') (B := []) (Y := Q') (C := C') (by omega) (by rw [hn']; simp) hbig (by omega) (by simp; omega) (by omega) (by rw [hg']; simp) fun v h2 hg2 U2 => ?_) fun v h2 hh => hh
    simp (disch := first | assumption | ((try simp only [push_next, put_next, adv_next, List.length_cons, List.length_nil]); omega) | simp)
    exact hq _ _ (by rw [hT, hg2]; simp) (U.trans U2)
  · obtain ⟨P1, P2, rfl, hl⟩ : ∃ P1 P2, P' = P1 ++ P2 ∧ P1.length = Q'.length := ⟨P'.take Q'.length, P'.drop Q'.length, (List.take_append_drop _ _).symm, by simp; omega⟩
    simp at hi hP' hn1 h2'
    simp (disch := first | assumption | ((try simp only [push_next, put_next, adv_next, List.length_cons, List.length_nil]); omega) | simp) [e0, e2, e4, e10, e11, show i ≠ j by omega, hij]
    refine GC_intro (swapRange (r := r) (A := A') (X := P1) (B := P2) (Y := Q') (C := C') hl (by rw [hn']; simp) hbig (by omega) (by omega) (by omega) (by rw [hg']; simp) fun v h2 hg2 U2 => ?_) fun v h2 hh => hh
    simp (disch := first | assumption | ((try simp only [push_next, put_next, adv_next, List.length_cons, List.length_nil]); omega) | simp) [e0, e2, e4, e10, e11]
    apply ih (P2.length + P1.length) (by simp; omega)
    refine ⟨A' ++ Q', P2, P1, C', i - j, j, rfl, by omega, by omega, by omega, by omega, by rw [hT]; simp, by rw [hn']; simp; omega, by simp; omega, by simp [e0], by simp [e2], by simp [e4], by simp, by simp [e11], by rw [hg2]; simp, U.trans U2⟩
theorem half {x : Int} {m : Nat} (h0 : 0 ≤ x) (hx : x < 2 ^ 63) (hm : (m : Int) = x / 2) : cvt .i64 (u64 (BitVec.ofInt 64 x >>> 1)) = some (.int .i64 m) := by
  obtain ⟨k, rfl⟩ := Int.eq_ofNat_of_zero_le h0
  have hk : (BitVec.ofInt 64 (k : Int) >>> 1).toNat = m := by
    rw [BitVec.ofInt_natCast, BitVec.toNat_ushiftRight, BitVec.toNat_ofNat, Nat.mod_eq_of_lt (by omega), Nat.shiftRight_eq_div_pow]
    omega
  rw [u64, hk]
  unfold cvt
  simp only []
  rw [wrap_i64 (by omega) (by omega)]
theorem rd_at {L : List Key} {k : Nat} {x : Key} {ro : Bool} (hx : L[k]? = some x) (hg : h.get b = some (.cells ro (encKey.all L ++ r))) : h.rdn b (k * 2) 2 = some (encKey.enc x) := by
  obtain ⟨hk, rfl⟩ := List.getElem?_eq_some_iff.1 hx
  have := rd_mid (E := encKey) (ro := ro) (r := r) (h := h) (b := b) (A := L.take k) (x := L[k]) (B := L.drop (k + 1)) (by rw [hg]; simp)
  rw [List.length_take, Nat.min_eq_left (by omega)] at this
  exact this
theorem search1 {e : Env} {Q : Ex → Env → Hp → Prop} {k : List Fr} (hc : Cmp fc key) {L : List Key} {i j a : Nat} {x : Key} (hn : n = L.length) (hbig : n < 2 ^ 62) (hx : L[a]? = some x)
    (hR : ∀ e' h' s, (∀ t, t ≤ 9 → e' t = e t) → e' 10 = .int .i64 (s : Nat) → i ≤ s → s ≤ j → (i < s → ∀ y, L[s - 1]? = some y → key y < key x) → (s < j → ∀ y, L[s]? = some y → ¬ key y < key x) → Kp h h' → GR T Q k (.x 0) e' h')
    (hg : h.get b = some (.cells false (encKey.all L ++ r))) (h0 : e 0 = .slice (some ⟨b, 0, sp⟩) n c) (h1 : e 1 = .int .i64 a) (h4 : e 4 = .func (.func fc) #[] #[]) (h10 : e 10 = .int .i64 i) (h11 : e 11 = .int .i64 j) (hij : i ≤ j) (hj : j ≤ n) :
    G T Q (.loop c2_slices_symMergeCmpFunc_input_Key) k e h := by
  refine G_loop (fun m e' h' => ∃ u v : Nat, m = v - u ∧ i ≤ u ∧ u ≤ v ∧ v ≤ j ∧ (i < u → ∀ y, L[u - 1]? = some y → key y < key x) ∧ (v < j → ∀ y, L[v]? = some y → ¬ key y < key x) ∧ (∀ t, t ≤ 9 → e' t = e t) ∧ e' 10 = .int .i64 u ∧ e' 11 = .int .i64 v ∧ Kp h h') ?_ (j - i) e h
    ⟨i, j, rfl, Nat.le_refl _, hij, Nat.le_refl _, fun hh => absurd hh (Nat.lt_irrefl _), fun hh => absurd hh (Nat.lt_irrefl _), fun _ _ => rfl, h10, h11, .refl _⟩
  rintro m ih e' h' ⟨u, v, rfl, hu, huv, hv, gu, gv, he, e10, e11, K⟩
  have e0 := (he 0 (by omega)).trans h0
  have e1 := (he 1 (by omega)).trans h1
  have e4 := (he 4 (by omega)).trans h4
  have hlt := lt_of_get hg
  by_cases huv' : u < v
  · have hm : u ≤ (u + v) / 2 ∧ (u + v) / 2 < v := by omega
    obtain ⟨c', hc'⟩ : ∃ m, m = (u + v) / 2 := ⟨_, rfl⟩
    have hy : L[c']? = some L[c'] := List.getElem?_eq_getElem (by omega)
    have ha : a < n := by rw [hn]; exact (List.getElem?_eq_some_iff.1 hx).1
    generalize L[c'] = y at hy
    have rx := rdn_kp (rd_at hx hg) (K.get b hlt)
    have ry := rdn_kp (rd_at hy hg) (K.get b hlt)
    have hh := half (x := (u : Int) + (v : Int)) (m := c') (by omega) (by omega) (by omega)
    simp (disch := first | assumption | ((try simp only [push_next, put_next, adv_next, List.length_cons, List.length_nil]); omega) | simp) [e0, e1, e4, e10, e11, huv', hh, rx, ry]
    refine GC_intro (hc y x h') fun v' h2 ⟨hv', K2⟩ => ?_
    subst hv'
    by_cases hlt3 : key y < key x
    · have hcm : cmpI (key y) (key x) < 0 := cmpI_lt.2 hlt3
      simp (disch := first | assumption | ((try simp only [push_next, put_next, adv_next, List.length_cons, List.length_nil]); omega) | simp) [hcm]
      apply ih (v - (c' + 1)) (by omega)
      refine ⟨c' + 1, v, rfl, by omega, by omega, hv, fun _ z hz => ?_, gv, fun t ht => ?_, by simp, by simp [e11], K.trans K2⟩
      · rw [show c' + 1 - 1 = c' by omega, hy] at hz
        cases hz
        exact hlt3
      · repeat rw [upd_ne _ (by omega)]
        exact he t ht
    · have hcm : ¬ cmpI (key y) (key x) < 0 := fun hh => hlt3 (cmpI_lt.1 hh)
      simp (disch := first | assumption | ((try simp only [push_next, put_next, adv_next, List.length_cons, List.length_nil]); omega) | simp) [hcm]
      apply ih (c' - u) (by omega)
      refine ⟨u, c', rfl, hu, by omega, by omega, gu, fun _ z hz => ?_, fun t ht => ?_, by simp [e10], by simp, K.trans K2⟩
      · rw [hy] at hz
        cases hz
        exact hlt3
      · repeat rw [upd_ne _ (by omega)]
        exact he t ht
  · simp (disch := first | assumption | ((try simp only [push_next, put_next, adv_next, List.length_cons, List.length_nil]); omega) | simp) [e0, e1, e4, e10, e11, huv']
    have : v = u := by omega
    subst this
    exact hR _ _ _ (fun t ht => by repeat rw [upd_ne _ (by omega)]
                                   exact he t ht) (by simp [e10]) hu hv gu gv K
theorem search2 {e : Env} {Q : Ex → Env → Hp → Prop} {k : List Fr} (hc : Cmp fc key) {L : List Key} {i j a : Nat} {x : Key} (hn : n = L.length) (hbig : n < 2 ^ 62) (hx : L[a]? = some x)
    (hR : ∀ e' h' s, (∀ t, t ≤ 13 → e' t = e t) → e' 14 = .int .i64 (s : Nat) → i ≤ s → s ≤ j → (i < s → ∀ y, L[s - 1]? = some y → ¬ key x < key y) → (s < j → ∀ y, L[s]? = some y → key x < key y) → Kp h h' → GR T Q k (.x 4) e' h')
    (hg : h.get b = some (.cells false (encKey.all L ++ r))) (h0 : e 0 = .slice (some ⟨b, 0, sp⟩) n c) (h2 : e 2 = .int .i64 a) (h4 : e 4 = .func (.func fc) #[] #[]) (h10 : e 14 = .int .i64 i) (h11 : e 15 = .int .i64 j) (hij : i ≤ j) (hj : j ≤ n) :
    G T Q (.loop c8_slices_symMergeCmpFunc_input_Key) k e h := by
  refine G_loop (fun m e' h' => ∃ u v : Nat, m = v - u ∧ i ≤ u ∧ u ≤ v ∧ v ≤ j ∧ (i < u → ∀ y, L[u - 1]? = some y → ¬ key x < key y) ∧ (v < j → ∀ y, L[v]? = some y → key x < key y) ∧ (∀ t, t ≤ 13 → e' t = e t) ∧ e' 14 = .int .i64 u ∧ e' 15 = .int .i64 v ∧ Kp h h') ?_ (j - i) e h
    ⟨i, j, rfl, Nat.le_refl _, hij, Nat.le_refl _, fun hh => absurd hh (Nat.lt_irrefl _), fun hh => absurd hh (Nat.lt_irrefl _), fun _ _ => rfl, h10, h11, .refl _⟩
  rintro m ih e' h' ⟨u, v, rfl, hu, huv, hv, gu, gv, he, e10, e11, K⟩
  have e0 := (he 0 (by omega)).trans h0
  have e1 := (he 2 (by omega)).trans h2
  have e4 := (he 4 (by omega)).trans h4
  have hlt := lt_of_get hg
  by_cases huv' : u < v
  · have hm : u ≤ (u + v) / 2 ∧ (u + v) / 2 < v := by omega
    obtain ⟨c', hc'⟩ : ∃ m, m = (u + v) / 2 := ⟨_, rfl⟩
    have hy : L[c']? = some L[c'] := List.getElem?_eq_getElem (by omega)
    have ha : a < n := by rw [hn]; exact (List.getElem?_eq_some_iff.1 hx).1
    generalize L[c'] = y at hy
    have rx := rdn_kp (rd_at hx hg) (K.get b hlt)
    have ry := rdn_kp (rd_at hy hg) (K.get b hlt)
    have hh := half (x := (u : Int) + (v : Int)) (m := c') (by omega) (by omega) (by omega)
    simp (disch := first | assumption | ((try simp only [push_next, put_next, adv_next, List.length_cons, List.length_nil]); omega) | simp) [e0, e1, e4, e10, e11, huv', hh, rx, ry]
    refine GC_intro (hc x y h') fun v' h3 ⟨hv', K2⟩ => ?_
    subst hv'
    by_cases hlt3 : key x < key y
    · have hcm : cmpI (key x) (key y) < 0 := cmpI_lt.2 hlt3
      simp (disch := first | assumption | ((try simp only [push_next, put_next, adv_next, List.length_cons, List.length_nil]); omega) | simp) [hcm]
      apply ih (c' - u) (by omega)
      refine ⟨u, c', rfl, hu, by omega, by omega, gu, fun _ z hz => ?_, fun t ht => ?_, by simp [e10], by simp, K.trans K2⟩
      · rw [hy] at hz
        cases hz
        exact hlt3
      · repeat rw [upd_ne _ (by omega)]
        exact he t ht
    · have hcm : ¬ cmpI (key x) (key y) < 0 := fun hh => hlt3 (cmpI_lt.1 hh)
      simp (disch := first | assumption | ((try simp only [push_next, put_next, adv_next, List.length_cons, List.length_nil]); omega) | simp) [hcm]
      apply ih (v - (c' + 1)) (by omega)
      refine ⟨c' + 1, v, rfl, by omega, by omega, hv, fun _ z hz => ?_, gv, fun t ht => ?_, by simp, by simp [e11], K.trans K2⟩
      · rw [show c' + 1 - 1 = c' by omega, hy] at hz
        cases hz
        exact hlt3
      · repeat rw [upd_ne _ (by omega)]
        exact he t ht
  · simp (disch := first | assumption | ((try simp only [push_next, put_next, adv_next, List.length_cons, List.length_nil]); omega) | simp) [e0, e1, e4, e10, e11, huv']
    have : v = u := by omega
    subst this
    exact hR _ _ _ (fun t ht => by repeat rw [upd_ne _ (by omega)]
                                   exact he t ht) (by simp [e10]) hu hv gu gv K
theorem search3 {e : Env} {Q : Ex → Env → Hp → Prop} {k : List Fr} (hc : Cmp fc key) {L : List Key} {i j p : Nat} (hn : n = L.length) (hbig : n < 2 ^ 62)
    (hR : ∀ e' h' s, (∀ t, t ≤ 19 → e' t = e t) → e' 20 = .int .i64 (s : Nat) → i ≤ s → s ≤ j → (i < s → ∀ x y, L[p - (s - 1)]? = some x → L[s - 1]? = some y → ¬ key x < key y) → (s < j → ∀ x y, L[p - s]? = some x → L[s]? = some y → key x < key y) → Kp h h' → GR T Q k (.x 8) e' h')
    (hg : h.get b = some (.cells false (encKey.all L ++ r))) (h0 : e 0 = .slice (some ⟨b, 0, sp⟩) n c) (h4 : e 4 = .func (.func fc) #[] #[]) (h20 : e 20 = .int .i64 i) (h21 : e 21 = .int .i64 j) (h22 : e 22 = .int .i64 p) (hij : i ≤ j) (hj : j ≤ n) (hjp : j ≤ p + 1) (hpn : p < n + i) :
    G T Q (.loop c15_slices_symMergeCmpFunc_input_Key) k e h := by
  refine G_loop (fun m e' h' => ∃ u v : Nat, m = v - u ∧ i ≤ u ∧ u ≤ v ∧ v ≤ j ∧ (i < u → ∀ x y, L[p - (u - 1)]? = some x → L[u - 1]? = some y → ¬ key x < key y) ∧ (v < j → ∀ x y, L[p - v]? = some x → L[v]? = some y → key x < key y) ∧ (∀ t, t ≤ 19 → e' t = e t) ∧ e' 20 = .int .i64 u ∧ e' 21 = .int .i64 v ∧ e' 22 = .int .i64 p ∧ Kp h h') ?_ (j - i) e h
    ⟨i, j, rfl, Nat.le_refl _, hij, Nat.le_refl _, fun hh => absurd hh (Nat.lt_irrefl _), fun hh => absurd hh (Nat.lt_irrefl _), fun _ _ => rfl, h20, h21, h22, .refl _⟩
  rintro m ih e' h' ⟨u, v, rfl, hu, huv, hv, gu, gv, he, e20, e21, e22, K⟩
  have e0 := (he 0 (by omega)).trans h0
  have e4 := (he 4 (by omega)).trans h4
  have hlt := lt_of_get hg
  by_cases huv' : u < v
  · have hm : u ≤ (u + v) / 2 ∧ (u + v) / 2 < v := by omega
    obtain ⟨c', hc'⟩ : ∃ m, m = (u + v) / 2 := ⟨_, rfl⟩
    obtain ⟨d, hd⟩ : ∃ d, d = p - c' := ⟨_, rfl⟩
    have hx : L[d]? = some L[d] := List.getElem?_eq_getElem (by omega)
    have hy : L[c']? = some L[c'] := List.getElem?_eq_getElem (by omega)
    have hdn : d < n := by omega
    have hcn : c' < n := by omega
    have hpb : p < 2 ^ 63 := by omega
    generalize L[c'] = y at hy
    generalize L[d] = x at hx
    have rx := rdn_kp (rd_at hx hg) (K.get b hlt)
    have ry := rdn_kp (rd_at hy hg) (K.get b hlt)
    have hh := half (x := (u : Int) + (v : Int)) (m := c') (by omega) (by omega) (by omega)
    have hs : (p : Int) - (c' : Int) = (d : Int) := by omega
    simp (disch := first | assumption | ((try simp only [push_next, put_next, adv_next, List.length_cons, List.length_nil]); omega) | simp) [e0, e4, e20, e21, e22, huv', hh, hs, rx, ry]
    refine GC_intro (hc x y h') fun v' h3 ⟨hv', K2⟩ => ?_
    subst hv'
    by_cases hlt3 : key x < key y
    · have hcm : cmpI (key x) (key y) < 0 := cmpI_lt.2 hlt3
      simp (disch := first | assumption | ((try simp only [push_next, put_next, adv_next, List.length_cons, List.length_nil]); omega) | simp) [hcm]
      apply ih (c' - u) (by omega)
      refine ⟨u, c', rfl, hu, by omega, by omega, gu, fun _ z w hz hw => ?_, fun t ht => ?_, by simp [e20], by simp, by simp [e22], K.trans K2⟩
      · rw [← hd, hx] at hz
        rw [hy] at hw
        cases hz
        cases hw
        exact hlt3
      · repeat rw [upd_ne _ (by omega)]
        exact he t ht
    · have hcm : ¬ cmpI (key x) (key y) < 0 := fun hh => hlt3 (cmpI_lt.1 hh)
      simp (disch := first | assumption | ((try simp only [push_next, put_next, adv_next, List.length_cons, List.length_nil]); omega) | simp) [hcm]
      apply ih (v - (c' + 1)) (by omega)
      refine ⟨c' + 1, v, rfl, by omega, by omega, hv, fun _ z w hz hw => ?_, gv, fun t ht => ?_, by simp, by simp [e21], by simp [e22], K.trans K2⟩
      · rw [show c' + 1 - 1 = c' by omega] at hz hw
        rw [← hd, hx] at hz
        rw [hy] at hw
        cases hz
        cases hw
        exact hlt3
      · repeat rw [upd_ne _ (by omega)]
        exact he t ht
  · simp (disch := first | assumption | ((try simp only [push_next, put_next, adv_next, List.length_cons, List.length_nil]); omega) | simp) [e0, e4, e20, e21, huv']
    have : v = u := by omega
    subst this
    exact hR _ _ _ (fun t ht => by repeat rw [upd_ne _ (by omega)]
                                   exact he t ht) (by simp [e20]) hu hv gu gv K
theorem bubble1 {e : Env} {Q : Ex → Env → Hp → Prop} {k : List Fr} {A R D : List Key} {x : Key} {i : Int} (hn : n = (A ++ (x :: (R ++ D))).length) (hbig : n < 2 ^ 62) (hi : i = A.length + R.length + 1)
    (hR : ∀ e' h', h'.get b = some (.cells false (encKey.all (A ++ (R ++ (x :: D))) ++ r)) → Upd h h' [b] [b] → GR T Q k (.x 2) e' h')
    (hg : h.get b = some (.cells false (encKey.all (A ++ (x :: (R ++ D))) ++ r))) (h0 : e 0 = .slice (some ⟨b, 0, sp⟩) n c) (h10 : e 10 = .int .i64 i) (h13 : e 13 = .int .i64 A.length) :
    G T Q (.loop c4_slices_symMergeCmpFunc_input_Key) k e h := by
  refine G_loop (fun m e' h' => ∃ S1 S2, m = S2.length ∧ R = S1 ++ S2 ∧ e' 0 = .slice (some ⟨b, 0, sp⟩) n c ∧ e' 10 = .int .i64 i ∧ e' 13 = .int .i64 (A ++ S1).length ∧
      h'.get b = some (.cells false (encKey.all (A ++ (S1 ++ (x :: (S2 ++ D)))) ++ r)) ∧ Upd h h' [b] [b]) ?_ R.length e h ⟨[], R, rfl, rfl, h0, h10, by simpa using h13, by simpa using hg, .refl⟩
  rintro m ih e' h' ⟨S1, S2, rfl, rfl, e0, e10, e13, hg', U⟩
  have hlt := lt_of_get hg'
  have hn1 := hn
  simp at hn1 hi
  obtain ⟨p, hp⟩ : ∃ p, p = (A ++ S1).length := ⟨_, rfl⟩
  rw [← hp] at e13
  have hp1 := hp
  simp at hp1
  cases S2 with
  | nil =>
    simp at hn1 hi
    simp (disch := first | assumption | ((try simp only [push_next, put_next, adv_next, List.length_cons, List.length_nil]); omega) | simp) [e0, e10, e13, show ¬ (p : Int) < i - 1 by omega]
    exact hR _ _ (by rw [hg']; simp) U
  | cons y S2 =>
    simp at hn1 hi
    have rx : h'.rdn b (p * 2) 2 = some (encKey.enc x) := by
      rw [hp]
      exact rd_mid (E := encKey) (ro := false) (r := r) (A := A ++ S1) (B := y :: (S2 ++ D)) (by rw [hg']; simp)
    have ry : h'.rdn b ((p + 1) * 2) 2 = some (encKey.enc y) := by
      have := rd_mid (E := encKey) (h := h') (b := b) (ro := false) (r := r) (A := A ++ (S1 ++ [x])) (x := y) (B := S2 ++ D) (by rw [hg']; simp)
      rw [show (A ++ (S1 ++ [x])).length = p + 1 by rw [hp]; simp; omega] at this
      exact this
    have w1 : h'.wr b (p * 2) (encKey.enc y) = some (h'.put b (some (.cells false (encKey.all (A ++ S1 ++ y :: (y :: (S2 ++ D))) ++ r)))) := by
      rw [hp]
      exact wr_mid (E := encKey) (x := x) (by rw [hg']; simp)
    have w2 : (h'.put b (some (.cells false (encKey.all (A ++ S1 ++ y :: (y :: (S2 ++ D))) ++ r)))).wr b ((p + 1) * 2) (encKey.enc x) = some (h'.put b (some (.cells false (encKey.all (A ++ (S1 ++ [y]) ++ x :: (S2 ++ D)) ++ r)))) := by
      have := wr_mid (E := encKey) (h := h'.put b (some (.cells false (encKey.all (A ++ S1 ++ y :: (y :: (S2 ++ D))) ++ r)))) (b := b) (A := A ++ (S1 ++ [y])) (x := y) (y := x) (B := S2 ++ D) (r := r) (by rw [get_put_self hlt]; simp)
      rw [put_put, show (A ++ (S1 ++ [y])).length = p + 1 by rw [hp]; simp; omega] at this
      exact this
    generalize encKey.all (A ++ S1 ++ y :: (y :: (S2 ++ D))) ++ r = C1 at w1 w2
    generalize hC2 : encKey.all (A ++ (S1 ++ [y]) ++ x :: (S2 ++ D)) ++ r = C2 at w2
    have b1 : (p : Int) + 1 < n := by omega
    simp (disch := first | assumption | ((try simp only [push_next, put_next, adv_next, List.length_cons, List.length_nil]); omega) | simp) [e0, e10, e13, show (p : Int) < i - 1 by omega, rx, ry, w1, w2, -Hp.wr, -over, encKey.len, show encKey.sz = 2 from rfl]
    apply ih S2.length (by simp)
    refine ⟨S1 ++ [y], S2, rfl, by simp, by simp [e0], by simp [e10], by simp; omega, by rw [get_put_self hlt, ← hC2]; simp, ⟨U.le, fun k hk hn => ?_, fun k hk => .inl hk⟩⟩
    rw [get_put_ne (by simpa using hn), U.get k hk hn]
theorem bubble2 {e : Env} {Q : Ex → Env → Hp → Prop} {k : List Fr} {A R D : List Key} {x : Key} {i : Int} (hn : n = (A ++ (R ++ (x :: D))).length) (hbig : n < 2 ^ 62) (hi : i = A.length)
    (hR : ∀ e' h', h'.get b = some (.cells false (encKey.all (A ++ (x :: (R ++ D))) ++ r)) → Upd h h' [b] [b] → GR T Q k (.x 6) e' h')
    (hg : h.get b = some (.cells false (encKey.all (A ++ (R ++ (x :: D))) ++ r))) (h0 : e 0 = .slice (some ⟨b, 0, sp⟩) n c) (h14 : e 14 = .int .i64 i) (h17 : e 17 = .int .i64 (A ++ R).length) :
    G T Q (.loop c10_slices_symMergeCmpFunc_input_Key) k e h := by
  refine G_loop (fun m e' h' => ∃ S1 S2, m = S1.length ∧ R = S1 ++ S2 ∧ e' 0 = .slice (some ⟨b, 0, sp⟩) n c ∧ e' 14 = .int .i64 i ∧ e' 17 = .int .i64 (A ++ S1).length ∧
      h'.get b = some (.cells false (encKey.all (A ++ (S1 ++ (x :: (S2 ++ D)))) ++ r)) ∧ Upd h h' [b] [b]) ?_ R.length e h ⟨R, [], rfl, by simp, h0, h14, h17, by simpa using hg, .refl⟩
  rintro m ih e' h' ⟨S1, S2, rfl, rfl, e0, e14, e17, hg', U⟩
  have hlt := lt_of_get hg'
  have hn1 := hn
  simp at hn1
  obtain ⟨p, hp⟩ : ∃ p, p = (A ++ S1).length := ⟨_, rfl⟩
  rw [← hp] at e17
  have hp1 := hp
  simp at hp1
  induction S1 using snocInd with
  | nil =>
    simp at hp1
    simp (disch := first | assumption | ((try simp only [push_next, put_next, adv_next, List.length_cons, List.length_nil]); omega) | simp) [e0, e14, e17, show ¬ i < (p : Int) by omega]
    exact hR _ _ (by rw [hg']; simp) U
  | append_singleton S1 y _ =>
    simp at hn1 hp1
    obtain ⟨o, ho⟩ : ∃ o, o = (A ++ S1).length := ⟨_, rfl⟩
    have ho1 := ho
    simp at ho1
    have hpo : p = o + 1 := by omega
    subst hpo
    have rx : h'.rdn b ((o + 1) * 2) 2 = some (encKey.enc x) := by
      rw [hp]
      exact rd_mid (E := encKey) (ro := false) (r := r) (A := A ++ (S1 ++ [y])) (B := S2 ++ D) (by rw [hg']; simp)
    have ry : h'.rdn b (o * 2) 2 = some (encKey.enc y) := by
      rw [ho]
      exact rd_mid (E := encKey) (h := h') (b := b) (ro := false) (r := r) (A := A ++ S1) (x := y) (B := x :: (S2 ++ D)) (by rw [hg']; simp)
    have w1 : h'.wr b ((o + 1) * 2) (encKey.enc y) = some (h'.put b (some (.cells false (encKey.all (A ++ (S1 ++ [y]) ++ y :: (S2 ++ D)) ++ r)))) := by
      rw [hp]
      exact wr_mid (E := encKey) (x := x) (by rw [hg']; simp)
    have w2 : (h'.put b (some (.cells false (encKey.all (A ++ (S1 ++ [y]) ++ y :: (S2 ++ D)) ++ r)))).wr b (o * 2) (encKey.enc x) = some (h'.put b (some (.cells false (encKey.all (A ++ S1 ++ x :: (y :: (S2 ++ D))) ++ r)))) := by
      have := wr_mid (E := encKey) (h := h'.put b (some (.cells false (encKey.all (A ++ (S1 ++ [y]) ++ y :: (S2 ++ D)) ++ r)))) (b := b) (A := A ++ S1) (x := y) (y := x) (B := y :: (S2 ++ D)) (r := r) (by rw [get_put_self hlt]; simp)
      rw [put_put, ← ho] at this
      exact this
    generalize encKey.all (A ++ (S1 ++ [y]) ++ y :: (S2 ++ D)) ++ r = C1 at w1 w2
    generalize hC2 : encKey.all (A ++ S1 ++ x :: (y :: (S2 ++ D))) ++ r = C2 at w2
    have e17' : e' 17 = .int .i64 ((o : Int) + 1) := by rw [e17]; rfl
    have b1 : (o : Int) + 1 < n := by omega
    clear e17
    simp (disch := first | assumption | ((try simp only [push_next, put_next, adv_next, List.length_cons, List.length_nil]); omega) | simp) [e0, e14, e17', show i < (o : Int) + 1 by omega, rx, ry, w1, w2, -Hp.wr, -over, encKey.len, show encKey.sz = 2 from rfl]
    apply ih S1.length (by simp)
    refine ⟨S1, y :: S2, rfl, by simp, by simp [e0], by simp [e14], by simp; omega, by rw [get_put_self hlt, ← hC2]; simp, ⟨U.le, fun k hk hn => ?_, fun k hk => .inl hk⟩⟩
    rw [get_put_ne (by simpa using hn), U.get k hk hn]
theorem srt_take {R : List Key} (hs : Srt key R) {t : Int} {k : Nat} (hk : k ≤ R.length) (hh : 0 < k → ∀ y, R[k - 1]? = some y → key y ≤ t) : ∀ y ∈ R.take k, key y ≤ t := by
  intro y hy
  obtain ⟨i, hi, rfl⟩ := List.mem_take_iff_getElem.1 hy
  have hi' : i < k ∧ i < R.length := by omega
  have h1 := hh (by omega) R[k - 1] (List.getElem?_eq_getElem (by omega))
  rcases Nat.lt_or_ge i (k - 1) with h2 | h2
  · have := List.pairwise_iff_getElem.1 hs i (k - 1) (by omega) (by omega) h2
    omega
  · have : i = k - 1 := by omega
    subst this
    exact h1
theorem srt_drop {R : List Key} (hs : Srt key R) {t : Int} {k : Nat} (hh : k < R.length → ∀ y, R[k]? = some y → t ≤ key y) : ∀ y ∈ R.drop k, t ≤ key y := by
  intro y hy
  obtain ⟨i, hi, rfl⟩ := List.mem_drop_iff_getElem.1 hy
  have h1 := hh (by omega) R[k] (List.getElem?_eq_getElem (by omega))
  rcases Nat.eq_zero_or_pos i with h2 | h2
  · subst h2
    exact h1
  · have := List.pairwise_iff_getElem.1 hs k (k + i) (by omega) (by omega) (by omega)
    omega
theorem srt_split {P P' : List Key} : Srt key (P ++ P') → Srt key P ∧ Srt key P' := fun hs => ⟨(List.pairwise_append.1 hs).1, (List.pairwise_append.1 hs).2.1⟩
theorem isort_ins1 {x : Key} {R1 R2 : List Key} (hR : Srt key (R1 ++ R2)) (h1 : ∀ y ∈ R1, key y < key x) (h2 : ∀ y ∈ R2, key x ≤ key y) : isort key (x :: (R1 ++ R2)) = R1 ++ x :: R2 := by
  have := isort_rotate key (l1 := []) (l2 := [x]) (r1 := R1) (r2 := R2) (by simpa using h1) (by simp) (by simp [Srt]) hR
  simp at this
  rw [this, isort_of_srt key (srt_split hR).1, isort_of_srt key (List.pairwise_cons.2 ⟨h2, (srt_split hR).2⟩)]
theorem isort_ins2 {y : Key} {P1 P2 : List Key} (hP : Srt key (P1 ++ P2)) (h1 : ∀ x ∈ P1, key x ≤ key y) (h2 : ∀ x ∈ P2, key y < key x) : isort key (P1 ++ (P2 ++ [y])) = P1 ++ y :: P2 := by
  have := isort_rotate key (l1 := P1) (l2 := P2) (r1 := [y]) (r2 := []) (by simpa using h2) (by simp) hP (by simp [Srt])
  simp at this
  rw [this, isort_of_srt key (srt_split hP).2, isort_of_srt key ((srt_snoc key).2 ⟨(srt_split hP).1, h1⟩)]
  simp
theorem get_app {α : Type} {A B : List α} {k j : Nat} (hk : k = A.length + j) : (A ++ B)[k]? = B[j]? := by
  subst hk
  rw [List.getElem?_append_right (by omega)]
  simp
set_option maxHeartbeats 1000000 in
theorem symMerge (hc : Cmp fc key) (hbig : n < 2 ^ 62) (N : Nat) : ∀ {A P R C : List Key} {i1 i2 i3 : Int} {h : Hp} {q : Value → Hp → Prop}, P.length + R.length ≤ N → P ≠ [] → R ≠ [] → Srt key P → Srt key R → n = (A ++ (P ++ (R ++ C))).length → i1 = A.length → i2 = A.length + P.length → i3 = A.length + P.length + R.length →
    h.get b = some (.cells false (encKey.all (A ++ (P ++ (R ++ C))) ++ r)) → (∀ v h', h'.get b = some (.cells false (encKey.all (A ++ (isort key (P ++ R) ++ C)) ++ r)) → Upd h h' [b] [b] → q v h') →
    WC T n_slices_symMergeCmpFunc_input_Key [.slice (some ⟨b, 0, sp⟩) n c, .int .i64 i1, .int .i64 i2, .int .i64 i3, .func (.func fc) #[] #[]] h q := by
  induction N with
  | zero =>
    intro A P R C i1 i2 i3 h q hN hP hR
    cases P with
    | nil => exact absurd rfl hP
    | cons => simp at hN
  | succ N ih =>
  intro A P R C i1 i2 i3 h q hN hP hR sP sR hn h1 h2 h3 hg hq
  obtain ⟨a, ha⟩ : ∃ a, a = A.length := ⟨_, rfl⟩
  obtain ⟨m, hm⟩ : ∃ m, m = A.length + P.length := ⟨_, rfl⟩
  obtain ⟨z, hz⟩ : ∃ z, z = A.length + P.length + R.length := ⟨_, rfl⟩
  obtain rfl : i1 = (a : Int) := by omega
  obtain rfl : i2 = (m : Int) := by omega
  obtain rfl : i3 = (z : Int) := by omega
  clear h1 h2 h3
  have hlP := List.length_pos_iff.2 hP
  have hlR := List.length_pos_iff.2 hR
  have hn1 := hn
  simp at hn1
  have hlt := lt_of_get hg
  rw [w_slices_symMergeCmpFunc_input_Key]
  by_cases c1 : P.length = 1
  · obtain ⟨x, rfl⟩ := List.length_eq_one_iff.1 c1
    simp at hm hz hn1
    simp (disch := first | assumption | ((try simp only [push_next, put_next, adv_next, List.length_cons, List.length_nil]); omega) | simp) [show (m : Int) - a = 1 by omega, -g2_slices_symMergeCmpFunc_input_Key, -g4_slices_symMergeCmpFunc_input_Key]
    refine search1 (r := r) (sp := sp) (c := c) hc (L := A ++ ([x] ++ (R ++ C))) (i := m) (j := z) (a := a) (x := x) hn hbig (by rw [get_app (j := 0) ha]; simp) ?_ hg (by simp) (by simp) (by simp) (by simp) (by simp) (by omega) (by omega)
    intro e' h' s he e10 hs1 hs2 g1 g2 K
    have hgx : ∀ j, j < R.length → (A ++ ([x] ++ (R ++ C)))[m + j]? = R[j]? := fun j hj => by
      rw [show A ++ ([x] ++ (R ++ C)) = (A ++ [x]) ++ (R ++ C) by simp, get_app (j := j) (by simp; omega), List.getElem?_append_left hj]
    have e0 := he 0 (by omega)
    have e1 := he 1 (by omega)
    simp at e0 e1
    simp (disch := first | assumption | ((try simp only [push_next, put_next, adv_next, List.length_cons, List.length_nil]); omega) | simp) [e0, e1, e10, -g4_slices_symMergeCmpFunc_input_Key]
    have hRs : R.take (s - m) ++ R.drop (s - m) = R := List.take_append_drop _ _
    refine bubble1 (r := r) (A := A) (R := R.take (s - m)) (D := R.drop (s - m) ++ C) (x := x) (i := s) (n := n) (c := c) (b := b) (sp := sp) (by rw [hn]; simp; omega) hbig (by simp; omega) ?_ (by rw [K.get b hlt, hg, ← List.append_assoc (R.take _), hRs]; simp) (by simp [e0]) (by simp [e10]) (by simp; omega)
    intro e2 h2 hg2 U2
    simp (disch := first | assumption | ((try simp only [push_next, put_next, adv_next, List.length_cons, List.length_nil]); omega) | simp)
    refine hq _ _ ?_ ((show Upd h h' [b] [b] from ⟨K.le, fun k hk _ => K.get k hk, fun k hk => .inl hk⟩).trans U2)
    have key1 := srt_take (t := key x - 1) sR (k := s - m) (by omega) fun h0 y hy => by
      have := g1 (by omega) y (by rw [show s - 1 = m + (s - m - 1) by omega, hgx _ (by omega)]; exact hy)
      omega
    have key2 := srt_drop (t := key x) sR (k := s - m) fun h0 y hy => by
      have := g2 (by omega) y (by rw [show s = m + (s - m) by omega, hgx _ (by omega)]; exact hy)
      omega
    have hI := isort_ins1 (x := x) (R1 := R.take (s - m)) (R2 := R.drop (s - m)) (by rw [hRs]; exact sR) (fun y hy => by have := key1 y hy; omega) key2
    rw [hRs] at hI
    rw [hg2, show [x] ++ R = x :: R from rfl, hI]
    simp
  by_cases c2 : R.length = 1
  · obtain ⟨x, rfl⟩ := List.length_eq_one_iff.1 c2
    simp at hm hz hn1
    simp (disch := first | assumption | ((try simp only [push_next, put_next, adv_next, List.length_cons, List.length_nil]); omega) | simp) [show ¬ (m : Int) - a = 1 by omega, show (z : Int) - m = 1 by omega, -g8_slices_symMergeCmpFunc_input_Key, -g10_slices_symMergeCmpFunc_input_Key]
    refine search2 (r := r) (sp := sp) (c := c) hc (L := A ++ (P ++ ([x] ++ C))) (i := a) (j := m) (a := m) (x := x) hn hbig (by rw [show A ++ (P ++ ([x] ++ C)) = (A ++ P) ++ ([x] ++ C) by simp, get_app (j := 0) (by simp; omega)]; simp) ?_ hg (by simp) (by simp) (by simp) (by simp) (by simp) (by omega) (by omega)
    intro e' h' s he e14 hs1 hs2 g1 g2 K
    have hgx : ∀ j, j < P.length → (A ++ (P ++ ([x] ++ C)))[a + j]? = P[j]? := fun j hj => by
      rw [get_app (j := j) (by omega), List.getElem?_append_left hj]
    have e0 := he 0 (by omega)
    have e2 := he 2 (by omega)
    simp at e0 e2
    simp (disch := first | assumption | ((try simp only [push_next, put_next, adv_next, List.length_cons, List.length_nil]); omega) | simp) [e0, e2, e14, -g10_slices_symMergeCmpFunc_input_Key]
    have hPs : P.take (s - a) ++ P.drop (s - a) = P := List.take_append_drop _ _
    refine bubble2 (r := r) (A := A ++ P.take (s - a)) (R := P.drop (s - a)) (D := C) (x := x) (i := s) (n := n) (c := c) (b := b) (sp := sp) (by rw [hn]; simp; omega) hbig (by simp; omega) ?_ (by rw [K.get b hlt, hg, List.append_assoc, ← List.append_assoc (P.take _), hPs]; simp) (by simp [e0]) (by simp [e14]) (by simp; omega)
    intro e2 h2 hg2 U2
    simp (disch := first | assumption | ((try simp only [push_next, put_next, adv_next, List.length_cons, List.length_nil]); omega) | simp)
    refine hq _ _ ?_ ((show Upd h h' [b] [b] from ⟨K.le, fun k hk _ => K.get k hk, fun k hk => .inl hk⟩).trans U2)
    have key1 := srt_take (t := key x) sP (k := s - a) (by omega) fun h0 y hy => by
      have := g1 (by omega) y (by rw [show s - 1 = a + (s - a - 1) by omega, hgx _ (by omega)]; exact hy)
      omega
    have key2 := srt_drop (t := key x + 1) sP (k := s - a) fun h0 y hy => by
      have := g2 (by omega) y (by rw [show s = a + (s - a) by omega, hgx _ (by omega)]; exact hy)
      omega
    have hI := isort_ins2 (y := x) (P1 := P.take (s - a)) (P2 := P.drop (s - a)) (by rw [hPs]; exact sP) key1 (fun y hy => by have := key2 y hy; omega)
    rw [← List.append_assoc, hPs] at hI
    rw [hg2, hI]
    simp
  obtain ⟨M, hM⟩ : ∃ M, M = (a + z) / 2 := ⟨_, rfl⟩
  obtain ⟨w, hw⟩ : ∃ w, w = M + m := ⟨_, rfl⟩
  have hh := half (x := (a : Int) + (z : Int)) (m := M) (by omega) (by omega) (by omega)
  have hwz : (M : Int) + (m : Int) = (w : Int) := by omega
  have main : ∀ (e : Env) (lo hi : Nat), (M < m ∧ lo = w - z ∧ hi = M) ∨ (m ≤ M ∧ lo = a ∧ hi = m) → e 0 = .slice (some ⟨b, 0, sp⟩) n c → e 1 = .int .i64 a → e 2 = .int .i64 m → e 3 = .int .i64 z → e 4 = .func (.func fc) #[] #[] → e 18 = .int .i64 M → e 19 = .int .i64 w → e 20 = .int .i64 lo → e 21 = .int .i64 hi →
      G T (fin [] (some []) h.next q) c19_slices_symMergeCmpFunc_input_Key [] e h := by
    intro e lo hi hlh e0 e1 e2 e3 e4 e18 e19 e20 e21
    simp (disch := first | assumption | ((try simp only [push_next, put_next, adv_next, List.length_cons, List.length_nil]); omega) | simp) [e19, -g18_slices_symMergeCmpFunc_input_Key, -g15_slices_symMergeCmpFunc_input_Key]
    refine search3 (r := r) (sp := sp) (c := c) hc (L := A ++ (P ++ (R ++ C))) (i := lo) (j := hi) (p := w - 1) hn hbig ?_ hg (by simp [e0]) (by simp [e4]) (by simp [e20]) (by simp [e21]) (by simp; omega) (by omega) (by omega) (by omega) (by omega)
    intro e' h' s he e20' hs1 hs2 g1 g2 K
    obtain ⟨en, hen⟩ : ∃ en, en = w - s := ⟨_, rfl⟩
    have hens : (w : Int) - (s : Int) = (en : Int) := by omega
    have f0 := he 0 (by omega)
    have f1 := he 1 (by omega)
    have f2 := he 2 (by omega)
    have f3 := he 3 (by omega)
    have f4 := he 4 (by omega)
    have f18 := he 18 (by omega)
    have f19 := he 19 (by omega)
    simp [e0, e1, e2, e3, e4, e18, e19] at f0 f1 f2 f3 f4 f18 f19
    have pget : ∀ j k, k = a + j → j < P.length → (A ++ (P ++ (R ++ C)))[k]? = P[j]? := fun j k hk hj => by
      rw [get_app (j := j) (by omega), List.getElem?_append_left hj]
    have rget : ∀ j k, k = m + j → j < R.length → (A ++ (P ++ (R ++ C)))[k]? = R[j]? := fun j k hk hj => by
      rw [show A ++ (P ++ (R ++ C)) = (A ++ P) ++ (R ++ C) by simp, get_app (j := j) (by simp; omega), List.getElem?_append_left hj]
    have hA : ∀ x ∈ P.drop (s - a), ∀ y ∈ R.take (en - m), key y < key x := by
      intro x hx y hy
      have l1 := List.length_pos_of_mem hx
      have l2 := List.length_pos_of_mem hy
      simp at l1 l2
      have q1 : R[en - m - 1]? = some R[en - m - 1] := List.getElem?_eq_getElem (by omega)
      have q2 : P[s - a]? = some P[s - a] := List.getElem?_eq_getElem (by omega)
      generalize R[en - m - 1] = y0 at q1
      generalize P[s - a] = x0 at q2
      have := g2 (by omega) y0 x0 (by rw [rget (en - m - 1) _ (by omega) (by omega), q1]) (by rw [pget (s - a) _ (by omega) (by omega), q2])
      have k1 := srt_take (t := key y0) sR (k := en - m) (by omega) (fun _ u hu => by rw [q1] at hu; cases hu; exact Int.le_refl _) y hy
      have k2 := srt_drop (t := key x0) sP (k := s - a) (fun _ u hu => by rw [q2] at hu; cases hu; exact Int.le_refl _) x hx
      omega
    have hB : ∀ x ∈ P.take (s - a), ∀ y ∈ R.drop (en - m), key x ≤ key y := by
      intro x hx y hy
      have l1 := List.length_pos_of_mem hx
      have l2 := List.length_pos_of_mem hy
      simp at l1 l2
      have q1 : R[en - m]? = some R[en - m] := List.getElem?_eq_getElem (by omega)
      have q2 : P[s - a - 1]? = some P[s - a - 1] := List.getElem?_eq_getElem (by omega)
      generalize R[en - m] = y0 at q1
      generalize P[s - a - 1] = x0 at q2
      have := g1 (by omega) y0 x0 (by rw [rget (en - m) _ (by omega) (by omega), q1]) (by rw [pget (s - a - 1) _ (by omega) (by omega), q2])
      have k1 := srt_drop (t := key y0) sR (k := en - m) (fun _ u hu => by rw [q1] at hu; cases hu; exact Int.le_refl _) y hy
      have k2 := srt_take (t := key x0) sP (k := s - a) (by omega) (fun _ u hu => by rw [q2] at hu; cases hu; exact Int.le_refl _) x hx
      omega
    obtain ⟨P1, P2, hP12, lP1, hA1, hB1⟩ : ∃ P1 P2, P = P1 ++ P2 ∧ P1.length = s - a ∧ (∀ x ∈ P2, ∀ y ∈ R.take (en - m), key y < key x) ∧ (∀ x ∈ P1, ∀ y ∈ R.drop (en - m), key x ≤ key y) :=
      ⟨P.take (s - a), P.drop (s - a), (List.take_append_drop _ _).symm, by simp; omega, hA, hB⟩
    obtain ⟨R1, R2, hR12, lR1, hA2, hB2⟩ : ∃ R1 R2, R = R1 ++ R2 ∧ R1.length = en - m ∧ (∀ x ∈ P2, ∀ y ∈ R1, key y < key x) ∧ (∀ x ∈ P1, ∀ y ∈ R2, key x ≤ key y) :=
      ⟨R.take (en - m), R.drop (en - m), (List.take_append_drop _ _).symm, by simp; omega, hA1, hB1⟩
    clear hA hB hA1 hB1 pget rget g1 g2
    subst hP12
    subst hR12
    have hI := isort_rotate key hA2 hB2 sP sR
    simp at hlP hlR hm hz hN hn1 c1 c2
    have sP1 := (srt_split sP).1
    have sP2 := (srt_split sP).2
    have sR1 := (srt_split sR).1
    have sR2 := (srt_split sR).2
    have nil_of : ∀ {l : List Key}, l.length = 0 → l = [] := fun hh => List.eq_nil_of_length_eq_zero hh
    have st3 : ∀ (e : Env) (h1 : Hp), e 0 = .slice (some ⟨b, 0, sp⟩) n c → e 3 = .int .i64 z → e 4 = .func (.func fc) #[] #[] → e 18 = .int .i64 M → e 24 = .int .i64 en → h1.get b = some (.cells false (encKey.all (A ++ (isort key (P1 ++ R1) ++ (P2 ++ (R2 ++ C)))) ++ r)) → Upd h h1 [b] [b] →
        G T (fin [] (some []) h.next q) c16_slices_symMergeCmpFunc_input_Key [] e h1 := by
      intro e h1 e0 e3 e4 e18 e24 hg1 U1
      have no : P2 = [] ∨ R2 = [] → ∀ v, q v h1 := fun hor v => hq _ _ (by
        rw [hI, hg1]
        rcases hor with rfl | rfl
        · rw [show ([] : List Key) ++ R2 = R2 from rfl, isort_of_srt key sR2]; simp
        · rw [show P2 ++ ([] : List Key) = P2 from List.append_nil _, isort_of_srt key sP2]; simp) U1
      by_cases t1 : M < en
      · by_cases t2 : en < z
        · simp (disch := first | assumption | ((try simp only [push_next, put_next, adv_next, List.length_cons, List.length_nil]); omega) | simp) [e0, e3, e4, e18, e24, t1, t2]
          refine GC_intro (ih (A := A ++ isort key (P1 ++ R1)) (P := P2) (R := R2) (C := C) (by omega) (List.length_pos_iff.1 (by omega)) (List.length_pos_iff.1 (by omega)) sP2 sR2 (by rw [hn]; simp; omega) (by simp; omega) (by simp; omega) (by simp; omega) (by rw [hg1]; simp) fun v h2 hg2 U2 => ?_) fun v h2 hh => hh
          simp (disch := first | assumption | ((try simp only [push_next, put_next, adv_next, List.length_cons, List.length_nil]); omega) | simp)
          exact hq _ _ (by rw [hI, hg2]; simp) (U1.trans U2)
        · simp (disch := first | assumption | ((try simp only [push_next, put_next, adv_next, List.length_cons, List.length_nil]); omega) | simp) [e0, e3, e4, e18, e24, t1, t2]
          exact no (.inr (nil_of (by omega))) _
      · simp (disch := first | assumption | ((try simp only [push_next, put_next, adv_next, List.length_cons, List.length_nil]); omega) | simp) [e0, e3, e4, e18, e24, t1]
        exact no (.inl (nil_of (by omega))) _
    have st2 : ∀ (e : Env) (h1 : Hp), e 0 = .slice (some ⟨b, 0, sp⟩) n c → e 1 = .int .i64 a → e 3 = .int .i64 z → e 4 = .func (.func fc) #[] #[] → e 18 = .int .i64 M → e 20 = .int .i64 s → e 24 = .int .i64 en → h1.get b = some (.cells false (encKey.all (A ++ (P1 ++ (R1 ++ (P2 ++ (R2 ++ C))))) ++ r)) → Upd h h1 [b] [b] →
        G T (fin [] (some []) h.next q) c17_slices_symMergeCmpFunc_input_Key [] e h1 := by
      intro e h1 e0 e1 e3 e4 e18 e20 e24 hg1 U1
      have no : P1 = [] ∨ R1 = [] → h1.get b = some (.cells false (encKey.all (A ++ (isort key (P1 ++ R1) ++ (P2 ++ (R2 ++ C)))) ++ r)) := fun hor => by
        rw [hg1]
        rcases hor with rfl | rfl
        · rw [show ([] : List Key) ++ R1 = R1 from rfl, isort_of_srt key sR1]; simp
        · rw [show P1 ++ ([] : List Key) = P1 from List.append_nil _, isort_of_srt key sP1]; simp
      by_cases t1 : a < s
      · by_cases t2 : s < M
        · simp (disch := first | assumption | ((try simp only [push_next, put_next, adv_next, List.length_cons, List.length_nil]); omega) | simp) [e0, e1, e3, e4, e18, e20, e24, t1, t2, -g16_slices_symMergeCmpFunc_input_Key]
          refine GC_intro (ih (A := A) (P := P1) (R := R1) (C := P2 ++ (R2 ++ C)) (by omega) (List.length_pos_iff.1 (by omega)) (List.length_pos_iff.1 (by omega)) sP1 sR1 (by rw [hn]; simp; omega) (by omega) (by omega) (by omega) hg1 fun v h2 hg2 U2 => ?_) fun v h2 hh => hh
          simp (disch := first | assumption | ((try simp only [push_next, put_next, adv_next, List.length_cons, List.length_nil]); omega) | simp) [-g16_slices_symMergeCmpFunc_input_Key]
          exact st3 _ _ (by simp [e0]) (by simp [e3]) (by simp [e4]) (by simp [e18]) (by simp [e24]) hg2 (U1.trans U2)
        · simp (disch := first | assumption | ((try simp only [push_next, put_next, adv_next, List.length_cons, List.length_nil]); omega) | simp) [e0, e1, e3, e4, e18, e20, e24, t1, t2, -g16_slices_symMergeCmpFunc_input_Key]
          exact st3 _ _ (by simp [e0]) (by simp [e3]) (by simp [e4]) (by simp [e18]) (by simp [e24]) (no (.inr (nil_of (by omega)))) U1
      · simp (disch := first | assumption | ((try simp only [push_next, put_next, adv_next, List.length_cons, List.length_nil]); omega) | simp) [e0, e1, e3, e4, e18, e20, e24, t1, -g16_slices_symMergeCmpFunc_input_Key]
        exact st3 _ _ (by simp [e0]) (by simp [e3]) (by simp [e4]) (by simp [e18]) (by simp [e24]) (no (.inl (nil_of (by omega)))) U1
    have hg' : h'.get b = some (.cells false (encKey.all (A ++ (P1 ++ (P2 ++ (R1 ++ (R2 ++ C))))) ++ r)) := by rw [K.get b hlt, hg]; simp
    have U' : Upd h h' [b] [b] := ⟨K.le, fun k hk _ => K.get k hk, fun k hk => .inl hk⟩
    have no : P2 = [] ∨ R1 = [] → h'.get b = some (.cells false (encKey.all (A ++ (P1 ++ (R1 ++ (P2 ++ (R2 ++ C))))) ++ r)) := fun hor => by
      rw [hg']
      rcases hor with rfl | rfl <;> simp
    by_cases t1 : s < m
    · by_cases t2 : m < en
      · simp (disch := first | assumption | ((try simp only [push_next, put_next, adv_next, List.length_cons, List.length_nil]); omega) | simp) [f0, f1, f2, f3, f4, f18, f19, e20', hens, t1, t2, -g17_slices_symMergeCmpFunc_input_Key]
        refine GC_intro (rotate (r := r) (A := A ++ P1) (P := P2) (Q := R1) (C := R2 ++ C) (List.length_pos_iff.1 (by omega)) (List.length_pos_iff.1 (by omega)) (by rw [hn]; simp) hbig (by simp; omega) (by simp; omega) (by simp; omega) (by rw [hg']; simp) fun v h2 hg2 U2 => ?_) fun v h2 hh => hh
        simp (disch := first | assumption | ((try simp only [push_next, put_next, adv_next, List.length_cons, List.length_nil]); omega) | simp) [-g17_slices_symMergeCmpFunc_input_Key]
        exact st2 _ _ (by simp [f0]) (by simp [f1]) (by simp [f3]) (by simp [f4]) (by simp [f18]) (by simp [e20']) (by simp) (by rw [hg2]; simp) (U'.trans U2)
      · simp (disch := first | assumption | ((try simp only [push_next, put_next, adv_next, List.length_cons, List.length_nil]); omega) | simp) [f0, f1, f2, f3, f4, f18, f19, e20', hens, t1, t2, -g17_slices_symMergeCmpFunc_input_Key]
        exact st2 _ _ (by simp [f0]) (by simp [f1]) (by simp [f3]) (by simp [f4]) (by simp [f18]) (by simp [e20']) (by simp) (no (.inr (nil_of (by omega)))) U'
    · simp (disch := first | assumption | ((try simp only [push_next, put_next, adv_next, List.length_cons, List.length_nil]); omega) | simp) [f0, f1, f2, f3, f4, f18, f19, e20', hens, t1, -g17_slices_symMergeCmpFunc_input_Key]
      exact st2 _ _ (by simp [f0]) (by simp [f1]) (by simp [f3]) (by simp [f4]) (by simp [f18]) (by simp [e20']) (by simp) (no (.inl (nil_of (by omega)))) U'
  have d1 : ¬ (m : Int) - a = 1 := by omega
  have d2 : ¬ (z : Int) - m = 1 := by omega
  by_cases hmM : M < m
  · simp (disch := first | assumption | ((try simp only [push_next, put_next, adv_next, List.length_cons, List.length_nil]); omega) | simp) [d1, d2, hh, hwz, hmM, -g19_slices_symMergeCmpFunc_input_Key]
    exact main _ (w - z) M (.inl ⟨hmM, rfl, rfl⟩) (by simp) (by simp) (by simp) (by simp) (by simp) (by simp) (by simp) (by simp; omega) (by simp)
  · simp (disch := first | assumption | ((try simp only [push_next, put_next, adv_next, List.length_cons, List.length_nil]); omega) | simp) [d1, d2, hh, hwz, hmM, -g19_slices_symMergeCmpFunc_input_Key]
    exact main _ a m (.inr ⟨by omega, rfl, rfl⟩) (by simp) (by simp) (by simp) (by simp) (by simp) (by simp) (by simp) (by simp) (by simp)
end
end Go.Proofs.Ytppgoobhlcdbbaa.Cd
