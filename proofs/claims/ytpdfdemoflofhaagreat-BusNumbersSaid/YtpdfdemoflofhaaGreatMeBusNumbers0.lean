/- Texts of one kind, one behind the other. -/
import Derived.Test.YtpdfdemoflofhaaGreatMd1
import Derived.Test.YtpdfdemoflofhaaGreatMc0
/- Insertion sort of a row, as the library does it. -/
set_option maxRecDepth 1000000
set_option linter.unusedSimpArgs false
set_option linter.unusedVariables false
namespace Go.Proofs.YtpdfdemoflofhaaGreat.Cd
open Go Go.Dx
structure Ev where
  at' : Int
  dev : Int
  seq : Int
def encEv : Enc Ev := ⟨3, fun x => [.int .i64 x.at', .int .i64 x.dev, .int .i64 x.seq], fun _ => rfl, fun _ => rfl, by decide⟩
@[simp] theorem encEv_sz : encEv.sz = 3 := rfl
instance (x y : Ev) : Decidable (x = y) :=
  if h : x.at' = y.at' ∧ x.dev = y.dev ∧ x.seq = y.seq then .isTrue (by cases x; cases y; simp_all) else .isFalse (fun e => h (by subst e; simp))
theorem isNaN {n : Int} {h : Hp} {q : Value → Hp → Prop} : WC T n_cmp_isNaN_int64 [.int .i64 n] h q ↔ q (.bool false) h := by
  rw [w_cmp_isNaN_int64]
  simp
theorem compare {m n : Int} {h : Hp} {q : Value → Hp → Prop} : WC T n_cmp_Compare_int64 [.int .i64 m, .int .i64 n] h q ↔ q (.int .i64 (cmpI m n)) h := by
  rw [w_cmp_Compare_int64]
  simp [GC_of (fun q => isNaN)]
  unfold cmpI
  by_cases h1 : m < n
  · simp [h1]
  · by_cases h2 : n < m
    · simp [h1, h2]
    · simp [h1, h2]
section
variable {h : Hp} {b n c a z : Nat} {sp : Option Nat} {fc : Nat} {key : Ev → Int} {r : List Value}
def Cmp (fc : Nat) (key : Ev → Int) : Prop := ∀ x y (h : Hp), WC T fc [.agg (encEv.enc x).toArray, .agg (encEv.enc y).toArray] h fun v h' => v = .int .i64 (cmpI (key x) (key y)) ∧ Kp h h'
theorem isort_inner {e : Env} {Q : Ex → Env → Hp → Prop} {k : List Fr} (hc : Cmp fc key) {u rest : List Ev} {x : Ev} {p : List Ev} (hn : n = (u ++ p ++ x :: rest).length) (hbig : n < 2 ^ 62)
    (R : Env → Hp → Prop) (hR : ∀ e' h', R e' h' → GR T Q k (.x 2) e' h')
    (hout : ∀ e' h', (∀ t, t ≤ 8 → e' t = e t) → h'.get b = some (.cells false (encEv.all (u ++ insl key x p ++ rest) ++ r)) → Upd h h' [b] [b] → R e' h')
    (hg : h.get b = some (.cells false (encEv.all (u ++ p ++ x :: rest) ++ r))) (h0 : e 0 = .slice (some ⟨b, 0, sp⟩) n c) (h1 : e 1 = .int .i64 u.length) (h3 : e 3 = .func (.func fc) #[] #[]) (h9 : e 9 = .int .i64 (u ++ p).length) :
    G T Q (.loop c1_slices_insertionSortCmpFunc_api_Event) k e h := by
  refine G_loop (fun m e' h' => ∃ q s, m = q.length ∧ p = q ++ s ∧ insl key x p = insl key x q ++ s ∧ h'.get b = some (.cells false (encEv.all (u ++ q ++ x :: (s ++ rest)) ++ r)) ∧ Upd h h' [b] [b] ∧ (∀ t, t ≤ 8 → e' t = e t) ∧ e' 9 = .int .i64 (u ++ q).length) ?_ p.length e h
    ⟨p, [], rfl, by simp, by simp, by simpa using hg, .refl, fun _ _ => rfl, h9⟩
  rintro m ih e' h' ⟨q, s, rfl, hp, hi, hg', U, he, e9⟩
  have e0 := (he 0 (by omega)).trans h0
  have e1 := (he 1 (by omega)).trans h1
  have e3 := (he 3 (by omega)).trans h3
  have hlt := lt_of_get hg'
  induction q using snocInd with
  | nil =>
    simp (maxSteps := 1000000) (disch := first | assumption | ((try simp only [push_next, put_next, adv_next, List.length_cons, List.length_nil, List.length_map, List.length_set]); omega) | simp) [e0, e1, e3, e9]
    refine hR _ _ (hout _ _ (fun t ht => ?_) (by rw [hi]; simpa using hg') U)
    repeat rw [upd_ne _ (by omega)]
    exact he t ht
  | append_singleton q y _ =>
    have hl : (u ++ (q ++ [y])).length = (u ++ q).length + 1 := by simp; omega
    have hnl : (u ++ q).length + 1 < n := by rw [hn, hp]; simp; omega
    have rx : h'.rdn b (((u ++ q).length + 1) * 3) 3 = some (encEv.enc x) := by
      have := rd_mid (E := encEv) hg'
      rw [hl] at this
      exact this
    have ry : h'.rdn b ((u ++ q).length * 3) 3 = some (encEv.enc y) :=
      rd_mid (E := encEv) (ro := false) (r := r) (A := u ++ q) (B := x :: (s ++ rest)) (by rw [hg']; simp)
    have e9' : e' 9 = .int .i64 (((u ++ q).length : Int) + 1) := by rw [e9, hl]; rfl
    have gt : (u.length : Int) < ((u ++ q).length : Int) + 1 := by simp; omega
    clear e9
    generalize hA : (u ++ q).length = A at *
    simp (maxSteps := 1000000) (disch := first | assumption | ((try simp only [push_next, put_next, adv_next, List.length_cons, List.length_nil, List.length_map, List.length_set]); omega) | simp) [e0, e1, e3, e9', gt, rx, ry]
    refine GC_intro (hc x y h') fun v h2 ⟨hv, K⟩ => ?_
    subst hv
    have hg2 : h2.get b = some (.cells false (encEv.all (u ++ (q ++ [y]) ++ x :: (s ++ rest)) ++ r)) := by rw [K.get b hlt, hg']
    have hlt2 := lt_of_get hg2
    have U2 : Upd h h2 [b] [b] := U.trans ⟨K.le, fun k hk _ => K.get k hk, fun k hk => .inl hk⟩
    by_cases hlt3 : key x < key y
    · have hcm : cmpI (key x) (key y) < 0 := cmpI_lt.2 hlt3
      have rx2 : h2.rdn b ((A + 1) * 3) 3 = some (encEv.enc x) := rdn_kp rx (K.get b hlt)
      have ry2 : h2.rdn b (A * 3) 3 = some (encEv.enc y) := rdn_kp ry (K.get b hlt)
      have w1 : h2.wr b ((A + 1) * 3) (encEv.enc y) = some (h2.put b (some (.cells false (encEv.all (u ++ (q ++ [y]) ++ y :: (s ++ rest)) ++ r)))) := by
        have := wr_mid (E := encEv) (y := y) hg2
        rw [hl] at this
        exact this
      have w2 : (h2.put b (some (.cells false (encEv.all (u ++ (q ++ [y]) ++ y :: (s ++ rest)) ++ r)))).wr b (A * 3) (encEv.enc x) = some (h2.put b (some (.cells false (encEv.all ((u ++ q) ++ x :: (y :: (s ++ rest))) ++ r)))) := by
        have := wr_mid (E := encEv) (h := h2.put b (some (.cells false (encEv.all (u ++ (q ++ [y]) ++ y :: (s ++ rest)) ++ r)))) (b := b) (A := u ++ q) (x := y) (y := x) (B := y :: (s ++ rest)) (r := r) (by rw [get_put_self hlt2]; simp)
        rw [hA, put_put] at this
        exact this
      generalize encEv.all (u ++ (q ++ [y]) ++ y :: (s ++ rest)) ++ r = C1 at w1 w2
      generalize hC2 : encEv.all ((u ++ q) ++ x :: (y :: (s ++ rest))) ++ r = C2 at w2
      simp (maxSteps := 1000000) (disch := first | assumption | ((try simp only [push_next, put_next, adv_next, List.length_cons, List.length_nil, List.length_map, List.length_set]); omega) | simp) [hcm, e0, e1, e3, e9', rx2, ry2, w1, w2, -Hp.wr, -over, encEv.len, show encEv.sz = 3 from rfl]
      apply ih q.length (by simp)
      refine ⟨q, y :: s, rfl, by rw [hp]; simp, by rw [hi, insl_lt key q hlt3]; simp, by rw [get_put_self hlt2, ← hC2]; simp, ⟨U2.le, fun k hk hn => ?_, fun k hk => .inl hk⟩, fun t ht => ?_, ?_⟩
      · rw [get_put_ne (by simpa using hn), U2.get k hk hn]
      · repeat rw [upd_ne _ (by omega)]
        exact he t ht
      · simp [hA]
    · have hcm : ¬ cmpI (key x) (key y) < 0 := fun hh => hlt3 (cmpI_lt.1 hh)
      simp (maxSteps := 1000000) (disch := first | assumption | ((try simp only [push_next, put_next, adv_next, List.length_cons, List.length_nil, List.length_map, List.length_set]); omega) | simp) [hcm]
      refine hR _ _ (hout _ _ (fun t ht => ?_) (by rw [hi, insl_le key q hlt3, hg2]; simp) U2)
      repeat rw [upd_ne _ (by omega)]
      exact he t ht
theorem isort_run (hc : Cmp fc key) {u m t : List Ev} (hn : n = (u ++ m ++ t).length) (hbig : n < 2 ^ 62) (hg : h.get b = some (.cells false (encEv.all (u ++ m ++ t) ++ r))) :
    WC T n_slices_insertionSortCmpFunc_api_Event [.slice (some ⟨b, 0, sp⟩) n c, .int .i64 u.length, .int .i64 (u.length + m.length : Nat), .func (.func fc) #[] #[]] h fun _ h' => h'.get b = some (.cells false (encEv.all (u ++ isort key m ++ t) ++ r)) ∧ Upd h h' [b] [b] := by
  have hul : u.length < n ∨ (u.length ≤ n ∧ m = []) := by
    rw [hn]
    cases m <;> simp
  rw [w_slices_insertionSortCmpFunc_api_Event]
  simp (maxSteps := 1000000) (disch := first | assumption | ((try simp only [push_next, put_next, adv_next, List.length_cons, List.length_nil, List.length_map, List.length_set]); omega) | simp)
  refine G_loop (fun k e h' => ∃ m1 m2 : List Ev, k = m2.length ∧ m = m1 ++ m2 ∧ (m1 = [] → m2 = []) ∧ e 0 = .slice (some ⟨b, 0, sp⟩) n c ∧ e 1 = .int .i64 u.length ∧ e 2 = .int .i64 (u.length + m.length : Nat) ∧ e 3 = .func (.func fc) #[] #[] ∧ (m1 ≠ [] → e 8 = .int .i64 (u.length + m1.length : Nat)) ∧ (m1 = [] → e 8 = .int .i64 (u.length + 1 : Nat)) ∧
      h'.get b = some (.cells false (encEv.all (u ++ isort key m1 ++ m2 ++ t) ++ r)) ∧ Upd h h' [b] [b]) ?_ (m.length - 1) _ _ ?_
  · rintro k ih e h' ⟨m1, m2, rfl, rfl, h10, e0, e1, e2, e3, e8, e8', hg', U⟩
    cases m2 with
    | nil =>
      by_cases h1 : m1 = []
      · subst h1
        simp (maxSteps := 1000000) (disch := first | assumption | ((try simp only [push_next, put_next, adv_next, List.length_cons, List.length_nil, List.length_map, List.length_set]); omega) | simp) [e0, e1, e2, e3, e8' rfl, show ¬ ((u.length : Int) + 1 < u.length) by omega]
        refine ⟨by simpa using hg', U⟩
      · simp (maxSteps := 1000000) (disch := first | assumption | ((try simp only [push_next, put_next, adv_next, List.length_cons, List.length_nil, List.length_map, List.length_set]); omega) | simp) [e0, e1, e2, e3, e8 h1]
        refine ⟨by simpa using hg', U⟩
    | cons x m2 =>
      have h1 : m1 ≠ [] := fun hh => by cases h10 hh
      have hb : (u.length : Int) + m1.length + 1 < 9223372036854775808 := by
        have := hn
        simp at this
        omega
      have hlen : (u.length : Int) + m1.length < u.length + (m1.length + (m2.length + 1)) := by omega
      simp (maxSteps := 1000000) (disch := first | assumption | ((try simp only [push_next, put_next, adv_next, List.length_cons, List.length_nil, List.length_map, List.length_set]); omega) | simp) [e0, e1, e2, e3, e8 h1, hlen, -g1_slices_insertionSortCmpFunc_api_Event]
      refine isort_inner hc (u := u) (rest := m2 ++ t) (x := x) (p := isort key m1) (r := r) (n := n) (c := c) (sp := sp) (b := b) (by rw [hn]; simp) hbig (fun e' h2 => e' 0 = .slice (some ⟨b, 0, sp⟩) n c ∧ e' 1 = .int .i64 u.length ∧ e' 2 = .int .i64 (u.length + (m1 ++ x :: m2).length : Nat) ∧ e' 3 = .func (.func fc) #[] #[] ∧ e' 8 = .int .i64 (u.length + m1.length : Nat) ∧ h2.get b = some (.cells false (encEv.all (u ++ insl key x (isort key m1) ++ (m2 ++ t)) ++ r)) ∧ Upd h' h2 [b] [b]) ?_ ?_ ?_ (by simp [e0]) (by simp [e1]) (by simp [e3]) (by simp)
      · rintro e' h2 ⟨f0, f1, f2, f3, f8, hg2, U2⟩
        simp (maxSteps := 1000000) (disch := first | assumption | ((try simp only [push_next, put_next, adv_next, List.length_cons, List.length_nil, List.length_map, List.length_set]); omega) | simp) [f8, -g2_slices_insertionSortCmpFunc_api_Event]
        apply ih m2.length (by simp)
        refine ⟨m1 ++ [x], m2, rfl, by simp, by simp, by simp [f0], by simp [f1], by simp [f2], by simp [f3], fun _ => ?_, by simp, by rw [isort_snoc, hg2]; simp, U.trans U2⟩
        simp
        omega
      · intro e' h2 he hg2 U2
        refine ⟨by rw [he 0 (by omega)]; simp [e0], by rw [he 1 (by omega)]; simp [e1], by rw [he 2 (by omega)]; simp [e2], by rw [he 3 (by omega)]; simp [e3], by rw [he 8 (by omega)]; simp [e8 h1], hg2, U2⟩
      · rw [hg']; simp
  · cases m with
    | nil => exact ⟨[], [], rfl, rfl, fun _ => rfl, by simp, by simp, by simp, by simp, by simp, by simp, by simpa using hg, .refl⟩
    | cons x m => exact ⟨[x], m, rfl, rfl, by simp, by simp, by simp, by simp, by simp, by simp, by simp, by simpa using hg, .refl⟩
end
end Go.Proofs.YtpdfdemoflofhaaGreat.Cd

/- Clone of a row, and whether two rows are the same. -/
set_option maxRecDepth 1000000
set_option linter.unusedSimpArgs false
set_option linter.unusedVariables false
namespace Go.Proofs.YtpdfdemoflofhaaGreat.Cd
open Go Go.Dx
section
variable {h : Hp} {a a' : Option Addr} {c c' : Nat} {xs ys : List Ev}
theorem clone_ev {q : Value → Hp → Prop} (hs : Sees encEv h a xs) (hb : xs.length < 2 ^ 40) (hq : ∀ a' c' h', Sees encEv h' a' xs → Kp h h' → (∀ A, a' = some A → h.next ≤ A.block) → (xs = [] ∨ ∃ fp, Own encEv h' (.slice a' xs.length c') xs fp ∧ ∀ b ∈ fp, h.next ≤ b) → q (.slice a' xs.length c') h') : WC T n_slices_Clone_api_Event_api_Event [.slice a xs.length c] h q := by
  rw [w_slices_Clone_api_Event_api_Event]
  cases a with
  | none =>
    have := hs.nil rfl
    subst this
    simp (maxSteps := 1000000) (disch := first | assumption | ((try simp only [push_next, put_next, adv_next, List.length_cons, List.length_nil, List.length_map, List.length_set]); omega) | simp) [isNil]
    exact hq none 0 h Sees.nul (.refl _) (fun A hA => (by cases hA)) (.inl rfl)
  | some A =>
    simp (maxSteps := 1000000) (disch := first | assumption | ((try simp only [push_next, put_next, adv_next, List.length_cons, List.length_nil, List.length_map, List.length_set]); omega) | simp) [isNil]
    have K1 : Kp h (h.push (.cells false [])) := (Kp.refl h).push _
    have he := (hs.kp K1).elems (c := c)
    by_cases h0 : xs.length = 0
    · have : xs = [] := List.length_eq_zero_iff.1 h0
      subst this
      have e : appendV (h.push (.cells false [])) 3 24 (.slice (some ⟨h.next, 0, none⟩) 0 0) (.slice (some A) 0 c) = some (.slice (some ⟨h.next, 0, none⟩) 0 0, h.push (.cells false [])) := by
        have he' : elems (h.push (.cells false [])) 3 0 (.slice (some A) 0 c) = some [] := he
        simp [appendV, lenV, he']
      simp only [List.length_nil, e]
      simp (maxSteps := 1000000) (disch := first | assumption | ((try simp only [push_next, put_next, adv_next, List.length_cons, List.length_nil, List.length_map, List.length_set]); omega) | simp)
      refine hq _ 0 _ ⟨fun hA => (by cases hA), fun B hB => ?_, fun B hB => (by cases hB; first | exact .inl rfl | exact .inr rfl)⟩ K1 (fun A hA => by cases hA; exact Nat.le_refl _) (.inl rfl)
      cases hB
      simp [Hp.rdn, get_push_self]
    · have e : appendV (h.push (.cells false [])) 3 24 (.slice (some ⟨h.next, 0, none⟩) 0 0) (.slice (some A) xs.length c) = some (.slice (some ⟨h.next + 1, 0, some 3⟩) xs.length xs.length, (h.push (.cells false [])).push (.cells false (encEv.all xs))) := by
        have he' : elems (h.push (.cells false [])) 3 xs.length (.slice (some A) xs.length c) = some (encEv.all xs) := he
        have hl : (encEv.all xs).length = xs.length * 3 := encEv.all_length xs
        simp only [appendV, lenV, he', hl, if_true, Nat.zero_add]
        rw [if_neg (by omega), if_pos ⟨by omega, by omega⟩]
        simp [Hp.rdn, get_push_self]
      rw [e]
      simp (maxSteps := 1000000) (disch := first | assumption | ((try simp only [push_next, put_next, adv_next, List.length_cons, List.length_nil, List.length_map, List.length_set]); omega) | simp)
      refine hq _ _ _ ⟨fun hA => (by cases hA), fun B hB => ?_, fun B hB => (by cases hB; first | exact .inl rfl | exact .inr rfl)⟩ (K1.push _) (fun A hA => by cases hA; simp) (.inr ⟨_, .blk (E := encEv) (r := []) (by rw [show h.next + 1 = (h.push (.cells false [])).next from rfl, get_push_self]; simp) rfl (Nat.le_refl _) (by omega) (by simp), by simp⟩)
      cases hB
      simp only [Hp.rdn, Hp.cells, show h.next + 1 = (h.push (.cells false [])).next from rfl, get_push_self, Option.bind_some, Nat.zero_add]
      rw [if_pos (by simp), List.drop_zero, List.take_of_length_le (by simp)]
end
end Go.Proofs.YtpdfdemoflofhaaGreat.Cd

/- The wheel: what each function does. -/
set_option maxRecDepth 1000000
set_option linter.unusedSimpArgs false
set_option linter.unusedVariables false
namespace Go.Proofs.YtpdfdemoflofhaaGreat.Cd
open Go Go.Dx
section
variable {h : Hp} {q : Value → Hp → Prop}
theorem sort_small {b n c : Nat} {sp : Option Nat} {fc : Nat} {key : Ev → Int} {r : List Value} {m : List Ev} (hc : Cmp fc key) (hn : n = m.length) (hs : n < 20) (hg : h.get b = some (.cells false (encEv.all m ++ r)))
    (hq : ∀ h', h'.get b = some (.cells false (encEv.all (isort key m) ++ r)) → Upd h h' [b] [b] → q (.tuple #[]) h') : WC T n_slices_SortStableFunc_api_Event_api_Event [.slice (some ⟨b, 0, sp⟩) n c, .func (.func fc) #[] #[]] h q := by
  have h20 : ¬ (20 : Int) ≤ n := by omega
  have h20' : ¬ (20 : Int) < n := by omega
  rw [w_slices_SortStableFunc_api_Event_api_Event]
  simp (maxSteps := 1000000) (disch := first | assumption | ((try simp only [push_next, put_next, adv_next, List.length_cons, List.length_nil, List.length_map, List.length_set]); omega) | simp)
  unfold GC
  rw [w_slices_stableCmpFunc_api_Event]
  simp (maxSteps := 1000000) (disch := first | assumption | ((try simp only [push_next, put_next, adv_next, List.length_cons, List.length_nil, List.length_map, List.length_set]); omega) | simp)
  refine G_round.2 ?_
  simp (maxSteps := 1000000) (disch := first | assumption | ((try simp only [push_next, put_next, adv_next, List.length_cons, List.length_nil, List.length_map, List.length_set]); omega) | simp) [h20]
  have := isort_run (n := n) (c := c) (sp := sp) (u := []) (t := []) (m := m) (r := r) hc (by simpa using hn) (by omega) (by simpa using hg)
  simp only [List.length_nil, Nat.zero_add, ← hn] at this
  refine GC_intro this fun v h' ⟨h1, h2⟩ => ?_
  simp (maxSteps := 1000000) (disch := first | assumption | ((try simp only [push_next, put_next, adv_next, List.length_cons, List.length_nil, List.length_map, List.length_set]); omega) | simp) [-g6_slices_stableCmpFunc_api_Event]
  refine G_round.2 ?_
  simp (maxSteps := 1000000) (disch := first | assumption | ((try simp only [push_next, put_next, adv_next, List.length_cons, List.length_nil, List.length_map, List.length_set]); omega) | simp) [h20']
  exact hq _ (by simpa using h1) h2
/-- The place of the first one that is meant. -/
def place (p : Ev → Bool) (xs : List Ev) : Int := match xs.findIdx? p with | some i => i | none => -1
theorem indexFunc {a : Option Addr} {c : Nat} {xs : List Ev} {fc : Nat} {caps : List Value} {p : Ev → Bool} (hs : Sees encEv h a xs) (hb : xs.length < 2 ^ 40)
    (hf : ∀ x h', Kp h h' → WC T fc (.agg (encEv.enc x).toArray :: caps) h' fun v h'' => v = .bool (p x) ∧ Kp h' h'') (hq : ∀ h', Kp h h' → q (.int .i64 (place p xs)) h') :
    WC T n_slices_IndexFunc_api_Event_api_Event [.slice a xs.length c, .func (.func fc) #[] caps.toArray] h q := by
  rw [w_slices_IndexFunc_api_Event_api_Event]
  simp (maxSteps := 1000000) (disch := first | assumption | ((try simp only [push_next, put_next, adv_next, List.length_cons, List.length_nil, List.length_map, List.length_set]); omega) | simp)
  refine G_loop (fun n e h' => ∃ us bs, n = bs.length ∧ xs = us ++ bs ∧ (∀ x ∈ us, p x = false) ∧ e 0 = .slice a xs.length c ∧ e 1 = .func (.func fc) #[] caps.toArray ∧ e 7 = .int .i64 xs.length ∧ e 8 = .int .i64 us.length ∧ Kp h h') ?_ xs.length _ _ ⟨[], xs, rfl, rfl, by simp, by simp, by simp, by simp, by simp, .refl _⟩
  rintro n ih e h' ⟨us, bs, rfl, hx, has, e0, e1, e7, e8, K⟩
  cases bs with
  | nil =>
    have : place p xs = -1 := by
      have : xs.findIdx? p = none := by
        rw [List.findIdx?_eq_none_iff]
        intro x hm
        rw [hx, List.append_nil] at hm
        simpa using has x hm
      simp [place, this]
    rw [List.append_nil] at hx
    have h9 := hq _ K
    rw [this] at h9
    simp (maxSteps := 1000000) (disch := first | assumption | ((try simp only [push_next, put_next, adv_next, List.length_cons, List.length_nil, List.length_map, List.length_set]); omega) | simp) [e7, e8, hx]
    exact h9
  | cons x bs =>
    have hlt : (us.length : Int) < xs.length := by rw [hx]; simp; omega
    obtain ⟨A, hA, hr⟩ := Sees.mid (A := us) (x := x) (B := bs) (by rw [← hx]; exact hs)
    have hr' : h'.rdn A.block (A.off + us.length * 3) 3 = some (encEv.enc x) := rdn_kp hr (K.get _ (lt_of_rdn hr))
    simp (maxSteps := 1000000) (disch := first | assumption | ((try simp only [push_next, put_next, adv_next, List.length_cons, List.length_nil, List.length_map, List.length_set]); omega) | simp) [e0, e1, e7, e8, hlt, hA, hr']
    refine GC_intro (hf x h' K) fun v h2 ⟨hv, K2⟩ => ?_
    subst hv
    cases hp : p x with
    | true =>
      have : place p xs = us.length := by
        have : xs.findIdx? p = some us.length := by
          rw [hx, List.findIdx?_append, List.findIdx?_eq_none_iff.2 (by simpa using has)]
          simp [hp, List.findIdx?_cons]
        simp [place, this]
      simp (maxSteps := 1000000) (disch := first | assumption | ((try simp only [push_next, put_next, adv_next, List.length_cons, List.length_nil, List.length_map, List.length_set]); omega) | simp)
      rw [← this]
      exact hq _ (K.trans K2)
    | false =>
      simp (maxSteps := 1000000) (disch := first | assumption | ((try simp only [push_next, put_next, adv_next, List.length_cons, List.length_nil, List.length_map, List.length_set]); omega) | simp) [e8]
      apply ih bs.length (by simp)
      refine ⟨us ++ [x], bs, rfl, by simp [hx], fun y hy => ?_, by simp [e0], by simp [e1], by simp [e7], by simp, K.trans K2⟩
      rcases List.mem_append.1 hy with hy | hy
      · exact has y hy
      · simp at hy; rw [hy]; exact hp
/-- One is taken out. -/
theorem delete {b n c : Nat} {A B : List Ev} {x : Ev} {r : List Value} (hn : n = (A ++ x :: B).length) (hg : h.get b = some (.cells false (encEv.all (A ++ x :: B) ++ r))) (hc : n ≤ c) (hr : r.length = (c - n) * 3) (hb : n < 2 ^ 40)
    (hq : ∀ h', Own encEv h' (.slice (some ⟨b, 0, some 3⟩) (n - 1) c) (A ++ B) [b] → Upd h h' [b] [b] → q (.slice (some ⟨b, 0, some 3⟩) (n - 1) c) h') :
    WC T n_slices_Delete_api_Event_api_Event [.slice (some ⟨b, 0, some 3⟩) n c, .int .i64 A.length, .int .i64 ((A.length : Int) + 1)] h q := by
  subst hn
  have hlt := lt_of_get hg
  have hl : (A ++ x :: B).length = A.length + B.length + 1 := by simp; omega
  have hl2 : (A ++ B).length = A.length + B.length := by simp
  have he : elems h 3 B.length (.slice (some ⟨b, (A.length + 1) * 3, some 3⟩) B.length (c - (A.length + 1))) = some (encEv.all B) := by
    have hp := encEv.part (A ++ x :: B) r (A.length + 1) B.length (by rw [hl]; omega)
    have hall : (encEv.all (A ++ x :: B) ++ r).length = c * 3 := by
      have : (encEv.all (A ++ x :: B)).length = (A ++ x :: B).length * 3 := encEv.all_length _
      rw [List.length_append, this, hr]
      omega
    simp only [elems, Hp.rdn, Hp.cells, hg, Option.bind_some]
    rw [if_pos (by rw [hall]; omega)]
    have hp' : ((encEv.all (A ++ x :: B) ++ r).drop ((A.length + 1) * 3)).take (B.length * 3) = encEv.all (((A ++ x :: B).drop (A.length + 1)).take B.length) := hp
    rw [hp']
    congr 2
    rw [show A ++ x :: B = (A ++ [x]) ++ B by simp, show A.length + 1 = (A ++ [x]).length by simp, List.drop_left, List.take_length]
  have happ : ∃ C, appendV h 3 24 (.slice (some ⟨b, 0, some 3⟩) A.length c) (.slice (some ⟨b, (A.length + 1) * 3, some 3⟩) B.length (c - (A.length + 1))) = some (.slice (some ⟨b, 0, some 3⟩) (A.length + B.length) c, h.put b (some (.cells false C))) ∧ C = encEv.all (A ++ B) ++ C.drop ((A ++ B).length * 3) ∧ C.length = c * 3 := by
    have hall : (encEv.all (A ++ x :: B)).length = (A ++ x :: B).length * 3 := encEv.all_length _
    have hB : (encEv.all B).length = B.length * 3 := encEv.all_length B
    have hAl : (encEv.all A).length = A.length * 3 := encEv.all_length A
    have hAB : (encEv.all (A ++ B)).length = (A ++ B).length * 3 := encEv.all_length _
    by_cases h0 : B.length = 0
    · have : B = [] := List.length_eq_zero_iff.1 h0
      subst this
      refine ⟨encEv.all (A ++ [x]) ++ r, ?_, ?_, by rw [List.length_append, hall, hr]; omega⟩
      · have hself : h.put b (some (.cells false (encEv.all (A ++ [x]) ++ r))) = h := Hp.ext' rfl fun k => by
          by_cases hk : k = b
          · subst hk; rw [get_put_self hlt, hg]
          · rw [get_put_ne hk]
        simp only [List.length_nil, Enc.all_nil] at he
        simp only [appendV, lenV, he, List.length_nil, Nat.zero_mul, if_true, Nat.add_zero, hself]
        rw [if_pos (by omega)]
      · rw [List.append_nil, ← hAl, Enc.all_append, List.append_assoc, List.drop_left]
    · refine ⟨over (encEv.all (A ++ x :: B) ++ r) (A.length * 3) (encEv.all B), ?_, ?_, ?_⟩
      · simp only [appendV, lenV, he, hB, if_true]
        rw [if_pos (by omega), if_neg h0, if_pos (by simp), wr_ok hg (by rw [List.length_append, hall, hB, hr]; omega) (encEv.all_one B)]
        simp
      · have := encEv.over (A ++ x :: B) B r A.length (by rw [hl]; omega)
        have this' : over (encEv.all (A ++ x :: B) ++ r) (A.length * 3) (encEv.all B) = encEv.all ((A ++ x :: B).take A.length ++ B ++ (A ++ x :: B).drop (A.length + B.length)) ++ r := this
        rw [this', List.take_left, Enc.all_append encEv (A ++ B), List.append_assoc, ← hAB, List.drop_left]
      · unfold over
        simp only [List.length_append, List.length_take, List.length_drop, hall, hB, hr, List.length_cons] at *
        omega
  obtain ⟨C, happ, hC, hCl⟩ := happ
  have hABl : (encEv.all (A ++ B)).length = (A ++ B).length * 3 := encEv.all_length _
  have hw : (h.put b (some (.cells false C))).wr b ((A ++ B).length * 3) [Value.int .i64 0, .int .i64 0, .int .i64 0] = some (h.put b (some (.cells false (encEv.all (A ++ B) ++ ([Value.int .i64 0, .int .i64 0, .int .i64 0] ++ C.drop ((A ++ B).length * 3 + 3)))))) := by
    rw [wr_ok (get_put_self hlt) (by rw [hCl]; simp; omega) (by rfl), put_put]
    congr 4
    unfold over
    have h1 : C.take ((A ++ B).length * 3) = encEv.all (A ++ B) := by
      rw [hC, ← hABl, List.take_left]
    rw [h1, List.append_assoc]
    rfl
  rw [w_slices_Delete_api_Event_api_Event]
  have hne : ¬ ((A.length : Int) = (A.length : Int) + 1) := by omega
  obtain ⟨v1, b1⟩ := sliceV_max (sz := 3) (b := b) (o := 0) (n := A.length + B.length + 1) (c := c) (k := .i64) (j := .i64) (m := .i64) (lo := A.length) (hi := (A.length : Int) + 1) (mx := (A.length : Int) + B.length + 1) (by omega) (by omega) (by omega) (by omega)
  rw [hl]
  have c1 : ((A.length : Int) + 1 : Int).toNat = A.length + 1 := by omega
  have c2 : A.length + B.length + 1 - (A.length + 1) = B.length := by omega
  have c3 : ((A.length : Int) + B.length + 1).toNat - (A.length + B.length) = 1 := by omega
  have c4 : ((A.length : Int) + B.length).toNat = A.length + B.length := by omega
  rw [hl2] at hw
  generalize hC2 : encEv.all (A ++ B) ++ ([Value.int .i64 0, .int .i64 0, .int .i64 0] ++ C.drop ((A.length + B.length) * 3 + 3)) = C2 at hw
  simp (maxSteps := 1000000) (disch := first | assumption | ((try simp only [push_next, put_next, adv_next, List.length_cons, List.length_nil, List.length_map, List.length_set]); omega) | simp) [b1, hne, c1, c2, happ, c3, c4, -Hp.wr, -over, hw]
  rw [hl, show A.length + B.length + 1 - 1 = (A ++ B).length by omega] at hq
  rw [← hl2]
  refine hq _ (.blk (E := encEv) (r := [Value.int .i64 0, .int .i64 0, .int .i64 0] ++ C.drop ((A.length + B.length) * 3 + 3)) (by rw [get_put_self hlt, hC2]) rfl (by omega) (by omega) ?_) ⟨by simp, fun k hk hn => by rw [get_put_ne (by simpa using hn)], fun k hk => .inl hk⟩
  rw [List.length_append, List.length_drop, hCl, hl2]
  show 3 + _ = (c - (A.length + B.length)) * 3
  omega
theorem place_cases (p : Ev → Bool) (L : List Ev) : ((∀ x ∈ L, p x = false) ∧ place p L = -1) ∨ ∃ A x B, L = A ++ x :: B ∧ (∀ y ∈ A, p y = false) ∧ p x = true ∧ place p L = A.length := by
  induction L with
  | nil => exact .inl ⟨by simp, rfl⟩
  | cons y L ih =>
    cases hy : p y with
    | true => exact .inr ⟨[], y, L, rfl, by simp, hy, by simp [place, List.findIdx?_cons, hy]⟩
    | false =>
      rcases ih with ⟨h1, h2⟩ | ⟨A, x, B, h1, h2, h3, h4⟩
      · refine .inl ⟨fun x hx => ?_, ?_⟩
        · rcases List.mem_cons.1 hx with rfl | hx
          · exact hy
          · exact h1 x hx
        · have : L.findIdx? p = none := by rw [List.findIdx?_eq_none_iff]; simpa using h1
          simp [place, List.findIdx?_cons, hy, this]
      · refine .inr ⟨y :: A, x, B, by rw [h1]; rfl, fun z hz => ?_, h3, ?_⟩
        · rcases List.mem_cons.1 hz with rfl | hz
          · exact hy
          · exact h2 z hz
        · have : L.findIdx? p = some A.length := by
            rw [h1, List.findIdx?_append, List.findIdx?_eq_none_iff.2 (by simpa using h2)]
            simp [h3, List.findIdx?_cons]
          simp [place, List.findIdx?_cons, hy, this]
/-- A wheel in memory. -/
structure Wh (h : Hp) (w : Nat) (L : List Ev) (s : Int) (fp : List Nat) : Prop where
  ex : ∃ sl, h.get w = some (.cells false [sl, .int .i64 s]) ∧ Own encEv h sl L fp
  nw : w ∉ fp
theorem Wh.keep {w : Nat} {L : List Ev} {s : Int} {fp : List Nat} {h' : Hp} (W : Wh h w L s fp) (hk : ∀ b ∈ w :: fp, h'.get b = h.get b) : Wh h' w L s fp := by
  obtain ⟨sl, h1, h2⟩ := W.ex
  exact ⟨⟨sl, by rw [hk w (by simp), h1], h2.keep fun b hb => hk b (by simp [hb])⟩, W.nw⟩
theorem Wh.live {w : Nat} {L : List Ev} {s : Int} {fp : List Nat} (W : Wh h w L s fp) : ∀ b ∈ w :: fp, b < h.next := by
  obtain ⟨sl, h1, h2⟩ := W.ex
  intro b hb
  rcases List.mem_cons.1 hb with rfl | hb
  · exact lt_of_get h1
  · exact h2.live b hb
theorem Wh.kp {w : Nat} {L : List Ev} {s : Int} {fp : List Nat} {h' : Hp} (W : Wh h w L s fp) (hk : Kp h h') : Wh h' w L s fp := W.keep fun b hb => hk.get b (W.live b hb)
theorem wnew : WC T n_wheel_New [] h q ↔ q (ptr h.next 0) (h.push (.cells false [.slice none 0 0, .int .i64 0])) := by
  rw [w_wheel_New]
  simp (maxSteps := 1000000) (disch := first | assumption | ((try simp only [push_next, put_next, adv_next, List.length_cons, List.length_nil, List.length_map, List.length_set]); omega) | simp)
theorem Wh.new : Wh (h.push (.cells false [.slice none 0 0, .int .i64 0])) h.next [] 0 [] := ⟨⟨_, get_push_self, .nul⟩, by simp⟩
theorem find1 {x : Ev} {b : Nat} {d : Int} (hb : h.get b = some (.cells false [.int .i64 d])) : WC T n_wheel_Wheel_find_1 [.agg (encEv.enc x).toArray, ptr b 0] h fun v h' => v = .bool (decide (x.dev = d)) ∧ Kp h h' := by
  have hlt := lt_of_get hb
  rw [w_wheel_Wheel_find_1]
  simp (maxSteps := 1000000) (disch := first | assumption | ((try simp only [push_next, put_next, adv_next, List.length_cons, List.length_nil, List.length_map, List.length_set]); omega) | simp) [encEv, hb]
  exact (Kp.refl h).push _
theorem wfind {w : Nat} {L : List Ev} {s : Int} {fp : List Nat} {d : Int} (W : Wh h w L s fp) (hb : L.length < 2 ^ 40) (hq : ∀ h', Kp h h' → q (.int .i64 (place (fun x => decide (x.dev = d)) L)) h') : WC T n_wheel_Wheel_find [ptr w 0, .int .i64 d] h q := by
  obtain ⟨sl, h1, h2⟩ := W.ex
  obtain ⟨a, c, rfl, hs, _, _⟩ := h2.len
  have hlt := lt_of_get h1
  rw [w_wheel_Wheel_find]
  simp (maxSteps := 1000000) (disch := first | assumption | ((try simp only [push_next, put_next, adv_next, List.length_cons, List.length_nil, List.length_map, List.length_set]); omega) | simp) [h1]
  have K : Kp h (h.push (.cells false [.int .i64 d])) := (Kp.refl h).push _
  refine indexFunc (p := fun x => decide (x.dev = d)) (caps := [ptr h.next 0]) (hs.kp K) hb (fun x h' K' => ?_) fun h' K' => ?_
  · refine find1 ?_
    rw [K'.get _ (by simp), get_push_self]
  · simp (maxSteps := 1000000) (disch := first | assumption | ((try simp only [push_next, put_next, adv_next, List.length_cons, List.length_nil, List.length_map, List.length_set]); omega) | simp)
    exact hq _ (K.trans K')
/-- What is left. -/
def wcan (d : Int) (L : List Ev) : List Ev := L.eraseP fun x => decide (x.dev = d)
def whas (d : Int) (L : List Ev) : Bool := L.any fun x => decide (x.dev = d)
theorem wcan_none {d : Int} {L : List Ev} (h : ∀ x ∈ L, decide (x.dev = d) = false) : wcan d L = L ∧ whas d L = false := by
  refine ⟨List.eraseP_of_forall_not fun x hx => by simp [h x hx], ?_⟩
  unfold whas
  rw [List.any_eq_false]
  intro x hx
  simp only [h x hx]
  simp
theorem wcan_some {d : Int} {A B : List Ev} {x : Ev} (h : ∀ y ∈ A, decide (y.dev = d) = false) (hx : decide (x.dev = d) = true) : wcan d (A ++ x :: B) = A ++ B ∧ whas d (A ++ x :: B) = true := by
  refine ⟨?_, by unfold whas; simp only [List.any_append, List.any_cons, hx, Bool.true_or, Bool.or_true]⟩
  unfold wcan
  rw [List.eraseP_append_right _ (by simpa using h), List.eraseP_cons_of_pos (p := fun x : Ev => decide (x.dev = d)) hx]
theorem wcancel {w : Nat} {L : List Ev} {s : Int} {fp : List Nat} {d : Int} (W : Wh h w L s fp) (hb : L.length < 2 ^ 40) (hq : ∀ h' fp', Wh h' w (wcan d L) s fp' → Upd h h' (w :: fp) (w :: fp') → q (.bool (whas d L)) h') : WC T n_wheel_Wheel_Cancel [ptr w 0, .int .i64 d] h q := by
  rw [w_wheel_Wheel_Cancel]
  simp (maxSteps := 1000000) (disch := first | assumption | ((try simp only [push_next, put_next, adv_next, List.length_cons, List.length_nil, List.length_map, List.length_set]); omega) | simp)
  refine wfind W hb fun h1 K => ?_
  have W1 := W.kp K
  have U1 : Upd h h1 (w :: fp) (w :: fp) := ⟨K.le, fun b hb _ => K.get b hb, fun b hb => .inl hb⟩
  rcases place_cases (fun x => decide (x.dev = d)) L with ⟨ha, hp⟩ | ⟨A, x, B, rfl, ha, hx, hp⟩
  · obtain ⟨e1, e2⟩ := wcan_none ha
    simp (maxSteps := 1000000) (disch := first | assumption | ((try simp only [push_next, put_next, adv_next, List.length_cons, List.length_nil, List.length_map, List.length_set]); omega) | simp) [hp]
    rw [← e2]
    exact hq h1 fp (by rw [e1]; exact W1) U1
  · obtain ⟨e1, e2⟩ := wcan_some (B := B) ha hx
    obtain ⟨sl, g1, g2⟩ := W1.ex
    have hlt := lt_of_get g1
    have hlen : (A ++ x :: B).length < 2 ^ 40 := hb
    have hA : (A.length : Int) + 1 < 2 ^ 40 := by simp at hlen; omega
    generalize hL : A ++ x :: B = L' at g2
    cases g2 with
    | nul => simp at hL
    | emp => simp at hL
    | blk hg hn hc h0 hr =>
      rename_i b n c r
      subst hL
      have hwb : w ≠ b := fun e => W.nw (by simp [e])
      have hnn : ¬ ((A.length : Int) < 0) := by omega
      simp (maxSteps := 1000000) (disch := first | assumption | ((try simp only [push_next, put_next, adv_next, List.length_cons, List.length_nil, List.length_map, List.length_set]); omega) | simp) [hp, g1, hnn]
      refine delete hn hg hc hr (by omega) fun h2 o2 u2 => ?_
      have g2' : h2.get w = some (.cells false [.slice (some ⟨b, 0, some 3⟩) n c, .int .i64 s]) := by
        rw [u2.get w hlt (by simpa using hwb), g1]
        rfl
      have hlt2 := lt_of_get g2'
      have h9 := hq
      rw [e1, e2] at h9
      simp (maxSteps := 1000000) (disch := first | assumption | ((try simp only [push_next, put_next, adv_next, List.length_cons, List.length_nil, List.length_map, List.length_set]); omega) | simp) [g2']
      refine h9 _ [b] ⟨⟨_, get_put_self hlt2, ?_⟩, W.nw⟩ ⟨?_, fun k hk hm => ?_, fun k hk => .inl hk⟩
      · exact o2.keep fun k hk => get_put_ne (by simp at hk; omega)
      · exact Nat.le_trans K.le u2.le
      · simp at hm
        rw [get_put_ne hm.1, u2.get k (Nat.lt_of_lt_of_le hk K.le) (by simpa using hm.2), K.get k hk]
theorem wnext {w : Nat} {L : List Ev} {s : Int} {fp : List Nat} (W : Wh h w L s fp) : WC T n_wheel_Wheel_Next [ptr w 0] h q ↔ q (.tuple #[.int .i64 (L.head?.elim 0 (·.at')), .bool (!L.isEmpty)]) h := by
  obtain ⟨sl, g1, g2⟩ := W.ex
  obtain ⟨a, c, rfl, hs, _, _⟩ := g2.len
  rw [w_wheel_Wheel_Next]
  cases L with
  | nil => simp (maxSteps := 1000000) (disch := first | assumption | ((try simp only [push_next, put_next, adv_next, List.length_cons, List.length_nil, List.length_map, List.length_set]); omega) | simp) [g1]
  | cons x B =>
    obtain ⟨A0, rfl, hr⟩ := hs.mid (A := [])
    have hr' : h.rdn A0.block (A0.off + 0 * 3) 3 = some (encEv.enc x) := hr
    obtain ⟨ro, C, hg, hC⟩ := rdn_cells hr'
    have hC0 := hC 0 (by omega)
    simp [encEv] at hC0
    have hnn : ¬ ((B.length : Int) + 1 = 0) := by omega
    simp (maxSteps := 1000000) (disch := first | assumption | ((try simp only [push_next, put_next, adv_next, List.length_cons, List.length_nil, List.length_map, List.length_set]); omega) | simp) [g1, hg, hC0, hnn]
theorem wtake {w : Nat} {L : List Ev} {s now : Int} {fp : List Nat} (W : Wh h w L s fp) (hb : L.length < 2 ^ 40) (hno : (∀ x ∈ L.head?, now < x.at') → ∀ h', Kp h h' → q (.tuple #[.agg #[.int .i64 0, .int .i64 0, .int .i64 0], .bool false]) h')
    (hyes : ∀ x B, L = x :: B → x.at' ≤ now → ∀ h' fp', Wh h' w B s fp' → Upd h h' (w :: fp) (w :: fp') → q (.tuple #[.agg (encEv.enc x).toArray, .bool true]) h') : WC T n_wheel_Wheel_Take [ptr w 0, .int .i64 now] h q := by
  rw [w_wheel_Wheel_Take]
  simp (maxSteps := 1000000) (disch := first | assumption | ((try simp only [push_next, put_next, adv_next, List.length_cons, List.length_nil, List.length_map, List.length_set]); omega) | simp)
  have K1 : Kp h (h.push (.cells false [.int .i64 0, .int .i64 0, .int .i64 0])) := (Kp.refl h).push _
  have W1 := W.kp K1
  have z0 : (h.push (.cells false [.int .i64 0, .int .i64 0, .int .i64 0])).get h.next = some (.cells false [.int .i64 0, .int .i64 0, .int .i64 0]) := get_push_self
  have n0 : (h.push (.cells false [.int .i64 0, .int .i64 0, .int .i64 0])).next = h.next + 1 := rfl
  generalize h.push (.cells false [.int .i64 0, .int .i64 0, .int .i64 0]) = h0 at *
  rw [GC_of fun q => wnext W1]
  obtain ⟨sl, g1, g2⟩ := W1.ex
  cases L with
  | nil =>
    simp (maxSteps := 1000000) (disch := first | assumption | ((try simp only [push_next, put_next, adv_next, List.length_cons, List.length_nil, List.length_map, List.length_set]); omega) | simp) [Hp.rdn, z0]
    exact hno (by simp) _ (K1.put (Nat.le_refl _) _)
  | cons x B =>
    by_cases hx : now < x.at'
    · simp (maxSteps := 1000000) (disch := first | assumption | ((try simp only [push_next, put_next, adv_next, List.length_cons, List.length_nil, List.length_map, List.length_set]); omega) | simp) [hx, Hp.rdn, z0]
      exact hno (by simpa using hx) _ (K1.put (Nat.le_refl _) _)
    · generalize hL : x :: B = L' at g2
      cases g2 with
      | nul => simp at hL
      | emp => simp at hL
      | blk hg hn hc h1 hr =>
        rename_i b n c r
        subst hL
        have hwb : w ≠ b := fun e => W.nw (by simp [e])
        have hwn : w < h.next := W.live w (by simp)
        have hbn : b < h.next := W.live b (by simp)
        have hr2 : h0.rdn b 0 3 = some (encEv.enc x) := rd_mid (E := encEv) (A := []) hg
        have hnp : (0 : Int) < n := by rw [hn]; simp
        have hlen : n < 2 ^ 40 := by rw [hn]; exact hb
        have K2 : Kp h0 ((h0.push (.cells false [.int .i64 0, .int .i64 0, .int .i64 0])).put h0.next (some (.cells false [.int .i64 x.at', .int .i64 x.dev, .int .i64 x.seq]))) := ((Kp.refl h0).push _).put (Nat.le_refl _) _
        simp (maxSteps := 1000000) (disch := first | assumption | ((try simp only [push_next, put_next, adv_next, List.length_cons, List.length_nil, List.length_map, List.length_set]); omega) | simp) [hx, g1, hnp, hr2, encEv]
        generalize hh1 : (h0.push (.cells false [.int .i64 0, .int .i64 0, .int .i64 0])).put h0.next (some (.cells false [.int .i64 x.at', .int .i64 x.dev, .int .i64 x.seq])) = h1 at *
        have y1 : h1.get h0.next = some (.cells false [.int .i64 x.at', .int .i64 x.dev, .int .i64 x.seq]) := by rw [← hh1, get_put_self (by simp)]
        have g1' : h1.get w = some (.cells false [.slice (some ⟨b, 0, some 3⟩) n c, .int .i64 s]) := by rw [K2.get w (by omega), g1]; rfl
        have hg' : h1.get b = some (.cells false (encEv.all ([] ++ x :: B) ++ r)) := by rw [K2.get b (by omega), hg]; rfl
        have z1 : h1.get h.next = some (.cells false [.int .i64 0, .int .i64 0, .int .i64 0]) := by rw [K2.get _ (by omega), z0]
        have hwl := lt_of_get g1'
        have hnl := K2.le
        refine delete (A := []) (x := x) (B := B) (by simpa using hn) hg' hc hr hlen fun h2 o2 u2 => ?_
        have g2' : h2.get w = some (.cells false [.slice (some ⟨b, 0, some 3⟩) n c, .int .i64 s]) := by rw [u2.get w hwl (by simpa using hwb), g1']
        have y2 : h2.get h0.next = some (.cells false [.int .i64 x.at', .int .i64 x.dev, .int .i64 x.seq]) := by rw [u2.get _ (lt_of_get y1) (by simp; omega), y1]
        have z2 : h2.get h.next = some (.cells false [.int .i64 0, .int .i64 0, .int .i64 0]) := by rw [u2.get _ (lt_of_get z1) (by simp; omega), z1]
        have hwl2 := lt_of_get g2'
        have hyl2 := lt_of_get y2
        have hzl2 := lt_of_get z2
        simp (maxSteps := 1000000) (disch := first | assumption | ((try simp only [push_next, put_next, adv_next, List.length_cons, List.length_nil, List.length_map, List.length_set]); omega) | simp) [g2', y2, z2, Hp.rdn]
        refine hyes x B rfl (by omega) _ [b] ⟨⟨_, ?_, o2.keep fun k hk => ?_⟩, W.nw⟩ ⟨?_, fun k hk hm => ?_, fun k hk => .inl hk⟩
        · rw [get_put_ne (by omega), get_put_self (by omega)]
        · simp at hk
          subst hk
          rw [get_put_ne (by omega), get_put_ne (by omega)]
        · have := u2.le
          simp
          omega
        · simp at hm
          rw [get_put_ne (by omega), get_put_ne hm.1, u2.get k (by omega) (by simpa using hm.2), K2.get k (by omega), K1.get k hk]
theorem wcmp : Cmp n_wheel_Wheel_Arm_1 (·.at') := by
  intro x y h
  rw [w_wheel_Wheel_Arm_1]
  simp (maxSteps := 1000000) (disch := first | assumption | ((try simp only [push_next, put_next, adv_next, List.length_cons, List.length_nil, List.length_map, List.length_set]); omega) | simp) [encEv]
  rw [GC_of fun q => compare]
  simp (maxSteps := 1000000) (disch := first | assumption | ((try simp only [push_next, put_next, adv_next, List.length_cons, List.length_nil, List.length_map, List.length_set]); omega) | simp)
  exact ((Kp.refl h).push _).push _
def wbad (d at' : Int) : Bool := decide (d < 0) || decide (16 ≤ d) || decide (at' < 0)
theorem warm {w : Nat} {L : List Ev} {s d t : Int} {fp : List Nat} (W : Wh h w L s fp) (hb : (wcan d L).length < 19) (hL : L.length < 2 ^ 40) (hs : Srt (·.at') L)
    (hno : wbad d t = true → q (.bool false) h) (hyes : wbad d t = false → ∀ h' fp', Wh h' w (insl (·.at') ⟨t, d, s⟩ (wcan d L)) (IntKind.i64.wrap (s + 1)) fp' → Upd h h' (w :: fp) (w :: fp') → q (.bool true) h') : WC T n_wheel_Wheel_Arm [ptr w 0, .int .i64 d, .int .i64 t] h q := by
  rw [w_wheel_Wheel_Arm]
  by_cases c1 : d < 0
  · simp (maxSteps := 1000000) (disch := first | assumption | ((try simp only [push_next, put_next, adv_next, List.length_cons, List.length_nil, List.length_map, List.length_set]); omega) | simp) [c1]
    exact hno (by simp [wbad, c1])
  by_cases c2 : 16 ≤ d
  · simp (maxSteps := 1000000) (disch := first | assumption | ((try simp only [push_next, put_next, adv_next, List.length_cons, List.length_nil, List.length_map, List.length_set]); omega) | simp) [c1, c2]
    exact hno (by simp [wbad, c2])
  by_cases c3 : t < 0
  · simp (maxSteps := 1000000) (disch := first | assumption | ((try simp only [push_next, put_next, adv_next, List.length_cons, List.length_nil, List.length_map, List.length_set]); omega) | simp) [c1, c2, c3]
    exact hno (by simp [wbad, c3])
  have hy := hyes (by simp [wbad, c1, c2, c3])
  simp (maxSteps := 1000000) (disch := first | assumption | ((try simp only [push_next, put_next, adv_next, List.length_cons, List.length_nil, List.length_map, List.length_set]); omega) | simp) [c1, c2, c3, -g1_wheel_Wheel_Arm]
  refine wcancel W hL fun h1 fp1 W1 U1 => ?_
  have hsc : Srt (·.at') (wcan d L) := hs.sublist (List.eraseP_sublist ..)
  obtain ⟨sl, g1, o1⟩ := W1.ex
  have hw1 := lt_of_get g1
  simp (maxSteps := 1000000) (disch := first | assumption | ((try simp only [push_next, put_next, adv_next, List.length_cons, List.length_nil, List.length_map, List.length_set]); omega) | simp) [g1]
  refine GVI_app1 (E := encEv) (x := ⟨_, _, _⟩) o1 (by omega) (by omega) fun v' h' fp' O' U' => ?_
  have g1' : h'.get w = some (.cells false [sl, .int .i64 s]) := by rw [U'.get w hw1 W1.nw, g1]
  have hw2 := lt_of_get g1'
  have hwf : w ∉ fp' := fun hm => by
    rcases U'.sub w hm with h5 | h5
    · exact W1.nw h5
    · omega
  generalize hL2 : wcan d L ++ [(⟨t, d, s⟩ : Ev)] = L2 at O'
  cases O' with
  | nul => simp at hL2
  | emp => simp at hL2
  | blk hg hn hc h0 hr =>
    rename_i b n c r
    have hbw : b ≠ w := fun e => hwf (by simp [e])
    have hbl := lt_of_get hg
    simp (maxSteps := 1000000) (disch := first | assumption | ((try simp only [push_next, put_next, adv_next, List.length_cons, List.length_nil, List.length_map, List.length_set]); omega) | simp) [g1']
    refine sort_small (key := (·.at')) (m := L2) (r := r) wcmp hn (by rw [hn, ← hL2]; simp; omega) (by rw [get_put_ne hbw, hg]) fun h4 hs4 U4 => ?_
    have hi : isort (·.at') L2 = insl (·.at') ⟨t, d, s⟩ (wcan d L) := by rw [← hL2, isort_snoc, isort_of_srt _ hsc]
    have hll : (insl (·.at') (⟨t, d, s⟩ : Ev) (wcan d L)).length = n := by rw [hn, ← hL2]; simp
    rw [hi] at hs4
    simp (maxSteps := 1000000) (disch := first | assumption | ((try simp only [push_next, put_next, adv_next, List.length_cons, List.length_nil, List.length_map, List.length_set]); omega) | simp)
    refine hy _ [b] ⟨⟨.slice (some ⟨b, 0, some 3⟩) n c, ?_, .blk (E := encEv) (r := r) hs4 hll.symm hc h0 hr⟩, by simpa using Ne.symm hbw⟩ ⟨?_, fun k hk hm => ?_, fun k hk => ?_⟩
    · rw [U4.get w (by simpa using hw2) (by simpa using Ne.symm hbw)]
      rw [get_put_self (by simpa using hw2)]
    · have h5 := U1.le
      have h6 := U'.le
      have h7 := U4.le
      simp at h7
      omega
    · simp at hm
      have h5 := U1.le
      have h6 := U'.le
      have hkf1 : k ∉ fp1 := fun hf => by
        rcases U1.sub k (by simp [hf]) with h8 | h8
        · simp at h8; rcases h8 with h8 | h8
          · exact hm.1 h8
          · exact hm.2 h8
        · omega
      have hkb : k ≠ b := fun e => by
        rcases U'.sub b (by simp) with h8 | h8
        · exact hkf1 (by rw [e]; exact h8)
        · omega
      rw [U4.get k (by simp; omega) (by simpa using hkb), get_put_ne hm.1, U'.get k (by omega) hkf1, U1.get k hk (by simpa using hm)]
    · rcases List.mem_cons.1 hk with rfl | hk
      · exact .inl (by simp)
      · have h5 := U1.le
        rcases U'.sub k hk with h8 | h8
        · rcases U1.sub k (by simp [h8]) with h9 | h9
          · exact .inl h9
          · exact .inr h9
        · exact .inr (by omega)
theorem wall {w : Nat} {L : List Ev} {s : Int} {fp : List Nat} (W : Wh h w L s fp) (hb : L.length < 2 ^ 40) (hq : ∀ a c h', Sees encEv h' a L → Kp h h' → q (.slice a L.length c) h') : WC T n_wheel_Wheel_All [ptr w 0] h q := by
  obtain ⟨sl, g1, g2⟩ := W.ex
  obtain ⟨a, c, rfl, hs, _, _⟩ := g2.len
  rw [w_wheel_Wheel_All]
  simp (maxSteps := 1000000) (disch := first | assumption | ((try simp only [push_next, put_next, adv_next, List.length_cons, List.length_nil, List.length_map, List.length_set]); omega) | simp) [g1]
  refine clone_ev hs hb fun a' c' h' hs' K _ _ => ?_
  simp (maxSteps := 1000000) (disch := first | assumption | ((try simp only [push_next, put_next, adv_next, List.length_cons, List.length_nil, List.length_map, List.length_set]); omega) | simp)
  exact hq _ _ _ hs' K
theorem nodup_bound : ∀ (n : Nat) (l : List Nat), (∀ x ∈ l, x < n) → l.Nodup → l.length ≤ n := by
  intro n
  induction n with
  | zero =>
    intro l h _
    cases l with
    | nil => simp
    | cons x l => exact absurd (h x (by simp)) (by omega)
  | succ n ih =>
    intro l h hn
    have h1 := ih (l.erase n) (fun x hx => by
      have hx1 := List.mem_of_mem_erase hx
      have hx2 := h x hx1
      have hx3 : x ≠ n := fun e => by subst e; exact (List.Nodup.not_mem_erase hn) hx
      omega) (hn.erase n)
    by_cases hm : n ∈ l
    · rw [List.length_erase_of_mem hm] at h1; omega
    · rw [List.erase_of_not_mem hm] at h1; omega
/-- What holds of a wheel's events. -/
structure WI (L : List Ev) : Prop where
  srt : Srt (·.at') L
  dev : ∀ x ∈ L, 0 ≤ x.dev ∧ x.dev < 16
  one : (L.map (·.dev)).Nodup
  pos : ∀ x ∈ L, 0 ≤ x.at'
theorem WI.nil : WI [] := ⟨by simp [Srt], by simp, by simp, by simp⟩
theorem WI.len {L : List Ev} (W : WI L) : L.length ≤ 16 := by
  have := nodup_bound 16 (L.map fun x => x.dev.toNat) (fun y hy => by
    obtain ⟨x, hx, rfl⟩ := List.mem_map.1 hy
    have := W.dev x hx
    omega) (by
    have h1 := W.one
    unfold List.Nodup at h1 ⊢
    rw [List.pairwise_map] at h1 ⊢
    refine h1.imp_of_mem fun {a b} ha hb hne he => hne ?_
    have := W.dev a ha
    have := W.dev b hb
    omega)
  simpa using this
theorem WI.can {L : List Ev} (W : WI L) (d : Int) : WI (wcan d L) := by
  have hs : (wcan d L).Sublist L := List.eraseP_sublist ..
  exact ⟨W.srt.sublist hs, fun x hx => W.dev x (hs.subset hx), W.one.sublist (hs.map _), fun x hx => W.pos x (hs.subset hx)⟩
theorem wcan_no {L : List Ev} (W : WI L) (d : Int) : ∀ x ∈ wcan d L, x.dev ≠ d := by
  rcases place_cases (fun x => decide (x.dev = d)) L with ⟨ha, _⟩ | ⟨A, x, B, rfl, ha, hx, _⟩
  · rw [(wcan_none ha).1]
    intro x hx
    simpa using ha x hx
  · rw [(wcan_some ha hx).1]
    have h1 := W.one
    simp only [List.map_append, List.map_cons, List.nodup_append, List.nodup_cons] at h1
    intro y hy e
    have hxd : x.dev = d := by simpa using hx
    rcases List.mem_append.1 hy with hy | hy
    · have := ha y hy
      simp [e] at this
    · exact h1.2.1.1 (by rw [hxd, ← e]; exact List.mem_map_of_mem hy)
theorem WI.arm {L : List Ev} (W : WI L) {d t s : Int} (hb : wbad d t = false) : WI (insl (·.at') ⟨t, d, s⟩ (wcan d L)) := by
  simp only [wbad, Bool.or_eq_false_iff, decide_eq_false_iff_not] at hb
  have Wc := W.can d
  refine ⟨srt_insl _ Wc.srt, fun x hx => ?_, ?_, fun x hx => ?_⟩
  · rcases (mem_insl _).1 hx with rfl | hx
    · simp; omega
    · exact Wc.dev x hx
  · have key : ∀ (p : List Ev), (p.map (·.dev)).Nodup → (∀ x ∈ p, x.dev ≠ d) → ((insl (·.at') ⟨t, d, s⟩ p).map (·.dev)).Nodup := by
      intro p
      induction p using snocInd with
      | nil => intro _ _; simp
      | append_singleton p z ih =>
        intro h1 h2
        by_cases h : t < z.at'
        · rw [insl_lt (key := (·.at')) (x := ⟨t, d, s⟩) p h]
          simp only [List.map_append, List.nodup_append, List.map_cons, List.map_nil] at h1 ⊢
          refine ⟨ih h1.1 fun x hx => h2 x (by simp [hx]), by simp, fun a ha b hb => ?_⟩
          obtain ⟨y, hy, rfl⟩ := List.mem_map.1 ha
          simp at hb
          subst hb
          rcases (mem_insl _).1 hy with rfl | hy
          · exact fun e => h2 z (by simp) e.symm
          · exact h1.2.2 _ (List.mem_map_of_mem hy) _ (by simp)
        · rw [insl_le (key := (·.at')) (x := ⟨t, d, s⟩) p h, show p ++ [z, ⟨t, d, s⟩] = (p ++ [z]) ++ [⟨t, d, s⟩] by simp]
          rw [List.map_append, List.nodup_append]
          refine ⟨h1, by simp, fun a ha b hb => ?_⟩
          obtain ⟨y, hy, rfl⟩ := List.mem_map.1 ha
          simp at hb
          subst hb
          exact h2 y hy
    exact key _ Wc.one (wcan_no W d)
  · rcases (mem_insl _).1 hx with rfl | hx
    · simp; omega
    · exact Wc.pos x hx
theorem WI.tail {x : Ev} {L : List Ev} (W : WI (x :: L)) : WI L := by
  have hs : L.Sublist (x :: L) := List.sublist_cons_self x L
  exact ⟨W.srt.sublist hs, fun y hy => W.dev y (hs.subset hy), W.one.sublist (hs.map _), fun y hy => W.pos y (hs.subset hy)⟩
end
end Go.Proofs.YtpdfdemoflofhaaGreat.Cd
