/- Stable sorting of a row, as the library does it: the whole. -/
import Derived.Test.YtppgoobhlcdbbaaStabKey
set_option maxRecDepth 1000000
set_option linter.unusedSimpArgs false
set_option linter.unusedVariables false
namespace Go.Proofs.Ytppgoobhlcdbbaa.Cd
open Go Go.Dx
section
variable {α : Type} (key : α → Int)
theorem insl_cut (y : α) (p : List α) : ∃ p1 p2, p = p1 ++ p2 ∧ insl key y p = p1 ++ y :: p2 ∧ ∀ x ∈ p2, key y < key x := by
  induction p using snocInd with
  | nil => exact ⟨[], [], rfl, rfl, by simp⟩
  | append_singleton p z ih =>
    by_cases hz : key y < key z
    · obtain ⟨p1, p2, h1, h2, h3⟩ := ih
      refine ⟨p1, p2 ++ [z], by rw [h1]; simp, by rw [insl_lt key p hz, h2]; simp, fun x hx => ?_⟩
      rcases List.mem_append.1 hx with hx | hx
      · exact h3 x hx
      · simp at hx
        subst hx
        exact hz
    · exact ⟨p ++ [z], [], by simp, by rw [insl_le key p hz]; simp, by simp⟩
theorem isort_right (a b : List α) : isort key (a ++ isort key b) = isort key (a ++ b) := by
  induction b using snocInd with
  | nil => rfl
  | append_singleton b y ih =>
    obtain ⟨p1, p2, h1, h2, h3⟩ := insl_cut key y (isort key b)
    have := isort_move key p2 h3 (a ++ p1) []
    rw [isort_snoc, h2, show a ++ (p1 ++ y :: p2) = (a ++ p1) ++ y :: (p2 ++ []) by simp, ← this, show (a ++ p1) ++ (p2 ++ [y]) = (a ++ (p1 ++ p2)) ++ [y] by simp, ← h1, isort_snoc, ih, ← isort_snoc]
    simp
theorem isort_mid (a b d : List α) : isort key (a ++ (isort key b ++ d)) = isort key (a ++ (b ++ d)) := by
  rw [← List.append_assoc, isort_foldl, isort_right, ← isort_foldl, List.append_assoc]
end
section
variable {h : Hp} {b n c : Nat} {sp : Option Nat} {fc : Nat} {key : Key → Int} {r : List Value} {q : Value → Hp → Prop}
theorem isortq (hc : Cmp fc key) {u m t : List Key} {i1 i2 : Int} (hn : n = (u ++ (m ++ t)).length) (hbig : n < 2 ^ 62) (h1 : i1 = u.length) (h2 : i2 = u.length + m.length) (hg : h.get b = some (.cells false (encKey.all (u ++ (m ++ t)) ++ r)))
    (hq : ∀ v h', h'.get b = some (.cells false (encKey.all (u ++ (isort key m ++ t)) ++ r)) → Upd h h' [b] [b] → q v h') :
    WC T n_slices_insertionSortCmpFunc_input_Key [.slice (some ⟨b, 0, sp⟩) n c, .int .i64 i1, .int .i64 i2, .func (.func fc) #[] #[]] h q := by
  subst h1
  obtain rfl : i2 = ((u.length + m.length : Nat) : Int) := by omega
  exact (isort_run (r := r) (t := t) hc (u := u) (m := m) (by rw [hn]; simp) hbig (by rw [hg]; simp)).mono fun v h' ⟨a, b⟩ => hq v h' (by rw [a]; simp) b
theorem flat_len {l : List (List Key)} {k : Nat} (hl : ∀ x ∈ l, Srt key x ∧ x.length = k) : l.flatten.length = l.length * k := by
  induction l with
  | nil => simp
  | cons x l ih =>
    rw [List.flatten_cons, List.length_append, ih fun y hy => hl y (by simp [hy]), (hl x (by simp)).2, List.length_cons, Nat.add_mul]
    omega
theorem stable_inner {e : Env} {Q : Ex → Env → Hp → Prop} {k : List Fr} (hc : Cmp fc key) (hbig : n < 2 ^ 40) {L last : List Key} {xss : List (List Key)} {bs : Nat} (hbs : 0 < bs) (hbn : bs < n) (hls : Srt key last) (hll : last.length < bs) (hx : ∀ x ∈ xss, Srt key x ∧ x.length = bs)
    (hR : ∀ (e' : Env) (h' : Hp) (yss : List (List Key)) (xs : List Key), (∀ t, t ≤ 6 → e' t = e t) → e' 7 = .int .i64 (yss.flatten.length : Nat) → (∀ y ∈ yss, Srt key y ∧ y.length = 2 * bs) → (xs = [] ∨ Srt key xs ∧ xs.length = bs) → h'.get b = some (.cells false (encKey.all (yss.flatten ++ (xs ++ last)) ++ r)) → isort key (yss.flatten ++ (xs ++ last)) = isort key L → n = (yss.flatten ++ (xs ++ last)).length → Upd h h' [b] [b] → GR T Q k (.x 4) e' h')
    (hn : n = (xss.flatten ++ last).length) (hI : isort key (xss.flatten ++ last) = isort key L) (hg : h.get b = some (.cells false (encKey.all (xss.flatten ++ last) ++ r))) (h0 : e 0 = .slice (some ⟨b, 0, sp⟩) n c) (h1 : e 1 = .int .i64 n) (h2 : e 2 = .func (.func fc) #[] #[]) (h6 : e 6 = .int .i64 bs) (h7 : e 7 = .int .i64 0) (h8 : e 8 = .int .i64 (2 * bs : Nat)) :
    G T Q (.loop c3_slices_stableCmpFunc_input_Key) k e h := by
  refine G_loop (fun m e' h' => ∃ (yss zss : List (List Key)) (a b' : Nat), m = zss.length ∧ a = yss.flatten.length ∧ b' = a + 2 * bs ∧ (∀ t, t ≤ 6 → e' t = e t) ∧ e' 7 = .int .i64 a ∧ e' 8 = .int .i64 b' ∧ (∀ y ∈ yss, Srt key y ∧ y.length = 2 * bs) ∧ (∀ x ∈ zss, Srt key x ∧ x.length = bs) ∧
      h'.get b = some (.cells false (encKey.all (yss.flatten ++ (zss.flatten ++ last)) ++ r)) ∧ isort key (yss.flatten ++ (zss.flatten ++ last)) = isort key L ∧ n = (yss.flatten ++ (zss.flatten ++ last)).length ∧ Upd h h' [b] [b]) ?_ xss.length e h
    ⟨[], xss, 0, 2 * bs, rfl, rfl, by omega, fun _ _ => rfl, h7, h8, by simp, hx, hg, hI, hn, .refl⟩
  rintro m ih e' h' ⟨yss, zss, a, b', rfl, ha, hb', he, e7, e8, hy, hz, hg', hI', hn', U⟩
  have e0 := (he 0 (by omega)).trans h0
  have e1 := (he 1 (by omega)).trans h1
  have e2 := (he 2 (by omega)).trans h2
  have e6 := (he 6 (by omega)).trans h6
  have hzl := flat_len hz
  have hn1 := hn'
  rw [List.length_append, List.length_append, hzl, ← ha] at hn1
  match zss, hz, hzl, hg', hI', hn', hn1, ih with
  | [], hz, hzl, hg', hI', hn', hn1, ih =>
    simp at hn1
    have t : ¬ b' ≤ n := by omega
    simp (disch := first | assumption | ((try simp only [push_next, put_next, adv_next, List.length_cons, List.length_nil]); omega) | simp) [e0, e1, e2, e6, e7, e8, t]
    exact hR _ _ yss [] (fun t ht => by repeat rw [upd_ne _ (by omega)]
                                        exact he t ht) (by rw [← ha]; simp [e7]) hy (.inl rfl) hg' hI' hn' U
  | [x], hz, hzl, hg', hI', hn', hn1, ih =>
    simp at hn1
    have t : ¬ b' ≤ n := by omega
    simp (disch := first | assumption | ((try simp only [push_next, put_next, adv_next, List.length_cons, List.length_nil]); omega) | simp) [e0, e1, e2, e6, e7, e8, t]
    exact hR _ _ yss x (fun t ht => by repeat rw [upd_ne _ (by omega)]
                                       exact he t ht) (by rw [← ha]; simp [e7]) hy (.inr (hz x (by simp))) (by rw [hg']; simp) (by rw [← hI']; simp) (by rw [hn']; simp) U
  | x :: y :: zss, hz, hzl, hg', hI', hn', hn1, ih =>
    simp [Nat.add_mul] at hn1
    have t : b' ≤ n := by omega
    have hx1 := hz x (by simp)
    have hy1 := hz y (by simp)
    have hab : (a : Int) + (bs : Int) = ((a + bs : Nat) : Int) := by omega
    simp (disch := first | assumption | ((try simp only [push_next, put_next, adv_next, List.length_cons, List.length_nil]); omega) | simp) [e0, e1, e2, e6, e7, e8, t]
    refine GC_intro (symMerge (r := r) hc (by omega) (x.length + y.length) (A := yss.flatten) (P := x) (R := y) (C := zss.flatten ++ last) (Nat.le_refl _) (List.length_pos_iff.1 (by omega)) (List.length_pos_iff.1 (by omega)) hx1.1 hy1.1 (by rw [hn']; simp) (by omega) (by omega) (by omega) (by rw [hg']; simp) fun v h2 hg2 U2 => ?_) fun v h2 hh => hh
    simp (disch := first | assumption | ((try simp only [push_next, put_next, adv_next, List.length_cons, List.length_nil]); omega) | simp) [e0, e1, e2, e6, e7, e8]
    apply ih zss.length (by simp; omega)
    refine ⟨yss ++ [isort key (x ++ y)], zss, b', b' + 2 * bs, rfl, by rw [List.flatten_append, List.length_append, ← ha]; simp; omega, rfl, fun t ht => ?_, by simp, by simp, fun w hw => ?_, fun w hw => hz w (by simp [hw]), by rw [hg2]; simp, ?_, by rw [hn']; simp; omega, U.trans U2⟩
    · repeat rw [upd_ne _ (by omega)]
      exact he t ht
    · rcases List.mem_append.1 hw with hw | hw
      · exact hy w hw
      · simp at hw
        subst hw
        exact ⟨srt_isort key _, by simp; omega⟩
    · have := isort_mid key yss.flatten (x ++ y) (zss.flatten ++ last)
      rw [← hI']
      simp at this ⊢
      exact this
theorem stable_outer {e : Env} {Q : Ex → Env → Hp → Prop} {k : List Fr} (hc : Cmp fc key) (hbig : n < 2 ^ 40) {L last : List Key} {xss : List (List Key)} {bs : Nat} (hbs : 0 < bs) (hls : Srt key last) (hll : last.length < bs) (hx : ∀ x ∈ xss, Srt key x ∧ x.length = bs)
    (hR : ∀ e' h', h'.get b = some (.cells false (encKey.all (isort key L) ++ r)) → Upd h h' [b] [b] → GR T Q k (.x 2) e' h')
    (hn : n = (xss.flatten ++ last).length) (hI : isort key (xss.flatten ++ last) = isort key L) (hg : h.get b = some (.cells false (encKey.all (xss.flatten ++ last) ++ r))) (h0 : e 0 = .slice (some ⟨b, 0, sp⟩) n c) (h1 : e 1 = .int .i64 n) (h2 : e 2 = .func (.func fc) #[] #[]) (h6 : e 6 = .int .i64 bs) :
    G T Q (.loop c6_slices_stableCmpFunc_input_Key) k e h := by
  refine G_loop (fun m e' h' => ∃ (zss : List (List Key)) (las : List Key) (s : Nat), m = n - s ∧ 0 < s ∧ Srt key las ∧ las.length < s ∧ (∀ x ∈ zss, Srt key x ∧ x.length = s) ∧ n = (zss.flatten ++ las).length ∧ isort key (zss.flatten ++ las) = isort key L ∧ h'.get b = some (.cells false (encKey.all (zss.flatten ++ las) ++ r)) ∧
      e' 0 = .slice (some ⟨b, 0, sp⟩) n c ∧ e' 1 = .int .i64 n ∧ e' 2 = .func (.func fc) #[] #[] ∧ e' 6 = .int .i64 s ∧ Upd h h' [b] [b]) ?_ (n - bs) e h ⟨xss, last, bs, rfl, hbs, hls, hll, hx, hn, hI, hg, h0, h1, h2, h6, .refl⟩
  rintro m ih e' h' ⟨zss, las, s, rfl, hs, sl, ll, hz, hn', hI', hg', e0, e1, e2, e6, U⟩
  by_cases hsn : s < n
  · have t2 : (2 : Int) * (s : Int) = ((2 * s : Nat) : Int) := by omega
    simp (disch := first | assumption | ((try simp only [push_next, put_next, adv_next, List.length_cons, List.length_nil]); omega) | simp) [e0, e1, e2, e6, hsn, -g3_slices_stableCmpFunc_input_Key]
    refine stable_inner (r := r) (sp := sp) (c := c) hc hbig (L := L) hs hsn sl ll hz ?_ hn' hI' hg' (by simp [e0]) (by simp [e1]) (by simp [e2]) (by simp [e6]) (by simp) (by simp)
    intro e1' h1' yss xs he f7 hy hxs hg1 hI1 hn1 U1
    have f0 := he 0 (by omega)
    have f1 := he 1 (by omega)
    have f2 := he 2 (by omega)
    have f6 := he 6 (by omega)
    simp [e0, e1, e2, e6] at f0 f1 f2 f6
    have hlen := hn1
    rw [List.length_append, List.length_append] at hlen
    obtain ⟨a, ha⟩ : ∃ a, a = yss.flatten.length := ⟨_, rfl⟩
    rw [← ha] at f7 hlen
    obtain ⟨mm, hmm⟩ : ∃ mm, mm = a + s := ⟨_, rfl⟩
    have hms : (a : Int) + (s : Int) = (mm : Int) := by omega
    have done : ∀ (e : Env) (h2 : Hp) (w : List Key), Srt key w → w.length < 2 * s → n = (yss.flatten ++ w).length → isort key (yss.flatten ++ w) = isort key L → h2.get b = some (.cells false (encKey.all (yss.flatten ++ w) ++ r)) → e 0 = .slice (some ⟨b, 0, sp⟩) n c → e 1 = .int .i64 n → e 2 = .func (.func fc) #[] #[] → e 6 = .int .i64 (2 * s : Nat) → Upd h h2 [b] [b] → G T Q (.loop c6_slices_stableCmpFunc_input_Key) k e h2 := fun e h2 w w1 w2 w3 w4 w5 w6 w7 w8 w9 w10 =>
      ih (n - 2 * s) (by omega) _ _ ⟨yss, w, 2 * s, rfl, by omega, w1, w2, hy, w3, w4, w5, w6, w7, w8, w9, w10⟩
    by_cases tm : mm < n
    · have hx1 : Srt key xs ∧ xs.length = s := by
        rcases hxs with rfl | hh
        · simp at hlen
          omega
        · exact hh
      simp (disch := first | assumption | ((try simp only [push_next, put_next, adv_next, List.length_cons, List.length_nil]); omega) | simp) [f0, f1, f2, f6, f7, hms, tm, -g6_slices_stableCmpFunc_input_Key]
      refine GC_intro (symMerge (r := r) hc (by omega) (xs.length + las.length) (A := yss.flatten) (P := xs) (R := las) (C := []) (Nat.le_refl _) (List.length_pos_iff.1 (by omega)) (List.length_pos_iff.1 (by omega)) hx1.1 sl (by rw [hn1]; simp) (by omega) (by omega) (by omega) (by rw [hg1]; simp) fun v h2 hg2 U2 => ?_) fun v h2 hh => hh
      simp (disch := first | assumption | ((try simp only [push_next, put_next, adv_next, List.length_cons, List.length_nil]); omega) | simp) [f0, f1, f2, f6, f7, -g6_slices_stableCmpFunc_input_Key]
      refine done _ _ (isort key (xs ++ las)) (srt_isort key _) (by simp; omega) (by rw [hn1]; simp) (by rw [isort_right, hI1]) (by rw [hg2]; simp) (by simp [f0]) (by simp [f1]) (by simp [f2]) (by simp; omega) ((U.trans U1).trans U2)
    · simp (disch := first | assumption | ((try simp only [push_next, put_next, adv_next, List.length_cons, List.length_nil]); omega) | simp) [f0, f1, f2, f6, f7, hms, tm, -g6_slices_stableCmpFunc_input_Key]
      refine done _ _ (xs ++ las) ?_ ?_ hn1 hI1 hg1 (by simp [f0]) (by simp [f1]) (by simp [f2]) (by simp; omega) (U.trans U1)
      · rcases hxs with rfl | hh
        · exact sl
        · have : las = [] := List.eq_nil_of_length_eq_zero (by omega)
          subst this
          simpa using hh.1
      · rcases hxs with rfl | hh
        · simp; omega
        · simp; omega
  · simp (disch := first | assumption | ((try simp only [push_next, put_next, adv_next, List.length_cons, List.length_nil]); omega) | simp) [e0, e1, e2, e6, hsn]
    refine hR _ _ ?_ U
    have hzl := flat_len hz
    have hn1 := hn'
    rw [List.length_append, hzl] at hn1
    have sc : Srt key (zss.flatten ++ las) := by
      match zss, hz, hn1 with
      | [], hz, hn1 => simpa using sl
      | [x], hz, hn1 =>
        simp at hn1
        have : las = [] := List.eq_nil_of_length_eq_zero (by omega)
        subst this
        simpa using (hz x (by simp)).1
      | x :: y :: zss, hz, hn1 =>
        simp [Nat.add_mul] at hn1
        omega
    rw [hg', ← hI', isort_of_srt key sc]
theorem stable (hc : Cmp fc key) {L : List Key} (hn : n = L.length) (hbig : n < 2 ^ 40) (hg : h.get b = some (.cells false (encKey.all L ++ r))) (hq : ∀ v h', h'.get b = some (.cells false (encKey.all (isort key L) ++ r)) → Upd h h' [b] [b] → q v h') :
    WC T n_slices_stableCmpFunc_input_Key [.slice (some ⟨b, 0, sp⟩) n c, .int .i64 n, .func (.func fc) #[] #[]] h q := by
  rw [w_slices_stableCmpFunc_input_Key]
  simp (disch := first | assumption | ((try simp only [push_next, put_next, adv_next, List.length_cons, List.length_nil]); omega) | simp) [-g1_slices_stableCmpFunc_input_Key, -g6_slices_stableCmpFunc_input_Key]
  refine G_loop (fun m e' h' => ∃ (yss : List (List Key)) (rest : List Key) (a b' : Nat), m = rest.length ∧ a = yss.flatten.length ∧ b' = a + 20 ∧ (∀ y ∈ yss, Srt key y ∧ y.length = 20) ∧ n = (yss.flatten ++ rest).length ∧ isort key (yss.flatten ++ rest) = isort key L ∧ h'.get b = some (.cells false (encKey.all (yss.flatten ++ rest) ++ r)) ∧
      e' 0 = .slice (some ⟨b, 0, sp⟩) n c ∧ e' 1 = .int .i64 n ∧ e' 2 = .func (.func fc) #[] #[] ∧ e' 6 = .int .i64 20 ∧ e' 7 = .int .i64 a ∧ e' 8 = .int .i64 b' ∧ Upd h h' [b] [b]) ?_ L.length _ _
    ⟨[], L, 0, 20, rfl, rfl, rfl, by simp, by simpa using hn, rfl, by simpa using hg, by simp, by simp, by simp, by simp, by simp, by simp, .refl⟩
  rintro m ih e' h' ⟨yss, rest, a, b', rfl, ha, hb', hy, hn', hI', hg', e0, e1, e2, e6, e7, e8, U⟩
  have hn1 := hn'
  rw [List.length_append, ← ha] at hn1
  by_cases t : b' ≤ n
  · obtain ⟨x, rst, rfl, hl⟩ : ∃ x rst, rest = x ++ rst ∧ x.length = 20 := ⟨rest.take 20, rest.drop 20, (List.take_append_drop _ _).symm, by simp; omega⟩
    simp at hn1
    simp (disch := first | assumption | ((try simp only [push_next, put_next, adv_next, List.length_cons, List.length_nil]); omega) | simp) [e0, e1, e2, e6, e7, e8, t, -g6_slices_stableCmpFunc_input_Key]
    refine GC_intro (isortq (r := r) hc (u := yss.flatten) (m := x) (t := rst) hn' (by omega) (by omega) (by omega) hg' fun v h2 hg2 U2 => ?_) fun v h2 hh => hh
    simp (disch := first | assumption | ((try simp only [push_next, put_next, adv_next, List.length_cons, List.length_nil]); omega) | simp) [e0, e1, e2, e6, e7, e8, -g6_slices_stableCmpFunc_input_Key]
    apply ih rst.length (by simp; omega)
    refine ⟨yss ++ [isort key x], rst, b', b' + 20, rfl, by rw [List.flatten_append, List.length_append, ← ha]; simp; omega, rfl, fun w hw => ?_, by rw [hn']; simp, ?_, by rw [hg2]; simp, by simp [e0], by simp [e1], by simp [e2], by simp [e6], by simp, by simp, U.trans U2⟩
    · rcases List.mem_append.1 hw with hw | hw
      · exact hy w hw
      · simp at hw
        subst hw
        exact ⟨srt_isort key _, by simp [hl]⟩
    · have := isort_mid key yss.flatten x rst
      rw [← hI', ← this]
      simp
  · simp (disch := first | assumption | ((try simp only [push_next, put_next, adv_next, List.length_cons, List.length_nil]); omega) | simp) [e0, e1, e2, e6, e7, e8, t, -g6_slices_stableCmpFunc_input_Key]
    refine GC_intro (isortq (r := r) hc (u := yss.flatten) (m := rest) (t := []) (by rw [hn']; simp) (by omega) (by omega) (by omega) (by rw [hg']; simp) fun v h2 hg2 U2 => ?_) fun v h2 hh => hh
    simp (disch := first | assumption | ((try simp only [push_next, put_next, adv_next, List.length_cons, List.length_nil]); omega) | simp) [e0, e1, e2, e6, e7, e8, -g6_slices_stableCmpFunc_input_Key]
    refine stable_outer (r := r) (sp := sp) (c := c) hc hbig (L := L) (xss := yss) (last := isort key rest) (bs := 20) (by omega) (srt_isort key _) (by simp; omega) hy ?_ (by rw [hn']; simp) (by rw [isort_right, hI']) (by rw [hg2]; simp) (by simp [e0]) (by simp [e1]) (by simp [e2]) (by simp [e6])
    intro e3 h3 hg3 U3
    simp (disch := first | assumption | ((try simp only [push_next, put_next, adv_next, List.length_cons, List.length_nil]); omega) | simp)
    exact hq _ _ hg3 ((U.trans U2).trans U3)
end
end Go.Proofs.Ytppgoobhlcdbbaa.Cd
