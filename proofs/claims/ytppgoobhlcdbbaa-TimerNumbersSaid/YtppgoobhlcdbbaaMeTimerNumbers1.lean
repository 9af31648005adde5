/- Texts of one kind, one behind the other. -/
import Derived.Test.YtppgoobhlcdbbaaMeTimerNumbers0
import Derived.Test.YtppgoobhlcdbbaaMcz0
import Derived.Test.YtppgoobhlcdbbaaMd0
/- The wheel, and what is common to all that use one. -/
set_option maxRecDepth 1000000
set_option linter.unusedSimpArgs false
set_option linter.unusedVariables false
namespace Go.Proofs.Ytppgoobhlcdbbaa.Cd
open Go Go.Dx
section
variable {h : Hp}
theorem warmI {w : Nat} {L : List Ev} {s d t : Int} {fp : List Nat} {q : Value → Hp → Prop} (W : Wh h w L s fp) (I : WI L)
    (hno : wbad d t = true → q (.bool false) h) (hyes : wbad d t = false → ∀ h' fp', WI (insl (·.at') ⟨t, d, s⟩ (wcan d L)) → Wh h' w (insl (·.at') ⟨t, d, s⟩ (wcan d L)) (IntKind.i64.wrap (s + 1)) fp' → Upd h h' (w :: fp) (w :: fp') → q (.bool true) h') : WC T n_wheel_Wheel_Arm [ptr w 0, .int .i64 d, .int .i64 t] h q := by
  have h1 := I.len
  have h2 := (I.can d).len
  exact warm W (by omega) (by omega) I.srt hno fun hb h' fp' W' U' => hyes hb h' fp' (I.arm hb) W' U'
theorem fpUp {g h h' : Hp} {w : Nat} {fp fp' : List Nat} (hf : ∀ b ∈ w :: fp, g.next ≤ b) (K : Kp g h) (U : Upd h h' (w :: fp) (w :: fp')) : (∀ b ∈ w :: fp', g.next ≤ b) ∧ Kp g h' := ⟨fun b hb => by
  rcases U.sub b hb with h5 | h5
  · exact hf b h5
  · have := K.le; omega, U.kp' K hf⟩
/-- A struct laid anew: what it takes. -/
theorem kp_laid {g h : Hp} (K : Kp g h) (o p : Ob) : Kp g ((h.push o).put h.next (some p)) := (K.push _).put K.le _
theorem Wh.laid {h : Hp} {w : Nat} {L : List Ev} {s : Int} {fp : List Nat} (W : Wh h w L s fp) (o p : Ob) : Wh ((h.push o).put h.next (some p)) w L s fp := W.kp (kp_laid (Kp.refl h) o p)
section
variable {q : Value → Hp → Prop}
theorem within {n lo hi : Int} (h0 : -1000000000000 ≤ lo) (h1 : lo ≤ hi) (h2 : hi ≤ 1000000000000) (hq : ∀ m, lo ≤ m → m ≤ hi → q (.int .i64 m) h) : WC T n_pianolabook_Within [.int .i64 n, .int .i64 lo, .int .i64 hi] h q := by
  rw [w_pianolabook_Within]
  have hne : hi - lo + 1 ≠ 0 := by omega
  have hw : n.tmod (hi - lo + 1) < hi - lo + 1 := Int.tmod_lt_of_pos _ (by omega)
  have hw' : - (hi - lo + 1) < n.tmod (hi - lo + 1) := by
    have := Int.tmod_lt_of_pos (-n) (show 0 < hi - lo + 1 by omega)
    rw [Int.neg_tmod] at this
    omega
  by_cases c1 : lo ≤ n
  · by_cases c2 : n ≤ hi
    · simp (maxSteps := 1000000) (disch := first | assumption | ((try simp only [push_next, put_next, adv_next, List.length_cons, List.length_nil, List.length_map, List.length_set]); omega) | simp) [c1, c2]
      exact hq _ c1 c2
    · by_cases c3 : n.tmod (hi - lo + 1) < 0
      · simp (maxSteps := 1000000) (disch := first | assumption | ((try simp only [push_next, put_next, adv_next, List.length_cons, List.length_nil, List.length_map, List.length_set]); omega) | simp) [c1, c2, c3, hne]
        exact hq _ (by omega) (by omega)
      · simp (maxSteps := 1000000) (disch := first | assumption | ((try simp only [push_next, put_next, adv_next, List.length_cons, List.length_nil, List.length_map, List.length_set]); omega) | simp) [c1, c2, c3, hne]
        exact hq _ (by omega) (by omega)
  · by_cases c3 : n.tmod (hi - lo + 1) < 0
    · simp (maxSteps := 1000000) (disch := first | assumption | ((try simp only [push_next, put_next, adv_next, List.length_cons, List.length_nil, List.length_map, List.length_set]); omega) | simp) [c1, c3, hne]
      exact hq _ (by omega) (by omega)
    · simp (maxSteps := 1000000) (disch := first | assumption | ((try simp only [push_next, put_next, adv_next, List.length_cons, List.length_nil, List.length_map, List.length_set]); omega) | simp) [c1, c3, hne]
      exact hq _ (by omega) (by omega)
theorem within_eq {n lo hi : Int} (h0 : -1000000000000000 ≤ lo) (h1 : lo ≤ hi) (h2 : hi ≤ 4000000000000000000) : WC T n_pianolabook_Within [.int .i64 n, .int .i64 lo, .int .i64 hi] h q ↔ q (.int .i64 (wi n lo hi)) h := by
  rw [w_pianolabook_Within]
  have hne : hi - lo + 1 ≠ 0 := by omega
  have he := tmod_emod (n := n) (m := hi - lo + 1) (by omega)
  have hw : n.tmod (hi - lo + 1) < hi - lo + 1 := Int.tmod_lt_of_pos _ (by omega)
  have hw' : - (hi - lo + 1) < n.tmod (hi - lo + 1) := by
    have := Int.tmod_lt_of_pos (-n) (show 0 < hi - lo + 1 by omega)
    rw [Int.neg_tmod] at this
    omega
  unfold wi
  by_cases c1 : lo ≤ n
  · by_cases c2 : n ≤ hi
    · simp (maxSteps := 1000000) (disch := first | assumption | ((try simp only [push_next, put_next, adv_next, List.length_cons, List.length_nil, List.length_map, List.length_set]); omega) | simp) [c1, c2]
    · by_cases c3 : n.tmod (hi - lo + 1) < 0
      · simp (maxSteps := 1000000) (disch := first | assumption | ((try simp only [push_next, put_next, adv_next, List.length_cons, List.length_nil, List.length_map, List.length_set]); omega) | simp) [c1, c2, c3, hne]
        rw [he, if_pos c3]
        have e : lo + (n.tmod (hi - lo + 1) + hi - lo + 1) = lo + (n.tmod (hi - lo + 1) + (hi - lo + 1)) := by omega
        rw [e]
      · simp (maxSteps := 1000000) (disch := first | assumption | ((try simp only [push_next, put_next, adv_next, List.length_cons, List.length_nil, List.length_map, List.length_set]); omega) | simp) [c1, c2, c3, hne]
        rw [he, if_neg c3]
  · by_cases c3 : n.tmod (hi - lo + 1) < 0
    · simp (maxSteps := 1000000) (disch := first | assumption | ((try simp only [push_next, put_next, adv_next, List.length_cons, List.length_nil, List.length_map, List.length_set]); omega) | simp) [c1, c3, hne]
      rw [he, if_pos c3]
      have e : lo + (n.tmod (hi - lo + 1) + hi - lo + 1) = lo + (n.tmod (hi - lo + 1) + (hi - lo + 1)) := by omega
      rw [e]
    · simp (maxSteps := 1000000) (disch := first | assumption | ((try simp only [push_next, put_next, adv_next, List.length_cons, List.length_nil, List.length_map, List.length_set]); omega) | simp) [c1, c3, hne]
      rw [he, if_neg c3]
end
end
end Go.Proofs.Ytppgoobhlcdbbaa.Cd

/- Clone of a row, and whether two rows are the same. -/
set_option maxRecDepth 1000000
set_option linter.unusedSimpArgs false
set_option linter.unusedVariables false
namespace Go.Proofs.Ytppgoobhlcdbbaa.Cd
open Go Go.Dx
section
variable {h : Hp} {a a' : Option Addr} {c c' : Nat} {xs ys : List (BitVec 8)}
end
end Go.Proofs.Ytppgoobhlcdbbaa.Cd

/- The wheel as a state. -/
set_option maxRecDepth 1000000
set_option maxHeartbeats 4000000
set_option linter.unusedSimpArgs false
set_option linter.unusedVariables false
namespace Go.Proofs.Ytppgoobhlcdbbaa.Cd
open Go Go.Dx
/-- A wheel, as what it holds. -/
structure WhS where
  L : List Ev
  n : Int
def WhS.arm (w : WhS) (d t : Int) : WhS := if wbad d t = true then w else ⟨insl (·.at') ⟨t, d, w.n⟩ (wcan d w.L), IntKind.i64.wrap (w.n + 1)⟩
def WhS.can (w : WhS) (d : Int) : WhS := ⟨wcan d w.L, w.n⟩
structure WhA (h : Hp) (w : Nat) (S : WhS) (fp : List Nat) : Prop where
  wh : Wh h w S.L S.n fp
  wi : WI S.L
section
variable {h : Hp} {q : Value → Hp → Prop} {w : Nat} {S : WhS} {fp : List Nat} {dv now : Int}
theorem WhA.keep {h' : Hp} (A : WhA h w S fp) (hk : ∀ b ∈ w :: fp, h'.get b = h.get b) : WhA h' w S fp := ⟨A.wh.keep hk, A.wi⟩
theorem WhA.kp {h' : Hp} (A : WhA h w S fp) (K : Kp h h') : WhA h' w S fp := ⟨A.wh.kp K, A.wi⟩
theorem WhA.live (A : WhA h w S fp) : ∀ b ∈ w :: fp, b < h.next := A.wh.live
theorem warmS {t : Int} (A : WhA h w S fp) (hq : ∀ h' fp', WhA h' w (S.arm dv t) fp' → Upd h h' (w :: fp) (w :: fp') → q (.bool (!wbad dv t)) h') : WC T n_wheel_Wheel_Arm [ptr w 0, .int .i64 dv, .int .i64 t] h q := by
  refine warmI A.wh A.wi (fun hb => ?_) fun hb h' fp' I W' U => ?_
  · have := hq h fp (by unfold WhS.arm; rw [if_pos hb]; exact A) .refl
    rw [hb] at this
    exact this
  · have := hq h' fp' (by unfold WhS.arm; rw [if_neg (by simp [hb])]; exact ⟨W', I⟩) U
    rw [hb] at this
    exact this
theorem takeS {t : Int} (A : WhA h w S fp) (hno : (∀ x ∈ S.L.head?, t < x.at') → ∀ h', Kp h h' → q (.tuple #[.agg #[.int .i64 0, .int .i64 0, .int .i64 0], .bool false]) h')
    (hyes : ∀ x B, S.L = x :: B → x.at' ≤ t → ∀ h' fp', WhA h' w ⟨B, S.n⟩ fp' → Upd h h' (w :: fp) (w :: fp') → q (.tuple #[.agg #[.int .i64 x.at', .int .i64 x.dev, .int .i64 x.seq], .bool true]) h') : WC T n_wheel_Wheel_Take [ptr w 0, .int .i64 t] h q := by
  have := A.wi.len
  refine wtake A.wh (by omega) hno fun x B hx ht h' fp' W' U => hyes x B hx ht h' fp' ⟨W', ?_⟩ U
  have := A.wi
  rw [hx] at this
  exact this.tail
end
end Go.Proofs.Ytppgoobhlcdbbaa.Cd

/- Are two rows the same? -/
set_option maxRecDepth 1000000
set_option linter.unusedSimpArgs false
set_option linter.unusedVariables false
namespace Go.Proofs.Ytppgoobhlcdbbaa.Cd
open Go Go.Dx
theorem eq_ev (x y : Ev) : eqV (.agg [(0, 1, false, (.int .i64)), (1, 1, false, (.int .i64)), (2, 1, false, (.int .i64))]) (.agg (encEv.enc x).toArray) (.agg (encEv.enc y).toArray) = some (decide (x = y)) := by
  obtain ⟨a, b, c⟩ := x
  obtain ⟨a', b', c'⟩ := y
  simp only [eqV, eqAt, encEv, eqParts]
  by_cases h1 : a = a'
  · by_cases h2 : b = b'
    · by_cases h3 : c = c' <;> simp [h1, h2, h3]
    · simp [h1, h2]
  · simp [h1]
theorem same_ev {h : Hp} {q : Value → Hp → Prop} {a a' : Option Addr} {c c' : Nat} {xs ys : List Ev} (hx : Sees encEv h a xs) (hy : Sees encEv h a' ys) (hb : xs.length < 2 ^ 40) (hq : q (.bool (decide (xs = ys))) h) : WC T n_pianolabook_Same_api_Event [.slice a xs.length c, .slice a' ys.length c'] h q := by
  rw [w_pianolabook_Same_api_Event]
  by_cases hl : xs.length = ys.length
  case neg =>
    have hne : xs ≠ ys := fun e => hl (by rw [e])
    have hl' : ¬ ((xs.length : Int) = ys.length) := by omega
    simp (maxSteps := 1000000) (disch := first | assumption | ((try simp only [push_next, put_next, adv_next, List.length_cons, List.length_nil, List.length_map, List.length_set]); omega) | simp) [hl']
    simpa [hne] using hq
  simp (maxSteps := 1000000) (disch := first | assumption | ((try simp only [push_next, put_next, adv_next, List.length_cons, List.length_nil, List.length_map, List.length_set]); omega) | simp) [hl]
  refine G_loop (fun n e h' => ∃ us vs ws, n = vs.length ∧ h' = h ∧ xs = us ++ vs ∧ ys = us ++ ws ∧ e 0 = .slice a xs.length c ∧ e 1 = .slice a' ys.length c' ∧ e 5 = .int .i64 us.length) ?_ xs.length _ _ ⟨[], xs, ys, rfl, rfl, rfl, rfl, by simp [hl], by simp, by simp⟩
  rintro n ih e h' ⟨us, vs, ws, rfl, rfl, h1, h2, e0, e1, e5⟩
  cases vs with
  | nil =>
    have hw : ws = [] := by
      have h3 := hl
      rw [h1, h2] at h3
      simpa using h3
    subst hw
    have hxs : xs = us := by simpa using h1
    have hxy : xs = ys := by rw [h1, h2]
    have hll : us.length = xs.length := by rw [hxs]
    simp (maxSteps := 1000000) (disch := first | assumption | ((try simp only [push_next, put_next, adv_next, List.length_cons, List.length_nil, List.length_map, List.length_set]); omega) | simp) [e0, e5, hll]
    simpa [hxy] using hq
  | cons x vs =>
    cases ws with
    | nil =>
      have h3 := hl
      rw [h1, h2] at h3
      simp at h3
    | cons y ws =>
      have hlt : (us.length : Int) < xs.length := by rw [h1]; simp; omega
      have hlt' : (us.length : Int) < ys.length := by omega
      obtain ⟨A, hA, hr⟩ := Sees.mid (A := us) (x := x) (B := vs) (by rw [← h1]; exact hx)
      obtain ⟨A', hA', hr'⟩ := Sees.mid (A := us) (x := y) (B := ws) (by rw [← h2]; exact hy)
      have g1 : h'.rdn A.block (A.off + us.length * 3) 3 = some (encEv.enc x) := hr
      have g2 : h'.rdn A'.block (A'.off + us.length * 3) 3 = some (encEv.enc y) := hr'
      have he := eq_ev x y
      by_cases hxy : x = y
      · simp [hxy] at he
        simp (maxSteps := 1000000) (disch := first | assumption | ((try simp only [push_next, put_next, adv_next, List.length_cons, List.length_nil, List.length_map, List.length_set]); omega) | simp) [e0, e1, e5, hlt, hlt', hA, hA', g1, g2, he, hxy]
        apply ih vs.length (by simp)
        refine ⟨us ++ [x], vs, ws, rfl, rfl, by simp [h1], by simp [h2, hxy], by simp [e0, hA], by simp [e1, hA'], by simp⟩
      · simp [hxy] at he
        have hne : xs ≠ ys := fun e => by rw [h1, h2] at e; simp [hxy] at e
        simp (maxSteps := 1000000) (disch := first | assumption | ((try simp only [push_next, put_next, adv_next, List.length_cons, List.length_nil, List.length_map, List.length_set]); omega) | simp) [e0, e1, e5, hlt, hlt', hA, hA', g1, g2, he]
        simpa [hne] using hq
end Go.Proofs.Ytppgoobhlcdbbaa.Cd

/- The document's wheel within a larger struct: what each function does. -/
set_option maxRecDepth 1000000
set_option maxHeartbeats 8000000
set_option linter.unusedSimpArgs false
set_option linter.unusedVariables false
namespace Go.Proofs.Ytppgoobhlcdbbaa.Cd
open Go Go.Dx
/-- A slice that is read, its block one of these. -/
def Se {α : Type} (E : Enc α) (h : Hp) (fr : List Nat) (v : Value) (xs : List α) : Prop := ∃ a c, v = .slice a xs.length c ∧ Sees E h a xs ∧ xs.length ≤ c ∧ ∀ A, a = some A → A.block ∈ fr
theorem Se.own {α : Type} {E : Enc α} {h : Hp} {fp fr : List Nat} {v : Value} {xs : List α} (o : Own E h v xs fp) (hs : ∀ b ∈ fp, b ∈ fr) : Se E h fr v xs := by
  obtain ⟨a, c, h1, h2, h3, h4⟩ := o.len
  exact ⟨a, c, h1, h2, h3, fun A hA => hs _ (h4 A hA)⟩
theorem Se.nul {α : Type} {E : Enc α} {h : Hp} {fr : List Nat} : Se E h fr (.slice none 0 0) [] := ⟨none, 0, rfl, .nul, Nat.le_refl _, fun A hA => (by cases hA)⟩
theorem Se.keep {α : Type} {E : Enc α} {h h' : Hp} {fr fr' : List Nat} {v : Value} {xs : List α} (s : Se E h fr v xs) (hk : ∀ b ∈ fr, h'.get b = h.get b) (hs : ∀ b ∈ fr, b ∈ fr') : Se E h' fr' v xs := by
  obtain ⟨a, c, h1, h2, h3, h4⟩ := s
  exact ⟨a, c, h1, ⟨h2.nil, fun A hA => rdn_kp (h2.get A hA) (hk _ (h4 A hA)), h2.sp⟩, h3, fun A hA => hs _ (h4 A hA)⟩
/-- A wheel at place 1 of a struct. -/
structure Wz (h : Hp) (w : Nat) (c0 : Value) (rest : List Value) (L : List Ev) (s : Int) (fr : List Nat) : Prop where
  ex : ∃ sl, h.get w = some (.cells false (c0 :: sl :: .int .i64 s :: rest)) ∧ Se encEv h fr sl L
  nw : w ∉ fr
section
variable {h : Hp} {q : Value → Hp → Prop} {c0 : Value} {rest : List Value}
/-- The document's: taken out by copying. -/
theorem zcancel {w : Nat} {L : List Ev} {s : Int} {fr : List Nat} {d : Int} (W : Wz h w c0 rest L s fr) (hb : L.length < 2 ^ 40) (hq : ∀ h' nw, Wz h' w c0 rest (wcan d L) s (fr ++ nw) → Upd h h' [w] (w :: nw) → (∀ b ∈ nw, b < h'.next) → q (.bool (whas d L)) h') : WC T n_pianolaref9_Wheel_Cancel [ptr w 1, .int .i64 d] h q := by
  obtain ⟨sl, g1, g2⟩ := W.ex
  obtain ⟨a, c, rfl, hs, hc, hfp⟩ := g2
  have hlt := lt_of_get g1
  rw [w_pianolaref9_Wheel_Cancel]
  simp (maxSteps := 1000000) (disch := first | assumption | ((try simp only [push_next, put_next, adv_next, List.length_cons, List.length_nil, List.length_map, List.length_set]); omega) | simp)
  refine G_loop (fun n e h' => ∃ us vs, n = vs.length ∧ h' = h ∧ L = us ++ vs ∧ (∀ x ∈ us, decide (x.dev = d) = false) ∧ e 0 = ptr w 1 ∧ e 1 = .int .i64 d ∧ e 5 = .int .i64 us.length) ?_ L.length _ _ ⟨[], L, rfl, rfl, rfl, by simp, by simp, by simp, by simp⟩
  rintro n ih e h' ⟨us, vs, rfl, rfl, hL, hn, e0, e1, e5⟩
  cases vs with
  | nil =>
    rw [List.append_nil] at hL
    subst hL
    obtain ⟨r1, r2⟩ := wcan_none hn
    simp (maxSteps := 1000000) (disch := first | assumption | ((try simp only [push_next, put_next, adv_next, List.length_cons, List.length_nil, List.length_map, List.length_set]); omega) | simp) [e0, e5, g1]
    rw [← r2]
    exact hq _ [] (by rw [r1, List.append_nil]; exact W) .refl (by simp)
  | cons x vs =>
    have hlt' : (us.length : Int) < L.length := by rw [hL]; simp; omega
    have hun : (us.length : Int) + 1 < 2 ^ 40 := by omega
    obtain ⟨A, hA, hr⟩ := Sees.mid (A := us) (x := x) (B := vs) (by rw [← hL]; exact hs)
    obtain ⟨ro, C, hg, hC⟩ := rdn_cells hr
    have hC1 := hC 1 (by simp)
    simp [encEv] at hC1
    by_cases hx : x.dev = d
    · obtain ⟨r1, r2⟩ := wcan_some (B := vs) hn (by simpa using hx)
      rw [← hL] at r1 r2
      subst hA
      obtain ⟨a1, c1, p1, q1, s1⟩ := hs.part (lo := 0) (hi := us.length) (l := none) (u := some (.int .i64 us.length)) (by omega) (by omega) hc (.inl ⟨rfl, rfl⟩) (.inr ⟨_, rfl⟩)
      obtain ⟨a2, c2, p2, q2, s2⟩ := hs.part (lo := us.length + 1) (hi := L.length) (l := some (.int .i64 ((us.length : Int) + 1))) (u := none) (by omega) (by omega) hc (.inr ⟨.i64, rfl⟩) (.inl ⟨rfl, rfl⟩)
      have p1' : sliceV 3 (.slice (some A) L.length c) none (some (.int .i64 us.length)) none = some (.slice a1 us.length c1) := p1
      have p2' : sliceV 3 (.slice (some A) L.length c) (some (.int .i64 ((us.length : Int) + 1))) none none = some (.slice a2 (L.length - (us.length + 1)) c2) := p2
      have hA1 : (L.drop 0).take (us.length - 0) = us := by rw [hL]; simp
      have hA2 : (L.drop (us.length + 1)).take (L.length - (us.length + 1)) = vs := by
        rw [hL, show us ++ x :: vs = (us ++ [x]) ++ vs by simp, show us.length + 1 = (us ++ [x]).length by simp, List.drop_left, List.length_append, Nat.add_sub_cancel_left, List.take_length]
      rw [hA1] at s1
      rw [hA2] at s2
      have hvl : L.length - (us.length + 1) = vs.length := by rw [hL]; simp; omega
      rw [hvl] at p2'
      have K1 : Kp h' (h'.push (.cells false [])) := (Kp.refl h').push _
      have Oe : Own encEv (h'.push (.cells false [])) (.slice (some ⟨h'.next, 0, none⟩) 0 0) [] [h'.next] := .emp get_push_self
      simp (maxSteps := 1000000) (disch := first | assumption | ((try simp only [push_next, put_next, adv_next, List.length_cons, List.length_nil, List.length_map, List.length_set]); omega) | simp) [e0, e1, e5, g1, hlt', hg, hC1, hx, p1']
      refine GVI_app (E := encEv) Oe (s1.kp K1) rfl (by simp; omega) (by simp; omega) fun v2 h2 fp2 O2 U2 => ?_
      have K2 : Kp h' h2 := U2.kp' K1 (by simp)
      have g2 : h2.get w = some (.cells false (c0 :: .slice (some A) L.length c :: .int .i64 s :: rest)) := by rw [K2.get w hlt, g1]
      have hlt2 := lt_of_get g2
      have hun' : (us.length : Int) + 1 < 9223372036854775808 := by omega
      simp (maxSteps := 1000000) (disch := first | assumption | ((try simp only [push_next, put_next, adv_next, List.length_cons, List.length_nil, List.length_map, List.length_set]); omega) | simp) [e5, g2, p2']
      refine GVI_app (E := encEv) O2 (s2.kp K2) rfl (by simp; omega) (by simp; omega) fun v3 h3 fp3 O3 U3 => ?_
      have hfp2 : ∀ b ∈ fp2, h'.next ≤ b := fun b hb => by
        rcases U2.sub b hb with h5 | h5
        · simp at h5; omega
        · simp at h5; omega
      have K3 : Kp h' h3 := U3.kp' K2 hfp2
      have g3 : h3.get w = some (.cells false (c0 :: .slice (some A) L.length c :: .int .i64 s :: rest)) := by rw [K3.get w hlt, g1]
      have hlt3 := lt_of_get g3
      have hfp3 : ∀ b ∈ fp3, h'.next ≤ b := fun b hb => by
        rcases U3.sub b hb with h5 | h5
        · exact hfp2 b h5
        · have := K2.le; omega
      obtain ⟨a3, c3, hv3, _, _, _⟩ := O3.len
      have hone : one v3 = true := by rw [hv3]; rfl
      simp (maxSteps := 1000000) (disch := first | assumption | ((try simp only [push_next, put_next, adv_next, List.length_cons, List.length_nil, List.length_map, List.length_set]); omega) | simp) [e0, g3, hone]
      have h9 := hq
      rw [r1, r2] at h9
      have hwf : w ∉ fp3 := fun hm => by have := hfp3 w hm; omega
      exact h9 _ fp3 ⟨⟨_, get_put_self hlt3, Se.own (O3.keep fun b hb => get_put_ne fun e => hwf (e ▸ hb)) fun b hb => List.mem_append_right _ hb⟩, fun hm => by
        rcases List.mem_append.1 hm with hm | hm
        · exact W.nw hm
        · exact hwf hm⟩ ⟨K3.le, fun b hb hm => by
        rw [get_put_ne (by simpa using hm), K3.get b hb], fun b hb => by
        rcases List.mem_cons.1 hb with rfl | hb
        · exact .inl (by simp)
        · exact .inr (hfp3 b hb)⟩ fun b hb => by simpa using O3.live b hb
    · simp (maxSteps := 1000000) (disch := first | assumption | ((try simp only [push_next, put_next, adv_next, List.length_cons, List.length_nil, List.length_map, List.length_set]); omega) | simp) [e0, e1, e5, g1, hlt', hA, hg, hC1, hx]
      apply ih vs.length (by simp)
      refine ⟨us ++ [x], vs, rfl, rfl, by simp [hL], fun y hy => ?_, by simp [e0], by simp [e1], by simp⟩
      rcases List.mem_append.1 hy with hy | hy
      · exact hn y hy
      · simp at hy; rw [hy]; simpa using hx
theorem ztake {w : Nat} {L : List Ev} {s now : Int} {fr : List Nat} (lv : ∀ b ∈ fr, b < h.next) (W : Wz h w c0 rest L s fr) (hb : L.length < 2 ^ 40) (hno : (∀ x ∈ L.head?, now < x.at') → ∀ h', Kp h h' → q (.tuple #[.agg #[.int .i64 0, .int .i64 0, .int .i64 0], .bool false]) h')
    (hyes : ∀ x B, L = x :: B → x.at' ≤ now → ∀ h' nw, Wz h' w c0 rest B s (fr ++ nw) → Upd h h' [w] (w :: nw) → (∀ b ∈ nw, b < h'.next) → q (.tuple #[.agg (encEv.enc x).toArray, .bool true]) h') : WC T n_pianolaref9_Wheel_Take [ptr w 1, .int .i64 now] h q := by
  rw [w_pianolaref9_Wheel_Take]
  simp (maxSteps := 1000000) (disch := first | assumption | ((try simp only [push_next, put_next, adv_next, List.length_cons, List.length_nil, List.length_map, List.length_set]); omega) | simp) [-g2_pianolaref9_Wheel_Take]
  have K1 : Kp h (h.push (.cells false [.int .i64 0, .int .i64 0, .int .i64 0])) := (Kp.refl h).push _
  have z0 : (h.push (.cells false [.int .i64 0, .int .i64 0, .int .i64 0])).get h.next = some (.cells false [.int .i64 0, .int .i64 0, .int .i64 0]) := get_push_self
  have n0 : (h.push (.cells false [.int .i64 0, .int .i64 0, .int .i64 0])).next = h.next + 1 := rfl
  generalize h.push (.cells false [.int .i64 0, .int .i64 0, .int .i64 0]) = h0 at *
  obtain ⟨sl, g1, g2⟩ := W.ex
  have hwn : w < h.next := lt_of_get g1
  rw [← K1.get w hwn] at g1
  obtain ⟨a, c, rfl, hs, hc, hfp⟩ := g2.keep (fr' := fr) (fun b hb => K1.get b (lv b hb)) fun b hb => hb
  cases L with
  | nil =>
    simp (maxSteps := 1000000) (disch := first | assumption | ((try simp only [push_next, put_next, adv_next, List.length_cons, List.length_nil, List.length_map, List.length_set]); omega) | simp) [g1, Hp.rdn, z0]
    exact hno (by simp) _ (K1.put (Nat.le_refl _) _)
  | cons x B =>
    obtain ⟨A, rfl, hr⟩ := hs.mid (A := [])
    obtain ⟨ro, C, hg, hC⟩ := rdn_cells hr
    have hC0 := hC 0 (by simp)
    simp [encEv] at hC0
    have hnn : ¬ ((B.length : Int) + 1 = 0) := by omega
    by_cases hx : now < x.at'
    · simp (maxSteps := 1000000) (disch := first | assumption | ((try simp only [push_next, put_next, adv_next, List.length_cons, List.length_nil, List.length_map, List.length_set]); omega) | simp) [g1, hg, hC0, hnn, hx, Hp.rdn, z0]
      exact hno (by simpa using hx) _ (K1.put (Nat.le_refl _) _)
    · have hr2 : h0.rdn A.block A.off 3 = some (encEv.enc x) := by simpa using hr
      simp (maxSteps := 1000000) (disch := first | assumption | ((try simp only [push_next, put_next, adv_next, List.length_cons, List.length_nil, List.length_map, List.length_set]); omega) | simp) [g1, hg, hC0, hnn, hx, hr2, encEv]
      have K2 : Kp h0 (h0.push (.cells false [.int .i64 x.at', .int .i64 x.dev, .int .i64 x.seq])) := (Kp.refl h0).push _
      generalize hh1 : h0.push (.cells false [.int .i64 x.at', .int .i64 x.dev, .int .i64 x.seq]) = h1 at *
      have y1 : h1.get h0.next = some (.cells false [.int .i64 x.at', .int .i64 x.dev, .int .i64 x.seq]) := by rw [← hh1, get_push_self]
      have n1 : h1.next = h0.next + 1 := by rw [← hh1]; rfl
      have z1 : h1.get h.next = some (.cells false [.int .i64 0, .int .i64 0, .int .i64 0]) := by rw [K2.get _ (by omega), z0]
      obtain ⟨a2, c2, p2, q2, s2⟩ := hs.part (lo := 1) (hi := (x :: B).length) (l := some (.int .i64 1)) (u := none) (by simp) (by omega) hc (.inr ⟨.i64, rfl⟩) (.inl ⟨rfl, rfl⟩)
      have p2' : sliceV 3 (.slice (some A) (B.length + 1) c) (some (.int .i64 1)) none none = some (.slice a2 B.length c2) := by simpa using p2
      have hA2 : ((x :: B).drop 1).take ((x :: B).length - 1) = B := by simp
      rw [hA2] at s2
      have K3 : Kp h1 (h1.push (.cells false [])) := (Kp.refl h1).push _
      have g1' : (h1.push (.cells false [])).get w = some (.cells false (c0 :: .slice (some A) (B.length + 1) c :: .int .i64 s :: rest)) := by rw [get_push_ne (by omega), K2.get w (by omega), g1]; rfl
      have Oe : Own encEv (h1.push (.cells false [])) (.slice (some ⟨h1.next, 0, none⟩) 0 0) [] [h1.next] := .emp get_push_self
      rw [n1] at Oe
      simp (maxSteps := 1000000) (disch := first | assumption | ((try simp only [push_next, put_next, adv_next, List.length_cons, List.length_nil, List.length_map, List.length_set]); omega) | simp) [g1', p2']
      refine GV_app (E := encEv) Oe (s2.kp (K2.trans K3)) rfl (by simp; simp at hb; omega) (by simp; simp at hb; omega) fun v3 h3 fp3 O3 U3 => ?_
      have K4 : Kp h1 h3 := U3.kp' K3 (by simp [n1])
      have hfp3 : ∀ b ∈ fp3, h0.next + 1 ≤ b := fun b hb => by
        rcases U3.sub b hb with h5 | h5
        · simp at h5; omega
        · simp at h5; omega
      have g3 : h3.get w = some (.cells false (c0 :: .slice (some A) (B.length + 1) c :: .int .i64 s :: rest)) := by rw [K4.get w (by omega), K2.get w (by omega), g1]; rfl
      have y3 : h3.get h0.next = some (.cells false [.int .i64 x.at', .int .i64 x.dev, .int .i64 x.seq]) := by rw [K4.get _ (by omega), y1]
      have z3 : h3.get h.next = some (.cells false [.int .i64 0, .int .i64 0, .int .i64 0]) := by rw [K4.get _ (by omega), z1]
      have hwl3 := lt_of_get g3
      have hyl3 := lt_of_get y3
      have hzl3 := lt_of_get z3
      obtain ⟨a3, c3, hv3, _, _, _⟩ := O3.len
      have hone : one v3 = true := by rw [hv3]; rfl
      simp (maxSteps := 1000000) (disch := first | assumption | ((try simp only [push_next, put_next, adv_next, List.length_cons, List.length_nil, List.length_map, List.length_set]); omega) | simp) [g3, hone, y3, z3, Hp.rdn]
      have hwf : w ∉ fp3 := fun hm => by have := hfp3 w hm; omega
      refine hyes x B rfl (by omega) _ fp3 ⟨⟨v3, ?_, Se.own (O3.keep fun b hb => ?_) fun b hb => List.mem_append_right _ hb⟩, fun hm => ?_⟩ ⟨?_, fun k hk hm => ?_, fun k hk => ?_⟩ fun b hb => by simpa using O3.live b hb
      · rw [get_put_ne (by omega), get_put_self (by omega)]
      · have := hfp3 b hb
        rw [get_put_ne (by omega), get_put_ne (by omega)]
      · rcases List.mem_append.1 hm with hm | hm
        · exact W.nw hm
        · exact hwf hm
      · have := K4.le
        simp
        omega
      · simp at hm
        rw [get_put_ne (by omega), get_put_ne hm, K4.get k (by omega), K2.get k (by omega), K1.get k hk]
      · rcases List.mem_cons.1 hk with rfl | hk
        · exact .inl (by simp)
        · have := hfp3 k hk
          exact .inr (by omega)
theorem zarm {w : Nat} {L : List Ev} {s d t : Int} {fr : List Nat} (lv : ∀ b ∈ fr, b < h.next) (W : Wz h w c0 rest L s fr) (hL : L.length < 2 ^ 40) (hs : Srt (·.at') L)
    (hno : wbad d t = true → q (.bool false) h) (hyes : wbad d t = false → ∀ h' nw, Wz h' w c0 rest (insl (·.at') ⟨t, d, s⟩ (wcan d L)) (IntKind.i64.wrap (s + 1)) (fr ++ nw) → Upd h h' [w] (w :: nw) → (∀ b ∈ nw, b < h'.next) → q (.bool true) h') : WC T n_pianolaref9_Wheel_Arm [ptr w 1, .int .i64 d, .int .i64 t] h q := by
  rw [w_pianolaref9_Wheel_Arm]
  by_cases c1 : d < 0
  · simp (maxSteps := 1000000) (disch := first | assumption | ((try simp only [push_next, put_next, adv_next, List.length_cons, List.length_nil, List.length_map, List.length_set]); omega) | simp) [c1]
    exact hno (by simp [wbad, c1])
  by_cases c2 : 16 ≤ d
  · simp (maxSteps := 1000000) (disch := first | assumption | ((try simp only [push_next, put_next, adv_next, List.length_cons, List.length_nil, List.length_map, List.length_set]); omega) | simp) [c1, c2]
    exact hno (by simp [wbad, c2])
  by_cases c3 : t < 0
  · simp (maxSteps := 1000000) (disch := first | assumption | ((try simp only [push_next, put_next, adv_next, List.length_cons, List.length_nil, List.length_map, List.length_set]); omega) | simp) [c1, c2, c3]
    exact hno (by simp [wbad, c3])
  have hy := hyes (by simp [wbad, c1, c2, c3])
  simp (maxSteps := 1000000) (disch := first | assumption | ((try simp only [push_next, put_next, adv_next, List.length_cons, List.length_nil, List.length_map, List.length_set]); omega) | simp) [c1, c2, c3]
  refine zcancel W hL fun h1 fp1 W1 U1 L1' => ?_
  have hsub : (wcan d L).Sublist L := List.eraseP_sublist ..
  have hsc : Srt (·.at') (wcan d L) := hs.sublist hsub
  have hlc : (wcan d L).length ≤ L.length := hsub.length_le
  generalize hL1 : wcan d L = L1 at *
  obtain ⟨sl, g1, o1⟩ := W1.ex
  obtain ⟨a, c, rfl, hsee, hc, hfp⟩ := o1
  have hw1 := lt_of_get g1
  simp (maxSteps := 1000000) (disch := first | assumption | ((try simp only [push_next, put_next, adv_next, List.length_cons, List.length_nil, List.length_map, List.length_set]); omega) | simp)
  refine G_loop (fun n e h' => ∃ us vs, n = vs.length ∧ h' = h1 ∧ L1 = us ++ vs ∧ (∀ x ∈ us, x.at' ≤ t) ∧ e 0 = ptr w 1 ∧ e 1 = .int .i64 d ∧ e 2 = .int .i64 t ∧ e 7 = .int .i64 us.length) ?_ L1.length _ _ ⟨[], L1, rfl, rfl, rfl, by simp, by simp, by simp, by simp, by simp⟩
  rintro n ih e h' ⟨us, vs, rfl, rfl, hU, hle, e0, e1, e2, e7⟩
  have out : ∀ e, (∀ y ∈ vs, t < y.at') → e 0 = ptr w 1 → e 1 = .int .i64 d → e 2 = .int .i64 t → e 7 = .int .i64 us.length → G T (fin [.t 6] (some []) h.next q) c2_pianolaref9_Wheel_Arm [] e h' := by
    clear ih e0 e1 e2 e7 e
    intro e hgt e0 e1 e2 e7
    have hlu : us.length ≤ L1.length := by rw [hU]; simp
    obtain ⟨a1, k1, p1, q1, s1⟩ := hsee.part (lo := 0) (hi := us.length) (l := none) (u := some (.int .i64 us.length)) (by omega) (by omega) hc (.inl ⟨rfl, rfl⟩) (.inr ⟨_, rfl⟩)
    obtain ⟨a2, k2, p2, q2, s2⟩ := hsee.part (lo := us.length) (hi := L1.length) (l := some (.int .i64 us.length)) (u := none) (by omega) (by omega) hc (.inr ⟨.i64, rfl⟩) (.inl ⟨rfl, rfl⟩)
    have hA1 : (L1.drop 0).take (us.length - 0) = us := by rw [hU]; simp
    have hA2 : (L1.drop us.length).take (L1.length - us.length) = vs := by
      rw [hU, List.drop_left, List.length_append, Nat.add_sub_cancel_left, List.take_length]
    have hvl : L1.length - us.length = vs.length := by rw [hU]; simp
    rw [hA1] at s1
    rw [hA2] at s2
    have p1' : sliceV 3 (.slice a L1.length c) none (some (.int .i64 us.length)) none = some (.slice a1 us.length k1) := p1
    have p2' : sliceV 3 (.slice a L1.length c) (some (.int .i64 us.length)) none none = some (.slice a2 vs.length k2) := by rw [← hvl]; exact p2
    have K1 : Kp h' ((h'.adv 2).put h'.next (some (.cells false []))) := ((Kp.refl h').adv 2).put (Nat.le_refl _) _
    have n1 : ((h'.adv 2).put h'.next (some (.cells false []))).next = h'.next + 2 := rfl
    have Oe : Own encEv ((h'.adv 2).put h'.next (some (.cells false []))) (.slice (some ⟨h'.next, 0, none⟩) 0 0) [] [h'.next] := .emp (get_put_self (by simp))
    have gA : ((h'.adv 2).put h'.next (some (.cells false []))).get w = some (.cells false (c0 :: .slice a L1.length c :: .int .i64 s :: rest)) := by rw [K1.get w hw1, g1]
    simp (maxSteps := 1000000) (disch := first | assumption | ((try simp only [push_next, put_next, adv_next, List.length_cons, List.length_nil, List.length_map, List.length_set]); omega) | simp) [e0, e7, g1, p1']
    generalize (h'.adv 2).put h'.next (some (.cells false [])) = hA at *
    refine GVI_app (E := encEv) Oe (s1.kp K1) rfl (by simp; omega) (by simp; omega) fun v2 h2 fp2 O2 U2 => ?_
    have K2 : Kp h' h2 := U2.kp' K1 (by simp)
    have n2 : h'.next + 2 ≤ h2.next := by have := U2.le; omega
    have g2 : h2.get w = some (.cells false (c0 :: .slice a L1.length c :: .int .i64 s :: rest)) := by rw [K2.get w hw1, g1]
    have hfp2 : ∀ b ∈ fp2, b = h'.next ∨ h'.next + 2 ≤ b := fun b hb => by
      rcases U2.sub b hb with h5 | h5
      · simp at h5; omega
      · omega
    simp (maxSteps := 1000000) (disch := first | assumption | ((try simp only [push_next, put_next, adv_next, List.length_cons, List.length_nil, List.length_map, List.length_set]); omega) | simp) [e0, e1, e2, e7, g2]
    have K3 : Kp h' (h2.put (h'.next + 1) (some (.cells false [.int .i64 t, .int .i64 d, .int .i64 s]))) := K2.put (by omega) _
    have O3 : Own encEv (h2.put (h'.next + 1) (some (.cells false [.int .i64 t, .int .i64 d, .int .i64 s]))) v2 ([] ++ us) fp2 := O2.keep fun b hb => get_put_ne (by have := hfp2 b hb; omega)
    have S3 : Sees encEv (h2.put (h'.next + 1) (some (.cells false [.int .i64 t, .int .i64 d, .int .i64 s]))) (some ⟨h'.next + 1, 0, none⟩) [(⟨t, d, s⟩ : Ev)] := ⟨fun hA => (by cases hA), fun A hA => by
      cases hA
      simp [Hp.rdn, get_put_self (show h'.next + 1 < h2.next by omega), encEv], fun A hA => by cases hA; exact .inl rfl⟩
    have g3 : (h2.put (h'.next + 1) (some (.cells false [.int .i64 t, .int .i64 d, .int .i64 s]))).get w = some (.cells false (c0 :: .slice a L1.length c :: .int .i64 s :: rest)) := by rw [K3.get w hw1, g1]
    generalize h2.put (h'.next + 1) (some (.cells false [.int .i64 t, .int .i64 d, .int .i64 s])) = h3 at *
    refine GVI_app (E := encEv) O3 S3 rfl (by simp; omega) (by simp; omega) fun v4 h4 fp4 O4 U4 => ?_
    have K4 : Kp h' h4 := U4.kp' K3 fun b hb => by have := hfp2 b hb; omega
    have g4 : h4.get w = some (.cells false (c0 :: .slice a L1.length c :: .int .i64 s :: rest)) := by rw [K4.get w hw1, g1]
    have hfp4 : ∀ b ∈ fp4, h'.next ≤ b := fun b hb => by
      rcases U4.sub b hb with h5 | h5
      · have := hfp2 b h5; omega
      · have := K3.le; omega
    simp (maxSteps := 1000000) (disch := first | assumption | ((try simp only [push_next, put_next, adv_next, List.length_cons, List.length_nil, List.length_map, List.length_set]); omega) | simp) [e0, e1, e2, e7, g4, p2']
    refine GVI_app (E := encEv) O4 (s2.kp K4) rfl (by simp; omega) (by simp; omega) fun v5 h5 fp5 O5 U5 => ?_
    have K5 : Kp h' h5 := U5.kp' K4 hfp4
    have g5 : h5.get w = some (.cells false (c0 :: .slice a L1.length c :: .int .i64 s :: rest)) := by rw [K5.get w hw1, g1]
    have hfp5 : ∀ b ∈ fp5, h'.next ≤ b := fun b hb => by
      rcases U5.sub b hb with h6 | h6
      · exact hfp4 b h6
      · have := K4.le; omega
    have hlt5 := lt_of_get g5
    obtain ⟨a5, k5, hv5, _, _, _⟩ := O5.len
    have hone : one v5 = true := by rw [hv5]; rfl
    simp (maxSteps := 1000000) (disch := first | assumption | ((try simp only [push_next, put_next, adv_next, List.length_cons, List.length_nil, List.length_map, List.length_set]); omega) | simp) [e0, g5, hone]
    have hwf : w ∉ fp5 := fun hm => by have := hfp5 w hm; omega
    have hres : insl (·.at') (⟨t, d, s⟩ : Ev) L1 = [] ++ us ++ [⟨t, d, s⟩] ++ vs := by rw [hU, insl_split (fun e : Ev => e.at') (x := ⟨t, d, s⟩) hle hgt]; simp
    refine hy _ fp5 ⟨⟨v5, ?_, Se.own (fp := fp5) ?_ fun b hb => List.mem_append_right _ hb⟩, fun hm => ?_⟩ ⟨?_, fun b hb hm => ?_, fun b hb => ?_⟩ fun b hb => by simpa using O5.live b hb
    · rw [get_put_self hlt5]
    · rw [hres]
      exact O5.keep fun b hb => get_put_ne fun e => hwf (e ▸ hb)
    · rcases List.mem_append.1 hm with hm | hm
      · exact W.nw hm
      · exact hwf hm
    · have h6 := U1.le
      have h7 := K5.le
      simp
      omega
    · have hb' := hm
      simp at hm
      have h6 := U1.le
      rw [get_put_ne hm, K5.get b (by omega), U1.get b hb hb']
    · have h6 := U1.le
      rcases List.mem_cons.1 hb with rfl | hb
      · exact .inl (by simp)
      · have := hfp5 b hb
        exact .inr (by omega)
  cases vs with
  | nil =>
    have hll : (us.length : Int) = L1.length := by rw [hU]; simp
    simp (maxSteps := 1000000) (disch := first | assumption | ((try simp only [push_next, put_next, adv_next, List.length_cons, List.length_nil, List.length_map, List.length_set]); omega) | simp) [e0, e7, g1, hll, -g2_pianolaref9_Wheel_Arm]
    exact out _ (by simp) (by simp [e0]) (by simp [e1]) (by simp [e2]) (by simp [e7])
  | cons x vs =>
    have hlt' : (us.length : Int) < L1.length := by rw [hU]; simp; omega
    have hun : (us.length : Int) + 1 < 2 ^ 40 := by omega
    obtain ⟨A, hA, hr⟩ := Sees.mid (A := us) (x := x) (B := vs) (by rw [← hU]; exact hsee)
    obtain ⟨ro, C, hg, hC⟩ := rdn_cells hr
    have hC0 := hC 0 (by simp)
    simp [encEv] at hC0
    by_cases hx : x.at' ≤ t
    · simp (maxSteps := 1000000) (disch := first | assumption | ((try simp only [push_next, put_next, adv_next, List.length_cons, List.length_nil, List.length_map, List.length_set]); omega) | simp) [e0, e1, e2, e7, g1, hlt', hA, hg, hC0, hx, -g2_pianolaref9_Wheel_Arm]
      apply ih vs.length (by simp)
      refine ⟨us ++ [x], vs, rfl, rfl, by simp [hU], fun y hy => ?_, by simp [e0], by simp [e1], by simp [e2], by simp⟩
      rcases List.mem_append.1 hy with hy | hy
      · exact hle y hy
      · simp at hy; rw [hy]; exact hx
    · simp (maxSteps := 1000000) (disch := first | assumption | ((try simp only [push_next, put_next, adv_next, List.length_cons, List.length_nil, List.length_map, List.length_set]); omega) | simp) [e0, e1, e2, e7, g1, hlt', hA, hg, hC0, hx, -g2_pianolaref9_Wheel_Arm]
      refine out _ (fun y hy => ?_) (by simp [e0]) (by simp [e1]) (by simp [e2]) (by simp [e7])
      have h6 := hsc
      rw [hU] at h6
      have h7 := (List.pairwise_append.1 h6).2.1
      rcases List.mem_cons.1 hy with rfl | hy
      · omega
      · have := (List.pairwise_cons.1 h7).1 y hy
        simp at this
        omega
end
end Go.Proofs.Ytppgoobhlcdbbaa.Cd

/- Memory: what each function does. -/
set_option maxRecDepth 1000000
set_option maxHeartbeats 4000000
set_option linter.unusedSimpArgs false
set_option linter.unusedVariables false
namespace Go.Proofs.Ytppgoobhlcdbbaa.Cd
open Go Go.Dx
/-- Memory as it lies: bytes, marks, what was written. -/
structure Ra (h : Hp) (x : Nat) (B : By) (M W : List Bool) : Prop where
  r : h.get (x + 3) = some (.cells false [.slice (some ⟨x, 0, none⟩) B.length B.length, .slice (some ⟨x + 1, 0, none⟩) M.length M.length, .slice (some ⟨x + 2, 0, none⟩) M.length M.length])
  b : h.get x = some (.cells false (B.map u8))
  m : h.get (x + 1) = some (.cells false (M.map Value.bool))
  w : h.get (x + 2) = some (.cells false (W.map Value.bool))
  sz : B.length = 1024 * M.length
  wl : W.length = M.length
  ml : 1 ≤ M.length ∧ M.length ≤ 64
section
variable {h : Hp} {q : Value → Hp → Prop} {x : Nat} {B : By} {M W : List Bool}
theorem Ra.keep {h' : Hp} (R : Ra h x B M W) (hk : ∀ b, x ≤ b → b ≤ x + 3 → h'.get b = h.get b) : Ra h' x B M W :=
  ⟨by rw [hk _ (by omega) (by omega), R.r], by rw [hk _ (by omega) (by omega), R.b], by rw [hk _ (by omega) (by omega), R.m], by rw [hk _ (by omega) (by omega), R.w], R.sz, R.wl, R.ml⟩
theorem Ra.lt (R : Ra h x B M W) : x + 3 < h.next := lt_of_get R.r
theorem Ra.kp {h' : Hp} (R : Ra h x B M W) (K : Kp h h') : Ra h' x B M W := R.keep fun b h1 h2 => K.get b (by have := R.lt; omega)
theorem Ra.upd {h' : Hp} {fp fp' : List Nat} (R : Ra h x B M W) (U : Upd h h' fp fp') (hn : ∀ b ∈ fp, b < x ∨ x + 3 < b) : Ra h' x B M W := R.keep fun b h1 h2 => U.get b (by have := R.lt; omega) fun hm => by have := hn b hm; omega
end
end Go.Proofs.Ytppgoobhlcdbbaa.Cd

/- The document's memory: what each function does. -/
set_option maxRecDepth 1000000
set_option maxHeartbeats 4000000
set_option linter.unusedSimpArgs false
set_option linter.unusedVariables false
namespace Go.Proofs.Ytppgoobhlcdbbaa.Cd
open Go Go.Dx
section
variable {h : Hp} {q : Value → Hp → Prop} {x : Nat} {B : By} {M W : List Bool}
theorem zin {a : BitVec 32} {n : Int} (R : Ra h x B M W) (hn : n < 2 ^ 63) : WC T n_pianolaref2_Ram_In [ptr (x + 3) 0, u32 a, .int .i64 n] h q ↔ q (.bool (thB B a n)) h := by
  have hr := R.r
  have hl := R.sz
  have hm := R.ml
  have ha := a.isLt
  rw [w_pianolaref2_Ram_In]
  by_cases c1 : 0 ≤ n
  · obtain ⟨m, rfl⟩ := Int.eq_ofNat_of_zero_le c1
    have e1 : BitVec.setWidth 64 a + BitVec.ofNat 64 m ≤ BitVec.ofNat 64 B.length ↔ ((a.toNat : Int) ≤ B.length ∧ (m : Int) ≤ B.length - a.toNat) := by
      rw [BitVec.le_def, BitVec.toNat_add, BitVec.toNat_setWidth, BitVec.toNat_ofNat, BitVec.toNat_ofNat]
      omega
    have e2 : decide (BitVec.setWidth 64 a + BitVec.ofNat 64 m ≤ BitVec.ofNat 64 B.length) = thB B a m := by
      unfold thB
      rw [decide_eq_decide, e1]
      omega
    simp (maxSteps := 1000000) (disch := first | assumption | ((try simp only [push_next, put_next, adv_next, List.length_cons, List.length_nil, List.length_map, List.length_set]); omega) | simp) [hr, e2]
  · have e2 : thB B a n = false := by simp [thB, c1]
    simp (maxSteps := 1000000) (disch := first | assumption | ((try simp only [push_next, put_next, adv_next, List.length_cons, List.length_nil, List.length_map, List.length_set]); omega) | simp) [c1, e2]
theorem tch_step {M W : List Bool} {a n : Nat} (h : (a + n) / 1024 < W.length) : tch M W a (n + 1) = if M.getD ((a + n) / 1024) false = true then (tch M W a n).set ((a + n) / 1024) true else tch M W a n := by
  rw [tch_tpg _ _ (by omega)]
  have e : a + (n + 1) - 1 = a + n := by omega
  rw [e]
  have hW : tch M W a n = tpg M W (a / 1024) (if n = 0 then a / 1024 else (a + n - 1) / 1024 + 1) := by
    by_cases h0 : n = 0
    · rw [if_pos h0, tpg_self, h0]; simp [tch]
    · rw [if_neg h0, tch_tpg _ _ h0]
  rw [hW]
  by_cases hs : (if n = 0 then a / 1024 else (a + n - 1) / 1024 + 1) = (a + n) / 1024
  · rw [hs, ← tpg_set (by omega) h]
    by_cases hM : M.getD ((a + n) / 1024) false = true
    · rw [if_pos hM, hM, Bool.or_true]
    · rw [if_neg hM]
      have : M.getD ((a + n) / 1024) false = false := by simpa using hM
      rw [this, Bool.or_false]
      apply List.ext_getElem?
      intro i
      by_cases hi : i = (a + n) / 1024
      · subst hi
        rw [List.getElem?_set_self (by simpa using h), tpg_at h]
        simp
      · rw [List.getElem?_set_ne (by omega)]
  · have hn0 : n ≠ 0 := fun h0 => hs (by rw [if_pos h0, h0]; rfl)
    rw [if_neg hn0] at hs ⊢
    have e3 : (a + n - 1) / 1024 = (a + n) / 1024 := by omega
    rw [e3]
    by_cases hM : M.getD ((a + n) / 1024) false = true
    · rw [if_pos hM]
      apply List.ext_getElem?
      intro i
      by_cases hi : i = (a + n) / 1024
      · subst hi
        rw [List.getElem?_set_self (by simpa using h), tpg_at h, hM]
        have : a / 1024 ≤ (a + n) / 1024 := Nat.div_le_div_right (by omega)
        simp [this]
      · rw [List.getElem?_set_ne (by omega)]
    · rw [if_neg hM]
theorem ztouch {a : BitVec 32} {n : Nat} (R : Ra h x B M W) (hn : a.toNat + n ≤ B.length) (hq : ∀ h', Ra h' x B M (tch M W a.toNat n) → Upd h h' [x + 2] [x + 2] → q (.tuple #[]) h') : WC T n_pianolaref2_Ram_touch [ptr (x + 3) 0, u32 a, .int .i64 n] h q := by
  have hl := R.sz
  have hm := R.ml
  have hwl := R.wl
  have ha := a.isLt
  rw [w_pianolaref2_Ram_touch]
  simp (maxSteps := 1000000) (disch := first | assumption | ((try simp only [push_next, put_next, adv_next, List.length_cons, List.length_nil, List.length_map, List.length_set]); omega) | simp)
  refine G_loop (fun k e h' => ∃ p : Nat, k = n - p ∧ p ≤ n ∧ e 0 = ptr (x + 3) 0 ∧ e 1 = u32 a ∧ e 2 = .int .i64 n ∧ e 6 = .int .i64 p ∧ Ra h' x B M (tch M W a.toNat p) ∧ Upd h h' [x + 2] [x + 2]) ?_ n _ _ ⟨0, rfl, Nat.zero_le _, by simp, by simp, by simp, by simp, by simpa [tch] using R, Kp.upd (Kp.refl h) _⟩
  rintro k ih e h' ⟨p, rfl, p1, e0, e1, e2, e6, R', U'⟩
  by_cases hp : p < n
  · have hpi : (p : Int) < n := by omega
    have hr' := R'.r
    have hw' := R'.w
    have hm' := R'.m
    have hlt := R'.lt
    obtain ⟨k, hk⟩ : ∃ k, k = (a.toNat + p) / 1024 := ⟨_, rfl⟩
    have hkM : k < M.length := by omega
    have hd : ((a.toNat : Int) + p).tdiv 1024 = (k : Int) := by rw [Int.tdiv_eq_ediv_of_nonneg (by omega)]; omega
    have hst := tch_step (M := M) (W := W) (a := a.toNat) (n := p) (by omega)
    rw [← hk] at hst
    have hM : (M.map Value.bool)[k]? = some (.bool (M.getD k false)) := by
      rw [List.getElem?_map, List.getElem?_eq_getElem (by omega)]
      simp [show k < M.length by omega]
    have hMn : (M.map Value.bool).length = M.length := by simp
    have hM2 : ∀ hh : k < (M.map Value.bool).length, (M.map Value.bool)[k]'hh = .bool (M.getD k false) := fun hh => by rw [List.getElem?_eq_getElem hh] at hM; exact Option.some.inj hM
    have hlw : (tch M W a.toNat p).length = M.length := by simp [hwl]
    generalize M.getD k false = m0 at *
    generalize hML : M.map Value.bool = ML at *
    cases m0 with
    | false =>
      simp only [Bool.false_eq_true, if_false] at hst
      simp (maxSteps := 1000000) (disch := first | assumption | ((try simp only [push_next, put_next, adv_next, List.length_cons, List.length_nil, List.length_map, List.length_set]); omega) | simp) [e0, e1, e2, e6, hpi, hr', hm', hd, hM, hM2, hMn, hkM]
      exact ih (n - (p + 1)) (by omega) _ _ ⟨p + 1, rfl, by omega, by simp [e0], by simp [e1], by simp [e2], by simp, by rw [hst]; exact R', U'⟩
    | true =>
      simp only [if_true] at hst
      have hov : over ((tch M W a.toNat p).map Value.bool) k [.bool true] = (tch M W a.toNat (p + 1)).map Value.bool := by
        rw [over_set (by simp [hwl]; omega), hst, List.map_set]
      have hwr := wr_ok hw' (o := k) (vs := [.bool true]) (by simp [hwl]; omega) rfl
      rw [hov] at hwr
      simp (maxSteps := 1000000) (disch := first | assumption | ((try simp only [push_next, put_next, adv_next, List.length_cons, List.length_nil, List.length_map, List.length_set]); omega) | simp) [e0, e1, e2, e6, hpi, hr', hm', hd, hM, hM2, hMn, hkM, hlw, hwr, -over, -Hp.wr]
      refine ih (n - (p + 1)) (by omega) _ _ ⟨p + 1, rfl, by omega, by simp [e0], by simp [e1], by simp [e2], by simp, ?_, U'.put1⟩
      exact ⟨by rw [get_put_ne (by omega), R'.r], by rw [get_put_ne (by omega), R'.b], by rw [get_put_ne (by omega), R'.m], by rw [get_put_self (by omega)], R'.sz, by simp [hwl], R'.ml⟩
  · have : p = n := by omega
    subst this
    simp (maxSteps := 1000000) (disch := first | assumption | ((try simp only [push_next, put_next, adv_next, List.length_cons, List.length_nil, List.length_map, List.length_set]); omega) | simp) [e2, e6]
    exact hq _ R' U'
theorem zput {a : BitVec 32} {l : By} {s : Option Addr} {c : Nat} (R : Ra h x B M W) (S : Sees encB h s l) (hb : l.length < 2 ^ 40) (hno : thB B a l.length = false → q (.bool false) h)
    (hyes : thB B a l.length = true → ∀ h', Ra h' x (ovB B a.toNat l) M (tch M W a.toNat l.length) → Upd h h' [x, x + 2] [x, x + 2] → q (.bool true) h') : WC T n_pianolaref2_Ram_Put [ptr (x + 3) 0, u32 a, .slice s l.length c] h q := by
  have ht := fun q => zin (q := q) (a := a) (n := l.length) R (by omega)
  have hr := R.r
  have hl := R.sz
  have hm := R.ml
  have hlt := R.lt
  rw [w_pianolaref2_Ram_Put]
  cases hc : thB B a l.length with
  | false =>
    rw [hc] at ht
    simp (maxSteps := 1000000) (disch := first | assumption | ((try simp only [push_next, put_next, adv_next, List.length_cons, List.length_nil, List.length_map, List.length_set]); omega) | simp) [GC_of ht]
    exact hno hc
  | true =>
    rw [hc] at ht
    have hc' := hc
    simp only [thB, decide_eq_true_eq] at hc
    have hs := sliceV_lo' (sz := 1) (b := x) (o := 0) (n := B.length) (k := .u32) (lo := a.toNat) (by omega) (by omega)
    have hs' : sliceV 1 (.slice (some ⟨x, 0, none⟩) B.length B.length) (some (u32 a)) none none = some (.slice (some (if B.length = a.toNat then ⟨x, 0, none⟩ else ⟨x, a.toNat, none⟩)) (B.length - a.toNat) (B.length - a.toNat)) := by
      have e : u32 a = .int .u32 (a.toNat : Int) := rfl
      rw [e, hs]
      simp
    have hcp := cpy_in (c := B.length - a.toNat) (c' := c) R.b S (show a.toNat + l.length ≤ B.length by omega)
    have hR : Ra (h.put x (some (.cells false ((ovB B a.toNat l).map u8)))) x (ovB B a.toNat l) M W :=
      ⟨by rw [get_put_ne (by omega), R.r, ovB_length (by omega)], by rw [get_put_self (by omega)], by rw [get_put_ne (by omega), R.m], by rw [get_put_ne (by omega), R.w], by rw [ovB_length (by omega), R.sz], R.wl, R.ml⟩
    simp (maxSteps := 1000000) (disch := first | assumption | ((try simp only [push_next, put_next, adv_next, List.length_cons, List.length_nil, List.length_map, List.length_set]); omega) | simp) [GC_of ht, hr, hs', hcp]
    refine GC_intro (ztouch (q := fun v h' => v = .tuple #[] ∧ Ra h' x (ovB B a.toNat l) M (tch M W a.toNat l.length) ∧ Upd h h' [x, x + 2] [x, x + 2]) hR (by rw [ovB_length (by omega)]; omega) fun h2 R2 U2 => ⟨rfl, R2, ?_⟩) fun v h2 ⟨hv, R2, U2⟩ => ?_
    · refine ⟨?_, fun k hk hn => ?_, fun k hk => .inl hk⟩
      · have := U2.le; simpa using this
      · rw [U2.get k (by simpa using hk) (by simp at hn ⊢; exact hn.2), get_put_ne (by simp at hn; exact hn.1)]
    · subst hv
      simp (maxSteps := 1000000) (disch := first | assumption | ((try simp only [push_next, put_next, adv_next, List.length_cons, List.length_nil, List.length_map, List.length_set]); omega) | simp)
      exact hyes hc' _ R2 U2
theorem zbytes {a : BitVec 32} {n : Int} (R : Ra h x B M W) (hn : n < 2 ^ 63) (hno : thB B a n = false → q (.tuple #[.slice none 0 0, .bool false]) h)
    (hyes : ∀ m : Nat, n = m → a.toNat + m ≤ B.length → thB B a n = true → ∀ a' c' h', Sees encB h' a' ((B.drop a.toNat).take m) → Kp h h' → q (.tuple #[.slice a' m c', .bool true]) h') : WC T n_pianolaref2_Ram_Bytes [ptr (x + 3) 0, u32 a, .int .i64 n] h q := by
  have ht := fun q => zin (q := q) (a := a) R hn
  have hr := R.r
  have hl := R.sz
  have hm := R.ml
  rw [w_pianolaref2_Ram_Bytes]
  cases hc : thB B a n with
  | false =>
    rw [hc] at ht
    simp (maxSteps := 1000000) (disch := first | assumption | ((try simp only [push_next, put_next, adv_next, List.length_cons, List.length_nil, List.length_map, List.length_set]); omega) | simp) [GC_of ht]
    exact hno hc
  | true =>
    rw [hc] at ht
    have hc' := hc
    simp only [thB, decide_eq_true_eq] at hc
    obtain ⟨m, rfl⟩ := Int.eq_ofNat_of_zero_le hc.1
    obtain ⟨a', c', hs, hc2, S⟩ := (sees_b R.b).parte (a := a) (m := m) (by omega) (Nat.le_refl _)
    simp only [encB_sz] at hs
    have hL : ((B.drop a.toNat).take m).length = m := by simp; omega
    have K1 : Kp h (h.push (.cells false [])) := (Kp.refl h).push _
    have Oe : Own encB (h.push (.cells false [])) (.slice (some ⟨h.next, 0, none⟩) 0 0) [] [h.next] := .emp get_push_self
    have hr1 : (h.push (.cells false [])).get (x + 3) = _ := (K1.get _ R.lt).trans R.r
    simp (maxSteps := 1000000) (disch := first | assumption | ((try simp only [push_next, put_next, adv_next, List.length_cons, List.length_nil, List.length_map, List.length_set]); omega) | simp) [GC_of ht, hr1, hs]
    refine GV_app (E := encB) Oe (S.kp K1) hL.symm (by simp; omega) (by simp; omega) fun v2 h2 fp2 O2 U2 => ?_
    obtain ⟨a3, c3, hv3, s3, _, _⟩ := O2.len
    rw [List.nil_append, hL] at hv3
    rw [List.nil_append] at s3
    subst hv3
    simp (maxSteps := 1000000) (disch := first | assumption | ((try simp only [push_next, put_next, adv_next, List.length_cons, List.length_nil, List.length_map, List.length_set]); omega) | simp)
    exact hyes m rfl (by omega) hc' _ _ _ s3 (U2.kp' K1 (by simp))
end
end Go.Proofs.Ytppgoobhlcdbbaa.Cd

/- Moves of memory: what each function does. -/
set_option maxRecDepth 1000000
set_option maxHeartbeats 4000000
set_option linter.unusedSimpArgs false
set_option linter.unusedVariables false
namespace Go.Proofs.Ytppgoobhlcdbbaa.Cd
open Go Go.Dx
/-- What moves, as words. -/
structure DmS where
  f : BitVec 32
  t : BitVec 32
  c : BitVec 32
  s : BitVec 32
def DmS.rd (D : DmS) (a : BitVec 32) : BitVec 32 := if a = 0#32 then D.f else if a = 4#32 then D.t else if a = 8#32 then D.c else if a = 16#32 then D.s else 0#32
def dat (a : BitVec 32) : Bool := decide (a = 0#32 ∨ a = 4#32 ∨ a = 8#32 ∨ a = 12#32 ∨ a = 16#32)
/-- How long a move takes. -/
def dtime (c : BitVec 32) : Int := ((if 4096#32 < c then 4096#32 else c).toNat : Int) / 4 + 1
def DmS.go (D : DmS) (v : BitVec 32) : Bool := v &&& 1#32 != 0#32 && D.s &&& 1#32 == 0#32
def DmS.wr (D : DmS) (a v : BitVec 32) : DmS :=
  if a = 0#32 then { D with f := v } else if a = 4#32 then { D with t := v } else if a = 8#32 then { D with c := v }
  else if a = 12#32 then (if D.go v = true then { D with s := D.s ||| 1#32 } else D) else if a = 16#32 then { D with s := D.s &&& ~~~(v &&& 6#32) } else D
def DmS.wrw (D : DmS) (W : WhS) (d : Int) (a v : BitVec 32) (now : Int) : WhS := if a = 12#32 ∧ D.go v = true then W.arm d (now + dtime D.c) else W
/-- May it be moved? -/
def DmS.ok (D : DmS) (B : By) : Bool := decide (D.c.toNat ≤ 4096) && thB B D.f D.c.toNat && thB B D.t D.c.toNat
def DmS.fire (D : DmS) (B : By) : DmS := { D with s := if D.ok B = true then (D.s &&& 4294967294#32) ||| 2#32 else ((D.s &&& 4294967294#32) ||| 2#32) ||| 4#32 }
def DmS.mem (D : DmS) (B : By) : By := if D.ok B = true then ovB B D.t.toNat ((B.drop D.f.toNat).take D.c.toNat) else B
def DmS.wrt (D : DmS) (B : By) (M W : List Bool) : List Bool := if D.ok B = true then tch M W D.t.toNat D.c.toNat else W
def Dm (h : Hp) (d w x : Nat) (v : Int) (D : DmS) : Prop := h.get d = some (.cells false [.int .i64 v, ptr w 0, ptr (x + 3) 0, u32 D.f, u32 D.t, u32 D.c, u32 D.s])
section
variable {h : Hp} {q : Value → Hp → Prop} {d w x : Nat} {B : By} {M W : List Bool} {S : WhS} {fp : List Nat} {D : DmS} {dv now : Int} {a v : BitVec 32}
end
end Go.Proofs.Ytppgoobhlcdbbaa.Cd

/- The disk: what each function does. -/
set_option maxRecDepth 1000000
set_option maxHeartbeats 4000000
set_option linter.unusedSimpArgs false
set_option linter.unusedVariables false
namespace Go.Proofs.Ytppgoobhlcdbbaa.Cd
open Go Go.Dx
/-- A disk's words. -/
structure DkS where
  e : BitVec 32
  a : BitVec 32
  c : BitVec 32
  s : BitVec 32
def DkS.rd (D : DkS) (a : BitVec 32) : BitVec 32 := if a = 0#32 then D.e else if a = 4#32 then D.a else if a = 8#32 then D.c else if a = 12#32 then D.s else 0#32
def kat (a : BitVec 32) : Bool := decide (a = 0#32 ∨ a = 4#32 ∨ a = 8#32 ∨ a = 12#32)
def DkS.wr (D : DkS) (a v : BitVec 32) : DkS :=
  if a = 0#32 then { D with e := v } else if a = 4#32 then { D with a := v }
  else if a = 8#32 then (if D.s &&& 1#32 = 0#32 then { D with c := v, s := D.s ||| 1#32 } else D) else if a = 12#32 then { D with s := D.s &&& ~~~(v &&& 6#32) } else D
def DkS.wrw (D : DkS) (W : WhS) (d : Int) (a : BitVec 32) (now : Int) : WhS := if a = 8#32 ∧ D.s &&& 1#32 = 0#32 then W.arm d (now + 32) else W
/-- May it be done? -/
def DkS.ok (D : DkS) (E B : By) : Bool := decide (D.e.toNat < E.length / 64 ∧ (D.c = 1#32 ∨ D.c = 2#32)) && thB B D.a 64
def DkS.fire (D : DkS) (E B : By) : DkS := { D with s := if D.ok E B = true then (D.s &&& 4294967294#32) ||| 2#32 else ((D.s &&& 4294967294#32) ||| 2#32) ||| 4#32 }
def DkS.mem (D : DkS) (E B : By) : By := if D.ok E B = true ∧ D.c = 1#32 then ovB B D.a.toNat ((E.drop (64 * D.e.toNat)).take 64) else B
def DkS.wrt (D : DkS) (E B : By) (M W : List Bool) : List Bool := if D.ok E B = true ∧ D.c = 1#32 then tch M W D.a.toNat 64 else W
def DkS.img (D : DkS) (E B : By) : By := if D.ok E B = true ∧ D.c = 2#32 then ovB E (64 * D.e.toNat) ((B.drop D.a.toNat).take 64) else E
/-- A disk as it lies: its words in block y, its bytes in block z. -/
structure Dk (h : Hp) (y z w x : Nat) (v : Int) (E : By) (D : DkS) : Prop where
  d : h.get y = some (.cells false [.int .i64 v, ptr w 0, ptr (x + 3) 0, .slice (some ⟨z, 0, none⟩) E.length E.length, u32 D.e, u32 D.a, u32 D.c, u32 D.s])
  b : h.get z = some (.cells false (E.map u8))
  l : E.length % 64 = 0 ∧ E.length ≤ 4096
section
variable {h : Hp} {q : Value → Hp → Prop} {y z w x : Nat} {B E : By} {M W : List Bool} {S : WhS} {fp : List Nat} {D : DkS} {dv now : Int} {a v : BitVec 32}
theorem _root_.Go.Dx.Upd.wid {h h' : Hp} {fp fp' fp2 : List Nat} (U : Upd h h' fp fp') (hs : ∀ b ∈ fp, b ∈ fp2) : Upd h h' fp2 fp2 := ⟨U.le, fun b hb hn => U.get b hb fun hm => hn (hs b hm), fun b hb => .inl hb⟩
theorem Dk.keep {h' : Hp} (A : Dk h y z w x dv E D) (hy : h'.get y = h.get y) (hz : h'.get z = h.get z) : Dk h' y z w x dv E D := ⟨by rw [hy, A.d], by rw [hz, A.b], A.l⟩
theorem cpy_at {h : Hp} {z o n c c' : Nat} {B l : By} {s : Option Addr} (hg : h.get z = some (.cells false (B.map u8))) (S : Sees encB h s l) (hl : o + l.length ≤ B.length) (hn : l.length = n) :
    copyV h 1 (.slice (some ⟨z, o, none⟩) n c) (.slice s n c') = some (.int .i64 n, h.put z (some (.cells false ((ovB B o l).map u8)))) := by
  subst hn
  have he := S.elems (c := c')
  simp only [encB_sz, encB_all] at he
  unfold copyV
  simp only [lenV, Nat.min_self, he]
  by_cases h0 : l.length = 0
  · have : l = [] := List.length_eq_zero_iff.1 h0
    subst this
    rw [ovB_nil, put_get hg]
    simp
  · rw [if_neg h0, wr_ok hg (by simp; omega) (all_u8 l), over_u8]
    rfl
/-- The bytes of a disk that is made of an image. -/
def dkE (l : By) : By := (l ++ List.replicate (64 * min ((l.length + 63) / 64) 64) 0#8).take (64 * min ((l.length + 63) / 64) 64)
theorem dkE_length (l : By) : (dkE l).length = 64 * min ((l.length + 63) / 64) 64 := by simp [dkE]
theorem cpy_pre {h : Hp} {z m c c' : Nat} {l : By} {s : Option Addr} (hg : h.get z = some (.cells false ((List.replicate m 0#8).map u8))) (S : Sees encB h s l) :
    ∃ j : Int, copyV h 1 (.slice (some ⟨z, 0, none⟩) m c) (.slice s l.length c') = some (.int .i64 j, h.put z (some (.cells false (((l ++ List.replicate m 0#8).take m).map u8)))) := by
  have S2 : Sees encB h s (l.take (min l.length m)) := ⟨fun hs => by rw [S.nil hs]; simp, fun A hA => by
    have := rdn_part (S.get A hA) (k := 0) (n := min l.length m) (by simp; omega)
    rw [Nat.add_zero] at this
    simpa [encB_all] using this, S.sp⟩
  have hL : (l.take (min l.length m)).length = min l.length m := by simp
  have hcp := cpy_at (B := List.replicate m 0#8) (c := c) (c' := c') (n := min l.length m) hg S2 (o := 0) (by simp; try omega) hL
  have hov : ovB (List.replicate m 0#8) 0 (l.take (min l.length m)) = (l ++ List.replicate m 0#8).take m := by
    simp only [ovB, List.take_zero, List.nil_append, hL, Nat.zero_add]
    by_cases hm : l.length ≤ m
    · rw [Nat.min_eq_left hm, List.take_length, List.take_append, List.take_of_length_le hm]
      simp
    · rw [Nat.min_eq_right (by omega), List.take_append_of_le_length (by omega)]
      simp
  rw [hov] at hcp
  refine ⟨(min l.length m : Nat), ?_⟩
  rw [← hcp]
  unfold copyV
  cases s <;> simp [lenV, elems]
end
end Go.Proofs.Ytppgoobhlcdbbaa.Cd

/- A timer as a state: what each function does. -/
set_option maxRecDepth 1000000
set_option maxHeartbeats 4000000
set_option linter.unusedSimpArgs false
set_option linter.unusedVariables false
namespace Go.Proofs.Ytppgoobhlcdbbaa.Cd
open Go Go.Dx
/-- A timer's words. -/
structure TmS where
  c : BitVec 32
  p : BitVec 32
  s : BitVec 32
def TmS.rd (T : TmS) (a : BitVec 32) : BitVec 32 := if a = 0#32 then T.c else if a = 4#32 then T.p else if a = 8#32 then T.s else 0#32
def mat (a : BitVec 32) : Bool := decide (a = 0#32 ∨ a = 4#32 ∨ a = 8#32)
/-- A period, one at least. -/
def tper (p : BitVec 32) : Int := ((if 1#32 < p then p else 1#32).toNat : Int)
theorem tper_pos (p : BitVec 32) : 1 ≤ tper p ∧ tper p < 4294967296 := by
  unfold tper
  split
  · rename_i h
    have h1 := BitVec.lt_def.1 h
    have h2 := p.isLt
    simp at h1
    omega
  · decide
def TmS.wr (T : TmS) (a v : BitVec 32) : TmS := if a = 0#32 then { T with c := v &&& 3#32 } else if a = 4#32 then { T with p := v } else if a = 8#32 then (if v &&& 1#32 = 0#32 then T else { T with s := 0#32 }) else T
def TmS.wrw (T : TmS) (W : WhS) (d : Int) (a v : BitVec 32) (now : Int) : WhS := if a = 0#32 then (if v &&& 1#32 = 0#32 then W.can d else W.arm d (now + tper T.p)) else W
def TmS.fire (T : TmS) : TmS := if T.c &&& 2#32 = 0#32 then { T with c := T.c &&& ~~~ 1#32, s := 1#32 } else { T with s := 1#32 }
def TmS.firew (T : TmS) (W : WhS) (d now : Int) : WhS := if T.c &&& 2#32 = 0#32 then W else W.arm d (now + tper T.p)
def TmC (h : Hp) (t w : Nat) (d : Int) (T : TmS) : Prop := h.get t = some (.cells false [.int .i64 d, ptr w 0, u32 T.c, u32 T.p, u32 T.s])
section
variable {h : Hp} {q : Value → Hp → Prop} {t w : Nat} {dv now : Int} {N : TmS} {S : WhS} {fp : List Nat} {a v : BitVec 32}
theorem wcanS (A : WhA h w S fp) (hq : ∀ v h' fp', WhA h' w (S.can dv) fp' → Upd h h' (w :: fp) (w :: fp') → q v h') : WC T n_wheel_Wheel_Cancel [ptr w 0, .int .i64 dv] h q := by
  have := A.wi.len
  exact wcancel A.wh (by omega) fun h1 fp1 W1 U1 => hq _ _ _ ⟨W1, A.wi.can dv⟩ U1
theorem mline (A : TmC h t w dv N) : WC T n_timer_Timer_Line [ptr t 0] h q ↔ q (.bool (N.s != 0#32)) h := by
  unfold TmC at A
  rw [w_timer_Timer_Line]
  simp (maxSteps := 1000000) (disch := first | assumption | ((try simp only [push_next, put_next, adv_next, List.length_cons, List.length_nil, List.length_map, List.length_set]); omega) | simp) [A]
theorem mnew (hw : w < h.next) : WC T n_timer_New [.int .i64 dv, ptr w 0] h q ↔ q (ptr h.next 0) (h.push (.cells false [.int .i64 dv, ptr w 0, u32 0#32, u32 0#32, u32 0#32])) := by
  rw [w_timer_New]
  simp (maxSteps := 1000000) (disch := first | assumption | ((try simp only [push_next, put_next, adv_next, List.length_cons, List.length_nil, List.length_map, List.length_set]); omega) | simp)
theorem mread (A : TmC h t w dv N) : WC T n_timer_Timer_Read [ptr t 0, u32 a] h q ↔ q (.tuple #[u32 (N.rd a), .bool (mat a)]) h := by
  unfold TmC at A
  rw [w_timer_Timer_Read]
  by_cases a0 : a = 0#32
  · subst a0; simp (maxSteps := 1000000) (disch := first | assumption | ((try simp only [push_next, put_next, adv_next, List.length_cons, List.length_nil, List.length_map, List.length_set]); omega) | simp) [A, TmS.rd, mat]
  by_cases a4 : a = 4#32
  · subst a4; simp (maxSteps := 1000000) (disch := first | assumption | ((try simp only [push_next, put_next, adv_next, List.length_cons, List.length_nil, List.length_map, List.length_set]); omega) | simp) [A, TmS.rd, mat]
  by_cases a8 : a = 8#32
  · subst a8; simp (maxSteps := 1000000) (disch := first | assumption | ((try simp only [push_next, put_next, adv_next, List.length_cons, List.length_nil, List.length_map, List.length_set]); omega) | simp) [A, TmS.rd, mat]
  simp (maxSteps := 1000000) (disch := first | assumption | ((try simp only [push_next, put_next, adv_next, List.length_cons, List.length_nil, List.length_map, List.length_set]); omega) | simp) [A, a0, a4, a8, TmS.rd, mat]
theorem TmC.upd {h' : Hp} {fp' : List Nat} (A : TmC h t w dv N) (hd : t ∉ w :: fp) (U : Upd h h' (w :: fp) (w :: fp')) : TmC h' t w dv N ∧ Upd h h' (t :: w :: fp) (t :: w :: fp') ∧ t ∉ w :: fp' := by
  unfold TmC at A ⊢
  have hl := lt_of_get A
  refine ⟨by rw [U.get t hl hd, A], ⟨U.le, fun b hb hn => U.get b hb fun hm => hn (List.mem_cons_of_mem _ hm), fun b hb => ?_⟩, fun hm => ?_⟩
  · rcases List.mem_cons.1 hb with rfl | hb
    · exact .inl (by simp)
    · rcases U.sub b hb with h5 | h5
      · exact .inl (List.mem_cons_of_mem _ h5)
      · exact .inr h5
  · rcases U.sub t hm with h5 | h5
    · exact hd h5
    · omega
theorem marm (A : TmC h t w dv N) (Q : WhA h w S fp) (hd : t ∉ w :: fp) (hn : 0 ≤ now ∧ now ≤ 2 ^ 60)
    (hq : ∀ h' fp', TmC h' t w dv N → WhA h' w (S.arm dv (now + tper N.p)) fp' → Upd h h' (t :: w :: fp) (t :: w :: fp') → t ∉ w :: fp' → q (.tuple #[]) h') : WC T n_timer_Timer_arm [ptr t 0, .int .i64 now] h q := by
  have A0 := A
  unfold TmC at A
  obtain ⟨p1, p2⟩ := tper_pos N.p
  have hw' : IntKind.i64.wrap (now + ((if 1#32 < N.p then N.p else 1#32).toNat : Int)) = now + tper N.p := wrap_i64 (by omega) (by omega)
  rw [w_timer_Timer_arm]
  simp (maxSteps := 1000000) (disch := first | assumption | ((try simp only [push_next, put_next, adv_next, List.length_cons, List.length_nil, List.length_map, List.length_set]); omega) | simp) [A, hw']
  refine warmS Q fun h1 fp1 Q1 U1 => ?_
  simp (maxSteps := 1000000) (disch := first | assumption | ((try simp only [push_next, put_next, adv_next, List.length_cons, List.length_nil, List.length_map, List.length_set]); omega) | simp)
  obtain ⟨k1, k2, k3⟩ := A0.upd hd U1
  exact hq _ _ k1 Q1 k2 k3
theorem mwrite (A : TmC h t w dv N) (Q : WhA h w S fp) (hd : t ∉ w :: fp) (hn : 0 ≤ now ∧ now ≤ 2 ^ 60)
    (hq : ∀ h' fp', TmC h' t w dv (N.wr a v) → WhA h' w (N.wrw S dv a v now) fp' → Upd h h' (t :: w :: fp) (t :: w :: fp') → t ∉ w :: fp' → q (.bool (mat a)) h') :
    WC T n_timer_Timer_Write [ptr t 0, u32 a, u32 v, .int .i64 now] h q := by
  have A0 := A
  unfold TmC at A
  have hl := lt_of_get A
  have hdw : ∀ b ∈ w :: fp, b ≠ t := fun b hb e => hd (e ▸ hb)
  have key : ∀ T' : TmS, TmC (h.put t (some (.cells false [.int .i64 dv, ptr w 0, u32 T'.c, u32 T'.p, u32 T'.s]))) t w dv T' ∧ WhA (h.put t (some (.cells false [.int .i64 dv, ptr w 0, u32 T'.c, u32 T'.p, u32 T'.s]))) w S fp ∧ Upd h (h.put t (some (.cells false [.int .i64 dv, ptr w 0, u32 T'.c, u32 T'.p, u32 T'.s]))) (t :: w :: fp) (t :: w :: fp) := fun T' =>
    ⟨by unfold TmC; rw [get_put_self hl], Q.keep fun b hb => get_put_ne (hdw b hb), ⟨by simp, fun b hb hn => get_put_ne fun e => hn (by rw [e]; simp), fun b hb => .inl hb⟩⟩
  rw [w_timer_Timer_Write]
  by_cases a0 : a = 0#32
  · subst a0
    obtain ⟨k1, k2, k3⟩ := key { N with c := v &&& 3#32 }
    by_cases v1 : v &&& 1#32 = 0#32
    · have A1 := k1
      unfold TmC at A1
      simp (maxSteps := 1000000) (disch := first | assumption | ((try simp only [push_next, put_next, adv_next, List.length_cons, List.length_nil, List.length_map, List.length_set]); omega) | simp) [A, v1]
      generalize h.put t (some (.cells false [.int .i64 dv, ptr w 0, u32 (v &&& 3#32), u32 N.p, u32 N.s])) = h1 at *
      refine wcanS k2 fun _ h2 fp2 Q2 U2 => ?_
      obtain ⟨j1, j2, j3⟩ := k1.upd hd U2
      simp (maxSteps := 1000000) (disch := first | assumption | ((try simp only [push_next, put_next, adv_next, List.length_cons, List.length_nil, List.length_map, List.length_set]); omega) | simp)
      exact hq _ _ (by simpa [TmS.wr] using j1) (by simpa [TmS.wrw, v1] using Q2) (k3.trans j2) j3
    · simp (maxSteps := 1000000) (disch := first | assumption | ((try simp only [push_next, put_next, adv_next, List.length_cons, List.length_nil, List.length_map, List.length_set]); omega) | simp) [A, v1]
      generalize h.put t (some (.cells false [.int .i64 dv, ptr w 0, u32 (v &&& 3#32), u32 N.p, u32 N.s])) = h1 at *
      refine marm k1 k2 hd hn fun h2 fp2 T2 Q2 U2 N2 => ?_
      simp (maxSteps := 1000000) (disch := first | assumption | ((try simp only [push_next, put_next, adv_next, List.length_cons, List.length_nil, List.length_map, List.length_set]); omega) | simp)
      exact hq _ _ (by simpa [TmS.wr] using T2) (by simpa [TmS.wrw, v1] using Q2) (k3.trans U2) N2
  by_cases a4 : a = 4#32
  · subst a4
    obtain ⟨k1, k2, k3⟩ := key { N with p := v }
    simp (maxSteps := 1000000) (disch := first | assumption | ((try simp only [push_next, put_next, adv_next, List.length_cons, List.length_nil, List.length_map, List.length_set]); omega) | simp) [A]
    exact hq _ fp (by simpa [TmS.wr] using k1) (by simpa [TmS.wrw] using k2) k3 hd
  by_cases a8 : a = 8#32
  · subst a8
    obtain ⟨k1, k2, k3⟩ := key { N with s := 0#32 }
    by_cases v1 : v &&& 1#32 = 0#32
    · simp (maxSteps := 1000000) (disch := first | assumption | ((try simp only [push_next, put_next, adv_next, List.length_cons, List.length_nil, List.length_map, List.length_set]); omega) | simp) [A, v1]
      exact hq _ fp (by simpa [TmS.wr, v1] using A0) (by simpa [TmS.wrw] using Q) (Kp.upd (Kp.refl h) _) hd
    · simp (maxSteps := 1000000) (disch := first | assumption | ((try simp only [push_next, put_next, adv_next, List.length_cons, List.length_nil, List.length_map, List.length_set]); omega) | simp) [A, v1]
      exact hq _ fp (by simpa [TmS.wr, v1] using k1) (by simpa [TmS.wrw] using k2) k3 hd
  have h9 := hq h fp (by simpa [TmS.wr, a0, a4, a8] using A0) (by simpa [TmS.wrw, a0] using Q) (Kp.upd (Kp.refl h) _) hd
  simp only [mat, a0, a4, a8, or_false, decide_false] at h9
  simp (maxSteps := 1000000) (disch := first | assumption | ((try simp only [push_next, put_next, adv_next, List.length_cons, List.length_nil, List.length_map, List.length_set]); omega) | simp) [a0, a4, a8]
  exact h9
theorem mfire (A : TmC h t w dv N) (Q : WhA h w S fp) (hd : t ∉ w :: fp) (hn : 0 ≤ now ∧ now ≤ 2 ^ 60)
    (hq : ∀ h' fp', TmC h' t w dv N.fire → WhA h' w (N.firew S dv now) fp' → Upd h h' (t :: w :: fp) (t :: w :: fp') → t ∉ w :: fp' → q (.tuple #[]) h') :
    WC T n_timer_Timer_Fire [ptr t 0, .int .i64 now] h q := by
  have A0 := A
  unfold TmC at A
  have hl := lt_of_get A
  have hdw : ∀ b ∈ w :: fp, b ≠ t := fun b hb e => hd (e ▸ hb)
  have key : ∀ T' : TmS, TmC (h.put t (some (.cells false [.int .i64 dv, ptr w 0, u32 T'.c, u32 T'.p, u32 T'.s]))) t w dv T' ∧ WhA (h.put t (some (.cells false [.int .i64 dv, ptr w 0, u32 T'.c, u32 T'.p, u32 T'.s]))) w S fp ∧ Upd h (h.put t (some (.cells false [.int .i64 dv, ptr w 0, u32 T'.c, u32 T'.p, u32 T'.s]))) (t :: w :: fp) (t :: w :: fp) := fun T' =>
    ⟨by unfold TmC; rw [get_put_self hl], Q.keep fun b hb => get_put_ne (hdw b hb), ⟨by simp, fun b hb hn => get_put_ne fun e => hn (by rw [e]; simp), fun b hb => .inl hb⟩⟩
  rw [w_timer_Timer_Fire]
  by_cases c2 : N.c &&& 2#32 = 0#32
  · obtain ⟨k1, k2, k3⟩ := key { N with c := N.c &&& ~~~ 1#32, s := 1#32 }
    simp (maxSteps := 1000000) (disch := first | assumption | ((try simp only [push_next, put_next, adv_next, List.length_cons, List.length_nil, List.length_map, List.length_set]); omega) | simp) [A, c2]
    exact hq _ _ (by simpa [TmS.fire, c2] using k1) (by simpa [TmS.firew, c2] using k2) k3 hd
  · obtain ⟨k1, k2, k3⟩ := key { N with s := 1#32 }
    simp (maxSteps := 1000000) (disch := first | assumption | ((try simp only [push_next, put_next, adv_next, List.length_cons, List.length_nil, List.length_map, List.length_set]); omega) | simp) [A, c2]
    generalize h.put t (some (.cells false [.int .i64 dv, ptr w 0, u32 N.c, u32 N.p, u32 1#32])) = h1 at *
    refine marm k1 k2 hd hn fun h2 fp2 T2 Q2 U2 N2 => ?_
    simp (maxSteps := 1000000) (disch := first | assumption | ((try simp only [push_next, put_next, adv_next, List.length_cons, List.length_nil, List.length_map, List.length_set]); omega) | simp)
    exact hq _ _ (by simpa [TmS.fire, c2] using T2) (by simpa [TmS.firew, c2] using Q2) (k3.trans U2) N2
end
end Go.Proofs.Ytppgoobhlcdbbaa.Cd

/- The lines: what each function does. -/
set_option maxRecDepth 1000000
set_option linter.unusedSimpArgs false
namespace Go.Proofs.Ytppgoobhlcdbbaa.Cd
open Go Go.Dx
section
variable {h : Hp} {b : Nat} {r m : BitVec 32} {q : Value → Hp → Prop}
def Ln (h : Hp) (b : Nat) (r m : BitVec 32) : Prop := h.get b = some (.cells false [u32 r, u32 m])
/-- A line up or down. -/
def lset (d : Int) (up : Bool) (r : BitVec 32) : BitVec 32 :=
  if d < 1 ∨ 5 < d then r else if up then r &&& ~~~ (1#32 <<< d.toNat) ||| 1#32 <<< d.toNat else r &&& ~~~ (1#32 <<< d.toNat)
/-- Which words there are. -/
def lat (at' : BitVec 32) : Bool := at' == 4 || at' == 0 || at' == 8 || at' == 12
/-- What a word says. -/
def lrd (r m at' : BitVec 32) (now : Int) : BitVec 32 :=
  if at' = 0 then r else if at' = 4 then m else if at' = 8 then BitVec.ofInt 32 now else if at' = 12 then BitVec.ofInt 32 (now.fdiv 4294967296) else 0
end
end Go.Proofs.Ytppgoobhlcdbbaa.Cd

/- The line of bytes: what each function does. -/
set_option maxRecDepth 1000000
set_option maxHeartbeats 4000000
set_option linter.unusedSimpArgs false
set_option linter.unusedVariables false
namespace Go.Proofs.Ytppgoobhlcdbbaa.Cd
open Go Go.Dx
structure UaS where
  i : By
  o : By
  lost : Bool
  ctl : BitVec 32
  out : By
def uat (a : BitVec 32) : Bool := decide (a = 0#32 ∨ a = 4#32 ∨ a = 8#32)
def ubit (t : Bool) (b : BitVec 32) : BitVec 32 := if t = true then b else 0#32
def UaS.stat (U : UaS) : BitVec 32 := ubit (decide (0 < U.i.length)) 1#32 ||| ubit (decide ((U.o.length : Int) = 16)) 2#32 ||| ubit U.lost 4#32 ||| ubit (decide (U.o = [])) 8#32
def UaS.rd (U : UaS) (a : BitVec 32) : BitVec 32 := if a = 0#32 then (match U.i with | [] => 256#32 | b :: _ => b.setWidth 32) else if a = 4#32 then U.stat else if a = 8#32 then U.ctl else 0#32
def UaS.rds (U : UaS) (a : BitVec 32) : UaS := if a = 0#32 then { U with i := U.i.tail } else U
def UaS.wr (U : UaS) (a v : BitVec 32) : UaS := if a = 0#32 then (if U.o.length < 16 then { U with o := U.o ++ [v.setWidth 8] } else U) else if a = 4#32 then { U with lost := U.lost && decide (v &&& 4#32 = 0#32) } else if a = 8#32 then { U with ctl := v &&& 3#32 } else U
def UaS.wrw (U : UaS) (W : WhS) (d : Int) (a : BitVec 32) (now : Int) : WhS := if a = 0#32 ∧ U.o.length = 0 then W.arm d (now + 8) else W
def UaS.fire (U : UaS) : UaS := match U.o with | [] => U | b :: t => { U with o := t, out := if U.out.length < 65536 then U.out ++ [b] else U.out }
def UaS.firew (U : UaS) (W : WhS) (d now : Int) : WhS := if 1 < U.o.length then W.arm d (now + 8) else W
def UaS.line (U : UaS) : Bool := (U.ctl &&& 1#32 != 0#32 && decide (0 < U.i.length)) || (U.ctl &&& 2#32 != 0#32 && decide (U.o = []))
/-- A line as it lies. -/
structure Ua (h : Hp) (x w : Nat) (dv : Int) (fo : List Nat) (U : UaS) : Prop where
  u : ∃ v, h.get (x + 2) = some (.cells false [.int .i64 dv, ptr w 0, .chan (some x), .chan (some (x + 1)), .bool U.lost, u32 U.ctl, v]) ∧ Own encB h v U.out fo
  i : h.get x = some (.chan 16 (U.i.map u8))
  o : h.get (x + 1) = some (.chan 16 (U.o.map u8))
  off : ∀ b ∈ fo, b < x ∨ x + 2 < b
  ni : U.i.length ≤ 16
  no : U.o.length ≤ 16
  nout : U.out.length ≤ 65536
section
variable {h : Hp} {q : Value → Hp → Prop} {x w c : Nat} {dv now : Int} {fo fp : List Nat} {U : UaS} {S : WhS} {a v : BitVec 32} {B : By} {cap : Nat} {b : BitVec 8}
theorem Ua.lt (A : Ua h x w dv fo U) : x + 2 < h.next := by
  obtain ⟨v, g1, ho⟩ := A.u
  exact lt_of_get g1
theorem Ua.keep {h' : Hp} (A : Ua h x w dv fo U) (hk : ∀ b, b < h.next → (x ≤ b ∧ b ≤ x + 2 ∨ b ∈ fo) → h'.get b = h.get b) : Ua h' x w dv fo U := by
  have hl := A.lt
  obtain ⟨v, g1, ho⟩ := A.u
  exact ⟨⟨v, by rw [hk _ (by omega) (by omega), g1], ho.keep fun b hb => hk _ (ho.live b hb) (.inr hb)⟩, by rw [hk _ (by omega) (by omega), A.i], by rw [hk _ (by omega) (by omega), A.o], A.off, A.ni, A.no, A.nout⟩
theorem Ua.kp {h' : Hp} (A : Ua h x w dv fo U) (K : Kp h h') : Ua h' x w dv fo U := A.keep fun b hb _ => K.get b hb
end
end Go.Proofs.Ytppgoobhlcdbbaa.Cd

/- The bus: a world of memory and devices, and what keeps it. -/
set_option maxRecDepth 1000000
set_option maxHeartbeats 8000000
set_option linter.unusedSimpArgs false
set_option linter.unusedVariables false
namespace Go.Proofs.Ytppgoobhlcdbbaa.Cd
open Go Go.Dx
/-- Where each part lies. -/
structure BL where
  x : Nat
  w : Nat
  l : Nat
  t1 : Nat
  t2 : Nat
  u : Nat
  d : Nat
  z : Nat
  y : Nat
  b : Nat
/-- What each part is. -/
structure BS where
  B : By
  M : List Bool
  W : List Bool
  S : WhS
  r : BitVec 32
  m : BitVec 32
  T1 : TmS
  T2 : TmS
  U : UaS
  D : DmS
  K : DkS
  E : By
def BL.ok (L : BL) : Prop := L.x + 3 < L.w ∧ L.w < L.l ∧ L.l < L.t1 ∧ L.t1 < L.t2 ∧ L.t2 < L.u ∧ L.u + 2 < L.d ∧ L.d < L.z ∧ L.z < L.y ∧ L.y < L.b
def BL.fx (L : BL) : List Nat := [L.x, L.x + 1, L.x + 2, L.x + 3, L.w, L.l, L.t1, L.t2, L.u, L.u + 1, L.u + 2, L.d, L.z, L.y, L.b]
def BL.fp (L : BL) (fp fo : List Nat) : List Nat := L.fx ++ (fp ++ fo)
/-- The bus as it lies. -/
structure BW (h : Hp) (L : BL) (fp fo : List Nat) (X : BS) : Prop where
  bs : h.get L.b = some (.cells false [ptr (L.x + 3) 0, ptr L.w 0, ptr L.l 0, ptr L.t1 0, ptr L.t2 0, ptr (L.u + 2) 0, ptr L.d 0, ptr L.y 0])
  ra : Ra h L.x X.B X.M X.W
  wh : WhA h L.w X.S fp
  ln : Ln h L.l X.r X.m
  t1 : TmC h L.t1 L.w 1 X.T1
  t2 : TmC h L.t2 L.w 2 X.T2
  ua : Ua h L.u L.w 3 fo X.U
  dm : Dm h L.d L.w L.x 4 X.D
  dk : Dk h L.y L.z L.w L.x 5 X.E X.K
  lay : L.ok
  gf : ∀ b ∈ fp, L.b < b
  go : ∀ b ∈ fo, L.b < b ∧ b ∉ fp
section
variable {h h' : Hp} {q : Value → Hp → Prop} {L : BL} {fp fo fp' fo' : List Nat} {X : BS} {S' : WhS} {now : Int} {a v : BitVec 32}
theorem BW.lt (A : BW h L fp fo X) : L.b < h.next := lt_of_get A.bs
theorem BW.nf (A : BW h L fp fo X) {c : Nat} (hc : c ≤ L.b) : c ∉ fp := fun hm => by have := A.gf c hm; omega
theorem BW.no (A : BW h L fp fo X) {c : Nat} (hc : c ≤ L.b) : c ∉ fo := fun hm => by have := A.go c hm; omega
theorem BL.mem (L : BL) {c : Nat} (ho : L.ok) (hc : c ∈ L.fx) : L.x ≤ c ∧ c ≤ L.b := by
  unfold BL.ok at ho
  simp only [BL.fx, List.mem_cons, List.not_mem_nil, or_false] at hc
  omega
theorem BW.keep (A : BW h L fp fo X) (hk : ∀ b ∈ L.fp fp fo, h'.get b = h.get b) : BW h' L fp fo X := by
  have ho := A.lay
  have kx : ∀ c ∈ L.fx, h'.get c = h.get c := fun c hc => hk c (List.mem_append_left _ hc)
  refine ⟨by rw [kx _ (by simp [BL.fx]), A.bs], A.ra.keep fun b h1 h2 => kx _ ?_, A.wh.keep fun b hb => ?_, ?_, ?_, ?_, A.ua.keep fun b _ hb => ?_, ?_, A.dk.keep (kx _ (by simp [BL.fx])) (kx _ (by simp [BL.fx])), ho, A.gf, A.go⟩
  · have : b = L.x ∨ b = L.x + 1 ∨ b = L.x + 2 ∨ b = L.x + 3 := by omega
    rcases this with rfl | rfl | rfl | rfl <;> simp [BL.fx]
  · rcases List.mem_cons.1 hb with rfl | hb
    · exact kx _ (by simp [BL.fx])
    · exact hk _ (List.mem_append_right _ (List.mem_append_left _ hb))
  · have := A.ln; unfold Ln at this ⊢; rw [kx _ (by simp [BL.fx]), this]
  · have := A.t1; unfold TmC at this ⊢; rw [kx _ (by simp [BL.fx]), this]
  · have := A.t2; unfold TmC at this ⊢; rw [kx _ (by simp [BL.fx]), this]
  · rcases hb with hb | hb
    · have : b = L.u ∨ b = L.u + 1 ∨ b = L.u + 2 := by omega
      rcases this with rfl | rfl | rfl <;> exact kx _ (by simp [BL.fx])
    · exact hk _ (List.mem_append_right _ (List.mem_append_right _ hb))
  · have := A.dm; unfold Dm at this ⊢; rw [kx _ (by simp [BL.fx]), this]
theorem BW.live (A : BW h L fp fo X) : ∀ b ∈ L.fp fp fo, b < h.next := fun b hb => by
  rcases List.mem_append.1 hb with hb | hb
  · have := (L.mem A.lay hb).2
    have := A.lt
    omega
  · rcases List.mem_append.1 hb with hb | hb
    · exact A.wh.live b (List.mem_cons_of_mem _ hb)
    · obtain ⟨v, _, ho⟩ := A.ua.u
      exact ho.live b hb
theorem BW.kp (A : BW h L fp fo X) (K : Kp h h') : BW h' L fp fo X := A.keep fun b hb => K.get b (A.live b hb)
theorem BW.upd {p p' : List Nat} (A : BW h L fp fo X) (U : Upd h h' p p') (hn : ∀ b ∈ L.fp fp fo, b ∉ p) : BW h' L fp fo X := A.keep fun b hb => U.get b (A.live b hb) (hn b hb)
/-- One part at a fixed place, and the wheel, changed. -/
theorem BW.dev (A : BW h L fp fo X) {c0 : Nat} (h0 : c0 ∈ L.fx) (Q1 : WhA h' L.w S' fp') (U : Upd h h' (c0 :: L.w :: fp) (c0 :: L.w :: fp')) (N : c0 ∉ fp') :
    (∀ c, c ≤ L.b → c ≠ c0 → c ≠ L.w → h'.get c = h.get c) ∧ (∀ b ∈ fo, h'.get b = h.get b) ∧ (∀ b ∈ fp', L.b < b) ∧ (∀ b ∈ fo, L.b < b ∧ b ∉ fp') ∧ Upd h h' (L.fp fp fo) (L.fp fp' fo) := by
  have hlt := A.lt
  have hx := (L.mem A.lay h0).2
  have hw : L.w ∈ L.fx := by simp [BL.fx]
  have hwb := (L.mem A.lay hw).2
  have sub : ∀ b ∈ fp', b ∈ fp ∨ h.next ≤ b := fun b hb => by
    rcases U.sub b (by simp [hb]) with h5 | h5
    · rcases List.mem_cons.1 h5 with rfl | h5
      · exact absurd hb N
      · rcases List.mem_cons.1 h5 with rfl | h5
        · exact absurd hb Q1.wh.nw
        · exact .inl h5
    · exact .inr h5
  have lo : ∀ b ∈ fo, b < h.next := fun b hb => A.live b (List.mem_append_right _ (List.mem_append_right _ hb))
  refine ⟨fun c hc n0 n1 => U.get c (by omega) ?_, fun b hb => U.get b (lo b hb) ?_, fun b hb => ?_, fun b hb => ⟨(A.go b hb).1, fun hm => ?_⟩, U.le, fun b hb hn => U.get b hb fun hm => hn ?_, fun b hb => ?_⟩
  · simp only [List.mem_cons, n0, n1, false_or]
    exact A.nf hc
  · have := A.go b hb
    simp only [List.mem_cons, not_or]
    exact ⟨by omega, by omega, this.2⟩
  · rcases sub b hb with h5 | h5
    · exact A.gf b h5
    · omega
  · rcases sub b hm with h5 | h5
    · exact (A.go b hb).2 h5
    · have := lo b hb; omega
  · rcases List.mem_cons.1 hm with rfl | hm
    · exact List.mem_append_left _ h0
    · rcases List.mem_cons.1 hm with rfl | hm
      · exact List.mem_append_left _ hw
      · exact List.mem_append_right _ (List.mem_append_left _ hm)
  · rcases List.mem_append.1 hb with hb | hb
    · exact .inl (List.mem_append_left _ hb)
    · rcases List.mem_append.1 hb with hb | hb
      · rcases sub b hb with h5 | h5
        · exact .inl (List.mem_append_right _ (List.mem_append_left _ h5))
        · exact .inr h5
      · exact .inl (List.mem_append_right _ (List.mem_append_right _ hb))
/-- Fixed places changed. -/
theorem BW.fix (A : BW h L fp fo X) {l : List Nat} (hl : ∀ b ∈ l, b ∈ L.fx) (U : Upd h h' l l) :
    (∀ c, c ≤ L.b → c ∉ l → h'.get c = h.get c) ∧ (∀ b ∈ fp ++ fo, h'.get b = h.get b) ∧ Upd h h' (L.fp fp fo) (L.fp fp fo) := by
  have hlt := A.lt
  refine ⟨fun c hc n0 => U.get c (by omega) n0, fun b hb => U.get b (A.live b (List.mem_append_right _ hb)) fun hm => ?_, U.wid fun b hb => List.mem_append_left _ (hl b hb)⟩
  have := (L.mem A.lay (hl b hm)).2
  rcases List.mem_append.1 hb with hb | hb
  · have := A.gf b hb; omega
  · have := (A.go b hb).1; omega
theorem BW.off (A : BW h L fp fo X) {c : Nat} (hc : c ∈ L.fx) (hw : c ≠ L.w) : c ∉ L.w :: fp := by
  simp only [List.mem_cons, hw, false_or]
  exact A.nf (L.mem A.lay hc).2
/-- The wheel alone. -/
theorem BW.wheel (A : BW h L fp fo X) (Q1 : WhA h' L.w S' fp') (U : Upd h h' (L.w :: fp) (L.w :: fp')) : BW h' L fp' fo { X with S := S' } ∧ Upd h h' (L.fp fp fo) (L.fp fp' fo) := by
  have ho := A.lay
  unfold BL.ok at ho
  obtain ⟨hk, hf, g1, g2, UU⟩ := A.dev (c0 := L.w) (by simp [BL.fx]) Q1 ⟨U.le, fun b hb hn => U.get b hb fun hm => hn (List.mem_cons_of_mem _ hm), fun b hb => by
    rcases List.mem_cons.1 hb with rfl | hb
    · exact .inl (by simp)
    · rcases U.sub b hb with h5 | h5
      · exact .inl (List.mem_cons_of_mem _ h5)
      · exact .inr h5⟩ Q1.wh.nw
  have hk : ∀ c, c ≤ L.b → c ≠ L.w → h'.get c = h.get c := fun c h1 h2 => hk c h1 h2 h2
  refine ⟨⟨by rw [hk _ (by omega) (by omega), A.bs], A.ra.keep fun b h1 h2 => hk _ (by omega) (by omega), Q1, ?_, ?_, ?_, A.ua.keep fun b _ hb => ?_, ?_, A.dk.keep (hk _ (by omega) (by omega)) (hk _ (by omega) (by omega)), A.lay, g1, g2⟩, UU⟩
  · have := A.ln; unfold Ln at this ⊢; rw [hk _ (by omega) (by omega), this]
  · have := A.t1; unfold TmC at this ⊢; rw [hk _ (by omega) (by omega), this]
  · have := A.t2; unfold TmC at this ⊢; rw [hk _ (by omega) (by omega), this]
  · rcases hb with hb | hb
    · exact hk _ (by omega) (by omega)
    · exact hf b hb
  · have := A.dm; unfold Dm at this ⊢; rw [hk _ (by omega) (by omega), this]
theorem BW.disk {P : DkS} (A : BW h L fp fo X) (T1 : Dk h' L.y L.z L.w L.x 5 X.E P) (Q1 : WhA h' L.w S' fp') (U : Upd h h' (L.y :: L.w :: fp) (L.y :: L.w :: fp')) (N : L.y ∉ L.w :: fp') : BW h' L fp' fo { X with S := S', K := P } ∧ Upd h h' (L.fp fp fo) (L.fp fp' fo) := by
  have ho := A.lay
  unfold BL.ok at ho
  obtain ⟨hk, hf, g1, g2, UU⟩ := A.dev (c0 := L.y) (by simp [BL.fx]) Q1 U fun hm => N (List.mem_cons_of_mem _ hm)
  refine ⟨⟨by rw [hk _ (by omega) (by omega) (by omega), A.bs], A.ra.keep fun b h1 h2 => hk _ (by omega) (by omega) (by omega), Q1, ?_, ?_, ?_, A.ua.keep fun b _ hb => ?_, ?_, T1, A.lay, g1, g2⟩, UU⟩
  · have := A.ln; unfold Ln at this ⊢; rw [hk _ (by omega) (by omega) (by omega), this]
  · have := A.t1; unfold TmC at this ⊢; rw [hk _ (by omega) (by omega) (by omega), this]
  · have := A.t2; unfold TmC at this ⊢; rw [hk _ (by omega) (by omega) (by omega), this]
  · rcases hb with hb | hb
    · exact hk _ (by omega) (by omega) (by omega)
    · exact hf b hb
  · have := A.dm; unfold Dm at this ⊢; rw [hk _ (by omega) (by omega) (by omega), this]
end
end Go.Proofs.Ytppgoobhlcdbbaa.Cd

/- The bus: what each function does. -/
set_option maxRecDepth 1000000
set_option maxHeartbeats 8000000
set_option linter.unusedSimpArgs false
set_option linter.unusedVariables false
namespace Go.Proofs.Ytppgoobhlcdbbaa.Cd
open Go Go.Dx
section
variable {h h' : Hp} {q : Value → Hp → Prop} {L : BL} {fp fo fp' fo' : List Nat} {X : BS} {S' : WhS} {now : Int} {a v : BitVec 32}
/-- Does a device ask? -/
def BS.line (X : BS) (d : Int) : Bool := if d = 1 then X.T1.s != 0#32 else if d = 2 then X.T2.s != 0#32 else if d = 3 then X.U.line else if d = 4 then X.D.s &&& 6#32 != 0#32 else X.K.s &&& 6#32 != 0#32
def BS.up (X : BS) : BitVec 32 := lset 5 (X.line 5) (lset 4 (X.line 4) (lset 3 (X.line 3) (lset 2 (X.line 2) (lset 1 (X.line 1) X.r))))
/-- All lines are the devices'. -/
def BS.gath (X : BS) : BS := { X with r := X.up }
end
end Go.Proofs.Ytppgoobhlcdbbaa.Cd

/- The bus: words that are read and written. -/
set_option maxRecDepth 1000000
set_option maxHeartbeats 8000000
set_option linter.unusedSimpArgs false
set_option linter.unusedVariables false
namespace Go.Proofs.Ytppgoobhlcdbbaa.Cd
open Go Go.Dx
section
variable {h h' : Hp} {q : Value → Hp → Prop} {x : Nat} {B : By} {M W : List Bool}
end
section
variable {h h' : Hp} {q : Value → Hp → Prop} {L : BL} {fp fo fp' fo' : List Nat} {X : BS} {S' : WhS} {now : Int} {a v : BitVec 32}
/-- A device's word: which, and where in it. -/
def bwin (a : BitVec 32) (n : Int) : Bool := decide (n = 4 ∧ ¬ a < 520093696#32 ∧ a % 4#32 = 0#32 ∧ (a - 520093696#32) / 64#32 ≤ 5#32)
def bwd (a : BitVec 32) : Int := ((a - 520093696#32) / 64#32).toNat
def bwo (a : BitVec 32) : BitVec 32 := (a - 520093696#32) % 64#32
def BS.rd (X : BS) (d : Int) (a : BitVec 32) (now : Int) : BitVec 32 := if d = 0 then lrd X.r X.m a now else if d = 1 then X.T1.rd a else if d = 2 then X.T2.rd a else if d = 3 then X.U.rd a else if d = 4 then X.D.rd a else X.K.rd a
def wok (d : Int) (a : BitVec 32) : Bool := if d = 0 then lat a else if d = 1 ∨ d = 2 then mat a else if d = 3 then uat a else if d = 4 then dat a else kat a
def BS.rds (X : BS) (d : Int) (a : BitVec 32) : BS := if d = 3 then { X with U := X.U.rds a } else X
def BS.wr (X : BS) (d : Int) (a v : BitVec 32) (now : Int) : BS :=
  if d = 0 then (if a = 4#32 then { X with m := v &&& 62#32 } else X) else if d = 1 then { X with T1 := X.T1.wr a v, S := X.T1.wrw X.S 1 a v now } else if d = 2 then { X with T2 := X.T2.wr a v, S := X.T2.wrw X.S 2 a v now }
  else if d = 3 then { X with U := X.U.wr a v, S := X.U.wrw X.S 3 a now } else if d = 4 then { X with D := X.D.wr a v, S := X.D.wrw X.S 4 a v now } else { X with K := X.K.wr a v, S := X.K.wrw X.S 5 a now }
theorem BW.size (A : BW h L fp fo X) : 1024 ≤ X.B.length ∧ X.B.length ≤ 65536 := by
  have := A.ra.sz
  have := A.ra.ml
  omega
/-- What an address has. -/
def BS.ld (X : BS) (a : BitVec 32) (n now : Int) : BitVec 32 := if a.toNat < X.B.length then (if evB X.B a n = true then ldB X.B a.toNat n.toNat else 0#32) else if bwin a n = true then X.rd (bwd a) (bwo a) now else 0#32
def BS.ok (X : BS) (a : BitVec 32) (n : Int) : Bool := if a.toNat < X.B.length then evB X.B a n else bwin a n && wok (bwd a) (bwo a)
/-- What it has then. -/
def BS.st (X : BS) (a : BitVec 32) (n : Int) (v : BitVec 32) (now : Int) : BS := if a.toNat < X.B.length then (if evB X.B a n = true then { X with B := stB X.B a.toNat n.toNat v, W := tch X.M X.W a.toNat n.toNat } else X) else if bwin a n = true then (X.wr (bwd a) (bwo a) v now).gath else X
end
end Go.Proofs.Ytppgoobhlcdbbaa.Cd

/- The bus: what is due is done; it is made. -/
set_option maxRecDepth 1000000
set_option maxHeartbeats 8000000
set_option linter.unusedSimpArgs false
set_option linter.unusedVariables false
namespace Go.Proofs.Ytppgoobhlcdbbaa.Cd
open Go Go.Dx
/-- What a device does when it is due. -/
def BS.fire (X : BS) (d t : Int) : BS :=
  if d = 1 then { X with T1 := X.T1.fire, S := X.T1.firew X.S 1 t } else if d = 2 then { X with T2 := X.T2.fire, S := X.T2.firew X.S 2 t } else if d = 3 then { X with U := X.U.fire, S := X.U.firew X.S 3 t }
  else if d = 4 then { X with D := X.D.fire X.B, B := X.D.mem X.B, W := X.D.wrt X.B X.M X.W } else if d = 5 then { X with K := X.K.fire X.E X.B, B := X.K.mem X.E X.B, W := X.K.wrt X.E X.B X.M X.W, E := X.K.img X.E X.B } else X
def BS.due : Nat → BS → Int → Nat × BS
  | 0, X, _ => (0, X)
  | k + 1, X, now => match X.S.L with
    | [] => (0, X)
    | e :: E => if e.at' ≤ now then ((BS.due k (BS.fire { X with S := ⟨E, X.S.n⟩ } e.dev e.at') now).1 + 1, (BS.due k (BS.fire { X with S := ⟨E, X.S.n⟩ } e.dev e.at') now).2) else (0, X)
section
variable {h h' : Hp} {q : Value → Hp → Prop} {L : BL} {fp fo fp' fo' : List Nat} {X : BS} {S' : WhS} {now : Int} {a v : BitVec 32}
theorem BW.more {p : List Nat} {fp fo : List Nat} {g : Hp} (A : BW h L fp fo X) (K : Kp g h) : Upd g h (L.fp fp fo) (L.fp fp fo) := K.upd _
theorem _root_.Go.Dx.Upd.kp1 {g h h' : Hp} {p p' : List Nat} (K : Kp g h) (U : Upd h h' p p') : Upd g h' p p' := ⟨Nat.le_trans K.le U.le, fun b hb hn => by rw [U.get b (Nat.lt_of_lt_of_le hb K.le) hn, K.get b hb], fun b hb => by
  rcases U.sub b hb with h5 | h5
  · exact .inl h5
  · exact .inr (Nat.le_trans K.le h5)⟩
end
end Go.Proofs.Ytppgoobhlcdbbaa.Cd

/- The bus: all that is due is done. -/
set_option maxRecDepth 1000000
set_option maxHeartbeats 2000000
set_option linter.unusedSimpArgs false
set_option linter.unusedVariables false
namespace Go.Proofs.Ytppgoobhlcdbbaa.Cd
open Go Go.Dx
section
variable {h h' : Hp} {q : Value → Hp → Prop} {L : BL} {fp fo fp' fo' : List Nat} {X : BS} {S' : WhS} {now : Int} {a v : BitVec 32}
/-- How many pages. -/
def pgs (n : Int) : Nat := (max 1 (min n 64)).toNat
/-- A bus that is made. -/
def BS.mk0 (n : Int) (im se : By) : BS :=
  { B := ovB (List.replicate (1024 * pgs n) 0#8) 0 (im.take (1024 * pgs n)), M := List.replicate (pgs n) false, W := tch (List.replicate (pgs n) false) (List.replicate (pgs n) false) 0 (im.take (1024 * pgs n)).length,
    S := ⟨[], 0⟩, r := 0#32, m := 0#32, T1 := ⟨0#32, 0#32, 0#32⟩, T2 := ⟨0#32, 0#32, 0#32⟩, U := ⟨[], [], false, 0#32, []⟩, D := ⟨0#32, 0#32, 0#32, 0#32⟩, K := ⟨0#32, 0#32, 0#32, 0#32⟩, E := dkE se }
end
end Go.Proofs.Ytppgoobhlcdbbaa.Cd

/- The document's bus: a world, and what arms and cancels. -/
set_option maxRecDepth 1000000
set_option maxHeartbeats 8000000
set_option linter.unusedSimpArgs false
set_option linter.unusedVariables false
namespace Go.Proofs.Ytppgoobhlcdbbaa.Cd
open Go Go.Dx
def rrest (x : Nat) (X : BS) (vi vo vu : Value) : List Value :=
  [u32 X.T1.c, u32 X.T1.p, u32 X.T1.s, u32 X.T2.c, u32 X.T2.p, u32 X.T2.s, vi, vo, .bool X.U.lost, u32 X.U.ctl, vu, u32 X.D.f, u32 X.D.t, u32 X.D.c, u32 X.D.s, u32 X.K.e, u32 X.K.a, u32 X.K.c, u32 X.K.s, .slice (some ⟨x + 5, 0, none⟩) X.E.length X.E.length, u32 X.r, u32 X.m]
def rcl (x : Nat) (X : BS) (vL vi vo vu : Value) : List Value := ptr (x + 3) 0 :: vL :: .int .i64 X.S.n :: rrest x X vi vo vu
def RL (x : Nat) (fr fo : List Nat) : List Nat := [x, x + 1, x + 2, x + 3, x + 4, x + 5] ++ (fr ++ fo)
structure RS (h : Hp) (x : Nat) (fr fo : List Nat) (X : BS) (vL vi vo vu : Value) : Prop where
  g : h.get (x + 4) = some (.cells false (rcl x X vL vi vo vu))
  sL : Se encEv h fr vL X.S.L
  si : Se encB h fr vi X.U.i
  so : Se encB h fr vo X.U.o
  su : Own encB h vu X.U.out fo
/-- The document's bus as it lies. -/
structure RW (h : Hp) (x : Nat) (fr fo : List Nat) (X : BS) : Prop where
  bs : ∃ vL vi vo vu, RS h x fr fo X vL vi vo vu
  ra : Ra h x X.B X.M X.W
  dk : h.get (x + 5) = some (.cells false (X.E.map u8))
  el : X.E.length % 64 = 0 ∧ X.E.length ≤ 4096
  fr : ∀ b ∈ fr, x + 5 < b ∧ b < h.next ∧ b ∉ fo
  fo : ∀ b ∈ fo, x + 5 < b
  wi : WI X.S.L
  ni : X.U.i.length ≤ 16
  no : X.U.o.length ≤ 16
  nout : X.U.out.length ≤ 65536
section
variable {h h' : Hp} {q : Value → Hp → Prop} {x : Nat} {fr fo nw fo' : List Nat} {X X' : BS} {now d t : Int} {a v : BitVec 32} {vL vi vo vu : Value}
theorem RW.lt (A : RW h x fr fo X) : x + 5 < h.next := lt_of_get A.dk
theorem RW.folt (A : RW h x fr fo X) : ∀ b ∈ fo, b < h.next := by
  obtain ⟨vL, vi, vo, vu, S⟩ := A.bs
  exact S.su.live
theorem RW.live (A : RW h x fr fo X) : ∀ b ∈ RL x fr fo, b < h.next := fun b hb => by
  have := A.lt
  rcases List.mem_append.1 hb with hb | hb
  · simp at hb; omega
  · rcases List.mem_append.1 hb with hb | hb
    · exact (A.fr b hb).2.1
    · exact A.folt b hb
theorem RW.keep (A : RW h x fr fo X) (hn : h.next ≤ h'.next) (hk : ∀ b ∈ RL x fr fo, h'.get b = h.get b) : RW h' x fr fo X := by
  obtain ⟨vL, vi, vo, vu, S⟩ := A.bs
  have k1 : ∀ b ∈ fr, h'.get b = h.get b := fun b hb => hk b (by simp [RL, hb])
  refine ⟨⟨vL, vi, vo, vu, by rw [hk _ (by simp [RL]), S.g], S.sL.keep k1 (fun b hb => hb), S.si.keep k1 (fun b hb => hb), S.so.keep k1 (fun b hb => hb), S.su.keep fun b hb => hk b (by simp [RL, hb])⟩, A.ra.keep fun b h1 h2 => hk b ?_, by rw [hk _ (by simp [RL]), A.dk], A.el, fun b hb => ⟨(A.fr b hb).1, Nat.lt_of_lt_of_le (A.fr b hb).2.1 hn, (A.fr b hb).2.2⟩, A.fo, A.wi, A.ni, A.no, A.nout⟩
  have : b = x ∨ b = x + 1 ∨ b = x + 2 ∨ b = x + 3 := by omega
  rcases this with rfl | rfl | rfl | rfl <;> simp [RL]
theorem RW.kp (A : RW h x fr fo X) (K : Kp h h') : RW h' x fr fo X := A.keep K.le fun b hb => K.get b (A.live b hb)
theorem RW.upd {p p' : List Nat} (A : RW h x fr fo X) (U : Upd h h' p p') (hn : ∀ b ∈ RL x fr fo, b ∉ p) : RW h' x fr fo X := A.keep U.le fun b hb => U.get b (A.live b hb) (hn b hb)
/-- The struct alone is changed. -/
theorem RW.put (A : RW h x fr fo X) (S : RS h x fr fo X vL vi vo vu) {n : Int} {T1 T2 : TmS} {lost : Bool} {ctl r m : BitVec 32} {D : DmS} {K : DkS} {C : List Value}
    (hC : C = rcl x { X with S := ⟨X.S.L, n⟩, T1 := T1, T2 := T2, U := { X.U with lost := lost, ctl := ctl }, D := D, K := K, r := r, m := m } vL vi vo vu) :
    RW (h.put (x + 4) (some (.cells false C))) x fr fo { X with S := ⟨X.S.L, n⟩, T1 := T1, T2 := T2, U := { X.U with lost := lost, ctl := ctl }, D := D, K := K, r := r, m := m } ∧ RS (h.put (x + 4) (some (.cells false C))) x fr fo { X with S := ⟨X.S.L, n⟩, T1 := T1, T2 := T2, U := { X.U with lost := lost, ctl := ctl }, D := D, K := K, r := r, m := m } vL vi vo vu ∧ Upd h (h.put (x + 4) (some (.cells false C))) (RL x fr fo) (RL x fr fo) := by
  subst hC
  have hl := A.lt
  have k1 : ∀ b ∈ fr, (h.put (x + 4) (some (.cells false (rcl x { X with S := ⟨X.S.L, n⟩, T1 := T1, T2 := T2, U := { X.U with lost := lost, ctl := ctl }, D := D, K := K, r := r, m := m } vL vi vo vu)))).get b = h.get b := fun b hb => get_put_ne (by have := (A.fr b hb).1; omega)
  have S' : RS (h.put (x + 4) (some (.cells false (rcl x { X with S := ⟨X.S.L, n⟩, T1 := T1, T2 := T2, U := { X.U with lost := lost, ctl := ctl }, D := D, K := K, r := r, m := m } vL vi vo vu)))) x fr fo { X with S := ⟨X.S.L, n⟩, T1 := T1, T2 := T2, U := { X.U with lost := lost, ctl := ctl }, D := D, K := K, r := r, m := m } vL vi vo vu :=
    ⟨get_put_self (by omega), S.sL.keep k1 (fun b hb => hb), S.si.keep k1 (fun b hb => hb), S.so.keep k1 (fun b hb => hb), S.su.keep fun b hb => get_put_ne (by have := A.fo b hb; omega)⟩
  exact ⟨⟨⟨vL, vi, vo, vu, S'⟩, A.ra.keep fun b h1 h2 => get_put_ne (by omega), by rw [get_put_ne (by omega), A.dk], A.el, fun b hb => ⟨(A.fr b hb).1, by simpa using (A.fr b hb).2.1, (A.fr b hb).2.2⟩, A.fo, A.wi, A.ni, A.no, A.nout⟩, S', ⟨by simp, fun b hb hn => get_put_ne fun e => hn (by rw [e]; simp [RL]), fun b hb => .inl hb⟩⟩
theorem _root_.Go.Dx.Upd.rl {x : Nat} {fr fo nw : List Nat} (U : Upd h h' [x + 4] ((x + 4) :: nw)) : Upd h h' (RL x fr fo) (RL x (fr ++ nw) fo) := ⟨U.le, fun b hb hn => U.get b hb fun hm => hn (by simp at hm; simp [RL, hm]), fun b hb => by
  simp only [RL, List.mem_append] at hb ⊢
  rcases hb with hb | (hb | hb) | hb
  · exact .inl (.inl hb)
  · exact .inl (.inr (.inl hb))
  · rcases U.sub b (List.mem_cons_of_mem _ hb) with h5 | h5
    · exact .inl (.inl (by simp at h5; simp [h5]))
    · exact .inr h5
  · exact .inl (.inr (.inr hb))⟩
/-- The wheel within is changed. -/
theorem RW.whl {L' : List Ev} {n' : Int} (A : RW h x fr fo X) (S : RS h x fr fo X vL vi vo vu) (Z : Wz h' (x + 4) (ptr (x + 3) 0) (rrest x X vi vo vu) L' n' (fr ++ nw)) (U : Upd h h' [x + 4] ((x + 4) :: nw)) (hl : ∀ b ∈ nw, b < h'.next) (I : WI L') :
    RW h' x (fr ++ nw) fo { X with S := ⟨L', n'⟩ } ∧ Upd h h' (RL x fr fo) (RL x (fr ++ nw) fo) := by
  have hlt := A.lt
  obtain ⟨vL', g, sL⟩ := Z.ex
  have k1 : ∀ b ∈ fr, h'.get b = h.get b := fun b hb => U.get b (A.fr b hb).2.1 (by have := (A.fr b hb).1; simp; omega)
  have hs : ∀ b ∈ nw, h.next ≤ b := fun b hb => by
    rcases U.sub b (List.mem_cons_of_mem _ hb) with h5 | h5
    · simp at h5
      subst h5
      exact absurd (List.mem_append_right _ hb) Z.nw
    · exact h5
  refine ⟨⟨⟨vL', vi, vo, vu, g, sL, S.si.keep k1 fun b hb => List.mem_append_left _ hb, S.so.keep k1 fun b hb => List.mem_append_left _ hb, S.su.keep fun b hb => U.get b (A.folt b hb) (by have := A.fo b hb; simp; omega)⟩, A.ra.keep fun b h1 h2 => U.get b (by omega) (by simp; omega), by rw [U.get _ (by omega) (by simp), A.dk], A.el, fun b hb => ?_, A.fo, I, A.ni, A.no, A.nout⟩, U.rl⟩
  rcases List.mem_append.1 hb with hb | hb
  · exact ⟨(A.fr b hb).1, Nat.lt_of_lt_of_le (A.fr b hb).2.1 U.le, (A.fr b hb).2.2⟩
  · have := hs b hb
    exact ⟨by omega, hl b hb, fun hm => by have := A.folt b hm; omega⟩
theorem RW.arm (A : RW h x fr fo X) (hq : ∀ h' nw, RW h' x (fr ++ nw) fo { X with S := X.S.arm d t } → Upd h h' (RL x fr fo) (RL x (fr ++ nw) fo) → q (.bool (!wbad d t)) h') : WC T n_pianolaref9_Wheel_Arm [ptr (x + 4) 1, .int .i64 d, .int .i64 t] h q := by
  obtain ⟨vL, vi, vo, vu, S⟩ := A.bs
  have hlen := A.wi.len
  refine zarm (fun b hb => (A.fr b hb).2.1) (show Wz h (x + 4) (ptr (x + 3) 0) (rrest x X vi vo vu) X.S.L X.S.n fr from ⟨⟨vL, S.g, S.sL⟩, fun hm => by have := (A.fr _ hm).1; omega⟩) (by omega) A.wi.srt (fun hb => ?_) fun hb h1 nw Z U hl => ?_
  · have := hq h [] (by simpa [WhS.arm, hb] using A) (by rw [List.append_nil]; exact .refl)
    rw [hb] at this
    exact this
  · obtain ⟨k1, k2⟩ := A.whl S Z U hl (A.wi.arm hb)
    have := hq h1 nw (by simpa [WhS.arm, hb] using k1) k2
    rw [hb] at this
    exact this
theorem RW.can (A : RW h x fr fo X) (hq : ∀ v h' nw, RW h' x (fr ++ nw) fo { X with S := X.S.can d } → Upd h h' (RL x fr fo) (RL x (fr ++ nw) fo) → q v h') : WC T n_pianolaref9_Wheel_Cancel [ptr (x + 4) 1, .int .i64 d] h q := by
  obtain ⟨vL, vi, vo, vu, S⟩ := A.bs
  have hlen := A.wi.len
  refine zcancel (show Wz h (x + 4) (ptr (x + 3) 0) (rrest x X vi vo vu) X.S.L X.S.n fr from ⟨⟨vL, S.g, S.sL⟩, fun hm => by have := (A.fr _ hm).1; omega⟩) (by omega) fun h1 nw Z U hl => ?_
  obtain ⟨k1, k2⟩ := A.whl S Z U hl (A.wi.can d)
  exact hq _ h1 nw k1 k2
theorem RW.take (A : RW h x fr fo X) (hno : (∀ e ∈ X.S.L.head?, t < e.at') → ∀ h', Kp h h' → q (.tuple #[.agg #[.int .i64 0, .int .i64 0, .int .i64 0], .bool false]) h')
    (hyes : ∀ e B, X.S.L = e :: B → e.at' ≤ t → ∀ h' nw, RW h' x (fr ++ nw) fo { X with S := ⟨B, X.S.n⟩ } → Upd h h' (RL x fr fo) (RL x (fr ++ nw) fo) → q (.tuple #[.agg #[.int .i64 e.at', .int .i64 e.dev, .int .i64 e.seq], .bool true]) h') :
    WC T n_pianolaref9_Wheel_Take [ptr (x + 4) 1, .int .i64 t] h q := by
  obtain ⟨vL, vi, vo, vu, S⟩ := A.bs
  have hlen := A.wi.len
  refine ztake (fun b hb => (A.fr b hb).2.1) (show Wz h (x + 4) (ptr (x + 3) 0) (rrest x X vi vo vu) X.S.L X.S.n fr from ⟨⟨vL, S.g, S.sL⟩, fun hm => by have := (A.fr _ hm).1; omega⟩) (by omega) hno fun e B hL ht h1 nw Z U hl => ?_
  have hw := A.wi
  rw [hL] at hw
  obtain ⟨k1, k2⟩ := A.whl S Z U hl hw.tail
  exact hyes e B hL ht h1 nw k1 k2
end
end Go.Proofs.Ytppgoobhlcdbbaa.Cd

/- The document's bus: words that are written. -/
set_option maxRecDepth 1000000
set_option maxHeartbeats 8000000
set_option linter.unusedSimpArgs false
set_option linter.unusedVariables false
namespace Go.Proofs.Ytppgoobhlcdbbaa.Cd
open Go Go.Dx
section
variable {h h' : Hp} {q : Value → Hp → Prop} {x : Nat} {fr fo nw fo' : List Nat} {X X' : BS} {now d t : Int} {a v : BitVec 32} {vL vi vo vu : Value}
theorem RW.cast (A : RW h x fr fo X) (e : X = X') : RW h x fr fo X' := e ▸ A
theorem max_per (p : BitVec 32) : (if (p.toNat : Int) < 1 then 1 else (p.toNat : Int)) = tper p := by
  unfold tper
  by_cases h : 1#32 < p
  · have := BitVec.lt_def.1 h
    simp at this
    rw [if_pos h]
    split <;> omega
  · rw [if_neg h]
    have h2 : ¬ 1 < p.toNat := fun h3 => h (by rw [BitVec.lt_def]; simpa using h3)
    split
    · rfl
    · have : p.toNat = 1 := by omega
      rw [this]; rfl
theorem off_word {k : BitVec 32} (hk : a = 4#32 * k) (hk2 : k.toNat < 16) : (a = 0#32 → k = 0#32) ∧ (a = 4#32 → k = 1#32) ∧ (a = 8#32 → k = 2#32) ∧ (a = 12#32 → k = 3#32) ∧ (a = 16#32 → k = 4#32) := by
  have h : a.toNat = 4 * k.toNat := by rw [hk, BitVec.toNat_mul]; simp; omega
  have go : ∀ n m : Nat, n = 4 * m → n < 64 → a = BitVec.ofNat 32 n → k = BitVec.ofNat 32 m := fun n m hn hl e => by
    apply BitVec.eq_of_toNat_eq
    rw [e] at h
    simp at h ⊢
    omega
  exact ⟨go 0 0 rfl (by omega), go 4 1 rfl (by omega), go 8 2 rfl (by omega), go 12 3 rfl (by omega), go 16 4 rfl (by omega)⟩
/-- Timer 1's words. -/
theorem ztim1 {k : BitVec 32} (A : RW h x fr fo X) (hk : a = 4#32 * k) (hk2 : k.toNat < 16) (hn : 0 ≤ now ∧ now ≤ 2 ^ 60)
    (hq : ∀ h' fr', RW h' x fr' fo (X.wr 1 a v now) → Upd h h' (RL x fr fo) (RL x fr' fo) → q (.bool (mat a)) h') : WC T n_pianolaref15_Bus_timer [ptr (x + 4) 0, .int .i64 1, u32 k, u32 v, .int .i64 now] h q := by
  obtain ⟨vL, vi, vo, vu, S⟩ := A.bs
  have g := S.g
  have hl := A.lt
  simp only [rcl, rrest] at g
  obtain ⟨p1, p2⟩ := tper_pos X.T1.p
  have hw : IntKind.i64.wrap (now + (if (X.T1.p.toNat : Int) < 1 then 1 else (X.T1.p.toNat : Int))) = now + tper X.T1.p := by rw [max_per]; exact wrap_i64 (by omega) (by omega)
  rw [w_pianolaref15_Bus_timer]
  by_cases k0 : k = 0#32
  · subst k0
    have ha : a = 0#32 := hk
    subst ha
    have hA := A.put S (n := X.S.n) (T1 := { X.T1 with c := v &&& 3#32 }) (T2 := X.T2) (lost := X.U.lost) (ctl := X.U.ctl) (r := X.r) (m := X.m) (D := X.D) (K := X.K) rfl
    simp only [rcl, rrest] at hA
    obtain ⟨A1, S1, U1⟩ := hA
    by_cases v1 : v &&& 1#32 = 0#32
    · simp (maxSteps := 1000000) (disch := first | assumption | ((try simp only [push_next, put_next, adv_next, List.length_cons, List.length_nil, List.length_map, List.length_set]); omega) | simp) [g, v1]
      refine A1.can fun _ h2 nw A2 U2 => ?_
      simp (maxSteps := 1000000) (disch := first | assumption | ((try simp only [push_next, put_next, adv_next, List.length_cons, List.length_nil, List.length_map, List.length_set]); omega) | simp)
      exact hq h2 _ (A2.cast (by simp [BS.wr, TmS.wr, TmS.wrw, v1])) (U1.trans U2)
    · simp (maxSteps := 1000000) (disch := first | assumption | ((try simp only [push_next, put_next, adv_next, List.length_cons, List.length_nil, List.length_map, List.length_set]); omega) | simp) [g, v1, hw]
      refine A1.arm fun h2 nw A2 U2 => ?_
      simp (maxSteps := 1000000) (disch := first | assumption | ((try simp only [push_next, put_next, adv_next, List.length_cons, List.length_nil, List.length_map, List.length_set]); omega) | simp)
      exact hq h2 _ (A2.cast (by simp [BS.wr, TmS.wr, TmS.wrw, v1])) (U1.trans U2)
  by_cases k1 : k = 1#32
  · subst k1
    have ha : a = 4#32 := hk
    subst ha
    have hA := A.put S (n := X.S.n) (T1 := { X.T1 with p := v }) (T2 := X.T2) (lost := X.U.lost) (ctl := X.U.ctl) (r := X.r) (m := X.m) (D := X.D) (K := X.K) rfl
    simp only [rcl, rrest] at hA
    obtain ⟨A1, S1, U1⟩ := hA
    simp (maxSteps := 1000000) (disch := first | assumption | ((try simp only [push_next, put_next, adv_next, List.length_cons, List.length_nil, List.length_map, List.length_set]); omega) | simp) [g]
    exact hq _ _ (A1.cast (by simp [BS.wr, TmS.wr, TmS.wrw])) U1
  by_cases k2 : k = 2#32
  · subst k2
    have ha : a = 8#32 := hk
    subst ha
    have hA := A.put S (n := X.S.n) (T1 := { X.T1 with s := 0#32 }) (T2 := X.T2) (lost := X.U.lost) (ctl := X.U.ctl) (r := X.r) (m := X.m) (D := X.D) (K := X.K) rfl
    simp only [rcl, rrest] at hA
    obtain ⟨A1, S1, U1⟩ := hA
    by_cases v1 : v &&& 1#32 = 0#32
    · simp (maxSteps := 1000000) (disch := first | assumption | ((try simp only [push_next, put_next, adv_next, List.length_cons, List.length_nil, List.length_map, List.length_set]); omega) | simp) [g, v1]
      exact hq h fr (A.cast (by simp [BS.wr, TmS.wr, TmS.wrw, v1])) .refl
    · simp (maxSteps := 1000000) (disch := first | assumption | ((try simp only [push_next, put_next, adv_next, List.length_cons, List.length_nil, List.length_map, List.length_set]); omega) | simp) [g, v1]
      exact hq _ _ (A1.cast (by simp [BS.wr, TmS.wr, TmS.wrw, v1])) U1
  have hge : ¬ k < 3#32 := fun h3 => by
    have := BitVec.lt_def.1 h3
    simp at this
    rcases (by omega : k.toNat = 0 ∨ k.toNat = 1 ∨ k.toNat = 2) with e | e | e
    · exact k0 (BitVec.eq_of_toNat_eq e)
    · exact k1 (BitVec.eq_of_toNat_eq e)
    · exact k2 (BitVec.eq_of_toNat_eq e)
  obtain ⟨a0, a4, a8, a12, a16⟩ := off_word hk hk2
  have b0 : ¬ a = 0#32 := fun e => k0 (a0 e)
  have b4 : ¬ a = 4#32 := fun e => k1 (a4 e)
  have b8 : ¬ a = 8#32 := fun e => k2 (a8 e)
  have := hq h fr (A.cast (by simp [BS.wr, TmS.wr, TmS.wrw, b0, b4, b8])) .refl
  simp only [mat, b0, b4, b8, or_false, decide_false] at this
  simp (maxSteps := 1000000) (disch := first | assumption | ((try simp only [push_next, put_next, adv_next, List.length_cons, List.length_nil, List.length_map, List.length_set]); omega) | simp) [g, k0, k1, k2, hge]
  exact this
/-- Timer 2's words. -/
theorem ztim2 {k : BitVec 32} (A : RW h x fr fo X) (hk : a = 4#32 * k) (hk2 : k.toNat < 16) (hn : 0 ≤ now ∧ now ≤ 2 ^ 60)
    (hq : ∀ h' fr', RW h' x fr' fo (X.wr 2 a v now) → Upd h h' (RL x fr fo) (RL x fr' fo) → q (.bool (mat a)) h') : WC T n_pianolaref15_Bus_timer [ptr (x + 4) 0, .int .i64 2, u32 k, u32 v, .int .i64 now] h q := by
  obtain ⟨vL, vi, vo, vu, S⟩ := A.bs
  have g := S.g
  have hl := A.lt
  simp only [rcl, rrest] at g
  obtain ⟨p1, p2⟩ := tper_pos X.T2.p
  have hw : IntKind.i64.wrap (now + (if (X.T2.p.toNat : Int) < 1 then 1 else (X.T2.p.toNat : Int))) = now + tper X.T2.p := by rw [max_per]; exact wrap_i64 (by omega) (by omega)
  rw [w_pianolaref15_Bus_timer]
  by_cases k0 : k = 0#32
  · subst k0
    have ha : a = 0#32 := hk
    subst ha
    have hA := A.put S (n := X.S.n) (T1 := X.T1) (T2 := { X.T2 with c := v &&& 3#32 }) (lost := X.U.lost) (ctl := X.U.ctl) (r := X.r) (m := X.m) (D := X.D) (K := X.K) rfl
    simp only [rcl, rrest] at hA
    obtain ⟨A1, S1, U1⟩ := hA
    by_cases v1 : v &&& 1#32 = 0#32
    · simp (maxSteps := 1000000) (disch := first | assumption | ((try simp only [push_next, put_next, adv_next, List.length_cons, List.length_nil, List.length_map, List.length_set]); omega) | simp) [g, v1]
      refine A1.can fun _ h2 nw A2 U2 => ?_
      simp (maxSteps := 1000000) (disch := first | assumption | ((try simp only [push_next, put_next, adv_next, List.length_cons, List.length_nil, List.length_map, List.length_set]); omega) | simp)
      exact hq h2 _ (A2.cast (by simp [BS.wr, TmS.wr, TmS.wrw, v1])) (U1.trans U2)
    · simp (maxSteps := 1000000) (disch := first | assumption | ((try simp only [push_next, put_next, adv_next, List.length_cons, List.length_nil, List.length_map, List.length_set]); omega) | simp) [g, v1, hw]
      refine A1.arm fun h2 nw A2 U2 => ?_
      simp (maxSteps := 1000000) (disch := first | assumption | ((try simp only [push_next, put_next, adv_next, List.length_cons, List.length_nil, List.length_map, List.length_set]); omega) | simp)
      exact hq h2 _ (A2.cast (by simp [BS.wr, TmS.wr, TmS.wrw, v1])) (U1.trans U2)
  by_cases k1 : k = 1#32
  · subst k1
    have ha : a = 4#32 := hk
    subst ha
    have hA := A.put S (n := X.S.n) (T1 := X.T1) (T2 := { X.T2 with p := v }) (lost := X.U.lost) (ctl := X.U.ctl) (r := X.r) (m := X.m) (D := X.D) (K := X.K) rfl
    simp only [rcl, rrest] at hA
    obtain ⟨A1, S1, U1⟩ := hA
    simp (maxSteps := 1000000) (disch := first | assumption | ((try simp only [push_next, put_next, adv_next, List.length_cons, List.length_nil, List.length_map, List.length_set]); omega) | simp) [g]
    exact hq _ _ (A1.cast (by simp [BS.wr, TmS.wr, TmS.wrw])) U1
  by_cases k2 : k = 2#32
  · subst k2
    have ha : a = 8#32 := hk
    subst ha
    have hA := A.put S (n := X.S.n) (T1 := X.T1) (T2 := { X.T2 with s := 0#32 }) (lost := X.U.lost) (ctl := X.U.ctl) (r := X.r) (m := X.m) (D := X.D) (K := X.K) rfl
    simp only [rcl, rrest] at hA
    obtain ⟨A1, S1, U1⟩ := hA
    by_cases v1 : v &&& 1#32 = 0#32
    · simp (maxSteps := 1000000) (disch := first | assumption | ((try simp only [push_next, put_next, adv_next, List.length_cons, List.length_nil, List.length_map, List.length_set]); omega) | simp) [g, v1]
      exact hq h fr (A.cast (by simp [BS.wr, TmS.wr, TmS.wrw, v1])) .refl
    · simp (maxSteps := 1000000) (disch := first | assumption | ((try simp only [push_next, put_next, adv_next, List.length_cons, List.length_nil, List.length_map, List.length_set]); omega) | simp) [g, v1]
      exact hq _ _ (A1.cast (by simp [BS.wr, TmS.wr, TmS.wrw, v1])) U1
  have hge : ¬ k < 3#32 := fun h3 => by
    have := BitVec.lt_def.1 h3
    simp at this
    rcases (by omega : k.toNat = 0 ∨ k.toNat = 1 ∨ k.toNat = 2) with e | e | e
    · exact k0 (BitVec.eq_of_toNat_eq e)
    · exact k1 (BitVec.eq_of_toNat_eq e)
    · exact k2 (BitVec.eq_of_toNat_eq e)
  obtain ⟨a0, a4, a8, a12, a16⟩ := off_word hk hk2
  have b0 : ¬ a = 0#32 := fun e => k0 (a0 e)
  have b4 : ¬ a = 4#32 := fun e => k1 (a4 e)
  have b8 : ¬ a = 8#32 := fun e => k2 (a8 e)
  have := hq h fr (A.cast (by simp [BS.wr, TmS.wr, TmS.wrw, b0, b4, b8])) .refl
  simp only [mat, b0, b4, b8, or_false, decide_false] at this
  simp (maxSteps := 1000000) (disch := first | assumption | ((try simp only [push_next, put_next, adv_next, List.length_cons, List.length_nil, List.length_map, List.length_set]); omega) | simp) [g, k0, k1, k2, hge]
  exact this
theorem zdma {k : BitVec 32} (A : RW h x fr fo X) (hk : a = 4#32 * k) (hk2 : k.toNat < 16) (hn : 0 ≤ now ∧ now ≤ 2 ^ 60)
    (hq : ∀ h' fr', RW h' x fr' fo (X.wr 4 a v now) → Upd h h' (RL x fr fo) (RL x fr' fo) → q (.bool (dat a)) h') : WC T n_pianolaref15_Bus_dma [ptr (x + 4) 0, u32 k, u32 v, .int .i64 now] h q := by
  obtain ⟨vL, vi, vo, vu, S⟩ := A.bs
  have g := S.g
  have hl := A.lt
  simp only [rcl, rrest] at g
  rw [w_pianolaref15_Bus_dma]
  by_cases k0 : k = 0#32
  · subst k0
    have ha : a = 0#32 := hk
    subst ha
    have hA := A.put S (n := X.S.n) (T1 := X.T1) (T2 := X.T2) (lost := X.U.lost) (ctl := X.U.ctl) (r := X.r) (m := X.m) (D := { X.D with f := v }) (K := X.K) rfl
    simp only [rcl, rrest] at hA
    obtain ⟨A1, S1, U1⟩ := hA
    simp (maxSteps := 1000000) (disch := first | assumption | ((try simp only [push_next, put_next, adv_next, List.length_cons, List.length_nil, List.length_map, List.length_set]); omega) | simp) [g]
    exact hq _ _ (A1.cast (by simp [BS.wr, DmS.wr, DmS.wrw])) U1
  by_cases k1 : k = 1#32
  · subst k1
    have ha : a = 4#32 := hk
    subst ha
    have hA := A.put S (n := X.S.n) (T1 := X.T1) (T2 := X.T2) (lost := X.U.lost) (ctl := X.U.ctl) (r := X.r) (m := X.m) (D := { X.D with t := v }) (K := X.K) rfl
    simp only [rcl, rrest] at hA
    obtain ⟨A1, S1, U1⟩ := hA
    simp (maxSteps := 1000000) (disch := first | assumption | ((try simp only [push_next, put_next, adv_next, List.length_cons, List.length_nil, List.length_map, List.length_set]); omega) | simp) [g]
    exact hq _ _ (A1.cast (by simp [BS.wr, DmS.wr, DmS.wrw])) U1
  by_cases k2 : k = 2#32
  · subst k2
    have ha : a = 8#32 := hk
    subst ha
    have hA := A.put S (n := X.S.n) (T1 := X.T1) (T2 := X.T2) (lost := X.U.lost) (ctl := X.U.ctl) (r := X.r) (m := X.m) (D := { X.D with c := v }) (K := X.K) rfl
    simp only [rcl, rrest] at hA
    obtain ⟨A1, S1, U1⟩ := hA
    simp (maxSteps := 1000000) (disch := first | assumption | ((try simp only [push_next, put_next, adv_next, List.length_cons, List.length_nil, List.length_map, List.length_set]); omega) | simp) [g]
    exact hq _ _ (A1.cast (by simp [BS.wr, DmS.wr, DmS.wrw])) U1
  by_cases k4 : k = 4#32
  · subst k4
    have ha : a = 16#32 := hk
    subst ha
    have hA := A.put S (n := X.S.n) (T1 := X.T1) (T2 := X.T2) (lost := X.U.lost) (ctl := X.U.ctl) (r := X.r) (m := X.m) (D := { X.D with s := X.D.s &&& ~~~(v &&& 6#32) }) (K := X.K) rfl
    simp only [rcl, rrest] at hA
    obtain ⟨A1, S1, U1⟩ := hA
    simp (maxSteps := 1000000) (disch := first | assumption | ((try simp only [push_next, put_next, adv_next, List.length_cons, List.length_nil, List.length_map, List.length_set]); omega) | simp) [g]
    exact hq _ _ (A1.cast (by simp [BS.wr, DmS.wr, DmS.wrw])) U1
  by_cases k3 : k = 3#32
  · subst k3
    have ha : a = 12#32 := hk
    subst ha
    have hA := A.put S (n := X.S.n) (T1 := X.T1) (T2 := X.T2) (lost := X.U.lost) (ctl := X.U.ctl) (r := X.r) (m := X.m) (D := { X.D with s := X.D.s ||| 1#32 }) (K := X.K) rfl
    simp only [rcl, rrest] at hA
    obtain ⟨A1, S1, U1⟩ := hA
    by_cases v1 : v &&& 1#32 = 0#32
    · simp (maxSteps := 1000000) (disch := first | assumption | ((try simp only [push_next, put_next, adv_next, List.length_cons, List.length_nil, List.length_map, List.length_set]); omega) | simp) [g, v1]
      exact hq h fr (A.cast (by simp [BS.wr, DmS.wr, DmS.wrw, DmS.go, v1])) .refl
    · by_cases s1 : X.D.s &&& 1#32 = 0#32
      · have hc : (if 4096#32 < X.D.c then 4096#32 else X.D.c).toNat ≤ 4096 := by
          split
          · decide
          · rename_i h9
            rw [BitVec.lt_def] at h9
            simp at h9
            exact h9
        have e : now + ((if 4096#32 < X.D.c then 4096#32 else X.D.c).toNat : Int) / 4 + 1 = now + dtime X.D.c := by unfold dtime; omega
        simp (maxSteps := 1000000) (disch := first | assumption | ((try simp only [push_next, put_next, adv_next, List.length_cons, List.length_nil, List.length_map, List.length_set]); omega) | simp) [g, v1, s1]
        rw [e]
        refine A1.arm fun h2 nw A2 U2 => ?_
        simp (maxSteps := 1000000) (disch := first | assumption | ((try simp only [push_next, put_next, adv_next, List.length_cons, List.length_nil, List.length_map, List.length_set]); omega) | simp)
        exact hq h2 _ (A2.cast (by simp [BS.wr, DmS.wr, DmS.wrw, DmS.go, v1, s1])) (U1.trans U2)
      · simp (maxSteps := 1000000) (disch := first | assumption | ((try simp only [push_next, put_next, adv_next, List.length_cons, List.length_nil, List.length_map, List.length_set]); omega) | simp) [g, v1, s1]
        exact hq h fr (A.cast (by simp [BS.wr, DmS.wr, DmS.wrw, DmS.go, s1])) .refl
  have hge : ¬ k < 5#32 := fun h3 => by
    have := BitVec.lt_def.1 h3
    simp at this
    rcases (by omega : k.toNat = 0 ∨ k.toNat = 1 ∨ k.toNat = 2 ∨ k.toNat = 3 ∨ k.toNat = 4) with e | e | e | e | e
    · exact k0 (BitVec.eq_of_toNat_eq e)
    · exact k1 (BitVec.eq_of_toNat_eq e)
    · exact k2 (BitVec.eq_of_toNat_eq e)
    · exact k3 (BitVec.eq_of_toNat_eq e)
    · exact k4 (BitVec.eq_of_toNat_eq e)
  obtain ⟨a0, a4, a8, a12, a16⟩ := off_word hk hk2
  have b0 : ¬ a = 0#32 := fun e => k0 (a0 e)
  have b4 : ¬ a = 4#32 := fun e => k1 (a4 e)
  have b8 : ¬ a = 8#32 := fun e => k2 (a8 e)
  have b12 : ¬ a = 12#32 := fun e => k3 (a12 e)
  have b16 : ¬ a = 16#32 := fun e => k4 (a16 e)
  have := hq h fr (A.cast (by simp [BS.wr, DmS.wr, DmS.wrw, b0, b4, b8, b12, b16])) .refl
  simp only [dat, b0, b4, b8, b12, b16, or_false, decide_false] at this
  simp (maxSteps := 1000000) (disch := first | assumption | ((try simp only [push_next, put_next, adv_next, List.length_cons, List.length_nil, List.length_map, List.length_set]); omega) | simp) [g, k0, k1, k2, k3, k4, hge]
  exact this
theorem zdisk {k : BitVec 32} (A : RW h x fr fo X) (hk : a = 4#32 * k) (hk2 : k.toNat < 16) (hn : 0 ≤ now ∧ now ≤ 2 ^ 60)
    (hq : ∀ h' fr', RW h' x fr' fo (X.wr 5 a v now) → Upd h h' (RL x fr fo) (RL x fr' fo) → q (.bool (kat a)) h') : WC T n_pianolaref15_Bus_disk [ptr (x + 4) 0, u32 k, u32 v, .int .i64 now] h q := by
  obtain ⟨vL, vi, vo, vu, S⟩ := A.bs
  have g := S.g
  have hl := A.lt
  simp only [rcl, rrest] at g
  rw [w_pianolaref15_Bus_disk]
  by_cases k0 : k = 0#32
  · subst k0
    have ha : a = 0#32 := hk
    subst ha
    have hA := A.put S (n := X.S.n) (T1 := X.T1) (T2 := X.T2) (lost := X.U.lost) (ctl := X.U.ctl) (r := X.r) (m := X.m) (D := X.D) (K := { X.K with e := v }) rfl
    simp only [rcl, rrest] at hA
    obtain ⟨A1, S1, U1⟩ := hA
    simp (maxSteps := 1000000) (disch := first | assumption | ((try simp only [push_next, put_next, adv_next, List.length_cons, List.length_nil, List.length_map, List.length_set]); omega) | simp) [g]
    exact hq _ _ (A1.cast (by simp [BS.wr, DkS.wr, DkS.wrw])) U1
  by_cases k1 : k = 1#32
  · subst k1
    have ha : a = 4#32 := hk
    subst ha
    have hA := A.put S (n := X.S.n) (T1 := X.T1) (T2 := X.T2) (lost := X.U.lost) (ctl := X.U.ctl) (r := X.r) (m := X.m) (D := X.D) (K := { X.K with a := v }) rfl
    simp only [rcl, rrest] at hA
    obtain ⟨A1, S1, U1⟩ := hA
    simp (maxSteps := 1000000) (disch := first | assumption | ((try simp only [push_next, put_next, adv_next, List.length_cons, List.length_nil, List.length_map, List.length_set]); omega) | simp) [g]
    exact hq _ _ (A1.cast (by simp [BS.wr, DkS.wr, DkS.wrw])) U1
  by_cases k3 : k = 3#32
  · subst k3
    have ha : a = 12#32 := hk
    subst ha
    have hA := A.put S (n := X.S.n) (T1 := X.T1) (T2 := X.T2) (lost := X.U.lost) (ctl := X.U.ctl) (r := X.r) (m := X.m) (D := X.D) (K := { X.K with s := X.K.s &&& ~~~(v &&& 6#32) }) rfl
    simp only [rcl, rrest] at hA
    obtain ⟨A1, S1, U1⟩ := hA
    simp (maxSteps := 1000000) (disch := first | assumption | ((try simp only [push_next, put_next, adv_next, List.length_cons, List.length_nil, List.length_map, List.length_set]); omega) | simp) [g]
    exact hq _ _ (A1.cast (by simp [BS.wr, DkS.wr, DkS.wrw])) U1
  by_cases k2 : k = 2#32
  · subst k2
    have ha : a = 8#32 := hk
    subst ha
    have hA := A.put S (n := X.S.n) (T1 := X.T1) (T2 := X.T2) (lost := X.U.lost) (ctl := X.U.ctl) (r := X.r) (m := X.m) (D := X.D) (K := { X.K with c := v, s := X.K.s ||| 1#32 }) rfl
    simp only [rcl, rrest] at hA
    obtain ⟨A1, S1, U1⟩ := hA
    by_cases s1 : X.K.s &&& 1#32 = 0#32
    · simp (maxSteps := 1000000) (disch := first | assumption | ((try simp only [push_next, put_next, adv_next, List.length_cons, List.length_nil, List.length_map, List.length_set]); omega) | simp) [g, s1]
      refine A1.arm fun h2 nw A2 U2 => ?_
      simp (maxSteps := 1000000) (disch := first | assumption | ((try simp only [push_next, put_next, adv_next, List.length_cons, List.length_nil, List.length_map, List.length_set]); omega) | simp)
      exact hq h2 _ (A2.cast (by simp [BS.wr, DkS.wr, DkS.wrw, s1])) (U1.trans U2)
    · simp (maxSteps := 1000000) (disch := first | assumption | ((try simp only [push_next, put_next, adv_next, List.length_cons, List.length_nil, List.length_map, List.length_set]); omega) | simp) [g, s1]
      exact hq h fr (A.cast (by simp [BS.wr, DkS.wr, DkS.wrw, s1])) .refl
  have hge : ¬ k < 4#32 := fun h3 => by
    have := BitVec.lt_def.1 h3
    simp at this
    rcases (by omega : k.toNat = 0 ∨ k.toNat = 1 ∨ k.toNat = 2 ∨ k.toNat = 3) with e | e | e | e
    · exact k0 (BitVec.eq_of_toNat_eq e)
    · exact k1 (BitVec.eq_of_toNat_eq e)
    · exact k2 (BitVec.eq_of_toNat_eq e)
    · exact k3 (BitVec.eq_of_toNat_eq e)
  obtain ⟨a0, a4, a8, a12, a16⟩ := off_word hk hk2
  have b0 : ¬ a = 0#32 := fun e => k0 (a0 e)
  have b4 : ¬ a = 4#32 := fun e => k1 (a4 e)
  have b8 : ¬ a = 8#32 := fun e => k2 (a8 e)
  have b12 : ¬ a = 12#32 := fun e => k3 (a12 e)
  have := hq h fr (A.cast (by simp [BS.wr, DkS.wr, DkS.wrw, b0, b4, b8, b12])) .refl
  simp only [kat, b0, b4, b8, b12, or_false, decide_false] at this
  simp (maxSteps := 1000000) (disch := first | assumption | ((try simp only [push_next, put_next, adv_next, List.length_cons, List.length_nil, List.length_map, List.length_set]); omega) | simp) [g, k0, k1, k2, k3, hge]
  exact this
end
end Go.Proofs.Ytppgoobhlcdbbaa.Cd

/- The document's bus: the line's words; which word. -/
set_option maxRecDepth 1000000
set_option maxHeartbeats 8000000
set_option linter.unusedSimpArgs false
set_option linter.unusedVariables false
namespace Go.Proofs.Ytppgoobhlcdbbaa.Cd
open Go Go.Dx
section
variable {h h' : Hp} {q : Value → Hp → Prop} {x : Nat} {fr fo nw fo' : List Nat} {X X' : BS} {now d t : Int} {a v : BitVec 32} {vL vi vo vu vi' vo' : Value}
/-- Bytes that wait are changed. -/
theorem RW.lists {i' o' : By} {C : List Value} (A : RW h x fr fo X) (S : RS h x fr fo X vL vi vo vu) (hi : Se encB h (fr ++ nw) vi' i') (ho : Se encB h (fr ++ nw) vo' o') (li : i'.length ≤ 16) (lo : o'.length ≤ 16) (hn : ∀ b ∈ nw, x + 5 < b ∧ b < h.next ∧ b ∉ fo)
    (hC : C = rcl x { X with U := { X.U with i := i', o := o' } } vL vi' vo' vu) :
    RW (h.put (x + 4) (some (.cells false C))) x (fr ++ nw) fo { X with U := { X.U with i := i', o := o' } } := by
  subst hC
  have hl := A.lt
  have k1 : ∀ b ∈ fr ++ nw, (h.put (x + 4) (some (.cells false (rcl x { X with U := { X.U with i := i', o := o' } } vL vi' vo' vu)))).get b = h.get b := fun b hb => get_put_ne (by
    rcases List.mem_append.1 hb with hb | hb
    · have := (A.fr b hb).1; omega
    · have := (hn b hb).1; omega)
  refine ⟨⟨vL, vi', vo', vu, get_put_self (by omega), S.sL.keep (fun b hb => k1 b (List.mem_append_left _ hb)) (fun b hb => List.mem_append_left _ hb), hi.keep k1 (fun b hb => hb), ho.keep k1 (fun b hb => hb), S.su.keep fun b hb => get_put_ne (by have := A.fo b hb; omega)⟩, A.ra.keep fun b h1 h2 => get_put_ne (by omega), by rw [get_put_ne (by omega), A.dk], A.el, fun b hb => ?_, A.fo, A.wi, li, lo, A.nout⟩
  rcases List.mem_append.1 hb with hb | hb
  · exact A.fr b hb
  · exact hn b hb
theorem Se.kp {α : Type} {E : Enc α} {v : Value} {xs : List α} (s : Se E h fr v xs) (K : Kp h h') (hl : ∀ b ∈ fr, b < h.next) : Se E h' fr v xs := s.keep (fun b hb => K.get b (hl b hb)) fun b hb => hb
theorem RS.kp (A : RW h x fr fo X) (S : RS h x fr fo X vL vi vo vu) (K : Kp h h') : RS h' x fr fo X vL vi vo vu := by
  have hl := A.lt
  have l1 : ∀ b ∈ fr, b < h.next := fun b hb => (A.fr b hb).2.1
  exact ⟨by rw [K.get _ (by omega), S.g], S.sL.kp K l1, S.si.kp K l1, S.so.kp K l1, S.su.kp K⟩
theorem zuart {k : BitVec 32} (A : RW h x fr fo X) (hk : a = 4#32 * k) (hk2 : k.toNat < 16) (hn : 0 ≤ now ∧ now ≤ 2 ^ 60)
    (hq : ∀ h' fr', RW h' x fr' fo (X.wr 3 a v now) → Upd h h' (RL x fr fo) (RL x fr' fo) → q (.bool (uat a)) h') : WC T n_pianolaref15_Bus_uart [ptr (x + 4) 0, u32 k, u32 v, .int .i64 now] h q := by
  obtain ⟨vL, vi, vo, vu, S⟩ := A.bs
  have g := S.g
  have hl := A.lt
  simp only [rcl, rrest] at g
  rw [w_pianolaref15_Bus_uart]
  by_cases k0 : k = 0#32
  · subst k0
    have ha : a = 0#32 := hk
    subst ha
    have hno := A.no
    obtain ⟨ao, co, hvo, hso, hco, hbo⟩ := S.so
    subst hvo
    by_cases hfull : X.U.o.length < 16
    · have app : ∀ (h2 : Hp) (nw : List Nat) (Y : BS) (e : Env), RW h2 x (fr ++ nw) fo Y → Upd h h2 (RL x fr fo) (RL x (fr ++ nw) fo) → Y.U = X.U → { Y with U := { Y.U with o := X.U.o ++ [v.setWidth 8] } } = X.wr 3 0#32 v now → e 0 = ptr (x + 4) 0 → e 1 = u32 0#32 → e 2 = u32 v → e 9 = ptr (x + 4) 9 →
          G T (fin [.t 8] (some []) h.next q) c0_pianolaref15_Bus_uart [Fr.block 0, Fr.seq (.seq (.ops [⟨some 62, none, .mov (.t 1)⟩, ⟨some 63, none, .bin .lss (.t 62) (.c (.int .u32 3))⟩, ⟨some 8, none, .mov (.t 63)⟩]) .ret)] e h2 := fun h2 nw Y e A2 U2 hY hR e0 e1 e2 e9 => by
        obtain ⟨wL, wi, wo, wu, S2⟩ := A2.bs
        have g2 := S2.g
        have hl2 := A2.lt
        simp only [rcl, rrest] at g2
        have hso2 := S2.so
        rw [hY] at hso2
        obtain ⟨ao2, co2, hvo2, hso2, hco2, hbo2⟩ := hso2
        subst hvo2
        have K1 : Kp h2 (h2.push (.cells false [])) := (Kp.refl h2).push _
        have Oe : Own encB (h2.push (.cells false [])) (.slice (some ⟨h2.next, 0, none⟩) 0 0) [] [h2.next] := .emp get_push_self
        simp (maxSteps := 1000000) (disch := first | assumption | ((try simp only [push_next, put_next, adv_next, List.length_cons, List.length_nil, List.length_map, List.length_set]); omega) | simp) [e9, e2, g2]
        refine GV_app (E := encB) Oe (hso2.kp K1) rfl (by simp; omega) (by simp; omega) fun v3 h3 f3 O3 U3 => ?_
        have K3 : Kp h2 h3 := U3.kp' K1 (by simp)
        have F3 : ∀ b ∈ f3, h2.next ≤ b := fun b hb => by
          rcases U3.sub b hb with h5 | h5
          · simp at h5; omega
          · have := K1.le; omega
        have K4 : Kp h3 (h3.push (.cells false [u8 (v.setWidth 8)])) := (Kp.refl h3).push _
        have S4 : Sees encB (h3.push (.cells false [u8 (v.setWidth 8)])) (some ⟨h3.next, 0, none⟩) [v.setWidth 8] := sees_b get_push_self
        simp (maxSteps := 1000000) (disch := first | assumption | ((try simp only [push_next, put_next, adv_next, List.length_cons, List.length_nil, List.length_map, List.length_set]); omega) | simp) [e9, e2]
        generalize h3.push (.cells false [u8 (v.setWidth 8)]) = h4 at *
        refine GV_app (E := encB) (O3.kp K4) S4 rfl (by simp; omega) (by simp; omega) fun v5 h5 f5 O5 U5 => ?_
        have K5 : Kp h2 h5 := U5.kp' (K3.trans K4) F3
        have F5 : ∀ b ∈ f5, h2.next ≤ b := fun b hb => by
          rcases U5.sub b hb with h6 | h6
          · exact F3 b h6
          · have := K3.le; have := K4.le; omega
        have A5 := A2.kp K5
        have S5 := RS.kp A2 S2 K5
        have g5 := S5.g
        have hl5 := A5.lt
        simp only [rcl, rrest] at g5
        have hone : one v5 = true := by obtain ⟨_, _, e5, _⟩ := O5.len; rw [e5]; rfl
        simp (maxSteps := 1000000) (disch := first | assumption | ((try simp only [push_next, put_next, adv_next, List.length_cons, List.length_nil, List.length_map, List.length_set]); omega) | simp) [e0, e1, e9, g5, hone]
        have fr5 : ∀ b ∈ f5, x + 5 < b ∧ b < h5.next ∧ b ∉ fo := fun b hb => ⟨by have := F5 b hb; omega, O5.live b hb, fun hm => by have := F5 b hb; have := A2.folt b hm; omega⟩
        rw [List.nil_append] at O5
        have hi5 := S5.si
        rw [hY] at hi5
        have A6 := A5.lists (nw := f5) (i' := X.U.i) (o' := X.U.o ++ [v.setWidth 8]) S5 (hi5.keep (fun b hb => rfl) fun b hb => List.mem_append_left _ hb) (Se.own O5 fun b hb => List.mem_append_right _ hb) A.ni (by simp; omega) fr5 rfl
        simp only [rcl, rrest] at A6
        refine hq _ _ (A6.cast ?_) ?_
        · rw [← hR, ← hY]
        · refine U2.trans ⟨by simpa using K5.le, fun b hb hn => ?_, fun b hb => ?_⟩
          · rw [get_put_ne (fun e => hn (by rw [e]; simp [RL])), K5.get b hb]
          · simp only [RL, List.mem_append] at hb ⊢
            rcases hb with hb | (hb | hb) | hb
            · exact .inl (.inl hb)
            · exact .inl (.inr (.inl hb))
            · exact .inr (F5 b hb)
            · exact .inl (.inr (.inr hb))
      by_cases h0 : X.U.o.length = 0
      · have h0' : X.U.o = [] := List.length_eq_zero_iff.1 h0
        simp (maxSteps := 1000000) (disch := first | assumption | ((try simp only [push_next, put_next, adv_next, List.length_cons, List.length_nil, List.length_map, List.length_set]); omega) | simp) [g, hfull, h0, -g0_pianolaref15_Bus_uart]
        refine A.arm fun h2 nw A2 U2 => ?_
        simp (maxSteps := 1000000) (disch := first | assumption | ((try simp only [push_next, put_next, adv_next, List.length_cons, List.length_nil, List.length_map, List.length_set]); omega) | simp) [-g0_pianolaref15_Bus_uart]
        refine app h2 nw _ _ A2 U2 rfl ?_ (by simp) (by simp) (by simp) (by simp)
        simp [BS.wr, UaS.wr, UaS.wrw, h0, hfull]
      · have h0i : ¬ (X.U.o.length : Int) = 0 := by omega
        have hfi : (X.U.o.length : Int) < 16 := by omega
        simp (maxSteps := 1000000) (disch := first | assumption | ((try simp only [push_next, put_next, adv_next, List.length_cons, List.length_nil, List.length_map, List.length_set]); omega) | simp) [g, hfi, h0, h0i, -g0_pianolaref15_Bus_uart]
        refine app h [] X _ (by rw [List.append_nil]; exact A) (by rw [List.append_nil]; exact .refl) rfl ?_ (by simp) (by simp) (by simp) (by simp)
        simp [BS.wr, UaS.wr, UaS.wrw, h0, hfull]
    · have := hq h fr (A.cast (by simp [BS.wr, UaS.wr, UaS.wrw, hfull, show X.U.o.length ≠ 0 by omega])) .refl
      have hfi : ¬ (X.U.o.length : Int) < 16 := by omega
      simp (maxSteps := 1000000) (disch := first | assumption | ((try simp only [push_next, put_next, adv_next, List.length_cons, List.length_nil, List.length_map, List.length_set]); omega) | simp) [g, hfi]
      exact this
  by_cases k1 : k = 1#32
  · subst k1
    have ha : a = 4#32 := hk
    subst ha
    have hA := A.put S (n := X.S.n) (T1 := X.T1) (T2 := X.T2) (lost := false) (ctl := X.U.ctl) (r := X.r) (m := X.m) (D := X.D) (K := X.K) rfl
    simp only [rcl, rrest] at hA
    obtain ⟨A1, S1, U1⟩ := hA
    by_cases v1 : v &&& 4#32 = 0#32
    · simp (maxSteps := 1000000) (disch := first | assumption | ((try simp only [push_next, put_next, adv_next, List.length_cons, List.length_nil, List.length_map, List.length_set]); omega) | simp) [g, v1]
      exact hq h fr (A.cast (by simp [BS.wr, UaS.wr, UaS.wrw, v1])) .refl
    · simp (maxSteps := 1000000) (disch := first | assumption | ((try simp only [push_next, put_next, adv_next, List.length_cons, List.length_nil, List.length_map, List.length_set]); omega) | simp) [g, v1]
      exact hq _ _ (A1.cast (by simp [BS.wr, UaS.wr, UaS.wrw, v1])) U1
  by_cases k2 : k = 2#32
  · subst k2
    have ha : a = 8#32 := hk
    subst ha
    have hA := A.put S (n := X.S.n) (T1 := X.T1) (T2 := X.T2) (lost := X.U.lost) (ctl := v &&& 3#32) (r := X.r) (m := X.m) (D := X.D) (K := X.K) rfl
    simp only [rcl, rrest] at hA
    obtain ⟨A1, S1, U1⟩ := hA
    simp (maxSteps := 1000000) (disch := first | assumption | ((try simp only [push_next, put_next, adv_next, List.length_cons, List.length_nil, List.length_map, List.length_set]); omega) | simp) [g]
    exact hq _ _ (A1.cast (by simp [BS.wr, UaS.wr, UaS.wrw])) U1
  have hge : ¬ k < 3#32 := fun h3 => by
    have := BitVec.lt_def.1 h3
    simp at this
    rcases (by omega : k.toNat = 0 ∨ k.toNat = 1 ∨ k.toNat = 2) with e | e | e
    · exact k0 (BitVec.eq_of_toNat_eq e)
    · exact k1 (BitVec.eq_of_toNat_eq e)
    · exact k2 (BitVec.eq_of_toNat_eq e)
  obtain ⟨a0, a4, a8, a12, a16⟩ := off_word hk hk2
  have b0 : ¬ a = 0#32 := fun e => k0 (a0 e)
  have b4 : ¬ a = 4#32 := fun e => k1 (a4 e)
  have b8 : ¬ a = 8#32 := fun e => k2 (a8 e)
  have := hq h fr (A.cast (by simp [BS.wr, UaS.wr, UaS.wrw, b0, b4, b8])) .refl
  simp only [uat, b0, b4, b8, or_false, decide_false] at this
  simp (maxSteps := 1000000) (disch := first | assumption | ((try simp only [push_next, put_next, adv_next, List.length_cons, List.length_nil, List.length_map, List.length_set]); omega) | simp) [g, k0, k1, k2, hge]
  exact this
/-- A device's word is written. -/
theorem zset (A : RW h x fr fo X) (hd : 0 ≤ d ∧ d ≤ 5) (ha : a.toNat < 64) (hn : 0 ≤ now ∧ now ≤ 2 ^ 60)
    (hq : ∀ h' fr', RW h' x fr' fo (X.wr d a v now) → Upd h h' (RL x fr fo) (RL x fr' fo) → q (.bool (wok d a)) h') : WC T n_pianolaref15_Bus_Set [ptr (x + 4) 0, .int .i64 d, u32 a, u32 v, .int .i64 now] h q := by
  obtain ⟨vL, vi, vo, vu, S⟩ := A.bs
  have g := S.g
  have hl := A.lt
  simp only [rcl, rrest] at g
  rw [w_pianolaref15_Bus_Set]
  by_cases c : a % 4#32 = 0#32
  · obtain ⟨k, hk⟩ : ∃ k, k = a / 4#32 := ⟨_, rfl⟩
    have hkn : k.toNat = a.toNat / 4 := by rw [hk, BitVec.toNat_udiv]; rfl
    have hcn : a.toNat % 4 = 0 := by
      have := congrArg BitVec.toNat c
      simpa using this
    have hak : a = 4#32 * k := by
      apply BitVec.eq_of_toNat_eq
      rw [BitVec.toNat_mul, hkn]
      simp
      omega
    have hk16 : k.toNat < 16 := by omega
    have : d = 0 ∨ d = 1 ∨ d = 2 ∨ d = 3 ∨ d = 4 ∨ d = 5 := by omega
    rcases this with rfl | rfl | rfl | rfl | rfl | rfl
    · have hA := A.put S (n := X.S.n) (T1 := X.T1) (T2 := X.T2) (lost := X.U.lost) (ctl := X.U.ctl) (r := X.r) (m := v &&& 62#32) (D := X.D) (K := X.K) rfl
      simp only [rcl, rrest] at hA
      obtain ⟨A1, S1, U1⟩ := hA
      obtain ⟨a0, a4, a8, a12, a16⟩ := off_word hak hk16
      have hlat : decide (a < 16#32) = lat a := by
        have hlt16 : (a < 16#32) ↔ a.toNat < 16 := by rw [BitVec.lt_def]; rfl
        by_cases h16 : a.toNat < 16
        · rcases (by omega : a.toNat = 0 ∨ a.toNat = 4 ∨ a.toNat = 8 ∨ a.toNat = 12) with e | e | e | e
          · have : a = 0#32 := BitVec.eq_of_toNat_eq e
            subst this; rfl
          · have : a = 4#32 := BitVec.eq_of_toNat_eq e
            subst this; rfl
          · have : a = 8#32 := BitVec.eq_of_toNat_eq e
            subst this; rfl
          · have : a = 12#32 := BitVec.eq_of_toNat_eq e
            subst this; rfl
        · have n0 : ¬ a = 0#32 := fun e => h16 (by rw [e]; decide)
          have n4 : ¬ a = 4#32 := fun e => h16 (by rw [e]; decide)
          have n8 : ¬ a = 8#32 := fun e => h16 (by rw [e]; decide)
          have n12 : ¬ a = 12#32 := fun e => h16 (by rw [e]; decide)
          have : ¬ a < 16#32 := fun e => h16 (hlt16.1 e)
          rw [decide_eq_false this]
          simp [lat, n0, n4, n8, n12]
      have hw : wok 0 a = lat a := by simp [wok]
      rw [hw] at hq
      by_cases e4 : a = 4#32
      · subst e4
        simp (maxSteps := 1000000) (disch := first | assumption | ((try simp only [push_next, put_next, adv_next, List.length_cons, List.length_nil, List.length_map, List.length_set]); omega) | simp) [g]
        exact hq _ _ (A1.cast (by simp [BS.wr])) U1
      · have := hq h fr (A.cast (by simp [BS.wr, e4])) .refl
        rw [← hlat] at this
        simp (maxSteps := 1000000) (disch := first | assumption | ((try simp only [push_next, put_next, adv_next, List.length_cons, List.length_nil, List.length_map, List.length_set]); omega) | simp) [g, c, e4]
        exact this
    · simp (maxSteps := 1000000) (disch := first | assumption | ((try simp only [push_next, put_next, adv_next, List.length_cons, List.length_nil, List.length_map, List.length_set]); omega) | simp) [g, c]
      rw [← hk]
      refine ztim1 A hak hk16 hn fun h1 fr1 A1 U1 => ?_
      simp (maxSteps := 1000000) (disch := first | assumption | ((try simp only [push_next, put_next, adv_next, List.length_cons, List.length_nil, List.length_map, List.length_set]); omega) | simp)
      simpa [wok] using hq h1 fr1 A1 U1
    · simp (maxSteps := 1000000) (disch := first | assumption | ((try simp only [push_next, put_next, adv_next, List.length_cons, List.length_nil, List.length_map, List.length_set]); omega) | simp) [g, c]
      rw [← hk]
      refine ztim2 A hak hk16 hn fun h1 fr1 A1 U1 => ?_
      simp (maxSteps := 1000000) (disch := first | assumption | ((try simp only [push_next, put_next, adv_next, List.length_cons, List.length_nil, List.length_map, List.length_set]); omega) | simp)
      simpa [wok] using hq h1 fr1 A1 U1
    · simp (maxSteps := 1000000) (disch := first | assumption | ((try simp only [push_next, put_next, adv_next, List.length_cons, List.length_nil, List.length_map, List.length_set]); omega) | simp) [g, c]
      rw [← hk]
      refine zuart A hak hk16 hn fun h1 fr1 A1 U1 => ?_
      simp (maxSteps := 1000000) (disch := first | assumption | ((try simp only [push_next, put_next, adv_next, List.length_cons, List.length_nil, List.length_map, List.length_set]); omega) | simp)
      simpa [wok] using hq h1 fr1 A1 U1
    · simp (maxSteps := 1000000) (disch := first | assumption | ((try simp only [push_next, put_next, adv_next, List.length_cons, List.length_nil, List.length_map, List.length_set]); omega) | simp) [g, c]
      rw [← hk]
      refine zdma A hak hk16 hn fun h1 fr1 A1 U1 => ?_
      simp (maxSteps := 1000000) (disch := first | assumption | ((try simp only [push_next, put_next, adv_next, List.length_cons, List.length_nil, List.length_map, List.length_set]); omega) | simp)
      simpa [wok] using hq h1 fr1 A1 U1
    · simp (maxSteps := 1000000) (disch := first | assumption | ((try simp only [push_next, put_next, adv_next, List.length_cons, List.length_nil, List.length_map, List.length_set]); omega) | simp) [g, c]
      rw [← hk]
      refine zdisk A hak hk16 hn fun h1 fr1 A1 U1 => ?_
      simp (maxSteps := 1000000) (disch := first | assumption | ((try simp only [push_next, put_next, adv_next, List.length_cons, List.length_nil, List.length_map, List.length_set]); omega) | simp)
      simpa [wok] using hq h1 fr1 A1 U1
  · have n0 : ¬ a = 0#32 := fun e => c (by rw [e]; rfl)
    have n4 : ¬ a = 4#32 := fun e => c (by rw [e]; rfl)
    have n8 : ¬ a = 8#32 := fun e => c (by rw [e]; rfl)
    have n12 : ¬ a = 12#32 := fun e => c (by rw [e]; rfl)
    have n16 : ¬ a = 16#32 := fun e => c (by rw [e]; rfl)
    have hw : wok d a = false := by
      unfold wok lat mat uat dat kat
      simp [n0, n4, n8, n12, n16]
    have hr : X = X.wr d a v now := by
      unfold BS.wr
      simp [TmS.wr, TmS.wrw, UaS.wr, UaS.wrw, DmS.wr, DmS.wrw, DkS.wr, DkS.wrw, n0, n4, n8, n12, n16]
    have := hq h fr (A.cast hr) .refl
    rw [hw] at this
    simp (maxSteps := 1000000) (disch := first | assumption | ((try simp only [push_next, put_next, adv_next, List.length_cons, List.length_nil, List.length_map, List.length_set]); omega) | simp) [c]
    exact this
end
end Go.Proofs.Ytppgoobhlcdbbaa.Cd

/- The document's bus: what lines and words tell. -/
set_option maxRecDepth 1000000
set_option maxHeartbeats 8000000
set_option linter.unusedSimpArgs false
set_option linter.unusedVariables false
namespace Go.Proofs.Ytppgoobhlcdbbaa.Cd
open Go Go.Dx
section
variable {h h' : Hp} {q : Value → Hp → Prop} {x : Nat} {fr fo nw fo' : List Nat} {X X' : BS} {now d t : Int} {a v : BitVec 32} {vL vi vo vu vi' vo' : Value}
theorem zline (A : RW h x fr fo X) (hd : 1 ≤ d ∧ d ≤ 5) : WC T n_pianolaref15_Bus_Line [ptr (x + 4) 0, .int .i64 d] h q ↔ q (.bool (X.line d)) h := by
  obtain ⟨vL, vi, vo, vu, S⟩ := A.bs
  have g := S.g
  simp only [rcl, rrest] at g
  obtain ⟨ai, ci, hvi, hsi, hci, hbi⟩ := S.si
  obtain ⟨ao, co, hvo, hso, hco, hbo⟩ := S.so
  subst hvi
  subst hvo
  rw [w_pianolaref15_Bus_Line]
  have : d = 1 ∨ d = 2 ∨ d = 3 ∨ d = 4 ∨ d = 5 := by omega
  rcases this with rfl | rfl | rfl | rfl | rfl
  · simp (maxSteps := 1000000) (disch := first | assumption | ((try simp only [push_next, put_next, adv_next, List.length_cons, List.length_nil, List.length_map, List.length_set]); omega) | simp) [g, BS.line]
  · simp (maxSteps := 1000000) (disch := first | assumption | ((try simp only [push_next, put_next, adv_next, List.length_cons, List.length_nil, List.length_map, List.length_set]); omega) | simp) [g, BS.line]
  · have l3 : X.line 3 = X.U.line := by simp [BS.line]
    rw [l3]
    unfold UaS.line
    by_cases c1 : X.U.ctl &&& 1#32 = 0#32
    · by_cases c2 : X.U.ctl &&& 2#32 = 0#32
      · simp (maxSteps := 1000000) (disch := first | assumption | ((try simp only [push_next, put_next, adv_next, List.length_cons, List.length_nil, List.length_map, List.length_set]); omega) | simp) [g, c1, c2]
      · have d2 : (X.U.ctl &&& 2#32 != 0#32) = true := by simp [c2]
        simp (maxSteps := 1000000) (disch := first | assumption | ((try simp only [push_next, put_next, adv_next, List.length_cons, List.length_nil, List.length_map, List.length_set]); omega) | simp) [g, c1, c2, d2]
    · have d1 : (X.U.ctl &&& 1#32 != 0#32) = true := by simp [c1]
      by_cases c3 : 0 < X.U.i.length
      · have c3i : (0 : Int) < X.U.i.length := by omega
        simp (maxSteps := 1000000) (disch := first | assumption | ((try simp only [push_next, put_next, adv_next, List.length_cons, List.length_nil, List.length_map, List.length_set]); omega) | simp) [g, c1, c3, c3i, d1]
      · have c3i : ¬ (0 : Int) < X.U.i.length := by omega
        by_cases c2 : X.U.ctl &&& 2#32 = 0#32
        · simp (maxSteps := 1000000) (disch := first | assumption | ((try simp only [push_next, put_next, adv_next, List.length_cons, List.length_nil, List.length_map, List.length_set]); omega) | simp) [g, c1, c2, c3, c3i]
        · have d2 : (X.U.ctl &&& 2#32 != 0#32) = true := by simp [c2]
          simp (maxSteps := 1000000) (disch := first | assumption | ((try simp only [push_next, put_next, adv_next, List.length_cons, List.length_nil, List.length_map, List.length_set]); omega) | simp) [g, c1, c2, c3, c3i, d2]
  · simp (maxSteps := 1000000) (disch := first | assumption | ((try simp only [push_next, put_next, adv_next, List.length_cons, List.length_nil, List.length_map, List.length_set]); omega) | simp) [g, BS.line]
  · simp (maxSteps := 1000000) (disch := first | assumption | ((try simp only [push_next, put_next, adv_next, List.length_cons, List.length_nil, List.length_map, List.length_set]); omega) | simp) [g, BS.line]
theorem iaV_u32 {a : BitVec 32} {b o n c : Nat} (h : a.toNat < n) : iaV 1 (u32 a) (.slice (some ⟨b, o, none⟩) n c) = some (ptr b (o + a.toNat)) := by
  simp [iaV, u32, asN, h]
theorem zbit {b : Bool} {n : BitVec 64} : WC T n_pianolaref15_bit [.bool b, u64 n] h q ↔ q (u32 (ubit b (1#32 <<< n.toNat))) h := by
  rw [w_pianolaref15_bit]
  cases b <;> simp (maxSteps := 1000000) (disch := first | assumption | ((try simp only [push_next, put_next, adv_next, List.length_cons, List.length_nil, List.length_map, List.length_set]); omega) | simp) [ubit]
theorem four {a : BitVec 32} (c : a % 4#32 = 0#32) (n : Nat) (hn : n < 2 ^ 30) (hno : ∀ m, m < n → a ≠ BitVec.ofNat 32 (4 * m)) : BitVec.ofNat 32 n ≤ a / 4#32 := by
  have hcn : a.toNat % 4 = 0 := by
    have := congrArg BitVec.toNat c
    simpa using this
  rw [BitVec.le_def, BitVec.toNat_udiv, BitVec.toNat_ofNat, Nat.mod_eq_of_lt (by omega)]
  show n ≤ a.toNat / 4
  apply Nat.le_of_not_lt
  intro hlt
  refine hno (a.toNat / 4) hlt (BitVec.eq_of_toNat_eq ?_)
  have := a.isLt
  rw [BitVec.toNat_ofNat, Nat.mod_eq_of_lt (by omega)]
  omega
theorem zword0 (A : RW h x fr fo X) (hn : 0 ≤ now ∧ now ≤ 2 ^ 60) (hq : ∀ h', Kp h h' → q (.tuple #[u32 (X.rd 0 a now), .bool (wok 0 a)]) h') : WC T n_pianolaref15_Bus_Word [ptr (x + 4) 0, .int .i64 0, u32 a, .int .i64 now] h q := by
  obtain ⟨vL, vi, vo, vu, S⟩ := A.bs
  have g := S.g
  have hl := A.lt
  simp only [rcl, rrest] at g
  have l1 : BitVec.setWidth 32 (BitVec.ofInt 64 now) = BitVec.ofInt 32 now := by
    apply BitVec.eq_of_toNat_eq
    rw [BitVec.toNat_setWidth, BitVec.toNat_ofInt, BitVec.toNat_ofInt]
    omega
  have l2 : BitVec.setWidth 32 (BitVec.ofInt 64 now >>> 32) = BitVec.ofInt 32 (now.fdiv 4294967296) := by
    apply BitVec.eq_of_toNat_eq
    rw [Int.fdiv_eq_ediv_of_nonneg _ (by omega), BitVec.toNat_setWidth, BitVec.toNat_ushiftRight, Nat.shiftRight_eq_div_pow, BitVec.toNat_ofInt, BitVec.toNat_ofInt]
    omega
  rw [w_pianolaref15_Bus_Word]
  by_cases c : a % 4#32 = 0#32
  · by_cases a0 : a = 0#32
    · subst a0
      have := fun h' K => hq h' K
      simp [BS.rd, lrd, wok, lat, l1, l2] at this
      simp (maxSteps := 1000000) (disch := first | assumption | ((try simp only [push_next, put_next, adv_next, List.length_cons, List.length_nil, List.length_map, List.length_set]); omega) | simp) [g, iaV_u32, l1, l2]
      refine this _ ?_
      exact ((((Kp.refl h).push _).adv 1).put (by omega) _)
    by_cases a4 : a = 4#32
    · subst a4
      have := fun h' K => hq h' K
      simp [BS.rd, lrd, wok, lat, l1, l2] at this
      simp (maxSteps := 1000000) (disch := first | assumption | ((try simp only [push_next, put_next, adv_next, List.length_cons, List.length_nil, List.length_map, List.length_set]); omega) | simp) [g, iaV_u32, l1, l2]
      refine this _ ?_
      exact ((((Kp.refl h).push _).adv 1).put (by omega) _)
    by_cases a8 : a = 8#32
    · subst a8
      have := fun h' K => hq h' K
      simp [BS.rd, lrd, wok, lat, l1, l2] at this
      simp (maxSteps := 1000000) (disch := first | assumption | ((try simp only [push_next, put_next, adv_next, List.length_cons, List.length_nil, List.length_map, List.length_set]); omega) | simp) [g, iaV_u32, l1, l2]
      refine this _ ?_
      exact ((((Kp.refl h).push _).adv 1).put (by omega) _)
    by_cases a12 : a = 12#32
    · subst a12
      have := fun h' K => hq h' K
      simp [BS.rd, lrd, wok, lat, l1, l2] at this
      simp (maxSteps := 1000000) (disch := first | assumption | ((try simp only [push_next, put_next, adv_next, List.length_cons, List.length_nil, List.length_map, List.length_set]); omega) | simp) [g, iaV_u32, l1, l2]
      refine this _ ?_
      exact ((((Kp.refl h).push _).adv 1).put (by omega) _)
    have hbig := four c 4 (by omega) (fun m hm => by
      rcases (by omega : m = 0 ∨ m = 1 ∨ m = 2 ∨ m = 3) with rfl | rfl | rfl | rfl
      · exact a0
      · exact a4
      · exact a8
      · exact a12)
    have hlat : lat a = false := by simp [lat, a0, a4, a8, a12]
    have := fun h' K => hq h' K
    simp [BS.rd, lrd, wok, hlat, a0, a4, a8, a12] at this
    simp (maxSteps := 1000000) (disch := first | assumption | ((try simp only [push_next, put_next, adv_next, List.length_cons, List.length_nil, List.length_map, List.length_set]); omega) | simp) [g, c, hbig, l1, l2]
    refine this _ ?_
    exact ((((Kp.refl h).push _).adv 1).put (by omega) _)
  · have a0 : ¬ a = 0#32 := fun e => c (by rw [e]; rfl)
    have a4 : ¬ a = 4#32 := fun e => c (by rw [e]; rfl)
    have a8 : ¬ a = 8#32 := fun e => c (by rw [e]; rfl)
    have a12 : ¬ a = 12#32 := fun e => c (by rw [e]; rfl)
    have hlat : lat a = false := by simp [lat, a0, a4, a8, a12]
    have := fun h' K => hq h' K
    simp [BS.rd, lrd, wok, hlat, a0, a4, a8, a12] at this
    simp (maxSteps := 1000000) (disch := first | assumption | ((try simp only [push_next, put_next, adv_next, List.length_cons, List.length_nil, List.length_map, List.length_set]); omega) | simp) [g, c, l1, l2]
    refine this _ ?_
    exact ((((Kp.refl h).push _).adv 1).put (by omega) _)
theorem zword1 (A : RW h x fr fo X) (hq : ∀ h', Kp h h' → q (.tuple #[u32 (X.rd 1 a now), .bool (wok 1 a)]) h') : WC T n_pianolaref15_Bus_Word [ptr (x + 4) 0, .int .i64 1, u32 a, .int .i64 now] h q := by
  obtain ⟨vL, vi, vo, vu, S⟩ := A.bs
  have g := S.g
  have hl := A.lt
  simp only [rcl, rrest] at g
  rw [w_pianolaref15_Bus_Word]
  by_cases c : a % 4#32 = 0#32
  · by_cases a0 : a = 0#32
    · subst a0
      have := fun h' K => hq h' K
      simp [BS.rd, TmS.rd, wok, mat, Hp.rdn] at this
      simp (maxSteps := 1000000) (disch := first | assumption | ((try simp only [push_next, put_next, adv_next, List.length_cons, List.length_nil, List.length_map, List.length_set]); omega) | simp) [g, iaV_u32, Hp.rdn]
      refine this _ ?_
      exact (((((Kp.refl h).push _).push _).put (by omega) _).push _)
    by_cases a4 : a = 4#32
    · subst a4
      have := fun h' K => hq h' K
      simp [BS.rd, TmS.rd, wok, mat, Hp.rdn] at this
      simp (maxSteps := 1000000) (disch := first | assumption | ((try simp only [push_next, put_next, adv_next, List.length_cons, List.length_nil, List.length_map, List.length_set]); omega) | simp) [g, iaV_u32, Hp.rdn]
      refine this _ ?_
      exact (((((Kp.refl h).push _).push _).put (by omega) _).push _)
    by_cases a8 : a = 8#32
    · subst a8
      have := fun h' K => hq h' K
      simp [BS.rd, TmS.rd, wok, mat, Hp.rdn] at this
      simp (maxSteps := 1000000) (disch := first | assumption | ((try simp only [push_next, put_next, adv_next, List.length_cons, List.length_nil, List.length_map, List.length_set]); omega) | simp) [g, iaV_u32, Hp.rdn]
      refine this _ ?_
      exact (((((Kp.refl h).push _).push _).put (by omega) _).push _)
    have hbig := four c 3 (by omega) (fun m hm => by
      rcases (by omega : m = 0 ∨ m = 1 ∨ m = 2) with rfl | rfl | rfl
      · exact a0
      · exact a4
      · exact a8)
    have := fun h' K => hq h' K
    simp [BS.rd, TmS.rd, wok, mat, Hp.rdn, a0, a4, a8] at this
    simp (maxSteps := 1000000) (disch := first | assumption | ((try simp only [push_next, put_next, adv_next, List.length_cons, List.length_nil, List.length_map, List.length_set]); omega) | simp) [g, c, hbig, Hp.rdn]
    refine this _ ?_
    exact (((((Kp.refl h).push _).push _).put (by omega) _).push _)
  · have a0 : ¬ a = 0#32 := fun e => c (by rw [e]; rfl)
    have a4 : ¬ a = 4#32 := fun e => c (by rw [e]; rfl)
    have a8 : ¬ a = 8#32 := fun e => c (by rw [e]; rfl)
    have := fun h' K => hq h' K
    simp [BS.rd, TmS.rd, wok, mat, Hp.rdn, a0, a4, a8] at this
    simp (maxSteps := 1000000) (disch := first | assumption | ((try simp only [push_next, put_next, adv_next, List.length_cons, List.length_nil, List.length_map, List.length_set]); omega) | simp) [g, c, Hp.rdn]
    refine this _ ?_
    exact (((((Kp.refl h).push _).push _).put (by omega) _).push _)
theorem zword2 (A : RW h x fr fo X) (hq : ∀ h', Kp h h' → q (.tuple #[u32 (X.rd 2 a now), .bool (wok 2 a)]) h') : WC T n_pianolaref15_Bus_Word [ptr (x + 4) 0, .int .i64 2, u32 a, .int .i64 now] h q := by
  obtain ⟨vL, vi, vo, vu, S⟩ := A.bs
  have g := S.g
  have hl := A.lt
  simp only [rcl, rrest] at g
  rw [w_pianolaref15_Bus_Word]
  by_cases c : a % 4#32 = 0#32
  · by_cases a0 : a = 0#32
    · subst a0
      have := fun h' K => hq h' K
      simp [BS.rd, TmS.rd, wok, mat, Hp.rdn] at this
      simp (maxSteps := 1000000) (disch := first | assumption | ((try simp only [push_next, put_next, adv_next, List.length_cons, List.length_nil, List.length_map, List.length_set]); omega) | simp) [g, iaV_u32, Hp.rdn]
      refine this _ ?_
      exact (((((Kp.refl h).push _).push _).put (by omega) _).push _)
    by_cases a4 : a = 4#32
    · subst a4
      have := fun h' K => hq h' K
      simp [BS.rd, TmS.rd, wok, mat, Hp.rdn] at this
      simp (maxSteps := 1000000) (disch := first | assumption | ((try simp only [push_next, put_next, adv_next, List.length_cons, List.length_nil, List.length_map, List.length_set]); omega) | simp) [g, iaV_u32, Hp.rdn]
      refine this _ ?_
      exact (((((Kp.refl h).push _).push _).put (by omega) _).push _)
    by_cases a8 : a = 8#32
    · subst a8
      have := fun h' K => hq h' K
      simp [BS.rd, TmS.rd, wok, mat, Hp.rdn] at this
      simp (maxSteps := 1000000) (disch := first | assumption | ((try simp only [push_next, put_next, adv_next, List.length_cons, List.length_nil, List.length_map, List.length_set]); omega) | simp) [g, iaV_u32, Hp.rdn]
      refine this _ ?_
      exact (((((Kp.refl h).push _).push _).put (by omega) _).push _)
    have hbig := four c 3 (by omega) (fun m hm => by
      rcases (by omega : m = 0 ∨ m = 1 ∨ m = 2) with rfl | rfl | rfl
      · exact a0
      · exact a4
      · exact a8)
    have := fun h' K => hq h' K
    simp [BS.rd, TmS.rd, wok, mat, Hp.rdn, a0, a4, a8] at this
    simp (maxSteps := 1000000) (disch := first | assumption | ((try simp only [push_next, put_next, adv_next, List.length_cons, List.length_nil, List.length_map, List.length_set]); omega) | simp) [g, c, hbig, Hp.rdn]
    refine this _ ?_
    exact (((((Kp.refl h).push _).push _).put (by omega) _).push _)
  · have a0 : ¬ a = 0#32 := fun e => c (by rw [e]; rfl)
    have a4 : ¬ a = 4#32 := fun e => c (by rw [e]; rfl)
    have a8 : ¬ a = 8#32 := fun e => c (by rw [e]; rfl)
    have := fun h' K => hq h' K
    simp [BS.rd, TmS.rd, wok, mat, Hp.rdn, a0, a4, a8] at this
    simp (maxSteps := 1000000) (disch := first | assumption | ((try simp only [push_next, put_next, adv_next, List.length_cons, List.length_nil, List.length_map, List.length_set]); omega) | simp) [g, c, Hp.rdn]
    refine this _ ?_
    exact (((((Kp.refl h).push _).push _).put (by omega) _).push _)
theorem zword4 (A : RW h x fr fo X) (hq : ∀ h', Kp h h' → q (.tuple #[u32 (X.rd 4 a now), .bool (wok 4 a)]) h') : WC T n_pianolaref15_Bus_Word [ptr (x + 4) 0, .int .i64 4, u32 a, .int .i64 now] h q := by
  obtain ⟨vL, vi, vo, vu, S⟩ := A.bs
  have g := S.g
  have hl := A.lt
  simp only [rcl, rrest] at g
  rw [w_pianolaref15_Bus_Word]
  by_cases c : a % 4#32 = 0#32
  · by_cases a0 : a = 0#32
    · subst a0
      have := fun h' K => hq h' K
      simp [BS.rd, DmS.rd, wok, dat] at this
      simp (maxSteps := 1000000) (disch := first | assumption | ((try simp only [push_next, put_next, adv_next, List.length_cons, List.length_nil, List.length_map, List.length_set]); omega) | simp) [g, iaV_u32, Hp.rdn]
      refine this _ ?_
      exact ((((Kp.refl h).push _).adv 1).put (by omega) _)
    by_cases a4 : a = 4#32
    · subst a4
      have := fun h' K => hq h' K
      simp [BS.rd, DmS.rd, wok, dat] at this
      simp (maxSteps := 1000000) (disch := first | assumption | ((try simp only [push_next, put_next, adv_next, List.length_cons, List.length_nil, List.length_map, List.length_set]); omega) | simp) [g, iaV_u32, Hp.rdn]
      refine this _ ?_
      exact ((((Kp.refl h).push _).adv 1).put (by omega) _)
    by_cases a8 : a = 8#32
    · subst a8
      have := fun h' K => hq h' K
      simp [BS.rd, DmS.rd, wok, dat] at this
      simp (maxSteps := 1000000) (disch := first | assumption | ((try simp only [push_next, put_next, adv_next, List.length_cons, List.length_nil, List.length_map, List.length_set]); omega) | simp) [g, iaV_u32, Hp.rdn]
      refine this _ ?_
      exact ((((Kp.refl h).push _).adv 1).put (by omega) _)
    by_cases a12 : a = 12#32
    · subst a12
      have := fun h' K => hq h' K
      simp [BS.rd, DmS.rd, wok, dat] at this
      simp (maxSteps := 1000000) (disch := first | assumption | ((try simp only [push_next, put_next, adv_next, List.length_cons, List.length_nil, List.length_map, List.length_set]); omega) | simp) [g, iaV_u32, Hp.rdn]
      refine this _ ?_
      exact ((((Kp.refl h).push _).adv 1).put (by omega) _)
    by_cases a16 : a = 16#32
    · subst a16
      have := fun h' K => hq h' K
      simp [BS.rd, DmS.rd, wok, dat] at this
      simp (maxSteps := 1000000) (disch := first | assumption | ((try simp only [push_next, put_next, adv_next, List.length_cons, List.length_nil, List.length_map, List.length_set]); omega) | simp) [g, iaV_u32, Hp.rdn]
      refine this _ ?_
      exact ((((Kp.refl h).push _).adv 1).put (by omega) _)
    have hbig := four c 5 (by omega) (fun m hm => by
      rcases (by omega : m = 0 ∨ m = 1 ∨ m = 2 ∨ m = 3 ∨ m = 4) with rfl | rfl | rfl | rfl | rfl
      · exact a0
      · exact a4
      · exact a8
      · exact a12
      · exact a16)
    have := fun h' K => hq h' K
    simp [BS.rd, DmS.rd, wok, dat, a0, a4, a8, a12, a16] at this
    simp (maxSteps := 1000000) (disch := first | assumption | ((try simp only [push_next, put_next, adv_next, List.length_cons, List.length_nil, List.length_map, List.length_set]); omega) | simp) [g, c, hbig, Hp.rdn]
    refine this _ ?_
    exact ((((Kp.refl h).push _).adv 1).put (by omega) _)
  · have a0 : ¬ a = 0#32 := fun e => c (by rw [e]; rfl)
    have a4 : ¬ a = 4#32 := fun e => c (by rw [e]; rfl)
    have a8 : ¬ a = 8#32 := fun e => c (by rw [e]; rfl)
    have a12 : ¬ a = 12#32 := fun e => c (by rw [e]; rfl)
    have a16 : ¬ a = 16#32 := fun e => c (by rw [e]; rfl)
    have := fun h' K => hq h' K
    simp [BS.rd, DmS.rd, wok, dat, a0, a4, a8, a12, a16] at this
    simp (maxSteps := 1000000) (disch := first | assumption | ((try simp only [push_next, put_next, adv_next, List.length_cons, List.length_nil, List.length_map, List.length_set]); omega) | simp) [g, c, Hp.rdn]
    refine this _ ?_
    exact ((((Kp.refl h).push _).adv 1).put (by omega) _)
theorem zword5 (A : RW h x fr fo X) (hq : ∀ h', Kp h h' → q (.tuple #[u32 (X.rd 5 a now), .bool (wok 5 a)]) h') : WC T n_pianolaref15_Bus_Word [ptr (x + 4) 0, .int .i64 5, u32 a, .int .i64 now] h q := by
  obtain ⟨vL, vi, vo, vu, S⟩ := A.bs
  have g := S.g
  have hl := A.lt
  simp only [rcl, rrest] at g
  rw [w_pianolaref15_Bus_Word]
  by_cases c : a % 4#32 = 0#32
  · by_cases a0 : a = 0#32
    · subst a0
      have := fun h' K => hq h' K
      simp [BS.rd, DkS.rd, wok, kat] at this
      simp (maxSteps := 1000000) (disch := first | assumption | ((try simp only [push_next, put_next, adv_next, List.length_cons, List.length_nil, List.length_map, List.length_set]); omega) | simp) [g, iaV_u32, Hp.rdn]
      refine this _ ?_
      exact ((((Kp.refl h).push _).adv 1).put (by omega) _)
    by_cases a4 : a = 4#32
    · subst a4
      have := fun h' K => hq h' K
      simp [BS.rd, DkS.rd, wok, kat] at this
      simp (maxSteps := 1000000) (disch := first | assumption | ((try simp only [push_next, put_next, adv_next, List.length_cons, List.length_nil, List.length_map, List.length_set]); omega) | simp) [g, iaV_u32, Hp.rdn]
      refine this _ ?_
      exact ((((Kp.refl h).push _).adv 1).put (by omega) _)
    by_cases a8 : a = 8#32
    · subst a8
      have := fun h' K => hq h' K
      simp [BS.rd, DkS.rd, wok, kat] at this
      simp (maxSteps := 1000000) (disch := first | assumption | ((try simp only [push_next, put_next, adv_next, List.length_cons, List.length_nil, List.length_map, List.length_set]); omega) | simp) [g, iaV_u32, Hp.rdn]
      refine this _ ?_
      exact ((((Kp.refl h).push _).adv 1).put (by omega) _)
    by_cases a12 : a = 12#32
    · subst a12
      have := fun h' K => hq h' K
      simp [BS.rd, DkS.rd, wok, kat] at this
      simp (maxSteps := 1000000) (disch := first | assumption | ((try simp only [push_next, put_next, adv_next, List.length_cons, List.length_nil, List.length_map, List.length_set]); omega) | simp) [g, iaV_u32, Hp.rdn]
      refine this _ ?_
      exact ((((Kp.refl h).push _).adv 1).put (by omega) _)
    have hbig := four c 4 (by omega) (fun m hm => by
      rcases (by omega : m = 0 ∨ m = 1 ∨ m = 2 ∨ m = 3) with rfl | rfl | rfl | rfl
      · exact a0
      · exact a4
      · exact a8
      · exact a12)
    have := fun h' K => hq h' K
    simp [BS.rd, DkS.rd, wok, kat, a0, a4, a8, a12] at this
    simp (maxSteps := 1000000) (disch := first | assumption | ((try simp only [push_next, put_next, adv_next, List.length_cons, List.length_nil, List.length_map, List.length_set]); omega) | simp) [g, c, hbig, Hp.rdn]
    refine this _ ?_
    exact ((((Kp.refl h).push _).adv 1).put (by omega) _)
  · have a0 : ¬ a = 0#32 := fun e => c (by rw [e]; rfl)
    have a4 : ¬ a = 4#32 := fun e => c (by rw [e]; rfl)
    have a8 : ¬ a = 8#32 := fun e => c (by rw [e]; rfl)
    have a12 : ¬ a = 12#32 := fun e => c (by rw [e]; rfl)
    have := fun h' K => hq h' K
    simp [BS.rd, DkS.rd, wok, kat, a0, a4, a8, a12] at this
    simp (maxSteps := 1000000) (disch := first | assumption | ((try simp only [push_next, put_next, adv_next, List.length_cons, List.length_nil, List.length_map, List.length_set]); omega) | simp) [g, c, Hp.rdn]
    refine this _ ?_
    exact ((((Kp.refl h).push _).adv 1).put (by omega) _)
end
end Go.Proofs.Ytppgoobhlcdbbaa.Cd

/- The document's bus: what the line's words tell. -/
set_option maxRecDepth 1000000
set_option maxHeartbeats 8000000
set_option linter.unusedSimpArgs false
set_option linter.unusedVariables false
namespace Go.Proofs.Ytppgoobhlcdbbaa.Cd
open Go Go.Dx
section
variable {h h' : Hp} {q : Value → Hp → Prop} {x : Nat} {fr fo nw fo' : List Nat} {X X' : BS} {now d t : Int} {a v : BitVec 32} {vL vi vo vu vi' vo' : Value}
theorem zstat {first : BitVec 32} {e : Env} {k : List Fr} {Q : Ex → Env → Hp → Prop} (A : RW h x fr fo X) (e0 : e 0 = ptr (x + 4) 0) (e12 : e 12 = u32 first)
    (hk : ∀ e' : Env, e' 0 = e 0 → e' 1 = e 1 → e' 2 = e 2 → e' 10 = .slice (some ⟨h.next, 0, none⟩) 3 3 → GR T Q k .n e' (h.push (.cells false [u32 first, u32 X.U.stat, u32 X.U.ctl]))) : G T Q c4_pianolaref15_Bus_Word k e h := by
  obtain ⟨vL, vi, vo, vu, S⟩ := A.bs
  have g := S.g
  have hl := A.lt
  have hni := A.ni
  have hno := A.no
  simp only [rcl, rrest] at g
  obtain ⟨ai, ci, hvi, hsi, hci, hbi⟩ := S.si
  obtain ⟨ao, co, hvo, hso, hco, hbo⟩ := S.so
  subst hvi
  subst hvo
  have hst : ubit (decide (0 < X.U.i.length)) 1#32 ||| ubit (decide ((16 : Int) ≤ (X.U.o.length : Int))) 2#32 ||| ubit X.U.lost 4#32 ||| ubit (decide (X.U.o = [])) 8#32 = X.U.stat := by
    unfold UaS.stat
    have e1 : decide ((16 : Int) ≤ (X.U.o.length : Int)) = decide ((X.U.o.length : Int) = 16) := by rw [decide_eq_decide]; omega
    rw [e1]
  simp (maxSteps := 1000000) (disch := first | assumption | ((try simp only [push_next, put_next, adv_next, List.length_cons, List.length_nil, List.length_map, List.length_set]); omega) | simp) [e0, e12, g]
  rw [GCI_of (fun q => zbit (q := q))]
  simp (maxSteps := 1000000) (disch := first | assumption | ((try simp only [push_next, put_next, adv_next, List.length_cons, List.length_nil, List.length_map, List.length_set]); omega) | simp) [e0, e12, g]
  rw [GCI_of (fun q => zbit (q := q))]
  simp (maxSteps := 1000000) (disch := first | assumption | ((try simp only [push_next, put_next, adv_next, List.length_cons, List.length_nil, List.length_map, List.length_set]); omega) | simp) [e0, e12, g]
  rw [GCI_of (fun q => zbit (q := q))]
  simp (maxSteps := 1000000) (disch := first | assumption | ((try simp only [push_next, put_next, adv_next, List.length_cons, List.length_nil, List.length_map, List.length_set]); omega) | simp) [e0, e12, g]
  rw [GCI_of (fun q => zbit (q := q))]
  simp (maxSteps := 1000000) (disch := first | assumption | ((try simp only [push_next, put_next, adv_next, List.length_cons, List.length_nil, List.length_map, List.length_set]); omega) | simp) [e0, e12, g]
  rw [hst]
  exact hk _ (by simp) (by simp) (by simp) (by simp)
theorem zword3 (A : RW h x fr fo X) (hq : ∀ h' fr', RW h' x fr' fo (X.rds 3 a) → Upd h h' (RL x fr fo) (RL x fr' fo) → q (.tuple #[u32 (X.rd 3 a now), .bool (wok 3 a)]) h') : WC T n_pianolaref15_Bus_Word [ptr (x + 4) 0, .int .i64 3, u32 a, .int .i64 now] h q := by
  obtain ⟨vL, vi, vo, vu, S⟩ := A.bs
  have g := S.g
  have hl := A.lt
  have hni := A.ni
  simp only [rcl, rrest] at g
  obtain ⟨ai, ci, hvi, hsi, hci, hbi⟩ := S.si
  subst hvi
  have K1 : Kp h (h.push (.cells false [])) := (Kp.refl h).push _
  rw [w_pianolaref15_Bus_Word]
  have main : ∀ (first : BitVec 32) (e : Env) (F : List Fr), F = [Fr.block 0, Fr.seq c12_pianolaref15_Bus_Word] → first = X.rd 3 0#32 now → e 0 = ptr (x + 4) 0 → e 1 = .int .i64 3 → e 2 = u32 a → e 12 = u32 first → G T (fin [.t 8, .t 9] (some []) h.next q) c4_pianolaref15_Bus_Word F e (h.push (.cells false [])) := fun first e F hF hf e0 e1 e2 e12 => by
    subst hF
    refine zstat (A.kp K1) e0 e12 fun e' f0 f1 f2 f10 => ?_
    rw [e0] at f0
    rw [e1] at f1
    rw [e2] at f2
    have A2 := (A.kp K1).kp ((Kp.refl (h.push (.cells false []))).push (.cells false [u32 first, u32 X.U.stat, u32 X.U.ctl]))
    have S2 := RS.kp (A.kp K1) (RS.kp A S K1) ((Kp.refl (h.push (.cells false []))).push (.cells false [u32 first, u32 X.U.stat, u32 X.U.ctl]))
    have hz : ((h.push (.cells false [])).push (.cells false [u32 first, u32 X.U.stat, u32 X.U.ctl])).get (h.push (.cells false [])).next = some (.cells false [u32 first, u32 X.U.stat, u32 X.U.ctl]) := get_push_self
    have n2 : ((h.push (.cells false [])).push (.cells false [u32 first, u32 X.U.stat, u32 X.U.ctl])).next = h.next + 2 := rfl
    have K2 : Kp h ((h.push (.cells false [])).push (.cells false [u32 first, u32 X.U.stat, u32 X.U.ctl])) := K1.push _
    generalize (h.push (.cells false [])).push (.cells false [u32 first, u32 X.U.stat, u32 X.U.ctl]) = h2 at *
    simp only [push_next] at f10 hz
    have g2 := S2.g
    simp only [rcl, rrest] at g2
    by_cases c : a % 4#32 = 0#32
    · by_cases a0 : a = 0#32
      · subst a0
        cases hI : X.U.i with
        | nil =>
          have ht : X.U.i.tail = X.U.i := by rw [hI]; rfl
          have := hq h2 fr (A2.cast (by simp only [BS.rds, UaS.rds, if_true, ht])) (K2.upd _)
          rw [← hf] at this
          simp (maxSteps := 1000000) (disch := first | assumption | ((try simp only [push_next, put_next, adv_next, List.length_cons, List.length_nil, List.length_map, List.length_set]); omega) | simp) [f0, f1, f2, f10, g2, hI, hz, iaV_u32]
          exact this
        | cons b I =>
          obtain ⟨a1, c1, p1, q1, s1⟩ := hsi.part (lo := 1) (hi := X.U.i.length) (l := some (.int .i64 1)) (u := none) (by rw [hI]; simp) (by omega) hci (.inr ⟨.i64, rfl⟩) (.inl ⟨rfl, rfl⟩)
          rw [hI] at p1 q1 s1
          have p1' : sliceV 1 (.slice ai (I.length + 1) ci) (some (.int .i64 1)) none none = some (.slice a1 I.length c1) := by simpa using p1
          have hI1 : ((b :: I).drop 1).take ((b :: I).length - 1) = I := by simp
          rw [hI1] at s1
          have K3 : Kp h2 (h2.push (.cells false [])) := (Kp.refl h2).push _
          have Oe : Own encB (h2.push (.cells false [])) (.slice (some ⟨h2.next, 0, none⟩) 0 0) [] [h2.next] := .emp get_push_self
          simp (maxSteps := 1000000) (disch := first | assumption | ((try simp only [push_next, put_next, adv_next, List.length_cons, List.length_nil, List.length_map, List.length_set]); omega) | simp) [f0, f1, f2, f10, g2, hI, hz, iaV_u32, p1']
          have hIl : I.length < 16 := by rw [hI] at hni; simp at hni; omega
          refine GV_app (E := encB) Oe (s1.kp (K2.trans K3)) rfl (by simp; omega) (by simp; omega) fun v3 h3 f3 O3 U3 => ?_
          have K4 : Kp h2 h3 := U3.kp' K3 (by simp)
          have F3 : ∀ b ∈ f3, h2.next ≤ b := fun b hb => by
            rcases U3.sub b hb with h5 | h5
            · simp at h5; omega
            · have := K3.le; omega
          rw [List.nil_append] at O3
          have A3 := A2.kp K4
          have S3 := RS.kp A2 S2 K4
          have g3 := S3.g
          have hz3 : h3.get (h.next + 1) = _ := (K4.get _ (lt_of_get hz)).trans hz
          have hl3 := A3.lt
          simp only [rcl, rrest] at g3
          have hone : one v3 = true := by obtain ⟨_, _, e5, _⟩ := O3.len; rw [e5]; rfl
          have hx4 : x + 4 ≠ h.next + 1 := by omega
          simp (maxSteps := 1000000) (disch := first | assumption | ((try simp only [push_next, put_next, adv_next, List.length_cons, List.length_nil, List.length_map, List.length_set]); omega) | simp) [f0, f1, f2, f10, g3, hone, hz3, iaV_u32]
          have A6 := A3.lists (nw := f3) (i' := I) (o' := X.U.o) S3 (Se.own O3 fun b hb => List.mem_append_right _ hb) (S3.so.keep (fun b hb => rfl) fun b hb => List.mem_append_left _ hb) (by omega) A.no (fun b hb => ⟨by have := F3 b hb; omega, O3.live b hb, fun hm => by have := F3 b hb; have := A.folt b hm; omega⟩) rfl
          simp only [rcl, rrest] at A6
          have := hq _ _ (A6.cast (by simp [BS.rds, UaS.rds, hI])) ⟨by have := K2.le; have := K4.le; simp; omega, fun b hb hn => by
            rw [get_put_ne (fun e => hn (by rw [e]; simp [RL])), K4.get b (Nat.lt_of_lt_of_le hb K2.le), K2.get b hb], fun b hb => by
            simp only [RL, List.mem_append] at hb ⊢
            rcases hb with hb | (hb | hb) | hb
            · exact .inl (.inl hb)
            · exact .inl (.inr (.inl hb))
            · exact .inr (Nat.le_trans K2.le (F3 b hb))
            · exact .inl (.inr (.inr hb))⟩
          rw [← hf] at this
          exact this
      by_cases a4 : a = 4#32
      · subst a4
        have := hq h2 fr (A2.cast (by simp [BS.rds, UaS.rds])) (K2.upd _)
        simp [BS.rd, UaS.rd, wok, uat] at this
        simp (maxSteps := 1000000) (disch := first | assumption | ((try simp only [push_next, put_next, adv_next, List.length_cons, List.length_nil, List.length_map, List.length_set]); omega) | simp) [f0, f1, f2, f10, hz, iaV_u32]
        exact this
      by_cases a8 : a = 8#32
      · subst a8
        have := hq h2 fr (A2.cast (by simp [BS.rds, UaS.rds])) (K2.upd _)
        simp [BS.rd, UaS.rd, wok, uat] at this
        simp (maxSteps := 1000000) (disch := first | assumption | ((try simp only [push_next, put_next, adv_next, List.length_cons, List.length_nil, List.length_map, List.length_set]); omega) | simp) [f0, f1, f2, f10, hz, iaV_u32]
        exact this
      have hbig := four c 3 (by omega) (fun m hm => by
        rcases (by omega : m = 0 ∨ m = 1 ∨ m = 2) with rfl | rfl | rfl
        · exact a0
        · exact a4
        · exact a8)
      have := hq h2 fr (A2.cast (by simp [BS.rds, UaS.rds, a0])) (K2.upd _)
      simp [BS.rd, UaS.rd, wok, uat, a0, a4, a8] at this
      simp (maxSteps := 1000000) (disch := first | assumption | ((try simp only [push_next, put_next, adv_next, List.length_cons, List.length_nil, List.length_map, List.length_set]); omega) | simp) [f0, f1, f2, f10, c, hbig]
      exact this
    · have a0 : ¬ a = 0#32 := fun e => c (by rw [e]; rfl)
      have a4 : ¬ a = 4#32 := fun e => c (by rw [e]; rfl)
      have a8 : ¬ a = 8#32 := fun e => c (by rw [e]; rfl)
      have := hq h2 fr (A2.cast (by simp [BS.rds, UaS.rds, a0])) (K2.upd _)
      simp [BS.rd, UaS.rd, wok, uat, a0, a4, a8] at this
      simp (maxSteps := 1000000) (disch := first | assumption | ((try simp only [push_next, put_next, adv_next, List.length_cons, List.length_nil, List.length_map, List.length_set]); omega) | simp) [f0, f1, f2, f10, c]
      exact this
  cases hI : X.U.i with
  | nil =>
    simp (maxSteps := 1000000) (disch := first | assumption | ((try simp only [push_next, put_next, adv_next, List.length_cons, List.length_nil, List.length_map, List.length_set]); omega) | simp) [g, hI, -g4_pianolaref15_Bus_Word]
    exact main 256#32 _ _ rfl (by simp [BS.rd, UaS.rd, hI]) (by simp) (by simp) (by simp) (by simp)
  | cons b I =>
    obtain ⟨A1, ro, C, hA, hg, hC⟩ := (show Sees encB h ai ([] ++ b :: I) by rw [hI] at hsi; exact hsi).cell (f := u8) (fun _ => rfl) rfl
    subst hA
    have hA1 := lt_of_get hg
    have hC0 : C[A1.off]? = some (u8 b) := by simpa using hC
    simp (maxSteps := 1000000) (disch := first | assumption | ((try simp only [push_next, put_next, adv_next, List.length_cons, List.length_nil, List.length_map, List.length_set]); omega) | simp) [g, hI, hg, hC0, -g4_pianolaref15_Bus_Word]
    exact main (b.setWidth 32) _ _ rfl (by simp [BS.rd, UaS.rd, hI]) (by simp) (by simp) (by simp) (by simp)
end
end Go.Proofs.Ytppgoobhlcdbbaa.Cd

/- The document's bus: moves and sectors. -/
set_option maxRecDepth 1000000
set_option maxHeartbeats 8000000
set_option linter.unusedSimpArgs false
set_option linter.unusedVariables false
namespace Go.Proofs.Ytppgoobhlcdbbaa.Cd
open Go Go.Dx
section
variable {h h' : Hp} {q : Value → Hp → Prop} {x : Nat} {fr fo nw fo' : List Nat} {X X' : BS} {now d t : Int} {a v : BitVec 32} {vL vi vo vu vi' vo' : Value}
theorem RW.mem {B' : By} {W' : List Bool} (A : RW h x fr fo X) (R : Ra h' x B' X.M W') (U : Upd h h' [x, x + 2] [x, x + 2]) : RW h' x fr fo { X with B := B', W := W' } ∧ Upd h h' (RL x fr fo) (RL x fr fo) := by
  have hl := A.lt
  obtain ⟨vL, vi, vo, vu, S⟩ := A.bs
  have k1 : ∀ b ∈ fr, h'.get b = h.get b := fun b hb => U.get b (A.fr b hb).2.1 (by have := (A.fr b hb).1; simp; omega)
  refine ⟨⟨⟨vL, vi, vo, vu, by rw [U.get _ (by omega) (by simp), S.g]; rfl, S.sL.keep k1 (fun b hb => hb), S.si.keep k1 (fun b hb => hb), S.so.keep k1 (fun b hb => hb), S.su.keep fun b hb => U.get b (A.folt b hb) (by have := A.fo b hb; simp; omega)⟩, R, by rw [U.get _ (by omega) (by simp), A.dk], A.el, fun b hb => ⟨(A.fr b hb).1, Nat.lt_of_lt_of_le (A.fr b hb).2.1 U.le, (A.fr b hb).2.2⟩, A.fo, A.wi, A.ni, A.no, A.nout⟩, U.wid fun b hb => ?_⟩
  simp at hb
  rcases hb with rfl | rfl <;> simp [RL]
theorem RW.img {E' : By} (A : RW h x fr fo X) (hE : E'.length = X.E.length) : RW (h.put (x + 5) (some (.cells false (E'.map u8)))) x fr fo { X with E := E' } ∧ Upd h (h.put (x + 5) (some (.cells false (E'.map u8)))) (RL x fr fo) (RL x fr fo) := by
  have hl := A.lt
  obtain ⟨vL, vi, vo, vu, S⟩ := A.bs
  have k1 : ∀ b ∈ fr, (h.put (x + 5) (some (.cells false (E'.map u8)))).get b = h.get b := fun b hb => get_put_ne (by have := (A.fr b hb).1; omega)
  have hr : rcl x { X with E := E' } vL vi vo vu = rcl x X vL vi vo vu := by simp only [rcl, rrest, hE]
  exact ⟨⟨⟨vL, vi, vo, vu, by rw [get_put_ne (by omega), S.g, hr], S.sL.keep k1 (fun b hb => hb), S.si.keep k1 (fun b hb => hb), S.so.keep k1 (fun b hb => hb), S.su.keep fun b hb => get_put_ne (by have := A.fo b hb; omega)⟩, A.ra.keep fun b h1 h2 => get_put_ne (by omega), get_put_self (by omega), by rw [hE]; exact A.el, fun b hb => ⟨(A.fr b hb).1, by simpa using (A.fr b hb).2.1, (A.fr b hb).2.2⟩, A.fo, A.wi, A.ni, A.no, A.nout⟩, ⟨by simp, fun b hb hn => get_put_ne fun e => hn (by rw [e]; simp [RL]), fun b hb => .inl hb⟩⟩
theorem zmove (A : RW h x fr fo X) (hq : ∀ h', RW h' x fr fo { X with D := X.D.fire X.B, B := X.D.mem X.B, W := X.D.wrt X.B X.M X.W } → Upd h h' (RL x fr fo) (RL x fr fo) → q (.tuple #[]) h') : WC T n_pianolaref15_Bus_move [ptr (x + 4) 0] h q := by
  obtain ⟨vL, vi, vo, vu, S⟩ := A.bs
  have g := S.g
  have hl := A.lt
  have hc := X.D.c.isLt
  simp only [rcl, rrest] at g
  have hA := A.put S (n := X.S.n) (T1 := X.T1) (T2 := X.T2) (lost := X.U.lost) (ctl := X.U.ctl) (r := X.r) (m := X.m) (D := { X.D with s := (X.D.s &&& 4294967294#32) ||| 2#32 }) (K := X.K) rfl
  have hB := A.put S (n := X.S.n) (T1 := X.T1) (T2 := X.T2) (lost := X.U.lost) (ctl := X.U.ctl) (r := X.r) (m := X.m) (D := { X.D with s := ((X.D.s &&& 4294967294#32) ||| 2#32) ||| 4#32 }) (K := X.K) rfl
  simp only [rcl, rrest] at hA hB
  obtain ⟨A1, S1, U1⟩ := hA
  obtain ⟨B1, _, V1⟩ := hB
  have hz := fun a q => zin (q := q) (a := a) (n := (X.D.c.toNat : Int)) A1.ra (by omega)
  rw [w_pianolaref15_Bus_move]
  have bad : X.D.ok X.B = false → q (.tuple #[]) _ := fun ho => hq _ (B1.cast (by simp [DmS.fire, DmS.mem, DmS.wrt, ho])) V1
  by_cases c1 : 4096#32 < X.D.c
  · have hcn : ¬ X.D.c.toNat ≤ 4096 := by
      have := BitVec.lt_def.1 c1
      simp at this
      omega
    simp (maxSteps := 1000000) (disch := first | assumption | ((try simp only [push_next, put_next, adv_next, List.length_cons, List.length_nil, List.length_map, List.length_set]); omega) | simp) [g, c1]
    exact bad (by simp [DmS.ok, hcn])
  · have c2 : X.D.c.toNat ≤ 4096 := by
      rw [BitVec.lt_def] at c1
      simp at c1
      omega
    cases hf : thB X.B X.D.f X.D.c.toNat with
    | false =>
      have hz1 := hz X.D.f
      rw [hf] at hz1
      simp (maxSteps := 1000000) (disch := first | assumption | ((try simp only [push_next, put_next, adv_next, List.length_cons, List.length_nil, List.length_map, List.length_set]); omega) | simp) [g, c1, GC_of hz1, GCI_of hz1]
      exact bad (by simp [DmS.ok, hf])
    | true =>
      have hz1 := hz X.D.f
      rw [hf] at hz1
      cases ht : thB X.B X.D.t X.D.c.toNat with
      | false =>
        have hz2 := hz X.D.t
        rw [ht] at hz2
        simp (maxSteps := 1000000) (disch := first | assumption | ((try simp only [push_next, put_next, adv_next, List.length_cons, List.length_nil, List.length_map, List.length_set]); omega) | simp) [g, c1, GC_of hz1, GCI_of hz1, GC_of hz2, GCI_of hz2]
        exact bad (by simp [DmS.ok, ht])
      | true =>
        have hz2 := hz X.D.t
        rw [ht] at hz2
        have ho : X.D.ok X.B = true := by simp [DmS.ok, c2, hf, ht]
        simp (maxSteps := 1000000) (disch := first | assumption | ((try simp only [push_next, put_next, adv_next, List.length_cons, List.length_nil, List.length_map, List.length_set]); omega) | simp) [g, c1, GC_of hz1, GCI_of hz1, GC_of hz2, GCI_of hz2]
        refine zbytes A1.ra (by omega) (fun hb => by rw [hf] at hb; cases hb) fun m hm hle hb a' c' h2 S2 K2 => ?_
        have hm' : m = X.D.c.toNat := by omega
        subst hm'
        have hle : X.D.f.toNat + X.D.c.toNat ≤ X.B.length := hle
        have S2 : Sees encB h2 a' ((X.B.drop X.D.f.toNat).take X.D.c.toNat) := S2
        have A2 := A1.kp K2
        have S2' := RS.kp A1 S1 K2
        have g2 := S2'.g
        simp only [rcl, rrest] at g2
        have hL : ((X.B.drop X.D.f.toNat).take X.D.c.toNat).length = X.D.c.toNat := by simp; omega
        simp (maxSteps := 1000000) (disch := first | assumption | ((try simp only [push_next, put_next, adv_next, List.length_cons, List.length_nil, List.length_map, List.length_set]); omega) | simp) [g2]
        have hp := zput (a := X.D.t) (c := c') (q := fun v h' => v = .bool true ∧ Ra h' x (X.D.mem X.B) X.M (X.D.wrt X.B X.M X.W) ∧ Upd h2 h' [x, x + 2] [x, x + 2]) A2.ra S2 (by omega) (fun hb => by rw [hL, ht] at hb; cases hb) fun _ h3 R3 U3 => ⟨rfl, by rw [hL] at R3; simpa [DmS.mem, DmS.wrt, ho] using R3, U3⟩
        rw [hL] at hp
        refine GC_intro hp fun v h3 ⟨hv, R3, U3⟩ => ?_
        subst hv
        obtain ⟨A3, U3'⟩ := A2.mem R3 U3
        simp (maxSteps := 1000000) (disch := first | assumption | ((try simp only [push_next, put_next, adv_next, List.length_cons, List.length_nil, List.length_map, List.length_set]); omega) | simp)
        exact hq _ (A3.cast (by simp [DmS.fire, ho])) (U1.trans (.kp1 K2 U3'))
theorem zsector (A : RW h x fr fo X) (hq : ∀ h', RW h' x fr fo { X with K := X.K.fire X.E X.B, B := X.K.mem X.E X.B, W := X.K.wrt X.E X.B X.M X.W, E := X.K.img X.E X.B } → Upd h h' (RL x fr fo) (RL x fr fo) → q (.tuple #[]) h') : WC T n_pianolaref15_Bus_sector [ptr (x + 4) 0] h q := by
  obtain ⟨vL, vi, vo, vu, S⟩ := A.bs
  have g := S.g
  have hl := A.lt
  have he := X.K.e.isLt
  have hel := A.el
  simp only [rcl, rrest] at g
  have hA := A.put S (n := X.S.n) (T1 := X.T1) (T2 := X.T2) (lost := X.U.lost) (ctl := X.U.ctl) (r := X.r) (m := X.m) (D := X.D) (K := { X.K with s := (X.K.s &&& 4294967294#32) ||| 2#32 }) rfl
  have hB := A.put S (n := X.S.n) (T1 := X.T1) (T2 := X.T2) (lost := X.U.lost) (ctl := X.U.ctl) (r := X.r) (m := X.m) (D := X.D) (K := { X.K with s := ((X.K.s &&& 4294967294#32) ||| 2#32) ||| 4#32 }) rfl
  simp only [rcl, rrest] at hA hB
  obtain ⟨A1, S1, U1⟩ := hA
  obtain ⟨B1, _, V1⟩ := hB
  have hz := fun a q => zin (q := q) (a := a) (n := 64) A1.ra (by omega)
  rw [w_pianolaref15_Bus_sector]
  have bad : X.K.ok X.E X.B = false → q (.tuple #[]) _ := fun ho => hq _ (B1.cast (by simp [DkS.fire, DkS.mem, DkS.wrt, DkS.img, ho])) V1
  have hq' : IntKind.i64.wrap ((X.E.length : Int).tdiv 64) = (X.E.length : Int) / 64 := by
    rw [Int.tdiv_eq_ediv_of_nonneg (by omega)]
    exact wrap_i64 (by omega) (by omega)
  have hin : (BitVec.ofInt 32 ((X.E.length : Int) / 64)).toNat = X.E.length / 64 := by
    rw [BitVec.toNat_ofInt]
    omega
  by_cases c1 : X.K.e.toNat < X.E.length / 64
  · have c1' : ¬ BitVec.ofInt 32 ((X.E.length : Int) / 64) ≤ X.K.e := by
      rw [BitVec.le_def, hin]
      omega
    have hz1 := hz X.K.a
    have e64 : IntKind.i64.wrap ((X.K.e.toNat : Int) * 64) = (X.K.e.toNat : Int) * 64 := wrap_i64 (by omega) (by omega)
    by_cases d1 : X.K.c = 1#32
    · cases ht : thB X.B X.K.a 64 with
      | false =>
        rw [ht] at hz1
        simp (maxSteps := 1000000) (disch := first | assumption | ((try simp only [push_next, put_next, adv_next, List.length_cons, List.length_nil, List.length_map, List.length_set]); omega) | simp) [g, hq', c1', eq_true d1, GC_of hz1, GCI_of hz1]
        exact bad (by simp [DkS.ok, ht])
      | true =>
        rw [ht] at hz1
        have ho : X.K.ok X.E X.B = true := by simp [DkS.ok, c1, d1, ht]
        obtain ⟨a', c', p1, p2, s1⟩ := (sees_b A1.dk).part (c := X.E.length) (lo := 64 * X.K.e.toNat) (hi := 64 * X.K.e.toNat + 64) (l := some (.int .i64 ((X.K.e.toNat : Int) * 64))) (u := some (.int .i64 ((X.K.e.toNat : Int) * 64 + 64))) (by omega) (show 64 * X.K.e.toNat + 64 ≤ X.E.length by omega) (Nat.le_refl _) (.inr ⟨.i64, by congr 2; omega⟩) (.inr ⟨.i64, by congr 2; omega⟩)
        rw [show 64 * X.K.e.toNat + 64 - 64 * X.K.e.toNat = 64 by omega] at p1 p2 s1
        have p1' : sliceV 1 (.slice (some ⟨x + 5, 0, none⟩) X.E.length X.E.length) (some (.int .i64 ((X.K.e.toNat : Int) * 64))) (some (.int .i64 ((X.K.e.toNat : Int) * 64 + 64))) none = some (.slice a' 64 c') := p1
        have hL : ((X.E.drop (64 * X.K.e.toNat)).take 64).length = 64 := by simp; omega
        have s1' : Sees encB _ a' ((X.E.drop (64 * X.K.e.toNat)).take 64) := s1
        simp (maxSteps := 1000000) (disch := first | assumption | ((try simp only [push_next, put_next, adv_next, List.length_cons, List.length_nil, List.length_map, List.length_set]); omega) | simp) [g, hq', c1', eq_true d1, GC_of hz1, GCI_of hz1, p1']
        have hp := zput (a := X.K.a) (c := c') (q := fun v h' => v = .bool true ∧ Ra h' x (X.K.mem X.E X.B) X.M (X.K.wrt X.E X.B X.M X.W) ∧ Upd _ h' [x, x + 2] [x, x + 2]) A1.ra s1' (by omega) (fun hb => by rw [hL] at hb; have hb' : thB X.B X.K.a 64 = false := hb; rw [ht] at hb'; cases hb') fun _ h3 R3 U3 => ⟨rfl, by rw [hL] at R3; simpa [DkS.mem, DkS.wrt, ho, d1] using R3, U3⟩
        rw [hL] at hp
        refine GC_intro hp fun v h3 ⟨hv, R3, U3⟩ => ?_
        subst hv
        obtain ⟨A3, U3'⟩ := A1.mem R3 U3
        simp (maxSteps := 1000000) (disch := first | assumption | ((try simp only [push_next, put_next, adv_next, List.length_cons, List.length_nil, List.length_map, List.length_set]); omega) | simp)
        exact hq _ (A3.cast (by simp [DkS.fire, DkS.img, ho, d1])) (U1.trans U3')
    · by_cases d2 : X.K.c = 2#32
      · cases ht : thB X.B X.K.a 64 with
        | false =>
          rw [ht] at hz1
          simp (maxSteps := 1000000) (disch := first | assumption | ((try simp only [push_next, put_next, adv_next, List.length_cons, List.length_nil, List.length_map, List.length_set]); omega) | simp) [g, hq', c1', d1, eq_true d2, GC_of hz1, GCI_of hz1]
          exact bad (by simp [DkS.ok, ht])
        | true =>
          rw [ht] at hz1
          have ho : X.K.ok X.E X.B = true := by simp [DkS.ok, c1, d2, ht]
          simp (maxSteps := 1000000) (disch := first | assumption | ((try simp only [push_next, put_next, adv_next, List.length_cons, List.length_nil, List.length_map, List.length_set]); omega) | simp) [g, hq', c1', d1, eq_true d2, GC_of hz1, GCI_of hz1]
          refine zbytes A1.ra (by omega) (fun hb => by have hb' : thB X.B X.K.a 64 = false := hb; rw [ht] at hb'; cases hb') fun m hm hle hb a' c' h2 S2 K2 => ?_
          have hm' : m = 64 := by omega
          subst hm'
          have hle : X.K.a.toNat + 64 ≤ X.B.length := hle
          have S2 : Sees encB h2 a' ((X.B.drop X.K.a.toNat).take 64) := S2
          have A2 := A1.kp K2
          have S2' := RS.kp A1 S1 K2
          have g2 := S2'.g
          have hdk : h2.get (x + 5) = some (.cells false (X.E.map u8)) := A2.dk
          simp only [rcl, rrest] at g2
          have hL : ((X.B.drop X.K.a.toNat).take 64).length = 64 := by simp; omega
          have sl := sliceV_lo' (sz := 1) (b := x + 5) (o := 0) (n := X.E.length) (k := .i64) (lo := (X.K.e.toNat : Int) * 64) (by omega) (by omega)
          have e1 : ((X.K.e.toNat : Int) * 64).toNat = 64 * X.K.e.toNat := by omega
          rw [e1, if_neg (by omega)] at sl
          simp only [Nat.zero_add, Nat.mul_one] at sl
          have hcp : ∃ r, copyV h2 1 (.slice (some ⟨x + 5, 64 * X.K.e.toNat, none⟩) (X.E.length - 64 * X.K.e.toNat) (X.E.length - 64 * X.K.e.toNat)) (.slice a' 64 c') = some (r, h2.put (x + 5) (some (.cells false ((ovB X.E (64 * X.K.e.toNat) ((X.B.drop X.K.a.toNat).take 64)).map u8)))) := by
            have := cpy_at (o := 64 * X.K.e.toNat) (n := 64) (c := X.E.length - 64 * X.K.e.toNat) (c' := c') hdk S2 (by omega) hL
            refine ⟨.int .i64 64, ?_⟩
            rw [← show (Value.int .i64 ((64 : Nat) : Int)) = .int .i64 64 from rfl, ← this]
            unfold copyV
            simp only [lenV, show min 64 (X.E.length - 64 * X.K.e.toNat) = 64 by omega, Nat.min_self]
          obtain ⟨r, hcp⟩ := hcp
          simp (maxSteps := 1000000) (disch := first | assumption | ((try simp only [push_next, put_next, adv_next, List.length_cons, List.length_nil, List.length_map, List.length_set]); omega) | simp) [g2, sl, hcp]
          obtain ⟨A3, U3⟩ := A2.img (E' := ovB X.E (64 * X.K.e.toNat) ((X.B.drop X.K.a.toNat).take 64)) (ovB_length (by omega))
          exact hq _ (A3.cast (by simp [DkS.fire, DkS.mem, DkS.wrt, DkS.img, ho, d2])) (U1.trans (.kp1 K2 U3))
      · simp (maxSteps := 1000000) (disch := first | assumption | ((try simp only [push_next, put_next, adv_next, List.length_cons, List.length_nil, List.length_map, List.length_set]); omega) | simp) [g, hq', c1', d1, d2]
        exact bad (by simp [DkS.ok, d1, d2])
  · have c1' : BitVec.ofInt 32 ((X.E.length : Int) / 64) ≤ X.K.e := by
      rw [BitVec.le_def, hin]
      omega
    simp (maxSteps := 1000000) (disch := first | assumption | ((try simp only [push_next, put_next, adv_next, List.length_cons, List.length_nil, List.length_map, List.length_set]); omega) | simp) [g, hq', c1']
    exact bad (by simp [DkS.ok, c1])
end
end Go.Proofs.Ytppgoobhlcdbbaa.Cd

/- The document's bus: what is due. -/
set_option maxRecDepth 1000000
set_option maxHeartbeats 8000000
set_option linter.unusedSimpArgs false
set_option linter.unusedVariables false
namespace Go.Proofs.Ytppgoobhlcdbbaa.Cd
open Go Go.Dx
section
variable {h h' : Hp} {q : Value → Hp → Prop} {x : Nat} {fr fo nw fo' : List Nat} {X X' : BS} {now d t : Int} {a v : BitVec 32} {vL vi vo vu vi' vo' vu' : Value}
theorem RW.outp {out' : By} {C : List Value} (A : RW h x fr fo X) (S : RS h x fr fo X vL vi vo vu) (O : Own encB h' vu' out' fo') (U : Upd h h' fo fo') (ho : out'.length ≤ 65536) (hC : C = rcl x { X with U := { X.U with out := out' } } vL vi vo vu') :
    RW (h'.put (x + 4) (some (.cells false C))) x fr fo' { X with U := { X.U with out := out' } } ∧ RS (h'.put (x + 4) (some (.cells false C))) x fr fo' { X with U := { X.U with out := out' } } vL vi vo vu' ∧ Upd h (h'.put (x + 4) (some (.cells false C))) (RL x fr fo) (RL x fr fo') := by
  subst hC
  have hl := A.lt
  have hle := U.le
  have sub : ∀ b ∈ fo', x + 5 < b ∧ b ∉ fr := fun b hb => by
    rcases U.sub b hb with h5 | h5
    · exact ⟨A.fo b h5, fun hm => (A.fr b hm).2.2 h5⟩
    · exact ⟨by omega, fun hm => by have := (A.fr b hm).2.1; omega⟩
  have kk : ∀ b, b < h.next → b ∉ fo → b ≠ x + 4 → (h'.put (x + 4) (some (.cells false (rcl x { X with U := { X.U with out := out' } } vL vi vo vu')))).get b = h.get b := fun b h1 h2 h3 => by rw [get_put_ne h3, U.get b h1 h2]
  have k1 : ∀ b ∈ fr, (h'.put (x + 4) (some (.cells false (rcl x { X with U := { X.U with out := out' } } vL vi vo vu')))).get b = h.get b := fun b hb => kk b (A.fr b hb).2.1 (A.fr b hb).2.2 (by have := (A.fr b hb).1; omega)
  have nfo : ∀ b, b ≤ x + 5 → b ∉ fo := fun b hb hm => by have := A.fo b hm; omega
  have S' : RS (h'.put (x + 4) (some (.cells false (rcl x { X with U := { X.U with out := out' } } vL vi vo vu')))) x fr fo' { X with U := { X.U with out := out' } } vL vi vo vu' :=
    ⟨get_put_self (by omega), S.sL.keep k1 (fun b hb => hb), S.si.keep k1 (fun b hb => hb), S.so.keep k1 (fun b hb => hb), O.keep fun b hb => get_put_ne (by have := (sub b hb).1; omega)⟩
  refine ⟨⟨⟨vL, vi, vo, vu', S'⟩, A.ra.keep fun b h1 h2 => kk b (by omega) (nfo b (by omega)) (by omega), by rw [kk _ (by omega) (nfo _ (by omega)) (by omega), A.dk], A.el, fun b hb => ⟨(A.fr b hb).1, by have := (A.fr b hb).2.1; simp; omega, fun hm => (sub b hm).2 hb⟩, fun b hb => (sub b hb).1, A.wi, A.ni, A.no, ho⟩, S', ⟨by simpa using hle, fun b hb hn => kk b hb (fun hm => hn (by simp [RL, hm])) fun e => hn (by rw [e]; simp [RL]), fun b hb => ?_⟩⟩
  simp only [RL, List.mem_append] at hb ⊢
  rcases hb with hb | hb | hb
  · exact .inl (.inl hb)
  · exact .inl (.inr (.inl hb))
  · rcases U.sub b hb with h5 | h5
    · exact .inl (.inr (.inr h5))
    · exact .inr h5
theorem zfire1 {e : Ev} (A : RW h x fr fo X) (hd : e.dev = 1) (hn : 0 ≤ e.at' ∧ e.at' ≤ 2 ^ 60) (hq : ∀ h' fr', RW h' x fr' fo (X.fire 1 e.at') → Upd h h' (RL x fr fo) (RL x fr' fo) → q (.tuple #[]) h') : WC T n_pianolaref15_Bus_B1 [ptr (x + 4) 0, .agg #[.int .i64 e.at', .int .i64 e.dev, .int .i64 e.seq]] h q := by
  rw [hd, w_pianolaref15_Bus_B1]
  simp (maxSteps := 1000000) (disch := first | assumption | ((try simp only [push_next, put_next, adv_next, List.length_cons, List.length_nil, List.length_map, List.length_set]); omega) | simp) [-g11_pianolaref15_Bus_B1]
  have K1 : Kp h (h.push (.cells false [.int .i64 e.at', .int .i64 1, .int .i64 e.seq])) := (Kp.refl h).push _
  have hz : (h.push (.cells false [.int .i64 e.at', .int .i64 1, .int .i64 e.seq])).get h.next = some (.cells false [.int .i64 e.at', .int .i64 1, .int .i64 e.seq]) := get_push_self
  have A0 := A.kp K1
  have hln := A.lt
  have hq0 : ∀ h' fr', RW h' x fr' fo (X.fire 1 e.at') → Upd (h.push (.cells false [.int .i64 e.at', .int .i64 1, .int .i64 e.seq])) h' (RL x fr fo) (RL x fr' fo) → q (.tuple #[]) h' := fun h1 f1 k1 k2 => hq h1 f1 k1 (.kp1 K1 k2)
  generalize h.push (.cells false [.int .i64 e.at', .int .i64 1, .int .i64 e.seq]) = h0 at *
  obtain ⟨vL, vi, vo, vu, S⟩ := A0.bs
  have g := S.g
  have hl := A0.lt
  simp only [rcl, rrest] at g
  obtain ⟨p1, p2⟩ := tper_pos X.T1.p
  have hw : IntKind.i64.wrap (e.at' + (if (X.T1.p.toNat : Int) < 1 then 1 else (X.T1.p.toNat : Int))) = e.at' + tper X.T1.p := by rw [max_per]; exact wrap_i64 (by omega) (by omega)
  have hxn : x + 4 ≠ h.next := by omega
  have hnl := lt_of_get hz
  by_cases c2 : X.T1.c &&& 2#32 = 0#32
  · have hA := A0.put S (n := X.S.n) (T1 := { X.T1 with c := X.T1.c &&& ~~~1#32, s := 1#32 }) (T2 := X.T2) (lost := X.U.lost) (ctl := X.U.ctl) (r := X.r) (m := X.m) (D := X.D) (K := X.K) rfl
    simp only [rcl, rrest] at hA
    obtain ⟨A1, S1, U1⟩ := hA
    simp (maxSteps := 1000000) (disch := first | assumption | ((try simp only [push_next, put_next, adv_next, List.length_cons, List.length_nil, List.length_map, List.length_set]); omega) | simp) [g, hz, c2]
    exact hq0 _ _ (A1.cast (by simp [BS.fire, TmS.fire, TmS.firew, c2])) U1
  · have hA := A0.put S (n := X.S.n) (T1 := { X.T1 with s := 1#32 }) (T2 := X.T2) (lost := X.U.lost) (ctl := X.U.ctl) (r := X.r) (m := X.m) (D := X.D) (K := X.K) rfl
    simp only [rcl, rrest] at hA
    obtain ⟨A1, S1, U1⟩ := hA
    simp (maxSteps := 1000000) (disch := first | assumption | ((try simp only [push_next, put_next, adv_next, List.length_cons, List.length_nil, List.length_map, List.length_set]); omega) | simp) [g, hz, c2, hw]
    refine A1.arm fun h2 nw A2 U2 => ?_
    simp (maxSteps := 1000000) (disch := first | assumption | ((try simp only [push_next, put_next, adv_next, List.length_cons, List.length_nil, List.length_map, List.length_set]); omega) | simp)
    exact hq0 h2 _ (A2.cast (by simp [BS.fire, TmS.fire, TmS.firew, c2])) (U1.trans U2)
theorem zfire2 {e : Ev} (A : RW h x fr fo X) (hd : e.dev = 2) (hn : 0 ≤ e.at' ∧ e.at' ≤ 2 ^ 60) (hq : ∀ h' fr', RW h' x fr' fo (X.fire 2 e.at') → Upd h h' (RL x fr fo) (RL x fr' fo) → q (.tuple #[]) h') : WC T n_pianolaref15_Bus_B1 [ptr (x + 4) 0, .agg #[.int .i64 e.at', .int .i64 e.dev, .int .i64 e.seq]] h q := by
  rw [hd, w_pianolaref15_Bus_B1]
  simp (maxSteps := 1000000) (disch := first | assumption | ((try simp only [push_next, put_next, adv_next, List.length_cons, List.length_nil, List.length_map, List.length_set]); omega) | simp) [-g11_pianolaref15_Bus_B1]
  have K1 : Kp h (h.push (.cells false [.int .i64 e.at', .int .i64 2, .int .i64 e.seq])) := (Kp.refl h).push _
  have hz : (h.push (.cells false [.int .i64 e.at', .int .i64 2, .int .i64 e.seq])).get h.next = some (.cells false [.int .i64 e.at', .int .i64 2, .int .i64 e.seq]) := get_push_self
  have A0 := A.kp K1
  have hln := A.lt
  have hq0 : ∀ h' fr', RW h' x fr' fo (X.fire 2 e.at') → Upd (h.push (.cells false [.int .i64 e.at', .int .i64 2, .int .i64 e.seq])) h' (RL x fr fo) (RL x fr' fo) → q (.tuple #[]) h' := fun h1 f1 k1 k2 => hq h1 f1 k1 (.kp1 K1 k2)
  generalize h.push (.cells false [.int .i64 e.at', .int .i64 2, .int .i64 e.seq]) = h0 at *
  obtain ⟨vL, vi, vo, vu, S⟩ := A0.bs
  have g := S.g
  have hl := A0.lt
  simp only [rcl, rrest] at g
  obtain ⟨p1, p2⟩ := tper_pos X.T2.p
  have hw : IntKind.i64.wrap (e.at' + (if (X.T2.p.toNat : Int) < 1 then 1 else (X.T2.p.toNat : Int))) = e.at' + tper X.T2.p := by rw [max_per]; exact wrap_i64 (by omega) (by omega)
  have hxn : x + 4 ≠ h.next := by omega
  have hnl := lt_of_get hz
  by_cases c2 : X.T2.c &&& 2#32 = 0#32
  · have hA := A0.put S (n := X.S.n) (T1 := X.T1) (T2 := { X.T2 with c := X.T2.c &&& ~~~1#32, s := 1#32 }) (lost := X.U.lost) (ctl := X.U.ctl) (r := X.r) (m := X.m) (D := X.D) (K := X.K) rfl
    simp only [rcl, rrest] at hA
    obtain ⟨A1, S1, U1⟩ := hA
    simp (maxSteps := 1000000) (disch := first | assumption | ((try simp only [push_next, put_next, adv_next, List.length_cons, List.length_nil, List.length_map, List.length_set]); omega) | simp) [g, hz, c2]
    exact hq0 _ _ (A1.cast (by simp [BS.fire, TmS.fire, TmS.firew, c2])) U1
  · have hA := A0.put S (n := X.S.n) (T1 := X.T1) (T2 := { X.T2 with s := 1#32 }) (lost := X.U.lost) (ctl := X.U.ctl) (r := X.r) (m := X.m) (D := X.D) (K := X.K) rfl
    simp only [rcl, rrest] at hA
    obtain ⟨A1, S1, U1⟩ := hA
    simp (maxSteps := 1000000) (disch := first | assumption | ((try simp only [push_next, put_next, adv_next, List.length_cons, List.length_nil, List.length_map, List.length_set]); omega) | simp) [g, hz, c2, hw]
    refine A1.arm fun h2 nw A2 U2 => ?_
    simp (maxSteps := 1000000) (disch := first | assumption | ((try simp only [push_next, put_next, adv_next, List.length_cons, List.length_nil, List.length_map, List.length_set]); omega) | simp)
    exact hq0 h2 _ (A2.cast (by simp [BS.fire, TmS.fire, TmS.firew, c2])) (U1.trans U2)
theorem zb1 {e : Ev} (A : RW h x fr fo X) (hn : 0 ≤ e.at' ∧ e.at' ≤ 2 ^ 60) (h3 : e.dev ≠ 3) (hq : ∀ h' fr', RW h' x fr' fo (X.fire e.dev e.at') → Upd h h' (RL x fr fo) (RL x fr' fo) → q (.tuple #[]) h') : WC T n_pianolaref15_Bus_B1 [ptr (x + 4) 0, .agg #[.int .i64 e.at', .int .i64 e.dev, .int .i64 e.seq]] h q := by
  by_cases d1 : e.dev = 1
  · exact zfire1 A d1 hn fun h' fr' k1 k2 => hq h' fr' (by rw [d1]; exact k1) k2
  by_cases d2 : e.dev = 2
  · exact zfire2 A d2 hn fun h' fr' k1 k2 => hq h' fr' (by rw [d2]; exact k1) k2
  rw [w_pianolaref15_Bus_B1]
  simp (maxSteps := 1000000) (disch := first | assumption | ((try simp only [push_next, put_next, adv_next, List.length_cons, List.length_nil, List.length_map, List.length_set]); omega) | simp) [-g11_pianolaref15_Bus_B1]
  have K1 : Kp h (h.push (.cells false [.int .i64 e.at', .int .i64 e.dev, .int .i64 e.seq])) := (Kp.refl h).push _
  have hz : (h.push (.cells false [.int .i64 e.at', .int .i64 e.dev, .int .i64 e.seq])).get h.next = some (.cells false [.int .i64 e.at', .int .i64 e.dev, .int .i64 e.seq]) := get_push_self
  have A0 := A.kp K1
  have hq0 : ∀ h' fr', RW h' x fr' fo (X.fire e.dev e.at') → Upd (h.push (.cells false [.int .i64 e.at', .int .i64 e.dev, .int .i64 e.seq])) h' (RL x fr fo) (RL x fr' fo) → q (.tuple #[]) h' := fun h1 f1 k1 k2 => hq h1 f1 k1 (.kp1 K1 k2)
  generalize h.push (.cells false [.int .i64 e.at', .int .i64 e.dev, .int .i64 e.seq]) = h0 at *
  by_cases d4 : e.dev = 4
  · rw [d4] at hq0
    simp (maxSteps := 1000000) (disch := first | assumption | ((try simp only [push_next, put_next, adv_next, List.length_cons, List.length_nil, List.length_map, List.length_set]); omega) | simp) [hz, d4]
    refine zmove A0 fun h1 A1 U1 => ?_
    simp (maxSteps := 1000000) (disch := first | assumption | ((try simp only [push_next, put_next, adv_next, List.length_cons, List.length_nil, List.length_map, List.length_set]); omega) | simp)
    exact hq0 h1 _ (A1.cast (by simp [BS.fire])) U1
  by_cases d5 : e.dev = 5
  · rw [d5] at hq0
    simp (maxSteps := 1000000) (disch := first | assumption | ((try simp only [push_next, put_next, adv_next, List.length_cons, List.length_nil, List.length_map, List.length_set]); omega) | simp) [hz, d5]
    refine zsector A0 fun h1 A1 U1 => ?_
    simp (maxSteps := 1000000) (disch := first | assumption | ((try simp only [push_next, put_next, adv_next, List.length_cons, List.length_nil, List.length_map, List.length_set]); omega) | simp)
    exact hq0 h1 _ (A1.cast (by simp [BS.fire])) U1
  simp (maxSteps := 1000000) (disch := first | assumption | ((try simp only [push_next, put_next, adv_next, List.length_cons, List.length_nil, List.length_map, List.length_set]); omega) | simp) [hz, d1, d2, h3, d4, d5]
  exact hq0 _ _ (A0.cast (by simp [BS.fire, d1, d2, h3, d4, d5])) .refl
end
end Go.Proofs.Ytppgoobhlcdbbaa.Cd

/- The document's bus: the line sends; it is made. -/
set_option maxRecDepth 1000000
set_option maxHeartbeats 8000000
set_option linter.unusedSimpArgs false
set_option linter.unusedVariables false
namespace Go.Proofs.Ytppgoobhlcdbbaa.Cd
open Go Go.Dx
section
variable {h h' : Hp} {q : Value → Hp → Prop} {x : Nat} {fr fo nw fo' : List Nat} {X X' : BS} {now d t : Int} {a v : BitVec 32} {vL vi vo vu vi' vo' vu' : Value}
theorem zfire3 {e : Ev} (A : RW h x fr fo X) (hd : e.dev = 3) (hn : 0 ≤ e.at' ∧ e.at' ≤ 2 ^ 60) (hq : ∀ h' fr' fo', RW h' x fr' fo' (X.fire 3 e.at') → Upd h h' (RL x fr fo) (RL x fr' fo') → q (.tuple #[]) h') : WC T n_pianolaref15_Bus_B1 [ptr (x + 4) 0, .agg #[.int .i64 e.at', .int .i64 e.dev, .int .i64 e.seq]] h q := by
  rw [hd, w_pianolaref15_Bus_B1]
  simp (maxSteps := 1000000) (disch := first | assumption | ((try simp only [push_next, put_next, adv_next, List.length_cons, List.length_nil, List.length_map, List.length_set]); omega) | simp) [-g11_pianolaref15_Bus_B1]
  have K1 : Kp h (h.push (.cells false [.int .i64 e.at', .int .i64 3, .int .i64 e.seq])) := (Kp.refl h).push _
  have hz : (h.push (.cells false [.int .i64 e.at', .int .i64 3, .int .i64 e.seq])).get h.next = some (.cells false [.int .i64 e.at', .int .i64 3, .int .i64 e.seq]) := get_push_self
  have A0 := A.kp K1
  have hln := A.lt
  have hq0 : ∀ h' fr' fo', RW h' x fr' fo' (X.fire 3 e.at') → Upd (h.push (.cells false [.int .i64 e.at', .int .i64 3, .int .i64 e.seq])) h' (RL x fr fo) (RL x fr' fo') → q (.tuple #[]) h' := fun h1 f1 f2 k1 k2 => hq h1 f1 f2 k1 (.kp1 K1 k2)
  have znf : h.next ∉ fo := fun hm => by have := A.folt _ hm; omega
  generalize h.push (.cells false [.int .i64 e.at', .int .i64 3, .int .i64 e.seq]) = h0 at *
  obtain ⟨vL, vi, vo, vu, S⟩ := A0.bs
  have g := S.g
  have hl := A0.lt
  have hno := A.no
  have hnout := A.nout
  simp only [rcl, rrest] at g
  have hxn : x + 4 ≠ h.next := by omega
  have hnl := lt_of_get hz
  obtain ⟨ao, co, hvo, hso, hco, hbo⟩ := S.so
  subst hvo
  cases hO : X.U.o with
  | nil =>
    simp (maxSteps := 1000000) (disch := first | assumption | ((try simp only [push_next, put_next, adv_next, List.length_cons, List.length_nil, List.length_map, List.length_set]); omega) | simp) [g, hO]
    exact hq0 _ _ _ (A0.cast (by simp [BS.fire, UaS.fire, UaS.firew, hO])) .refl
  | cons b O =>
    obtain ⟨Ao, ro, C, hA, hg, hC⟩ := (show Sees encB h0 ao ([] ++ b :: O) by rw [hO] at hso; exact hso).cell (f := u8) (fun _ => rfl) rfl
    subst hA
    have hC0 : C[Ao.off]? = some (u8 b) := by simpa using hC
    have hAo := lt_of_get hg
    have hpos : (0 : Int) < (O.length : Int) + 1 := by omega
    -- the rest: from Goes on
    have rest : ∀ (h2 : Hp) (fo2 : List Nat) (Y : BS) (e2 : Env) (F : List Fr), F = [Fr.seq c8_pianolaref15_Bus_B1, Fr.block 0] → RW h2 x fr fo2 Y → Upd h0 h2 (RL x fr fo) (RL x fr fo2) → Y.U.o = b :: O → Y = { X with U := { X.U with out := Y.U.out } } → (if X.U.out.length < 65536 then X.U.out ++ [b] else X.U.out) = Y.U.out → h2.get h.next = some (.cells false [.int .i64 e.at', .int .i64 3, .int .i64 e.seq]) → e2 0 = ptr (x + 4) 0 → e2 3 = ptr h.next 0 →
        G T (fin [] (some []) h.next q) c5_pianolaref15_Bus_B1 F e2 h2 := by
      intro h2 fo2 Y e2 F hF A2 U2 hYo hYX hout hz2 f0 f3
      subst hF
      obtain ⟨wL, wi, wo, wu, S2⟩ := A2.bs
      have g2 := S2.g
      have hl2 := A2.lt
      have hzl := lt_of_get hz2
      simp only [rcl, rrest] at g2
      obtain ⟨a2, c2, hv2, hso2, hco2, hbo2⟩ := S2.so
      subst hv2
      rw [hYo] at hso2 hco2 g2
      obtain ⟨a1, c1, p1, q1, s1⟩ := hso2.part (lo := 1) (hi := (b :: O).length) (l := some (.int .i64 1)) (u := none) (by simp) (by omega) hco2 (.inr ⟨.i64, rfl⟩) (.inl ⟨rfl, rfl⟩)
      have p1' : sliceV 1 (.slice a2 (O.length + 1) c2) (some (.int .i64 1)) none none = some (.slice a1 O.length c1) := by simpa using p1
      have hO1 : ((b :: O).drop 1).take ((b :: O).length - 1) = O := by simp
      rw [hO1] at s1
      have hOl : O.length < 16 := by rw [hO] at hno; simp at hno; omega
      have K3 : Kp h2 (h2.push (.cells false [])) := (Kp.refl h2).push _
      have Oe : Own encB (h2.push (.cells false [])) (.slice (some ⟨h2.next, 0, none⟩) 0 0) [] [h2.next] := .emp get_push_self
      simp (maxSteps := 1000000) (disch := first | assumption | ((try simp only [push_next, put_next, adv_next, List.length_cons, List.length_nil, List.length_map, List.length_set]); omega) | simp) [f0, f3, g2, p1', -g8_pianolaref15_Bus_B1]
      refine GV_app (E := encB) Oe (s1.kp K3) rfl (by simp; omega) (by simp; omega) fun v3 h3 f3' O3 U3 => ?_
      have K4 : Kp h2 h3 := U3.kp' K3 (by simp)
      have F3 : ∀ b ∈ f3', h2.next ≤ b := fun b hb => by
        rcases U3.sub b hb with h5 | h5
        · simp at h5; omega
        · have := K3.le; omega
      rw [List.nil_append] at O3
      obtain ⟨a3, c3, hv3, _, _, _⟩ := O3.len
      subst hv3
      have A3 := A2.kp K4
      have S3 := RS.kp A2 S2 K4
      have g3 := S3.g
      have hz3 : h3.get h.next = _ := (K4.get _ hzl).trans hz2
      have hl3 := A3.lt
      simp only [rcl, rrest] at g3
      rw [hYo] at g3
      have A6 := A3.lists (nw := f3') (i' := Y.U.i) (o' := O) S3 (S3.si.keep (fun b hb => rfl) fun b hb => List.mem_append_left _ hb) (Se.own O3 fun b hb => List.mem_append_right _ hb) A2.ni (by omega) (fun b hb => ⟨by have := F3 b hb; omega, O3.live b hb, fun hm => by have := F3 b hb; have := A2.folt b hm; omega⟩) rfl
      simp only [rcl, rrest] at A6
      have U6 : Upd h2 (h3.put (x + 4) (some (.cells false (rcl x { Y with U := { Y.U with i := Y.U.i, o := O } } wL wi (.slice a3 O.length c3) wu)))) (RL x fr fo2) (RL x (fr ++ f3') fo2) := ⟨by simpa using K4.le, fun b hb hn => by
        rw [get_put_ne (fun e => hn (by rw [e]; simp [RL])), K4.get b hb], fun b hb => by
        simp only [RL, List.mem_append] at hb ⊢
        rcases hb with hb | (hb | hb) | hb
        · exact .inl (.inl hb)
        · exact .inl (.inr (.inl hb))
        · exact .inr (F3 b hb)
        · exact .inl (.inr (.inr hb))⟩
      simp only [rcl, rrest] at U6
      by_cases hO0 : O = []
      · subst hO0
        simp (maxSteps := 1000000) (disch := first | assumption | ((try simp only [push_next, put_next, adv_next, List.length_cons, List.length_nil, List.length_map, List.length_set]); omega) | simp) [f0, f3, g3, hz3]
        refine hq0 _ _ _ (A6.cast ?_) (U2.trans U6)
        rw [hYX]
        simp [BS.fire, UaS.fire, UaS.firew, hO, hout]
      · have hOp : (0 : Int) < O.length := by
          have := List.length_pos_iff.2 hO0
          omega
        have hOn : 0 < O.length := by omega
        have hwr : IntKind.i64.wrap (e.at' + 8) = e.at' + 8 := wrap_i64 (by omega) (by omega)
        simp (maxSteps := 1000000) (disch := first | assumption | ((try simp only [push_next, put_next, adv_next, List.length_cons, List.length_nil, List.length_map, List.length_set]); omega) | simp) [f0, f3, g3, hz3, hOp, hOn, hwr]
        refine A6.arm fun h7 nw7 A7 U7 => ?_
        simp (maxSteps := 1000000) (disch := first | assumption | ((try simp only [push_next, put_next, adv_next, List.length_cons, List.length_nil, List.length_map, List.length_set]); omega) | simp)
        refine hq0 _ _ _ (A7.cast ?_) ((U2.trans U6).trans U7)
        have h1 : 0 < O.length := by omega
        rw [hYX]
        simp [BS.fire, UaS.fire, UaS.firew, hO, hout, h1]
    obtain ⟨aw, cw, hvw, hsw, hcw, hbw⟩ := S.su.len
    subst hvw
    by_cases hfull : X.U.out.length < 65536
    · have hfi : (X.U.out.length : Int) < 65536 := by omega
      simp (maxSteps := 1000000) (disch := first | assumption | ((try simp only [push_next, put_next, adv_next, List.length_cons, List.length_nil, List.length_map, List.length_set]); omega) | simp) [g, hO, hpos, hfi, hg, hC0, -g5_pianolaref15_Bus_B1]
      have Kx : Kp h0 (h0.push (.cells false [u8 b])) := (Kp.refl h0).push _
      have S4 : Sees encB (h0.push (.cells false [u8 b])) (some ⟨h0.next, 0, none⟩) [b] := sees_b get_push_self
      refine GVI_app (E := encB) (S.su.kp Kx) S4 rfl (by simp; omega) (by simp; omega) fun v5 h5 f5 O5 U5 => ?_
      obtain ⟨a5, c5, hv5, _, _, _⟩ := O5.len
      have hv5' : v5 = .slice a5 (X.U.out.length + 1) c5 := by rw [hv5]; simp
      have A5 := (A0.kp Kx).outp (RS.kp A0 S Kx) O5 U5 (by simp; omega) rfl
      have nfo : ∀ b, b ≤ x + 5 → b ∉ fo := fun b hb hm => by have := A0.fo b hm; omega
      have g5 : h5.get (x + 4) = _ := ((U5.get (x + 4) (by simp; omega) (nfo _ (by omega))).trans (Kx.get _ (by omega))).trans g
      have z5 : h5.get h.next = _ := ((U5.get h.next (by simp; omega) znf).trans (Kx.get _ hnl)).trans hz
      have hl5 : x + 5 < h5.next := by have := U5.le; simp at this; omega
      simp only [rcl, rrest] at A5
      obtain ⟨A5, S5, V5⟩ := A5
      have hone : one v5 = true := by rw [hv5]; rfl
      simp (maxSteps := 1000000) (disch := first | assumption | ((try simp only [push_next, put_next, adv_next, List.length_cons, List.length_nil, List.length_map, List.length_set]); omega) | simp) [g5, hone, -g5_pianolaref15_Bus_B1]
      exact rest _ f5 _ _ _ rfl A5 (.kp1 Kx V5) hO (by simp) (by rw [if_pos hfull]) (by rw [get_put_ne (by omega), z5]) (by simp) (by simp)
    · have hfi : ¬ (X.U.out.length : Int) < 65536 := by omega
      simp (maxSteps := 1000000) (disch := first | assumption | ((try simp only [push_next, put_next, adv_next, List.length_cons, List.length_nil, List.length_map, List.length_set]); omega) | simp) [g, hO, hpos, hfi, -g5_pianolaref15_Bus_B1]
      exact rest h0 fo X _ _ rfl A0 .refl hO (by cases X; rfl) (by rw [if_neg hfull]) hz (by simp) (by simp)
/-- What is due is done. -/
theorem zb {e : Ev} (A : RW h x fr fo X) (hn : 0 ≤ e.at' ∧ e.at' ≤ 2 ^ 60) (hq : ∀ h' fr' fo', RW h' x fr' fo' (X.fire e.dev e.at') → Upd h h' (RL x fr fo) (RL x fr' fo') → q (.tuple #[]) h') : WC T n_pianolaref15_Bus_B1 [ptr (x + 4) 0, .agg #[.int .i64 e.at', .int .i64 e.dev, .int .i64 e.seq]] h q := by
  by_cases d3 : e.dev = 3
  · exact zfire3 A d3 hn fun h' fr' fo' k1 k2 => hq h' fr' fo' (by rw [d3]; exact k1) k2
  · exact zb1 A hn d3 fun h' fr' k1 k2 => hq h' fr' fo k1 k2
theorem zword (A : RW h x fr fo X) (hd : 0 ≤ d ∧ d ≤ 5) (hn : 0 ≤ now ∧ now ≤ 2 ^ 60) (hq : ∀ h' fr', RW h' x fr' fo (X.rds d a) → Upd h h' (RL x fr fo) (RL x fr' fo) → q (.tuple #[u32 (X.rd d a now), .bool (wok d a)]) h') : WC T n_pianolaref15_Bus_Word [ptr (x + 4) 0, .int .i64 d, u32 a, .int .i64 now] h q := by
  have kp : ∀ d0 : Int, d0 ≠ 3 → d = d0 → ∀ h', Kp h h' → q (.tuple #[u32 (X.rd d0 a now), .bool (wok d0 a)]) h' := fun d0 h3 e h' K => by
    subst e
    exact hq h' fr ((A.kp K).cast (by simp [BS.rds, h3])) (K.upd _)
  have : d = 0 ∨ d = 1 ∨ d = 2 ∨ d = 3 ∨ d = 4 ∨ d = 5 := by omega
  rcases this with e | e | e | e | e | e
  · have k := kp _ (by omega) e; rw [e]; exact zword0 A hn k
  · have k := kp _ (by omega) e; rw [e]; exact zword1 A k
  · have k := kp _ (by omega) e; rw [e]; exact zword2 A k
  · rw [e]; exact zword3 A fun h' fr' k1 k2 => by have := hq h' fr' (by rw [e]; exact k1) k2; rw [e] at this; exact this
  · have k := kp _ (by omega) e; rw [e]; exact zword4 A k
  · have k := kp _ (by omega) e; rw [e]; exact zword5 A k
theorem z2new {n : Int} (hq : ∀ h', Ra h' h.next (List.replicate (1024 * pgs n) 0#8) (List.replicate (pgs n) false) (List.replicate (pgs n) false) → Kp h h' → h'.next = h.next + 4 → q (ptr (h.next + 3) 0) h') :
    WC T n_pianolaref2_New [.int .i64 n] h q := by
  obtain ⟨m, hm, h1, h2⟩ : ∃ m : Nat, m = pgs n ∧ 1 ≤ m ∧ m ≤ 64 := ⟨_, rfl, by unfold pgs; omega, by unfold pgs; omega⟩
  rw [← hm] at hq
  have hm2 : (if (if 64 < n then 64 else n) < 1 then 1 else (if 64 < n then 64 else n)) = (m : Int) := by
    rw [hm]; unfold pgs
    split <;> split <;> omega
  have e2 : ((m : Int) * 1024).toNat = 1024 * m := by omega
  rw [w_pianolaref2_New]
  simp (maxSteps := 1000000) (disch := first | assumption | ((try simp only [push_next, put_next, adv_next, List.length_cons, List.length_nil, List.length_map, List.length_set]); omega) | simp) [hm2, e2]
  refine hq _ ⟨?_, ?_, ?_, ?_, ?_, ?_, ?_⟩ ((((((Kp.refl h).adv 4).put (Nat.le_refl _) _).put (by omega) _).put (by omega) _).put (by omega) _) (by simp)
  · rw [get_put_self (by simp)]
    simp
  · rw [get_put_ne (by omega), get_put_ne (by omega), get_put_ne (by omega), get_put_self (by simp)]
    simp
  · rw [get_put_ne (by omega), get_put_ne (by omega), get_put_self (by simp)]
    simp
  · rw [get_put_ne (by omega), get_put_self (by simp)]
    simp
  · simp
  · simp
  · simpa using ⟨h1, h2⟩
end
end Go.Proofs.Ytppgoobhlcdbbaa.Cd

/- The document's bus: it is made. -/
set_option maxRecDepth 1000000
set_option maxHeartbeats 8000000
set_option linter.unusedSimpArgs false
set_option linter.unusedVariables false
namespace Go.Proofs.Ytppgoobhlcdbbaa.Cd
open Go Go.Dx
section
variable {h h' : Hp} {q : Value → Hp → Prop} {x : Nat} {fr fo nw fo' : List Nat} {X X' : BS} {now d t : Int} {a v : BitVec 32} {vL vi vo vu vi' vo' vu' : Value}
theorem ov_pre (l : By) (m : Nat) : ovB (List.replicate m 0#8) 0 (l.take m) = (l ++ List.replicate m 0#8).take m := by
  simp only [ovB, List.take_zero, List.nil_append, Nat.zero_add, List.length_take]
  by_cases hm : l.length ≤ m
  · rw [Nat.min_eq_right hm, List.take_of_length_le hm, List.take_append, List.take_of_length_le hm]
    simp
  · rw [Nat.min_eq_left (by omega), List.take_append_of_le_length (by omega)]
    simp
theorem mkl (n : Int) (im se : By) : (BS.mk0 n im se).B.length = 1024 * pgs n := by
  simp only [BS.mk0]
  rw [ovB_length (by rw [List.length_take, List.length_replicate]; omega), List.length_replicate]
theorem tch_false (n k a j : Nat) : tch (List.replicate n false) (List.replicate k false) a j = List.replicate k false := by
  unfold tch
  split
  · rfl
  · apply List.ext_getElem?
    intro i
    by_cases hi : i < k
    · have : ∀ o : Bool, o = false → (false || (decide (a / 1024 ≤ i ∧ i ≤ (a + j - 1) / 1024) && o)) = false := fun o e => by rw [e]; simp
      simp only [List.length_replicate, List.getElem?_map, List.getElem?_range hi, Option.map_some, List.getElem?_replicate, hi, if_true]
      congr 1
      have e1 : (List.replicate k false).getD i false = false := by simp [List.getD, List.getElem?_replicate, hi]
      have e2 : (List.replicate n false).getD i false = false := by
        simp only [List.getD, List.getElem?_replicate]
        split <;> rfl
      rw [e1, e2]
      simp
    · simp [hi]
theorem znew {n : Int} {im se : By} {ai as0 : Option Addr} {ci cs : Nat} (Si : Sees encB h ai im) (Ss : Sees encB h as0 se) (hi : im.length < 2 ^ 40) (hs : se.length < 2 ^ 40)
    (hq : ∀ h', RW h' h.next [] [] (BS.mk0 n im se) → Kp h h' → h'.next = h.next + 6 → q (ptr (h.next + 4) 0) h') :
    WC T n_pianolaref15_New [.int .i64 n, .slice ai im.length ci, .slice as0 se.length cs] h q := by
  rw [w_pianolaref15_New]
  simp (maxSteps := 1000000) (disch := first | assumption | ((try simp only [push_next, put_next, adv_next, List.length_cons, List.length_nil, List.length_map, List.length_set]); omega) | simp)
  refine z2new fun h1 R1 K1 n1 => ?_
  have hp : 1 ≤ pgs n ∧ pgs n ≤ 64 := by unfold pgs; omega
  have hr := R1.r
  have hb := R1.b
  have hBl : (List.replicate (1024 * pgs n) 0#8 : By).length = 1024 * pgs n := by simp
  rw [hBl] at hr
  simp (maxSteps := 1000000) (disch := first | assumption | ((try simp only [push_next, put_next, adv_next, List.length_cons, List.length_nil, List.length_map, List.length_set]); omega) | simp) [hr]
  have K2 : Kp h1 (h1.push (.cells false [ptr (h.next + 3) 0, .slice none 0 0, .int .i64 0, u32 0#32, u32 0#32, u32 0#32, u32 0#32, u32 0#32, u32 0#32, .slice none 0 0, .slice none 0 0, .bool false, u32 0#32, .slice none 0 0, u32 0#32, u32 0#32, u32 0#32, u32 0#32, u32 0#32, u32 0#32, u32 0#32, u32 0#32, .slice none 0 0, u32 0#32, u32 0#32])) := (Kp.refl h1).push _
  have g2 : (h1.push (.cells false [ptr (h.next + 3) 0, .slice none 0 0, .int .i64 0, u32 0#32, u32 0#32, u32 0#32, u32 0#32, u32 0#32, u32 0#32, .slice none 0 0, .slice none 0 0, .bool false, u32 0#32, .slice none 0 0, u32 0#32, u32 0#32, u32 0#32, u32 0#32, u32 0#32, u32 0#32, u32 0#32, u32 0#32, .slice none 0 0, u32 0#32, u32 0#32])).get h1.next = _ := get_push_self
  have n2 : (h1.push (.cells false [ptr (h.next + 3) 0, .slice none 0 0, .int .i64 0, u32 0#32, u32 0#32, u32 0#32, u32 0#32, u32 0#32, u32 0#32, .slice none 0 0, .slice none 0 0, .bool false, u32 0#32, .slice none 0 0, u32 0#32, u32 0#32, u32 0#32, u32 0#32, u32 0#32, u32 0#32, u32 0#32, u32 0#32, .slice none 0 0, u32 0#32, u32 0#32])).next = h1.next + 1 := rfl
  generalize h1.push (.cells false [ptr (h.next + 3) 0, .slice none 0 0, .int .i64 0, u32 0#32, u32 0#32, u32 0#32, u32 0#32, u32 0#32, u32 0#32, .slice none 0 0, .slice none 0 0, .bool false, u32 0#32, .slice none 0 0, u32 0#32, u32 0#32, u32 0#32, u32 0#32, u32 0#32, u32 0#32, u32 0#32, u32 0#32, .slice none 0 0, u32 0#32, u32 0#32]) = h2 at *
  have hb2 : h2.get h.next = _ := (K2.get _ (by omega)).trans hb
  obtain ⟨j, hcp⟩ := cpy_pre (m := 1024 * pgs n) (c := 1024 * pgs n) (c' := ci) hb2 (Si.kp (K1.trans K2))
  rw [← ov_pre] at hcp
  obtain ⟨d, hd, hd2⟩ : ∃ d : Nat, ((se.length : Int) + 64 - 1).tdiv 64 = (d : Int) ∧ d = (se.length + 63) / 64 := ⟨(se.length + 63) / 64, by rw [Int.tdiv_eq_ediv_of_nonneg (by omega)]; omega, rfl⟩
  obtain ⟨m, hn, h64⟩ : ∃ m : Nat, (if 64 < (d : Int) then 64 else (d : Int)) = (m : Int) ∧ m = min d 64 := ⟨min d 64, by split <;> omega, rfl⟩
  have e2 : ((m : Int) * 64).toNat = 64 * m := by omega
  have hE : (se ++ List.replicate (64 * m) 0#8).take (64 * m) = dkE se := by rw [h64, hd2, dkE]
  have hEl : (dkE se).length = 64 * m := by rw [dkE_length, h64, hd2]
  simp (maxSteps := 1000000) (disch := first | assumption | ((try simp only [push_next, put_next, adv_next, List.length_cons, List.length_nil, List.length_map, List.length_set]); omega) | simp) [hcp, hd, hn, e2, g2]
  have n3 : (((h2.put h.next (some (.cells false ((ovB (List.replicate (1024 * pgs n) 0#8) 0 (im.take (1024 * pgs n))).map u8)))).push (.cells false (List.replicate (64 * m) (u8 0#8)))).put h1.next (some (.cells false [ptr (h.next + 3) 0, .slice none 0 0, .int .i64 0, u32 0#32, u32 0#32, u32 0#32, u32 0#32, u32 0#32, u32 0#32, .slice none 0 0, .slice none 0 0, .bool false, u32 0#32, .slice none 0 0, u32 0#32, u32 0#32, u32 0#32, u32 0#32, u32 0#32, u32 0#32, u32 0#32, u32 0#32, .slice (some ⟨h2.next, 0, none⟩) (64 * m) (64 * m), u32 0#32, u32 0#32]))).next = h.next + 6 := by simp; omega
  have g3 : (((h2.put h.next (some (.cells false ((ovB (List.replicate (1024 * pgs n) 0#8) 0 (im.take (1024 * pgs n))).map u8)))).push (.cells false (List.replicate (64 * m) (u8 0#8)))).put h1.next (some (.cells false [ptr (h.next + 3) 0, .slice none 0 0, .int .i64 0, u32 0#32, u32 0#32, u32 0#32, u32 0#32, u32 0#32, u32 0#32, .slice none 0 0, .slice none 0 0, .bool false, u32 0#32, .slice none 0 0, u32 0#32, u32 0#32, u32 0#32, u32 0#32, u32 0#32, u32 0#32, u32 0#32, u32 0#32, .slice (some ⟨h2.next, 0, none⟩) (64 * m) (64 * m), u32 0#32, u32 0#32]))).get h1.next = some (.cells false [ptr (h.next + 3) 0, .slice none 0 0, .int .i64 0, u32 0#32, u32 0#32, u32 0#32, u32 0#32, u32 0#32, u32 0#32, .slice none 0 0, .slice none 0 0, .bool false, u32 0#32, .slice none 0 0, u32 0#32, u32 0#32, u32 0#32, u32 0#32, u32 0#32, u32 0#32, u32 0#32, u32 0#32, .slice (some ⟨h2.next, 0, none⟩) (64 * m) (64 * m), u32 0#32, u32 0#32]) := get_put_self (by simp; omega)
  have z3 : (((h2.put h.next (some (.cells false ((ovB (List.replicate (1024 * pgs n) 0#8) 0 (im.take (1024 * pgs n))).map u8)))).push (.cells false (List.replicate (64 * m) (u8 0#8)))).put h1.next (some (.cells false [ptr (h.next + 3) 0, .slice none 0 0, .int .i64 0, u32 0#32, u32 0#32, u32 0#32, u32 0#32, u32 0#32, u32 0#32, .slice none 0 0, .slice none 0 0, .bool false, u32 0#32, .slice none 0 0, u32 0#32, u32 0#32, u32 0#32, u32 0#32, u32 0#32, u32 0#32, u32 0#32, u32 0#32, .slice (some ⟨h2.next, 0, none⟩) (64 * m) (64 * m), u32 0#32, u32 0#32]))).get h2.next = some (.cells false ((List.replicate (64 * m) 0#8).map u8)) := by
    rw [get_put_ne (by omega), get_push_at (by simp) (by simp)]
    simp
  have b3 : (((h2.put h.next (some (.cells false ((ovB (List.replicate (1024 * pgs n) 0#8) 0 (im.take (1024 * pgs n))).map u8)))).push (.cells false (List.replicate (64 * m) (u8 0#8)))).put h1.next (some (.cells false [ptr (h.next + 3) 0, .slice none 0 0, .int .i64 0, u32 0#32, u32 0#32, u32 0#32, u32 0#32, u32 0#32, u32 0#32, .slice none 0 0, .slice none 0 0, .bool false, u32 0#32, .slice none 0 0, u32 0#32, u32 0#32, u32 0#32, u32 0#32, u32 0#32, u32 0#32, u32 0#32, u32 0#32, .slice (some ⟨h2.next, 0, none⟩) (64 * m) (64 * m), u32 0#32, u32 0#32]))).get h.next = some (.cells false ((ovB (List.replicate (1024 * pgs n) 0#8) 0 (im.take (1024 * pgs n))).map u8)) := by
    rw [get_put_ne (by omega), get_push_ne (by simp; omega), get_put_self (by omega)]
  have o3 : ∀ b, b < h2.next → b ≠ h1.next → b ≠ h.next → (((h2.put h.next (some (.cells false ((ovB (List.replicate (1024 * pgs n) 0#8) 0 (im.take (1024 * pgs n))).map u8)))).push (.cells false (List.replicate (64 * m) (u8 0#8)))).put h1.next (some (.cells false [ptr (h.next + 3) 0, .slice none 0 0, .int .i64 0, u32 0#32, u32 0#32, u32 0#32, u32 0#32, u32 0#32, u32 0#32, .slice none 0 0, .slice none 0 0, .bool false, u32 0#32, .slice none 0 0, u32 0#32, u32 0#32, u32 0#32, u32 0#32, u32 0#32, u32 0#32, u32 0#32, u32 0#32, .slice (some ⟨h2.next, 0, none⟩) (64 * m) (64 * m), u32 0#32, u32 0#32]))).get b = h2.get b := fun b c1 c2 c3 => by
    rw [get_put_ne c2, get_push_ne (by simp; omega), get_put_ne c3]
  generalize ((h2.put h.next (some (.cells false ((ovB (List.replicate (1024 * pgs n) 0#8) 0 (im.take (1024 * pgs n))).map u8)))).push (.cells false (List.replicate (64 * m) (u8 0#8)))).put h1.next (some (.cells false [ptr (h.next + 3) 0, .slice none 0 0, .int .i64 0, u32 0#32, u32 0#32, u32 0#32, u32 0#32, u32 0#32, u32 0#32, .slice none 0 0, .slice none 0 0, .bool false, u32 0#32, .slice none 0 0, u32 0#32, u32 0#32, u32 0#32, u32 0#32, u32 0#32, u32 0#32, u32 0#32, u32 0#32, .slice (some ⟨h2.next, 0, none⟩) (64 * m) (64 * m), u32 0#32, u32 0#32])) = h3 at *
  have K3 : Kp h h3 := ⟨by omega, fun b hb => by rw [o3 b (by omega) (by omega) (by omega), K2.get b (by omega), K1.get b hb]⟩
  obtain ⟨j2, hcp2⟩ := cpy_pre (m := 64 * m) (c := 64 * m) (c' := cs) z3 (Ss.kp K3)
  rw [hE] at hcp2
  simp (maxSteps := 1000000) (disch := first | assumption | ((try simp only [push_next, put_next, adv_next, List.length_cons, List.length_nil, List.length_map, List.length_set]); omega) | simp) [hcp2]
  have hn4 : h1.next = h.next + 4 := n1
  have hn5 : h2.next = h.next + 5 := by omega
  rw [hn4, hn5]
  rw [hn4] at g3 o3
  rw [hn5] at g3 o3 z3
  have gg : ∀ b, b < h.next + 5 → b ≠ h.next + 4 → b ≠ h.next → (h3.put (h.next + 5) (some (.cells false ((dkE se).map u8)))).get b = h1.get b := fun b c1 c2 c3 => by
    rw [get_put_ne (by omega), o3 b c1 c2 c3, K2.get b (by omega)]
  refine hq _ ⟨⟨.slice none 0 0, .slice none 0 0, .slice none 0 0, .slice none 0 0, ?_, .nul, .nul, .nul, .nul⟩, ?_, get_put_self (by omega), ?_, by simp, by simp, .nil, by simp [BS.mk0], by simp [BS.mk0], by simp [BS.mk0]⟩ (K3.put (by omega) _) (by simpa using n3)
  · rw [get_put_ne (by omega), g3]
    simp only [rcl, rrest, BS.mk0, hEl]
  · have hW : (BS.mk0 n im se).W = List.replicate (pgs n) false := tch_false ..
    have hM : (BS.mk0 n im se).M = List.replicate (pgs n) false := rfl
    have hB0 : (BS.mk0 n im se).B = ovB (List.replicate (1024 * pgs n) 0#8) 0 (im.take (1024 * pgs n)) := rfl
    have hBn : (BS.mk0 n im se).B.length = 1024 * pgs n := mkl ..
    refine ⟨?_, ?_, ?_, ?_, ?_, ?_, ?_⟩
    · rw [gg _ (by omega) (by omega) (by omega), hr, hBn, hM]
    · rw [get_put_ne (by omega), b3, hB0]
    · rw [gg _ (by omega) (by omega) (by omega), R1.m, hM]
    · rw [gg _ (by omega) (by omega) (by omega), R1.w, hW]
    · rw [hBn, hM]; simp
    · rw [hM, hW]
    · rw [hM]; simpa using hp
  · show (dkE se).length % 64 = 0 ∧ _
    rw [show (BS.mk0 n im se).E = dkE se from rfl, hEl]
    omega
end
end Go.Proofs.Ytppgoobhlcdbbaa.Cd

/- A timer and the document's bus, side by side. -/
set_option maxRecDepth 1000000
set_option maxHeartbeats 8000000
set_option linter.unusedSimpArgs false
set_option linter.unusedVariables false
namespace Go.Proofs.Ytppgoobhlcdbbaa.Cd
open Go Go.Dx
def TL (kw ky : Nat) (fp : List Nat) : List Nat := [kw, ky] ++ fp
/-- The timer of a device. -/
def BS.tm (X : BS) (d : Int) : TmS := if d = 1 then X.T1 else X.T2
/-- A timer and its wheel. -/
structure TU (h : Hp) (dv : Int) (kw ky bd : Nat) (fp : List Nat) (X : BS) : Prop where
  dk : TmC h ky kw dv (X.tm dv)
  wh : WhA h kw X.S fp
  gf : ∀ b ∈ fp, bd < b
  ln : bd < h.next
  bh : kw < ky ∧ ky ≤ bd
/-- Both. -/
structure SW (g h : Hp) (dv : Int) (n0 x : Nat) (fp fr fo : List Nat) (X Y : BS) : Prop where
  ku : TU h dv n0 (n0 + 1) (n0 + 7) fp X
  rw' : RW h x fr fo Y
  hx : x = n0 + 2
  d1 : ∀ b ∈ fp, b ∉ fr ∧ b ∉ fo
  kp : Kp g h
  gn : g.next ≤ n0
section
variable {g h h' : Hp} {q : Value → Hp → Prop} {n0 x kw ky bd : Nat} {fp fr fo fp' fr' fo' nw : List Nat} {X Y X' Y' : BS} {now d t dv : Int} {a v : BitVec 32}
theorem TU.lt (A : TU h dv kw ky bd fp X) : ky < h.next := by
  have := A.dk
  unfold TmC at this
  exact lt_of_get this
theorem TU.live (A : TU h dv kw ky bd fp X) : ∀ b ∈ TL kw ky fp, b < h.next := fun b hb => by
  have := A.lt
  have hbh := A.bh
  rcases List.mem_append.1 hb with hb | hb
  · simp at hb; omega
  · exact A.wh.live b (List.mem_cons_of_mem _ hb)
theorem TU.keep (A : TU h dv kw ky bd fp X) (hn : h.next ≤ h'.next) (hk : ∀ b ∈ TL kw ky fp, h'.get b = h.get b) : TU h' dv kw ky bd fp X := by
  refine ⟨by have := A.dk; unfold TmC at this ⊢; rw [hk _ (by simp [TL]), this], A.wh.keep fun b hb => hk b ?_, A.gf, Nat.lt_of_lt_of_le A.ln hn, A.bh⟩
  rcases List.mem_cons.1 hb with rfl | hb
  · simp [TL]
  · simp [TL, hb]
theorem TU.kp (A : TU h dv kw ky bd fp X) (K : Kp h h') : TU h' dv kw ky bd fp X := A.keep K.le fun b hb => K.get b (A.live b hb)
/-- What the timer's side does leaves the document's side. -/
theorem SW.dev (A : SW g h dv n0 x fp fr fo X Y) (k : TU h' dv n0 (n0 + 1) (n0 + 7) fp' X') (U : Upd h h' (TL n0 (n0 + 1) fp) (TL n0 (n0 + 1) fp')) : SW g h' dv n0 x fp' fr fo X' Y := by
  have hl := A.rw'.lt
  have hx := A.hx
  have off : ∀ b ∈ RL x fr fo, b ∉ TL n0 (n0 + 1) fp := fun b hb hm => by
    simp only [RL, TL, List.mem_append] at hb hm
    rcases hb with hb | hb | hb
    · rcases hm with hm | hm
      · simp at hb hm; omega
      · have := A.ku.gf b hm; simp at hb; omega
    · rcases hm with hm | hm
      · have := (A.rw'.fr b hb).1; simp at hm; omega
      · exact (A.d1 b hm).1 hb
    · rcases hm with hm | hm
      · have := A.rw'.fo b hb; simp at hm; omega
      · exact (A.d1 b hm).2 hb
  refine ⟨k, A.rw'.upd U off, A.hx, fun b hb => ?_, U.kp' A.kp fun b hb => ?_, A.gn⟩
  · rcases U.sub b (List.mem_append_right _ hb) with h5 | h5
    · rcases List.mem_append.1 h5 with h5 | h5
      · have := k.gf b hb; simp at h5; omega
      · exact A.d1 b h5
    · exact ⟨fun hm => by have := (A.rw'.fr b hm).2.1; omega, fun hm => by have := A.rw'.folt b hm; omega⟩
  · have := A.gn
    rcases List.mem_append.1 hb with hb | hb
    · simp at hb; omega
    · have := A.ku.gf b hb; omega
theorem SW.ref (A : SW g h dv n0 x fp fr fo X Y) (k : RW h' x fr' fo' Y') (U : Upd h h' (RL x fr fo) (RL x fr' fo')) : SW g h' dv n0 x fp fr' fo' X Y' := by
  have hl := A.rw'.lt
  have hx := A.hx
  have off : ∀ b ∈ TL n0 (n0 + 1) fp, b ∉ RL x fr fo := fun b hm hb => by
    simp only [RL, TL, List.mem_append] at hb hm
    rcases hb with hb | hb | hb
    · rcases hm with hm | hm
      · simp at hb hm; omega
      · have := A.ku.gf b hm; simp at hb; omega
    · rcases hm with hm | hm
      · have := (A.rw'.fr b hb).1; simp at hm; omega
      · exact (A.d1 b hm).1 hb
    · rcases hm with hm | hm
      · have := A.rw'.fo b hb; simp at hm; omega
      · exact (A.d1 b hm).2 hb
  have sub : ∀ b, b ∈ fr' ∨ b ∈ fo' → b ∈ fr ∨ b ∈ fo ∨ h.next ≤ b := fun b hb => by
    have h9 : n0 + 7 < b := by
      rcases hb with hb | hb
      · have := (k.fr b hb).1; omega
      · have := k.fo b hb; omega
    rcases U.sub b (by simp only [RL, List.mem_append]; rcases hb with hb | hb <;> simp [hb]) with h5 | h5
    · simp only [RL, List.mem_append] at h5
      rcases h5 with h5 | h5 | h5
      · simp at h5; omega
      · exact .inl h5
      · exact .inr (.inl h5)
    · exact .inr (.inr h5)
  refine ⟨A.ku.keep U.le fun b hb => U.get b (A.ku.live b hb) (off b hb), k, A.hx, fun b hb => ⟨fun hm => ?_, fun hm => ?_⟩, U.kp' A.kp fun b hb => ?_, A.gn⟩
  · have hbl := A.ku.live b (List.mem_append_right _ hb)
    rcases sub b (.inl hm) with h5 | h5 | h5
    · exact (A.d1 b hb).1 h5
    · exact (A.d1 b hb).2 h5
    · omega
  · have hbl := A.ku.live b (List.mem_append_right _ hb)
    rcases sub b (.inr hm) with h5 | h5 | h5
    · exact (A.d1 b hb).1 h5
    · exact (A.d1 b hb).2 h5
    · omega
  · have := A.gn
    simp only [RL, List.mem_append] at hb
    rcases hb with hb | hb | hb
    · simp at hb; omega
    · have := (A.rw'.fr b hb).1; omega
    · have := A.rw'.fo b hb; omega
theorem SW.more (A : SW g h dv n0 x fp fr fo X Y) (K : Kp h h') : SW g h' dv n0 x fp fr fo X Y := ⟨A.ku.kp K, A.rw'.kp K, A.hx, A.d1, A.kp.trans K, A.gn⟩
/-- The timer's side. -/
theorem TU.off (A : TU h dv kw ky bd fp X) : ky ∉ kw :: fp := fun hm => by
  have hbh := A.bh
  rcases List.mem_cons.1 hm with h5 | h5
  · omega
  · have := A.gf _ h5; omega
/-- The timer and the wheel are changed. -/
theorem TU.dev {N : TmS} {S' : WhS} (A : TU h dv kw ky bd fp X) (T1 : TmC h' ky kw dv N) (Q1 : WhA h' kw S' fp') (U : Upd h h' (ky :: kw :: fp) (ky :: kw :: fp')) (N1 : ky ∉ kw :: fp') (hN : X'.tm dv = N) (hS : X'.S = S') : TU h' dv kw ky bd fp' X' ∧ Upd h h' (TL kw ky fp) (TL kw ky fp') := by
  have hbh := A.bh
  have hln := A.ln
  subst hN
  subst hS
  refine ⟨⟨T1, Q1, fun b hb => ?_, Nat.lt_of_lt_of_le A.ln U.le, A.bh⟩, ⟨U.le, fun b hb hn => U.get b hb fun hm => hn ?_, fun b hb => ?_⟩⟩
  · rcases U.sub b (List.mem_cons_of_mem _ (List.mem_cons_of_mem _ hb)) with h5 | h5
    · simp only [List.mem_cons] at h5
      rcases h5 with rfl | rfl | h5
      · exact absurd (List.mem_cons_of_mem _ hb) N1
      · exact absurd hb Q1.wh.nw
      · exact A.gf b h5
    · omega
  · simp only [List.mem_cons] at hm
    rcases hm with rfl | rfl | hm
    · simp [TL]
    · simp [TL]
    · simp [TL, hm]
  · simp only [TL, List.mem_append] at hb ⊢
    rcases hb with hb | hb
    · exact .inl (.inl hb)
    · rcases U.sub b (List.mem_cons_of_mem _ (List.mem_cons_of_mem _ hb)) with h5 | h5
      · simp only [List.mem_cons] at h5
        rcases h5 with rfl | rfl | h5
        · exact .inl (.inl (by simp))
        · exact .inl (.inl (by simp))
        · exact .inl (.inr h5)
      · exact .inr h5
theorem BS.wr_tm (hd : dv = 1 ∨ dv = 2) : (X.wr dv a v now).tm dv = (X.tm dv).wr a v ∧ (X.wr dv a v now).S = (X.tm dv).wrw X.S dv a v now := by
  rcases hd with rfl | rfl <;> simp [BS.wr, BS.tm]
theorem BS.fire_tm (hd : dv = 1 ∨ dv = 2) : (X.fire dv t).tm dv = (X.tm dv).fire ∧ (X.fire dv t).S = (X.tm dv).firew X.S dv t := by
  rcases hd with rfl | rfl <;> simp [BS.fire, BS.tm]
theorem TU.wr (A : TU h dv kw ky bd fp X) (hd : dv = 1 ∨ dv = 2) (hn : 0 ≤ now ∧ now ≤ 2 ^ 60) (hq : ∀ h' fp', TU h' dv kw ky bd fp' (X.wr dv a v now) → Upd h h' (TL kw ky fp) (TL kw ky fp') → q (.bool (mat a)) h') : WC T n_timer_Timer_Write [ptr ky 0, u32 a, u32 v, .int .i64 now] h q := by
  obtain ⟨e1, e2⟩ := BS.wr_tm (X := X) (a := a) (v := v) (now := now) hd
  refine mwrite A.dk A.wh A.off hn fun h1 fp1 T1 Q1 U1 N1 => ?_
  obtain ⟨k1, k2⟩ := A.dev T1 Q1 U1 N1 e1 e2
  exact hq h1 fp1 k1 k2
theorem TU.fire (A : TU h dv kw ky bd fp X) (hd : dv = 1 ∨ dv = 2) (hn : 0 ≤ t ∧ t ≤ 2 ^ 60) (hq : ∀ h' fp', TU h' dv kw ky bd fp' (X.fire dv t) → Upd h h' (TL kw ky fp) (TL kw ky fp') → q (.tuple #[]) h') : WC T n_timer_Timer_Fire [ptr ky 0, .int .i64 t] h q := by
  obtain ⟨e1, e2⟩ := BS.fire_tm (X := X) (t := t) hd
  refine mfire A.dk A.wh A.off hn fun h1 fp1 T1 Q1 U1 N1 => ?_
  obtain ⟨k1, k2⟩ := A.dev T1 Q1 U1 N1 e1 e2
  exact hq h1 fp1 k1 k2
theorem TU.take (A : TU h dv kw ky bd fp X) (hno : (∀ e ∈ X.S.L.head?, t < e.at') → ∀ h', Kp h h' → q (.tuple #[.agg #[.int .i64 0, .int .i64 0, .int .i64 0], .bool false]) h')
    (hyes : ∀ e B, X.S.L = e :: B → e.at' ≤ t → ∀ h' fp', TU h' dv kw ky bd fp' { X with S := ⟨B, X.S.n⟩ } → Upd h h' (TL kw ky fp) (TL kw ky fp') → q (.tuple #[.agg #[.int .i64 e.at', .int .i64 e.dev, .int .i64 e.seq], .bool true]) h') : WC T n_wheel_Wheel_Take [ptr kw 0, .int .i64 t] h q := by
  refine takeS A.wh hno fun e B hL ht h1 fp1 Q1 U1 => ?_
  obtain ⟨k1, k2, k3⟩ := A.dk.upd A.off U1
  obtain ⟨j1, j2⟩ := A.dev (X' := { X with S := ⟨B, X.S.n⟩ }) k1 Q1 k2 k3 rfl rfl
  exact hyes e B hL ht h1 fp1 j1 j2
end
/-- All that is asked. -/
structure AskS where
  k : Int
  j : Int
  v : BitVec 32
  t : Int
  b : BitVec 8
def encAsk : Enc AskS := ⟨5, fun x => [.int .i64 x.k, .int .i64 x.j, u32 x.v, .int .i64 x.t, u8 x.b], fun _ => rfl, fun _ => rfl, by decide⟩
@[simp] theorem encAsk_sz : encAsk.sz = 5 := rfl
end Go.Proofs.Ytppgoobhlcdbbaa.Cd

/- A timer's play: the timer and the document's bus do the same. -/
set_option maxRecDepth 1000000
set_option maxHeartbeats 8000000
set_option linter.unusedSimpArgs false
set_option linter.unusedVariables false
namespace Go.Proofs.Ytppgoobhlcdbbaa.Cd
open Go Go.Dx
/-- Only this device is armed. -/
def Only (d : Int) (X : BS) : Prop := ∀ e ∈ X.S.L, e.dev = d
theorem Only.arm {d t : Int} {S : WhS} (h : ∀ e ∈ S.L, e.dev = d) : ∀ e ∈ (S.arm d t).L, e.dev = d := by
  intro e he
  unfold WhS.arm at he
  split at he
  · exact h e he
  · rcases (mem_insl (fun e : Ev => e.at')).1 he with rfl | he
    · rfl
    · exact h e (List.mem_of_mem_eraseP he)
section
variable {g h h' : Hp} {q : Value → Hp → Prop} {n0 x : Nat} {fp fr fo : List Nat} {X Y : BS} {now dv t : Int} {a v : BitVec 32}
theorem Only.fire (hd : dv = 1 ∨ dv = 2) (h : Only dv X) : Only dv (X.fire dv t) := by
  obtain ⟨e1, e2⟩ := BS.fire_tm (X := X) (t := t) hd
  unfold Only
  rw [e2]
  unfold TmS.firew
  split
  · exact h
  · exact Only.arm h
theorem Only.wr (hd : dv = 1 ∨ dv = 2) (h : Only dv X) : Only dv (X.wr dv a v now) := by
  obtain ⟨e1, e2⟩ := BS.wr_tm (X := X) (a := a) (v := v) (now := now) hd
  unfold Only
  rw [e2]
  unfold TmS.wrw
  split
  · split
    · intro e he
      exact h e (List.mem_of_mem_eraseP he)
    · exact Only.arm h
  · exact h
theorem Only.tail {e : Ev} {E : List Ev} {n : Int} (h : Only dv X) (hL : X.S.L = e :: E) : Only dv { X with S := ⟨E, n⟩ } := fun e' he => h e' (by rw [hL]; exact List.mem_cons_of_mem _ he)
theorem due_none (hno : ∀ e ∈ X.S.L.head?, now < e.at') (k : Nat) : X.due k now = (0, X) := by
  cases k with
  | zero => rfl
  | succ k =>
    unfold BS.due
    cases hL : X.S.L with
    | nil => rfl
    | cons e E =>
      have := hno e (by simp [hL])
      simp only
      rw [if_neg (by omega)]
theorem due_some {e : Ev} {E : List Ev} {k : Nat} (hL : X.S.L = e :: E) (ht : e.at' ≤ now) : (X.due (k + 1) now).2 = (BS.due k (BS.fire { X with S := ⟨E, X.S.n⟩ } e.dev e.at') now).2 := by
  conv => lhs; unfold BS.due
  rw [hL]
  simp only
  rw [if_pos ht]
/-- Where play stands. -/
structure SP (g h : Hp) (dv : Int) (n0 x : Nat) (now : Int) (X : BS) : Prop where
  pw : ∃ fp fr fo, SW g h dv n0 x fp fr fo X X
  on : Only dv X
  n0' : 0 ≤ now
theorem SP.more (A : SP g h dv n0 x now X) (K : Kp h h') : SP g h' dv n0 x now X := by
  obtain ⟨fp, fr, fo, P⟩ := A.pw
  exact ⟨⟨fp, fr, fo, P.more K⟩, A.on, A.n0'⟩
theorem line_tm (hd : dv = 1 ∨ dv = 2) : X.line dv = ((X.tm dv).s != 0#32) := by rcases hd with rfl | rfl <;> simp [BS.line, BS.tm]
theorem rd_tm (hd : dv = 1 ∨ dv = 2) : X.rd dv a now = (X.tm dv).rd a ∧ wok dv a = mat a ∧ X.rds dv a = X := by rcases hd with rfl | rfl <;> simp [BS.rd, BS.tm, wok, BS.rds]
/-- What is compared behind each call. -/
theorem stail {Q : Ex → Env → Hp → Prop} {e : Env} {F : List Fr} (hd : dv = 1 ∨ dv = 2) (A : SP g h dv n0 x now X) (e0 : e 0 = .int .i64 dv) (e5 : e 5 = ptr n0 0) (e6 : e 6 = ptr (n0 + 1) 0) (e7 : e 7 = ptr (x + 4) 0)
    (hk : ∀ e' : Env, e' 0 = e 0 → e' 1 = e 1 → e' 5 = e 5 → e' 6 = e 6 → e' 7 = e 7 → e' 8 = e 8 → e' 9 = e 9 → ∀ h', SP g h' dv n0 x now X → Kp h h' → GR T Q F .n e' h') : G T Q c10_pianolalaw11_play F e h := by
  obtain ⟨fp, fr, fo, P⟩ := A.pw
  have hl1 := fun q => mline (q := q) P.ku.dk
  have hl2 := fun q => zline (q := q) (d := dv) P.rw' (by omega)
  rw [line_tm hd] at hl2
  obtain ⟨vL, vi, vo, vu, S⟩ := P.rw'.bs
  have g1 := S.g
  simp only [rcl, rrest] at g1
  have hwl := P.ku.wh.wi.len
  obtain ⟨av, cv, hv, sv, hcv, hbv⟩ := S.sL
  subst hv
  simp (maxSteps := 1000000) (disch := first | assumption | ((try simp only [push_next, put_next, adv_next, List.length_cons, List.length_nil, List.length_map, List.length_set]); omega) | simp) [e0, e5, e6, e7, GC_of hl1, GCI_of hl1, GC_of hl2, GCI_of hl2, g1]
  refine GCI_intro (wall P.ku.wh.wh (by omega) (q := fun v h' => ∃ a c, v = .slice a X.S.L.length c ∧ Sees encEv h' a X.S.L ∧ Kp h h') fun a c h' hs K => ⟨a, c, rfl, hs, K⟩) fun v h1 ⟨a1, c1, hv, s1, K1⟩ => ?_
  subst hv
  have P1 := P.more K1
  have S1 := RS.kp P.rw' S K1
  have g2 := S1.g
  simp only [rcl, rrest] at g2
  have K0 : Kp g h := P.kp
  simp (maxSteps := 1000000) (disch := first | assumption | ((try simp only [push_next, put_next, adv_next, List.length_cons, List.length_nil, List.length_map, List.length_set]); omega) | simp) [e0, e5, e6, e7, g2]
  refine GCI_intro (same_ev (q := fun v h' => v = .bool true ∧ h' = h1) s1 (sv.kp K1) (by omega) (by simp)) fun v h2 ⟨hv, hh⟩ => ?_
  subst hv
  subst hh
  simp (maxSteps := 1000000) (disch := first | assumption | ((try simp only [push_next, put_next, adv_next, List.length_cons, List.length_nil, List.length_map, List.length_set]); omega) | simp) [e0, e5, e6, e7, g2]
  refine hk _ ?_ ?_ ?_ ?_ ?_ ?_ ?_ _ ⟨⟨fp, fr, fo, P1⟩, A.on, A.n0'⟩ K1 <;> simp
/-- What is due, the timer's side. -/
theorem sdev {Q : Ex → Env → Hp → Prop} {e : Env} {F : List Fr} (hd : dv = 1 ∨ dv = 2) (P : SW g h dv n0 x fp fr fo X Y) (on : Only dv X) (hnow : now ≤ 2 ^ 60) (e5 : e 5 = ptr n0 0) (e6 : e 6 = ptr (n0 + 1) 0) (e8 : e 8 = .int .i64 now) (e17 : e 17 = .int .i64 0)
    (hk : ∀ e' : Env, e' 0 = e 0 → e' 1 = e 1 → e' 5 = e 5 → e' 6 = e 6 → e' 7 = e 7 → e' 8 = e 8 → e' 9 = e 9 → ∀ h' fp', SW g h' dv n0 x fp' fr fo (X.due 30 now).2 Y → Only dv (X.due 30 now).2 → GR T Q F .n e' h') : G T Q (.loop c3_pianolalaw11_play) (Fr.block 3 :: F) e h := by
  refine G_loop (fun k e1 h1 => ∃ (n : Nat) (X' : BS) (fp' : List Nat), k = 30 - n ∧ n ≤ 30 ∧ e1 0 = e 0 ∧ e1 1 = e 1 ∧ e1 5 = e 5 ∧ e1 6 = e 6 ∧ e1 7 = e 7 ∧ e1 8 = e 8 ∧ e1 9 = e 9 ∧ e1 17 = .int .i64 n ∧ SW g h1 dv n0 x fp' fr fo X' Y ∧ Only dv X' ∧ (X'.due (30 - n) now).2 = (X.due 30 now).2) ?_ 30 _ _ ⟨0, X, fp, rfl, by omega, rfl, rfl, rfl, rfl, rfl, rfl, rfl, e17, P, on, rfl⟩
  clear P on
  rintro k ih e1 h1 ⟨n, X', fp1, rfl, hn3, f0, f1, f5, f6, f7, f8, f9, f17, P, on, hdu⟩
  rw [e5] at f5
  rw [e6] at f6
  rw [e8] at f8
  by_cases hn : n < 30
  · have hni : (n : Int) < 30 := by omega
    obtain ⟨k, hk30⟩ : ∃ k, 30 - n = k + 1 := ⟨29 - n, by omega⟩
    have hkn : 30 - (n + 1) = k := by omega
    simp (maxSteps := 1000000) (disch := first | assumption | ((try simp only [push_next, put_next, adv_next, List.length_cons, List.length_nil, List.length_map, List.length_set]); omega) | simp) [f5, f6, f8, f17, hni]
    refine P.ku.take (fun hno h2 K2 => ?_) fun ev B hL ht h2 fp2 k2 U2 => ?_
    · have P2 := P.more (K2.push (.cells false [.int .i64 0, .int .i64 0, .int .i64 0]))
      rw [due_none hno] at hdu
      simp only at hdu
      rw [hdu] at P2 on
      simp (maxSteps := 1000000) (disch := first | assumption | ((try simp only [push_next, put_next, adv_next, List.length_cons, List.length_nil, List.length_map, List.length_set]); omega) | simp) [f5, f6, f8, f17]
      refine hk _ ?_ ?_ ?_ ?_ ?_ ?_ ?_ _ _ P2 on <;> simp [f0, f1, f5, f6, f7, f8, f9, e5, e6, e8]
    · have pos : 0 ≤ ev.at' := P.ku.wh.wi.pos ev (by rw [hL]; simp)
      have hdv : ev.dev = dv := on ev (by rw [hL]; simp)
      rw [hk30, due_some hL ht, hdv] at hdu
      have P2 := P.dev k2 U2
      simp (maxSteps := 1000000) (disch := first | assumption | ((try simp only [push_next, put_next, adv_next, List.length_cons, List.length_nil, List.length_map, List.length_set]); omega) | simp) [f5, f6, f8, f17, Hp.rdn]
      have P3 := P2.more ((Kp.refl h2).push (.cells false [.int .i64 ev.at', .int .i64 ev.dev, .int .i64 ev.seq]))
      generalize h2.push (.cells false [.int .i64 ev.at', .int .i64 ev.dev, .int .i64 ev.seq]) = h3 at *
      refine P3.ku.fire hd (t := ev.at') ⟨pos, by omega⟩ fun h4 fp4 k4 U4 => ?_
      have P4 := P3.dev k4 U4
      simp (maxSteps := 1000000) (disch := first | assumption | ((try simp only [push_next, put_next, adv_next, List.length_cons, List.length_nil, List.length_map, List.length_set]); omega) | simp) [f5, f6, f8, f17]
      exact ih (30 - (n + 1)) (by omega) _ _ ⟨n + 1, _, _, rfl, by omega, by simp [f0], by simp [f1], by simp [f5, e5], by simp [f6, e6], by simp [f7], by simp [f8, e8], by simp [f9], by simp, P4, Only.fire hd (Only.tail on hL), by rw [hkn]; exact hdu⟩
  · have : n = 30 := by omega
    subst this
    have hX : X' = (X.due 30 now).2 := hdu
    rw [hX] at P on
    simp (maxSteps := 1000000) (disch := first | assumption | ((try simp only [push_next, put_next, adv_next, List.length_cons, List.length_nil, List.length_map, List.length_set]); omega) | simp) [f17]
    refine hk _ ?_ ?_ ?_ ?_ ?_ ?_ ?_ _ _ P on <;> simp [f0, f1, f5, f6, f7, f8, f9, e5, e6, e8]
/-- What is due, the document's side. -/
theorem sref {Q : Ex → Env → Hp → Prop} {e : Env} {F : List Fr} (P : SW g h dv n0 x fp fr fo X Y) (hnow : now ≤ 2 ^ 60) (e7 : e 7 = ptr (x + 4) 0) (e8 : e 8 = .int .i64 now) (e20 : e 20 = .int .i64 0)
    (hk : ∀ e' : Env, e' 0 = e 0 → e' 1 = e 1 → e' 5 = e 5 → e' 6 = e 6 → e' 7 = e 7 → e' 8 = e 8 → e' 9 = e 9 → ∀ h' fr' fo', SW g h' dv n0 x fp fr' fo' X (Y.due 30 now).2 → GR T Q F .n e' h') : G T Q (.loop c5_pianolalaw11_play) (Fr.block 5 :: F) e h := by
  refine G_loop (fun k e1 h1 => ∃ (n : Nat) (Y' : BS) (fr' fo' : List Nat), k = 30 - n ∧ n ≤ 30 ∧ e1 0 = e 0 ∧ e1 1 = e 1 ∧ e1 5 = e 5 ∧ e1 6 = e 6 ∧ e1 7 = e 7 ∧ e1 8 = e 8 ∧ e1 9 = e 9 ∧ e1 20 = .int .i64 n ∧ SW g h1 dv n0 x fp fr' fo' X Y' ∧ (Y'.due (30 - n) now).2 = (Y.due 30 now).2) ?_ 30 _ _ ⟨0, Y, fr, fo, rfl, by omega, rfl, rfl, rfl, rfl, rfl, rfl, rfl, e20, P, rfl⟩
  clear P
  rintro k ih e1 h1 ⟨n, Y', fr1, fo1, rfl, hn3, f0, f1, f5, f6, f7, f8, f9, f20, P, hdu⟩
  rw [e7] at f7
  rw [e8] at f8
  by_cases hn : n < 30
  · have hni : (n : Int) < 30 := by omega
    obtain ⟨k, hk30⟩ : ∃ k, 30 - n = k + 1 := ⟨29 - n, by omega⟩
    have hkn : 30 - (n + 1) = k := by omega
    obtain ⟨vL, vi, vo, vu, S⟩ := P.rw'.bs
    have g1 := S.g
    simp only [rcl, rrest] at g1
    simp (maxSteps := 1000000) (disch := first | assumption | ((try simp only [push_next, put_next, adv_next, List.length_cons, List.length_nil, List.length_map, List.length_set]); omega) | simp) [f7, f8, f20, hni, g1]
    refine P.rw'.take (fun hno h2 K2 => ?_) fun ev B hL ht h2 nw k2 U2 => ?_
    · have P2 := P.more (K2.push (.cells false [.int .i64 0, .int .i64 0, .int .i64 0]))
      rw [due_none hno] at hdu
      simp only at hdu
      simp (maxSteps := 1000000) (disch := first | assumption | ((try simp only [push_next, put_next, adv_next, List.length_cons, List.length_nil, List.length_map, List.length_set]); omega) | simp) [f7, f8, f20]
      exact ih (30 - (n + 1)) (by omega) _ _ ⟨n + 1, _, _, _, rfl, by omega, by simp [f0], by simp [f1], by simp [f5], by simp [f6], by simp [f7, e7], by simp [f8, e8], by simp [f9], by simp, P2, by rw [due_none hno]; exact hdu⟩
    · have pos : 0 ≤ ev.at' := P.rw'.wi.pos ev (by rw [hL]; simp)
      rw [hk30, due_some hL ht] at hdu
      have P2 := P.ref k2 U2
      simp (maxSteps := 1000000) (disch := first | assumption | ((try simp only [push_next, put_next, adv_next, List.length_cons, List.length_nil, List.length_map, List.length_set]); omega) | simp) [f7, f8, f20, Hp.rdn]
      have P3 := P2.more ((Kp.refl h2).push (.cells false [.int .i64 ev.at', .int .i64 ev.dev, .int .i64 ev.seq]))
      generalize h2.push (.cells false [.int .i64 ev.at', .int .i64 ev.dev, .int .i64 ev.seq]) = h3 at *
      refine zb P3.rw' ⟨pos, by omega⟩ fun h4 fr4 fo4 k4 U4 => ?_
      have P4 := P3.ref k4 U4
      simp (maxSteps := 1000000) (disch := first | assumption | ((try simp only [push_next, put_next, adv_next, List.length_cons, List.length_nil, List.length_map, List.length_set]); omega) | simp) [f7, f8, f20]
      exact ih (30 - (n + 1)) (by omega) _ _ ⟨n + 1, _, _, _, rfl, by omega, by simp [f0], by simp [f1], by simp [f5], by simp [f6], by simp [f7, e7], by simp [f8, e8], by simp [f9], by simp, P4, by rw [hkn]; exact hdu⟩
  · have : n = 30 := by omega
    subst this
    have hX : Y' = (Y.due 30 now).2 := hdu
    rw [hX] at P
    simp (maxSteps := 1000000) (disch := first | assumption | ((try simp only [push_next, put_next, adv_next, List.length_cons, List.length_nil, List.length_map, List.length_set]); omega) | simp) [f20]
    refine hk _ ?_ ?_ ?_ ?_ ?_ ?_ ?_ _ _ _ P <;> simp [f0, f1, f5, f6, f7, f8, f9, e7, e8]
/-- One call. -/
theorem ssw {y : AskS} {Q : Ex → Env → Hp → Prop} {e : Env} {F : List Fr} {p : Nat} {k v : BitVec 32} (hd : dv = 1 ∨ dv = 2) (A : SP g h dv n0 x now X) (hnow : now ≤ 2 ^ 59) (hp : h.get p = some (.cells false [.int .i64 y.k, .int .i64 y.j, u32 y.v, .int .i64 y.t, u8 y.b])) (e0 : e 0 = .int .i64 dv) (e5 : e 5 = ptr n0 0) (e6 : e 6 = ptr (n0 + 1) 0) (e7 : e 7 = ptr (x + 4) 0) (e8 : e 8 = .int .i64 now) (e10 : e 10 = ptr p 0) (e11 : e 11 = u32 k) (e12 : e 12 = u32 v) (hk64 : k.toNat < 64)
    (hk : ∀ (X' : BS) (now' : Int) (e' : Env), e' 0 = e 0 → e' 1 = e 1 → e' 5 = e 5 → e' 6 = e 6 → e' 7 = e 7 → e' 8 = .int .i64 now' → e' 9 = e 9 → now' ≤ now + 20 → ∀ h', SP g h' dv n0 x now' X' → GR T Q F .n e' h') :
    GR T Q (Fr.seq (.seq (.seq (.ops [⟨some 61, none, .fa 0 (.t 10)⟩, ⟨some 62, none, .ld (.t 61)⟩]) (.block 2 (.seq (.ops [⟨some 76, none, .bin .eql (.t 62) (.c (.int .i64 2))⟩, ⟨some 75, none, .mov (.t 76)⟩]) c9_pianolalaw11_play))) c10_pianolalaw11_play) :: F) .n e h := by
  obtain ⟨fp, fr, fo, P⟩ := A.pw
  have hp0 := A.n0'
  have hd6 : 0 ≤ dv ∧ dv ≤ 5 := by omega
  have tail : ∀ (X' : BS) (now' : Int) (e' : Env) (h' : Hp), e' 0 = e 0 → e' 1 = e 1 → e' 5 = e 5 → e' 6 = e 6 → e' 7 = e 7 → e' 8 = .int .i64 now' → e' 9 = e 9 → now' ≤ now + 20 → SP g h' dv n0 x now' X' → G T Q c10_pianolalaw11_play F e' h' := fun X' now' e' h' f0 f1 f5 f6 f7 f8 f9 hn A' => by
    refine stail hd A' (f0.trans e0) (f5.trans e5) (f6.trans e6) (f7.trans e7) fun e2 i0 i1 i5 i6 i7 i8 i9 h2 A2 K2 => hk X' now' e2 (i0.trans f0) (i1.trans f1) (i5.trans f5) (i6.trans f6) (i7.trans f7) (i8.trans f8) (i9.trans f9) hn h2 A2
  obtain ⟨hrd, hwk, hrs⟩ := rd_tm (X := X) (a := k) (now := now) hd
  by_cases k2 : y.k = 2
  · have hr := fun q => mread (q := q) (a := k) P.ku.dk
    simp (maxSteps := 1000000) (disch := first | assumption | ((try simp only [push_next, put_next, adv_next, List.length_cons, List.length_nil, List.length_map, List.length_set]); omega) | simp) [e10, hp, k2, e6, e11, GC_of hr, -g10_pianolalaw11_play]
    simp (maxSteps := 1000000) (disch := first | assumption | ((try simp only [push_next, put_next, adv_next, List.length_cons, List.length_nil, List.length_map, List.length_set]); omega) | simp) [e0, e7, e8, e11, -g10_pianolalaw11_play]
    refine zword P.rw' hd6 ⟨hp0, by omega⟩ fun h1 fr1 k1 U1 => ?_
    have P1 := P.ref (k1.cast hrs) U1
    rw [hrd, hwk]
    simp (maxSteps := 1000000) (disch := first | assumption | ((try simp only [push_next, put_next, adv_next, List.length_cons, List.length_nil, List.length_map, List.length_set]); omega) | simp) [-g10_pianolalaw11_play]
    exact tail X now _ h1 (by simp) (by simp) (by simp) (by simp) (by simp) (by simp [e8]) (by simp) (by omega) ⟨⟨_, _, _, P1⟩, A.on, hp0⟩
  by_cases k3 : y.k = 3
  · simp (maxSteps := 1000000) (disch := first | assumption | ((try simp only [push_next, put_next, adv_next, List.length_cons, List.length_nil, List.length_map, List.length_set]); omega) | simp) [e10, hp, k3, -g10_pianolalaw11_play, -g3_pianolalaw11_play, -g5_pianolalaw11_play]
    refine sdev (now := now) hd P A.on (by omega) (by simp [e5]) (by simp [e6]) (by simp [e8]) (by simp) fun e' f0 f1 f5 f6 f7 f8 f9 h' fp' P' on' => ?_
    simp (maxSteps := 1000000) (disch := first | assumption | ((try simp only [push_next, put_next, adv_next, List.length_cons, List.length_nil, List.length_map, List.length_set]); omega) | simp) [-g10_pianolalaw11_play, -g5_pianolalaw11_play]
    refine sref (now := now) P' (by omega) (by simp [f7, e7]) (by simp [f8, e8]) (by simp) fun e2 j0 j1 j5 j6 j7 j8 j9 h2 fr2 fo2 P2 => ?_
    simp (maxSteps := 1000000) (disch := first | assumption | ((try simp only [push_next, put_next, adv_next, List.length_cons, List.length_nil, List.length_map, List.length_set]); omega) | simp) [-g10_pianolalaw11_play]
    exact tail _ now e2 h2 (by simp [j0, f0]) (by simp [j1, f1]) (by simp [j5, f5]) (by simp [j6, f6]) (by simp [j7, f7]) (by simp [j8, f8, e8]) (by simp [j9, f9]) (by omega) ⟨⟨_, _, _, P2⟩, on', hp0⟩
  by_cases k4 : y.k = 4
  · have hw := fun q => within_eq (h := h) (q := q) (n := y.t) (lo := 0) (hi := 20) (by omega) (by omega) (by omega)
    have hwb := wi_bound (n := y.t) (show (0 : Int) ≤ 20 by omega)
    generalize wi y.t 0 20 = dt at *
    have hwr : IntKind.i64.wrap (now + dt) = now + dt := wrap_i64 (by omega) (by omega)
    simp (maxSteps := 1000000) (disch := first | assumption | ((try simp only [push_next, put_next, adv_next, List.length_cons, List.length_nil, List.length_map, List.length_set]); omega) | simp) [e10, hp, k4, e8, GC_of hw, hwr, -g10_pianolalaw11_play]
    exact tail X (now + dt) _ h (by simp) (by simp) (by simp) (by simp) (by simp) (by simp) (by simp) (by omega) ⟨A.pw, A.on, by omega⟩
  simp (maxSteps := 1000000) (disch := first | assumption | ((try simp only [push_next, put_next, adv_next, List.length_cons, List.length_nil, List.length_map, List.length_set]); omega) | simp) [e10, hp, k2, k3, k4, e6, e11, e12, e8, -g10_pianolalaw11_play]
  refine P.ku.wr hd ⟨hp0, by omega⟩ fun h1 fp1 k1 U1 => ?_
  have P1 := P.dev k1 U1
  simp (maxSteps := 1000000) (disch := first | assumption | ((try simp only [push_next, put_next, adv_next, List.length_cons, List.length_nil, List.length_map, List.length_set]); omega) | simp) [e0, e7, e8, e11, e12, -g10_pianolalaw11_play]
  refine zset P1.rw' hd6 hk64 ⟨hp0, by omega⟩ fun h2 fr2 k2' U2 => ?_
  have P2 := P1.ref k2' U2
  rw [hwk]
  simp (maxSteps := 1000000) (disch := first | assumption | ((try simp only [push_next, put_next, adv_next, List.length_cons, List.length_nil, List.length_map, List.length_set]); omega) | simp) [-g10_pianolalaw11_play]
  exact tail _ now _ h2 (by simp) (by simp) (by simp) (by simp) (by simp) (by simp [e8]) (by simp) (by omega) ⟨⟨_, _, _, P2⟩, Only.wr hd A.on, hp0⟩
theorem sstep {y : AskS} {Q : Ex → Env → Hp → Prop} {e : Env} {F : List Fr} {p : Nat} (hd : dv = 1 ∨ dv = 2) (A : SP g h dv n0 x now X) (hnow : now ≤ 2 ^ 59) (hp : h.get p = some (.cells false [.int .i64 y.k, .int .i64 y.j, u32 y.v, .int .i64 y.t, u8 y.b])) (e0 : e 0 = .int .i64 dv) (e5 : e 5 = ptr n0 0) (e6 : e 6 = ptr (n0 + 1) 0) (e7 : e 7 = ptr (x + 4) 0) (e8 : e 8 = .int .i64 now) (e10 : e 10 = ptr p 0)
    (hk : ∀ (X' : BS) (now' : Int) (e' : Env), e' 0 = e 0 → e' 1 = e 1 → e' 5 = e 5 → e' 6 = e 6 → e' 7 = e 7 → e' 8 = .int .i64 now' → e' 9 = e 9 → now' ≤ now + 20 → ∀ h', SP g h' dv n0 x now' X' → GR T Q F .n e' h') : G T Q c12_pianolalaw11_play F e h := by
  obtain ⟨m, hm⟩ : ∃ m, m = wi y.j 0 4 := ⟨_, rfl⟩
  have hmb := wi_bound (n := y.j) (show (0 : Int) ≤ 4 by omega)
  rw [← hm] at hmb
  have hw := fun q => within_eq (h := h) (q := q) (n := y.j) (lo := 0) (hi := 4) (by omega) (by omega) (by omega)
  rw [← hm] at hw
  obtain ⟨k, hkk, hk64⟩ : ∃ k : BitVec 32, BitVec.ofInt 32 m * 4#32 = k ∧ k.toNat < 64 := by
    rcases (by omega : m = 0 ∨ m = 1 ∨ m = 2 ∨ m = 3 ∨ m = 4) with rfl | rfl | rfl | rfl | rfl <;> exact ⟨_, rfl, by decide⟩
  simp (maxSteps := 1000000) (disch := first | assumption | ((try simp only [push_next, put_next, adv_next, List.length_cons, List.length_nil, List.length_map, List.length_set]); omega) | simp) [e10, hp, GC_of hw, hkk, -g11_pianolalaw11_play]
  rw [g11_pianolalaw11_play]
  simp only [G_seq, G_ops]
  have main : ∀ (v : BitVec 32) (e1 : Env), e1 0 = e 0 → e1 1 = e 1 → e1 5 = e 5 → e1 6 = e 6 → e1 7 = e 7 → e1 8 = e 8 → e1 9 = e 9 → e1 10 = e 10 → e1 11 = u32 k → e1 12 = u32 v → GR T Q (Fr.seq (.seq (.seq (.ops [⟨some 61, none, .fa 0 (.t 10)⟩, ⟨some 62, none, .ld (.t 61)⟩]) (.block 2 (.seq (.ops [⟨some 76, none, .bin .eql (.t 62) (.c (.int .i64 2))⟩, ⟨some 75, none, .mov (.t 76)⟩]) c9_pianolalaw11_play))) c10_pianolalaw11_play) :: F) .n e1 h := fun v e1 f0 f1 f5 f6 f7 f8 f9 f10 f11 f12 =>
    ssw (y := y) hd A hnow hp (f0.trans e0) (f5.trans e5) (f6.trans e6) (f7.trans e7) (f8.trans e8) (f10.trans e10) f11 f12 hk64 fun X' now' e' i0 i1 i5 i6 i7 i8 i9 hn h' A' => hk X' now' e' (i0.trans f0) (i1.trans f1) (i5.trans f5) (i6.trans f6) (i7.trans f7) i8 (i9.trans f9) hn h' A'
  generalize (Fr.seq (.seq (.seq (.ops [⟨some 61, none, .fa 0 (.t 10)⟩, ⟨some 62, none, .ld (.t 61)⟩]) (.block 2 (.seq (.ops [⟨some 76, none, .bin .eql (.t 62) (.c (.int .i64 2))⟩, ⟨some 75, none, .mov (.t 76)⟩]) c9_pianolalaw11_play))) c10_pianolalaw11_play) :: F) = F1 at main ⊢
  by_cases hj : y.j.tmod 3 = 0
  · simp (maxSteps := 1000000) (disch := first | assumption | ((try simp only [push_next, put_next, adv_next, List.length_cons, List.length_nil, List.length_map, List.length_set]); omega) | simp) [e10, hp, hj]
    exact main y.v _ (by simp) (by simp) (by simp) (by simp) (by simp) (by simp) (by simp) (by simp) (by simp) (by simp)
  · simp (maxSteps := 1000000) (disch := first | assumption | ((try simp only [push_next, put_next, adv_next, List.length_cons, List.length_nil, List.length_map, List.length_set]); omega) | simp) [e10, hp, hj]
    exact main _ _ (by simp) (by simp) (by simp) (by simp) (by simp) (by simp) (by simp) (by simp) (by simp) (by simp; rfl)
end
end Go.Proofs.Ytppgoobhlcdbbaa.Cd

/- A timer: what each function does. -/
set_option maxRecDepth 1000000
set_option linter.unusedSimpArgs false
set_option linter.unusedVariables false
namespace Go.Proofs.Ytppgoobhlcdbbaa.Cd
open Go Go.Dx
/-- A timer in memory. -/
def Tm (h : Hp) (t w : Nat) (d : Int) (c p s : BitVec 32) : Prop := h.get t = some (.cells false [.int .i64 d, ptr w 0, u32 c, u32 p, u32 s])
/-- A timer and its wheel. -/
structure TW (g h : Hp) (t w : Nat) (d : Int) (c p s : BitVec 32) (L : List Ev) (q : Int) (fp : List Nat) : Prop where
  tm : Tm h t w d c p s
  wh : Wh h w L q fp
  wi : WI L
  off : t ∉ w :: fp
  kp : Kp g h
  gf : ∀ b ∈ w :: fp, g.next ≤ b
  gt : g.next ≤ t
section
variable {g h : Hp} {q : Value → Hp → Prop} {t w : Nat} {d now n : Int} {c p s : BitVec 32} {L : List Ev} {fp : List Nat}
theorem tline (M : Tm h t w d c p s) : WC T n_timer_Timer_Line [ptr t 0] h q ↔ q (.bool (s != 0#32)) h := by
  unfold Tm at M
  rw [w_timer_Timer_Line]
  simp (maxSteps := 1000000) (disch := first | assumption | ((try simp only [push_next, put_next, adv_next, List.length_cons, List.length_nil, List.length_map, List.length_set]); omega) | simp) [M]
/-- A period, one at least. -/
def per (p : BitVec 32) : Int := ((if 1#32 < p then p else 1#32).toNat : Int)
theorem per_pos (p : BitVec 32) : 1 ≤ per p ∧ per p < 4294967296 := by
  unfold per
  split
  · rename_i h
    have h1 := BitVec.lt_def.1 h
    have h2 := p.isLt
    simp at h1
    omega
  · decide
theorem TW.arm {L' : List Ev} {n' : Int} {fp' : List Nat} {h' : Hp} (X : TW g h t w d c p s L n fp) (W : Wh h' w L' n' fp') (U : Upd h h' (w :: fp) (w :: fp')) (I : WI L') : TW g h' t w d c p s L' n' fp' := by
  obtain ⟨f1, K1⟩ := fpUp X.gf X.kp U
  have M := X.tm
  unfold Tm at M
  have hl := lt_of_get M
  refine ⟨by unfold Tm; rw [U.get t hl X.off, M], W, I, fun hc => ?_, K1, f1, X.gt⟩
  rcases U.sub t hc with h5 | h5
  · exact X.off h5
  · omega
theorem TW.more {h' : Hp} (X : TW g h t w d c p s L n fp) (K : Kp h h') : TW g h' t w d c p s L n fp := by
  have M := X.tm
  unfold Tm at M
  exact ⟨by unfold Tm; rw [K.get t (lt_of_get M), M], X.wh.kp K, X.wi, X.off, X.kp.trans K, X.gf, X.gt⟩
theorem TW.put {c' p' s' : BitVec 32} (X : TW g h t w d c p s L n fp) : TW g (h.put t (some (.cells false [.int .i64 d, ptr w 0, u32 c', u32 p', u32 s']))) t w d c' p' s' L n fp := by
  have M := X.tm
  unfold Tm at M
  exact ⟨by unfold Tm; rw [get_put_self (lt_of_get M)], X.wh.keep fun b hb => get_put_ne fun e => X.off (e ▸ hb), X.wi, X.off, X.kp.put X.gt _, X.gf, X.gt⟩
theorem tarm (X : TW g h t w d c p s L n fp) (hd : 0 ≤ d ∧ d < 16) (hn : 0 ≤ now ∧ now ≤ 2 ^ 60)
    (hq : ∀ h' fp', TW g h' t w d c p s (insl (·.at') ⟨now + per p, d, n⟩ (wcan d L)) (IntKind.i64.wrap (n + 1)) fp' → q (.tuple #[]) h') : WC T n_timer_Timer_arm [ptr t 0, .int .i64 now] h q := by
  have M := X.tm
  unfold Tm at M
  obtain ⟨p1, p2⟩ := per_pos p
  have hw : IntKind.i64.wrap (now + per p) = now + per p := wrap_i64 (by omega) (by omega)
  have hw' : IntKind.i64.wrap (now + ((if 1#32 < p then p else 1#32).toNat : Int)) = now + per p := hw
  rw [w_timer_Timer_arm]
  simp (maxSteps := 1000000) (disch := first | assumption | ((try simp only [push_next, put_next, adv_next, List.length_cons, List.length_nil, List.length_map, List.length_set]); omega) | simp) [M, hw']
  refine warmI X.wh X.wi (fun hb => ?_) fun _ h1 fp1 I1 W1 U1 => ?_
  · simp [wbad] at hb
    omega
  · simp (maxSteps := 1000000) (disch := first | assumption | ((try simp only [push_next, put_next, adv_next, List.length_cons, List.length_nil, List.length_map, List.length_set]); omega) | simp)
    exact hq _ _ (X.arm W1 U1 I1)
theorem tnew (hw : w < h.next) : WC T n_timer_New [.int .i64 d, ptr w 0] h q ↔ q (ptr h.next 0) (h.push (.cells false [.int .i64 d, ptr w 0, u32 0#32, u32 0#32, u32 0#32])) := by
  rw [w_timer_New]
  simp (maxSteps := 1000000) (disch := first | assumption | ((try simp only [push_next, put_next, adv_next, List.length_cons, List.length_nil, List.length_map, List.length_set]); omega) | simp)
theorem tnew_nil : WC T n_timer_New [.int .i64 d, .pointer none] h q ↔ q (.pointer none) h := by
  rw [w_timer_New]
  simp (maxSteps := 1000000) (disch := first | assumption | ((try simp only [push_next, put_next, adv_next, List.length_cons, List.length_nil, List.length_map, List.length_set]); omega) | simp)
/-- What the word at an address tells. -/
def trd (c p s a : BitVec 32) : BitVec 32 := if a = 0#32 then c else if a = 4#32 then p else if a = 8#32 then s else 0#32
def tat (a : BitVec 32) : Bool := a == 0#32 || a == 4#32 || a == 8#32
theorem tread {a : BitVec 32} (M : Tm h t w d c p s) : WC T n_timer_Timer_Read [ptr t 0, u32 a] h q ↔ q (.tuple #[u32 (trd c p s a), .bool (tat a)]) h := by
  unfold Tm at M
  rw [w_timer_Timer_Read]
  by_cases a0 : a = 0#32
  · simp (maxSteps := 1000000) (disch := first | assumption | ((try simp only [push_next, put_next, adv_next, List.length_cons, List.length_nil, List.length_map, List.length_set]); omega) | simp) [M, a0, trd, tat]
  by_cases a4 : a = 4#32
  · simp (maxSteps := 1000000) (disch := first | assumption | ((try simp only [push_next, put_next, adv_next, List.length_cons, List.length_nil, List.length_map, List.length_set]); omega) | simp) [M, a4, trd, tat]
  by_cases a8 : a = 8#32
  · simp (maxSteps := 1000000) (disch := first | assumption | ((try simp only [push_next, put_next, adv_next, List.length_cons, List.length_nil, List.length_map, List.length_set]); omega) | simp) [M, a8, trd, tat]
  have b0 : (a == 0#32) = false := by simpa using a0
  have b4 : (a == 4#32) = false := by simpa using a4
  have b8 : (a == 8#32) = false := by simpa using a8
  simp (maxSteps := 1000000) (disch := first | assumption | ((try simp only [push_next, put_next, adv_next, List.length_cons, List.length_nil, List.length_map, List.length_set]); omega) | simp) [M, a0, a4, a8, b0, b4, b8, trd, tat]
theorem twrite {a v : BitVec 32} (X : TW g h t w d c p s L n fp) (hd : 0 ≤ d ∧ d < 16) (hn : 0 ≤ now ∧ now ≤ 2 ^ 60)
    (hq : ∀ c' p' s' L' n' h' fp', TW g h' t w d c' p' s' L' n' fp' →
      (a = 0#32 → c' = v &&& 3#32 ∧ p' = p ∧ s' = s ∧ (v &&& 1#32 ≠ 0#32 → L' = insl (·.at') ⟨now + per p, d, n⟩ (wcan d L) ∧ n' = IntKind.i64.wrap (n + 1)) ∧ (v &&& 1#32 = 0#32 → L' = wcan d L ∧ n' = n)) →
      (a = 4#32 → c' = c ∧ p' = v ∧ s' = s ∧ L' = L ∧ n' = n) → (a = 8#32 → c' = c ∧ p' = p ∧ s' = (if v &&& 1#32 = 0#32 then s else 0#32) ∧ L' = L ∧ n' = n) → (tat a = false → c' = c ∧ p' = p ∧ s' = s ∧ L' = L ∧ n' = n) →
      q (.bool (tat a)) h') : WC T n_timer_Timer_Write [ptr t 0, u32 a, u32 v, .int .i64 now] h q := by
  have M := X.tm
  unfold Tm at M
  have hl := lt_of_get M
  rw [w_timer_Timer_Write]
  by_cases a0 : a = 0#32
  · subst a0
    by_cases v1 : v &&& 1#32 = 0#32
    · have X1 := X.put (c' := v &&& 3#32) (p' := p) (s' := s)
      have M1 := X1.tm
      unfold Tm at M1
      simp (maxSteps := 1000000) (disch := first | assumption | ((try simp only [push_next, put_next, adv_next, List.length_cons, List.length_nil, List.length_map, List.length_set]); omega) | simp) [M, v1]
      have hlen := X.wi.len
      refine wcancel X1.wh (by omega) fun h1 fp1 W1 U1 => ?_
      simp (maxSteps := 1000000) (disch := first | assumption | ((try simp only [push_next, put_next, adv_next, List.length_cons, List.length_nil, List.length_map, List.length_set]); omega) | simp)
      refine hq _ _ _ _ _ _ _ (X1.arm W1 U1 (X.wi.can d)) (fun _ => ⟨rfl, rfl, rfl, fun hne => absurd v1 hne, fun _ => ⟨rfl, rfl⟩⟩) (fun h => by simp at h) (fun h => by simp at h) (fun h => by simp [tat] at h)
    · have X1 := X.put (c' := v &&& 3#32) (p' := p) (s' := s)
      simp (maxSteps := 1000000) (disch := first | assumption | ((try simp only [push_next, put_next, adv_next, List.length_cons, List.length_nil, List.length_map, List.length_set]); omega) | simp) [M, v1]
      refine tarm X1 hd hn fun h1 fp1 X2 => ?_
      simp (maxSteps := 1000000) (disch := first | assumption | ((try simp only [push_next, put_next, adv_next, List.length_cons, List.length_nil, List.length_map, List.length_set]); omega) | simp)
      refine hq _ _ _ _ _ _ _ X2 (fun _ => ⟨rfl, rfl, rfl, fun _ => ⟨rfl, rfl⟩, fun he => absurd he v1⟩) (fun h => by simp at h) (fun h => by simp at h) (fun h => by simp [tat] at h)
  by_cases a4 : a = 4#32
  · subst a4
    simp (maxSteps := 1000000) (disch := first | assumption | ((try simp only [push_next, put_next, adv_next, List.length_cons, List.length_nil, List.length_map, List.length_set]); omega) | simp) [M]
    exact hq _ _ _ _ _ _ _ (X.put (c' := c) (p' := v) (s' := s)) (fun h => by simp at h) (fun _ => ⟨rfl, rfl, rfl, rfl, rfl⟩) (fun h => by simp at h) (fun h => by simp [tat] at h)
  by_cases a8 : a = 8#32
  · subst a8
    by_cases v1 : v &&& 1#32 = 0#32
    · simp (maxSteps := 1000000) (disch := first | assumption | ((try simp only [push_next, put_next, adv_next, List.length_cons, List.length_nil, List.length_map, List.length_set]); omega) | simp) [M, v1]
      exact hq _ _ _ _ _ _ _ X (fun h => by simp at h) (fun h => by simp at h) (fun _ => ⟨rfl, rfl, by rw [if_pos v1], rfl, rfl⟩) (fun h => by simp [tat] at h)
    · simp (maxSteps := 1000000) (disch := first | assumption | ((try simp only [push_next, put_next, adv_next, List.length_cons, List.length_nil, List.length_map, List.length_set]); omega) | simp) [M, v1]
      exact hq _ _ _ _ _ _ _ (X.put (c' := c) (p' := p) (s' := 0#32)) (fun h => by simp at h) (fun h => by simp at h) (fun _ => ⟨rfl, rfl, by rw [if_neg v1], rfl, rfl⟩) (fun h => by simp [tat] at h)
  have b0 : (a == 0#32) = false := by simpa using a0
  have b4 : (a == 4#32) = false := by simpa using a4
  have b8 : (a == 8#32) = false := by simpa using a8
  have ht : tat a = false := by simp [tat, b0, b4, b8]
  have h9 := hq c p s L n h fp X (fun h => absurd h a0) (fun h => absurd h a4) (fun h => absurd h a8) (fun _ => ⟨rfl, rfl, rfl, rfl, rfl⟩)
  rw [ht] at h9
  simp (maxSteps := 1000000) (disch := first | assumption | ((try simp only [push_next, put_next, adv_next, List.length_cons, List.length_nil, List.length_map, List.length_set]); omega) | simp) [M, a0, a4, a8, b0, b4, b8]
  exact h9
theorem tfire (X : TW g h t w d c p s L n fp) (hd : 0 ≤ d ∧ d < 16) (hn : 0 ≤ now ∧ now ≤ 2 ^ 60)
    (hq : ∀ c' L' n' h' fp', TW g h' t w d c' p 1#32 L' n' fp' → (c &&& 2#32 ≠ 0#32 → c' = c ∧ L' = insl (·.at') ⟨now + per p, d, n⟩ (wcan d L) ∧ n' = IntKind.i64.wrap (n + 1)) → (c &&& 2#32 = 0#32 → c' = c &&& ~~~ 1#32 ∧ L' = L ∧ n' = n) → q (.tuple #[]) h') :
    WC T n_timer_Timer_Fire [ptr t 0, .int .i64 now] h q := by
  have M := X.tm
  unfold Tm at M
  have hl := lt_of_get M
  rw [w_timer_Timer_Fire]
  by_cases c2 : c &&& 2#32 = 0#32
  · simp (maxSteps := 1000000) (disch := first | assumption | ((try simp only [push_next, put_next, adv_next, List.length_cons, List.length_nil, List.length_map, List.length_set]); omega) | simp) [M, c2]
    exact hq _ _ _ _ _ (X.put (c' := c &&& ~~~ 1#32) (p' := p) (s' := 1#32)) (fun h => absurd c2 h) (fun _ => ⟨rfl, rfl, rfl⟩)
  · have X1 := X.put (c' := c) (p' := p) (s' := 1#32)
    simp (maxSteps := 1000000) (disch := first | assumption | ((try simp only [push_next, put_next, adv_next, List.length_cons, List.length_nil, List.length_map, List.length_set]); omega) | simp) [M, c2]
    refine tarm X1 hd hn fun h1 fp1 X2 => ?_
    simp (maxSteps := 1000000) (disch := first | assumption | ((try simp only [push_next, put_next, adv_next, List.length_cons, List.length_nil, List.length_map, List.length_set]); omega) | simp)
    exact hq _ _ _ _ _ X2 (fun _ => ⟨rfl, rfl, rfl⟩) (fun h => absurd h c2)
end
end Go.Proofs.Ytppgoobhlcdbbaa.Cd

/- The timer's known runs. -/
set_option maxRecDepth 1000000
set_option linter.unusedSimpArgs false
set_option linter.unusedVariables false
namespace Go.Proofs.Ytppgoobhlcdbbaa.Cd
open Go Go.Dx
section
variable {g h : Hp} {q : Value → Hp → Prop}
theorem wat {w : Nat} {L : List Ev} {s : Int} {fp : List Nat} {d : Int} (W : Wh h w L s fp) (hb : L.length < 2 ^ 40)
    (hq : ∀ h', Kp h h' → q (.tuple #[.int .i64 ((L.find? fun x => decide (x.dev = d)).elim 0 (·.at')), .bool (whas d L)]) h') : WC T n_wheel_Wheel_At [ptr w 0, .int .i64 d] h q := by
  rw [w_wheel_Wheel_At]
  simp (maxSteps := 1000000) (disch := first | assumption | ((try simp only [push_next, put_next, adv_next, List.length_cons, List.length_nil, List.length_map, List.length_set]); omega) | simp)
  refine wfind W hb fun h1 K => ?_
  have W1 := W.kp K
  rcases place_cases (fun x => decide (x.dev = d)) L with ⟨ha, hp⟩ | ⟨A, x, B, rfl, ha, hx, hp⟩
  · obtain ⟨e1, e2⟩ := wcan_none ha
    have : (L.find? fun x => decide (x.dev = d)) = none := List.find?_eq_none.2 fun x hx => by simp [ha x hx]
    have h9 := hq h1 K
    rw [this, e2] at h9
    simp (maxSteps := 1000000) (disch := first | assumption | ((try simp only [push_next, put_next, adv_next, List.length_cons, List.length_nil, List.length_map, List.length_set]); omega) | simp) [hp]
    exact h9
  · obtain ⟨e1, e2⟩ := wcan_some (B := B) ha hx
    have : ((A ++ x :: B).find? fun x => decide (x.dev = d)) = some x := by
      rw [List.find?_append, List.find?_eq_none.2 fun x hx => by simp [ha x hx]]
      simp only [Option.none_or]
      exact List.find?_cons_of_pos hx
    have h9 := hq h1 K
    rw [this, e2] at h9
    obtain ⟨sl, g1, g2⟩ := W1.ex
    obtain ⟨a, c, rfl, hs, _, _⟩ := g2.len
    obtain ⟨A0, rfl, hr⟩ := hs.mid
    have hr' : h1.rdn A0.block (A0.off + A.length * 3) 3 = some (encEv.enc x) := hr
    obtain ⟨ro, C, hg, hC⟩ := rdn_cells hr'
    have hC0 := hC 0 (by omega)
    have hnn : ¬ ((A.length : Int) < 0) := by omega
    simp [encEv] at hC0
    simp (maxSteps := 1000000) (disch := first | assumption | ((try simp only [push_next, put_next, adv_next, List.length_cons, List.length_nil, List.length_map, List.length_set]); omega) | simp) [hp, g1, hnn, hg, hC0]
    exact h9
theorem TW.new {d : Int} : TW g ((g.push (.cells false [.slice none 0 0, .int .i64 0])).push (.cells false [.int .i64 d, ptr g.next 0, u32 0#32, u32 0#32, u32 0#32])) (g.next + 1) g.next d 0#32 0#32 0#32 [] 0 [] :=
  ⟨by unfold Tm; rw [show g.next + 1 = (g.push (.cells false [.slice none 0 0, .int .i64 0])).next from rfl, get_push_self], Wh.new.kp ((Kp.refl _).push _), .nil, by simp, ((Kp.refl g).push _).push _, by simp, by omega⟩
theorem tknown : WC T n_pianolalaw11_known [] g fun v h' => v = .bool true ∧ Kp g h' := by
  rw [w_pianolalaw11_known]
  simp (maxSteps := 1000000) (disch := first | assumption | ((try simp only [push_next, put_next, adv_next, List.length_cons, List.length_nil, List.length_map, List.length_set]); omega) | simp) [GC_of (fun q => wnew), GC_of (fun q => tnew (h := g.push (.cells false [.slice none 0 0, .int .i64 0])) (w := g.next) (d := 1) (q := q) (by simp))]
  have X := TW.new (g := g) (d := 1)
  generalize (g.push (.cells false [.slice none 0 0, .int .i64 0])).push (.cells false [.int .i64 1, ptr g.next 0, u32 0#32, u32 0#32, u32 0#32]) = h0 at *
  refine twrite X (by omega) (by omega) fun c1 p1 s1 L1 n1 h1 fp1 X1 _ h4 _ _ => ?_
  obtain ⟨rfl, rfl, rfl, rfl, rfl⟩ := h4 rfl
  simp (maxSteps := 1000000) (disch := first | assumption | ((try simp only [push_next, put_next, adv_next, List.length_cons, List.length_nil, List.length_map, List.length_set]); omega) | simp) [tat]
  refine twrite X1 (by omega) (by omega) fun c1 p1 s1 L1 n1 h1 fp1 X2 hz _ _ _ => ?_
  obtain ⟨rfl, rfl, rfl, hL, _⟩ := hz rfl
  obtain ⟨rfl, rfl⟩ := hL (by decide)
  have e1 : insl (·.at') (⟨10 + per 5#32, 1, 0⟩ : Ev) (wcan 1 []) = [⟨15, 1, 0⟩] := rfl
  rw [e1] at X2
  simp (maxSteps := 1000000) (disch := first | assumption | ((try simp only [push_next, put_next, adv_next, List.length_cons, List.length_nil, List.length_map, List.length_set]); omega) | simp) [tat]
  refine wat X2.wh (by simp) fun h2 K2 => ?_
  have X3 := X2.more K2
  have e2 : ([(⟨15, 1, 0⟩ : Ev)].find? fun x => decide (x.dev = 1)).elim 0 (·.at') = 15 := rfl
  have e3 : whas 1 [(⟨15, 1, 0⟩ : Ev)] = true := rfl
  simp (maxSteps := 1000000) (disch := first | assumption | ((try simp only [push_next, put_next, adv_next, List.length_cons, List.length_nil, List.length_map, List.length_set]); omega) | simp) [e2, e3, GC_of (fun q => tread X3.tm)]
  refine tfire X3 (by omega) (by omega) fun c' L' n' h3 fp3 X4 _ _ => ?_
  simp (maxSteps := 1000000) (disch := first | assumption | ((try simp only [push_next, put_next, adv_next, List.length_cons, List.length_nil, List.length_map, List.length_set]); omega) | simp) [GC_of (fun q => tline X4.tm), GC_of (fun q => tnew_nil), tat]
  exact X4.kp
end
end Go.Proofs.Ytppgoobhlcdbbaa.Cd
