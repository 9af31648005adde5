/- Texts of one kind, one behind the other. -/
import Derived.Test.YtpdfdemoflofhaaGreatMeBusNumbers0
import Derived.Test.YtpdfdemoflofhaaGreatMcz0
import Derived.Test.YtpdfdemoflofhaaGreatMd1
/- The wheel, and what is common to all that use one. -/
set_option maxRecDepth 1000000
set_option linter.unusedSimpArgs false
set_option linter.unusedVariables false
namespace Go.Proofs.YtpdfdemoflofhaaGreat.Cd
open Go Go.Dx
section
variable {h : Hp}
theorem warmI {w : Nat} {L : List Ev} {s d t : Int} {fp : List Nat} {q : Value → Hp → Prop} (W : Wh h w L s fp) (I : WI L)
    (hno : wbad d t = true → q (.bool false) h) (hyes : wbad d t = false → ∀ h' fp', WI (insl (·.at') ⟨t, d, s⟩ (wcan d L)) → Wh h' w (insl (·.at') ⟨t, d, s⟩ (wcan d L)) (IntKind.i64.wrap (s + 1)) fp' → Upd h h' (w :: fp) (w :: fp') → q (.bool true) h') : WC T n_wheel_Wheel_Arm [ptr w 0, .int .i64 d, .int .i64 t] h q := by
  have h1 := I.len
  have h2 := (I.can d).len
  exact warm W (by omega) (by omega) I.srt hno fun hb h' fp' W' U' => hyes hb h' fp' (I.arm hb) W' U'
/-- A struct laid anew: what it takes. -/
theorem kp_laid {g h : Hp} (K : Kp g h) (o p : Ob) : Kp g ((h.push o).put h.next (some p)) := (K.push _).put K.le _
theorem Wh.laid {h : Hp} {w : Nat} {L : List Ev} {s : Int} {fp : List Nat} (W : Wh h w L s fp) (o p : Ob) : Wh ((h.push o).put h.next (some p)) w L s fp := W.kp (kp_laid (Kp.refl h) o p)
section
variable {q : Value → Hp → Prop}
theorem within {n lo hi : Int} (h0 : -1000000000000 ≤ lo) (h1 : lo ≤ hi) (h2 : hi ≤ 1000000000000) (hq : ∀ m, lo ≤ m → m ≤ hi → q (.int .i64 m) h) : WC T n_pianolabook_Within [.int .i64 n, .int .i64 lo, .int .i64 hi] h q := by
  rw [w_pianolabook_Within]
  have hne : hi - lo + 1 ≠ 0 := by omega
  have hw : n.tmod (hi - lo + 1) < hi - lo + 1 := Int.tmod_lt_of_pos _ (by omega)
  have hw' : - (hi - lo + 1) < n.tmod (hi - lo + 1) := by
    have := Int.tmod_lt_of_pos (-n) (show 0 < hi - lo + 1 by omega)
    rw [Int.neg_tmod] at this
    omega
  by_cases c1 : lo ≤ n
  · by_cases c2 : n ≤ hi
    · simp (maxSteps := 1000000) (disch := first | assumption | ((try simp only [push_next, put_next, adv_next, List.length_cons, List.length_nil, List.length_map, List.length_set]); omega) | simp) [c1, c2]
      exact hq _ c1 c2
    · by_cases c3 : n.tmod (hi - lo + 1) < 0
      · simp (maxSteps := 1000000) (disch := first | assumption | ((try simp only [push_next, put_next, adv_next, List.length_cons, List.length_nil, List.length_map, List.length_set]); omega) | simp) [c1, c2, c3, hne]
        exact hq _ (by omega) (by omega)
      · simp (maxSteps := 1000000) (disch := first | assumption | ((try simp only [push_next, put_next, adv_next, List.length_cons, List.length_nil, List.length_map, List.length_set]); omega) | simp) [c1, c2, c3, hne]
        exact hq _ (by omega) (by omega)
  · by_cases c3 : n.tmod (hi - lo + 1) < 0
    · simp (maxSteps := 1000000) (disch := first | assumption | ((try simp only [push_next, put_next, adv_next, List.length_cons, List.length_nil, List.length_map, List.length_set]); omega) | simp) [c1, c3, hne]
      exact hq _ (by omega) (by omega)
    · simp (maxSteps := 1000000) (disch := first | assumption | ((try simp only [push_next, put_next, adv_next, List.length_cons, List.length_nil, List.length_map, List.length_set]); omega) | simp) [c1, c3, hne]
      exact hq _ (by omega) (by omega)
end
end
end Go.Proofs.YtpdfdemoflofhaaGreat.Cd

/- Clone of a row, and whether two rows are the same. -/
set_option maxRecDepth 1000000
set_option linter.unusedSimpArgs false
set_option linter.unusedVariables false
namespace Go.Proofs.YtpdfdemoflofhaaGreat.Cd
open Go Go.Dx
section
variable {h : Hp} {a a' : Option Addr} {c c' : Nat} {xs ys : List (BitVec 8)}
theorem clone_by {q : Value → Hp → Prop} (hs : Sees encB h a xs) (hb : xs.length < 2 ^ 40) (hq : ∀ a' c' h', Sees encB h' a' xs → Kp h h' → (∀ A, a' = some A → h.next ≤ A.block) → (xs = [] ∨ ∃ fp, Own encB h' (.slice a' xs.length c') xs fp ∧ ∀ b ∈ fp, h.next ≤ b) → q (.slice a' xs.length c') h') : WC T n_slices_Clone_byte_byte [.slice a xs.length c] h q := by
  rw [w_slices_Clone_byte_byte]
  cases a with
  | none =>
    have := hs.nil rfl
    subst this
    simp (maxSteps := 1000000) (disch := first | assumption | ((try simp only [push_next, put_next, adv_next, List.length_cons, List.length_nil, List.length_map, List.length_set]); omega) | simp) [isNil]
    exact hq none 0 h Sees.nul (.refl _) (fun A hA => (by cases hA)) (.inl rfl)
  | some A =>
    simp (maxSteps := 1000000) (disch := first | assumption | ((try simp only [push_next, put_next, adv_next, List.length_cons, List.length_nil, List.length_map, List.length_set]); omega) | simp) [isNil]
    have K1 : Kp h (h.push (.cells false [])) := (Kp.refl h).push _
    have he := (hs.kp K1).elems (c := c)
    by_cases h0 : xs.length = 0
    · have : xs = [] := List.length_eq_zero_iff.1 h0
      subst this
      have e : appendV (h.push (.cells false [])) 1 1 (.slice (some ⟨h.next, 0, none⟩) 0 0) (.slice (some A) 0 c) = some (.slice (some ⟨h.next, 0, none⟩) 0 0, h.push (.cells false [])) := by
        have he' : elems (h.push (.cells false [])) 1 0 (.slice (some A) 0 c) = some [] := he
        simp [appendV, lenV, he']
      simp only [List.length_nil, e]
      simp (maxSteps := 1000000) (disch := first | assumption | ((try simp only [push_next, put_next, adv_next, List.length_cons, List.length_nil, List.length_map, List.length_set]); omega) | simp)
      refine hq _ 0 _ ⟨fun hA => (by cases hA), fun B hB => ?_, fun B hB => (by cases hB; first | exact .inl rfl | exact .inr rfl)⟩ K1 (fun A hA => by cases hA; exact Nat.le_refl _) (.inl rfl)
      cases hB
      simp [Hp.rdn, get_push_self]
    · have e : appendV (h.push (.cells false [])) 1 1 (.slice (some ⟨h.next, 0, none⟩) 0 0) (.slice (some A) xs.length c) = some (.slice (some ⟨h.next + 1, 0, some 1⟩) xs.length xs.length, (h.push (.cells false [])).push (.cells false (encB.all xs))) := by
        have he' : elems (h.push (.cells false [])) 1 xs.length (.slice (some A) xs.length c) = some (encB.all xs) := he
        have hl : (encB.all xs).length = xs.length * 1 := encB.all_length xs
        simp only [appendV, lenV, he', hl, if_true, Nat.zero_add]
        rw [if_neg (by omega), if_pos ⟨by omega, by omega⟩]
        simp [Hp.rdn, get_push_self]
      rw [e]
      simp (maxSteps := 1000000) (disch := first | assumption | ((try simp only [push_next, put_next, adv_next, List.length_cons, List.length_nil, List.length_map, List.length_set]); omega) | simp)
      refine hq _ _ _ ⟨fun hA => (by cases hA), fun B hB => ?_, fun B hB => (by cases hB; first | exact .inl rfl | exact .inr rfl)⟩ (K1.push _) (fun A hA => by cases hA; simp) (.inr ⟨_, .blk (E := encB) (r := []) (by rw [show h.next + 1 = (h.push (.cells false [])).next from rfl, get_push_self]; simp) rfl (Nat.le_refl _) (by omega) (by simp), by simp⟩)
      cases hB
      simp only [Hp.rdn, Hp.cells, show h.next + 1 = (h.push (.cells false [])).next from rfl, get_push_self, Option.bind_some, Nat.zero_add]
      rw [if_pos (by simp), List.drop_zero, List.take_of_length_le (by simp)]
end
end Go.Proofs.YtpdfdemoflofhaaGreat.Cd

/- The wheel as a state. -/
set_option maxRecDepth 1000000
set_option maxHeartbeats 4000000
set_option linter.unusedSimpArgs false
set_option linter.unusedVariables false
namespace Go.Proofs.YtpdfdemoflofhaaGreat.Cd
open Go Go.Dx
/-- A wheel, as what it holds. -/
structure WhS where
  L : List Ev
  n : Int
def WhS.arm (w : WhS) (d t : Int) : WhS := if wbad d t = true then w else ⟨insl (·.at') ⟨t, d, w.n⟩ (wcan d w.L), IntKind.i64.wrap (w.n + 1)⟩
def WhS.can (w : WhS) (d : Int) : WhS := ⟨wcan d w.L, w.n⟩
structure WhA (h : Hp) (w : Nat) (S : WhS) (fp : List Nat) : Prop where
  wh : Wh h w S.L S.n fp
  wi : WI S.L
section
variable {h : Hp} {q : Value → Hp → Prop} {w : Nat} {S : WhS} {fp : List Nat} {dv now : Int}
theorem WhA.keep {h' : Hp} (A : WhA h w S fp) (hk : ∀ b ∈ w :: fp, h'.get b = h.get b) : WhA h' w S fp := ⟨A.wh.keep hk, A.wi⟩
theorem WhA.kp {h' : Hp} (A : WhA h w S fp) (K : Kp h h') : WhA h' w S fp := ⟨A.wh.kp K, A.wi⟩
theorem WhA.live (A : WhA h w S fp) : ∀ b ∈ w :: fp, b < h.next := A.wh.live
theorem warmS {t : Int} (A : WhA h w S fp) (hq : ∀ h' fp', WhA h' w (S.arm dv t) fp' → Upd h h' (w :: fp) (w :: fp') → q (.bool (!wbad dv t)) h') : WC T n_wheel_Wheel_Arm [ptr w 0, .int .i64 dv, .int .i64 t] h q := by
  refine warmI A.wh A.wi (fun hb => ?_) fun hb h' fp' I W' U => ?_
  · have := hq h fp (by unfold WhS.arm; rw [if_pos hb]; exact A) .refl
    rw [hb] at this
    exact this
  · have := hq h' fp' (by unfold WhS.arm; rw [if_neg (by simp [hb])]; exact ⟨W', I⟩) U
    rw [hb] at this
    exact this
theorem takeS {t : Int} (A : WhA h w S fp) (hno : (∀ x ∈ S.L.head?, t < x.at') → ∀ h', Kp h h' → q (.tuple #[.agg #[.int .i64 0, .int .i64 0, .int .i64 0], .bool false]) h')
    (hyes : ∀ x B, S.L = x :: B → x.at' ≤ t → ∀ h' fp', WhA h' w ⟨B, S.n⟩ fp' → Upd h h' (w :: fp) (w :: fp') → q (.tuple #[.agg #[.int .i64 x.at', .int .i64 x.dev, .int .i64 x.seq], .bool true]) h') : WC T n_wheel_Wheel_Take [ptr w 0, .int .i64 t] h q := by
  have := A.wi.len
  refine wtake A.wh (by omega) hno fun x B hx ht h' fp' W' U => hyes x B hx ht h' fp' ⟨W', ?_⟩ U
  have := A.wi
  rw [hx] at this
  exact this.tail
end
end Go.Proofs.YtpdfdemoflofhaaGreat.Cd

/- Are two rows the same? -/
set_option maxRecDepth 1000000
set_option linter.unusedSimpArgs false
set_option linter.unusedVariables false
namespace Go.Proofs.YtpdfdemoflofhaaGreat.Cd
open Go Go.Dx
theorem eq_ev (x y : Ev) : eqV (.agg [(0, 1, false, (.int .i64)), (1, 1, false, (.int .i64)), (2, 1, false, (.int .i64))]) (.agg (encEv.enc x).toArray) (.agg (encEv.enc y).toArray) = some (decide (x = y)) := by
  obtain ⟨a, b, c⟩ := x
  obtain ⟨a', b', c'⟩ := y
  simp only [eqV, eqAt, encEv, eqParts]
  by_cases h1 : a = a'
  · by_cases h2 : b = b'
    · by_cases h3 : c = c' <;> simp [h1, h2, h3]
    · simp [h1, h2]
  · simp [h1]
theorem same_ev {h : Hp} {q : Value → Hp → Prop} {a a' : Option Addr} {c c' : Nat} {xs ys : List Ev} (hx : Sees encEv h a xs) (hy : Sees encEv h a' ys) (hb : xs.length < 2 ^ 40) (hq : q (.bool (decide (xs = ys))) h) : WC T n_pianolabook_Same_api_Event [.slice a xs.length c, .slice a' ys.length c'] h q := by
  rw [w_pianolabook_Same_api_Event]
  by_cases hl : xs.length = ys.length
  case neg =>
    have hne : xs ≠ ys := fun e => hl (by rw [e])
    have hl' : ¬ ((xs.length : Int) = ys.length) := by omega
    simp (maxSteps := 1000000) (disch := first | assumption | ((try simp only [push_next, put_next, adv_next, List.length_cons, List.length_nil, List.length_map, List.length_set]); omega) | simp) [hl']
    simpa [hne] using hq
  simp (maxSteps := 1000000) (disch := first | assumption | ((try simp only [push_next, put_next, adv_next, List.length_cons, List.length_nil, List.length_map, List.length_set]); omega) | simp) [hl]
  refine G_loop (fun n e h' => ∃ us vs ws, n = vs.length ∧ h' = h ∧ xs = us ++ vs ∧ ys = us ++ ws ∧ e 0 = .slice a xs.length c ∧ e 1 = .slice a' ys.length c' ∧ e 5 = .int .i64 us.length) ?_ xs.length _ _ ⟨[], xs, ys, rfl, rfl, rfl, rfl, by simp [hl], by simp, by simp⟩
  rintro n ih e h' ⟨us, vs, ws, rfl, rfl, h1, h2, e0, e1, e5⟩
  cases vs with
  | nil =>
    have hw : ws = [] := by
      have h3 := hl
      rw [h1, h2] at h3
      simpa using h3
    subst hw
    have hxs : xs = us := by simpa using h1
    have hxy : xs = ys := by rw [h1, h2]
    have hll : us.length = xs.length := by rw [hxs]
    simp (maxSteps := 1000000) (disch := first | assumption | ((try simp only [push_next, put_next, adv_next, List.length_cons, List.length_nil, List.length_map, List.length_set]); omega) | simp) [e0, e5, hll]
    simpa [hxy] using hq
  | cons x vs =>
    cases ws with
    | nil =>
      have h3 := hl
      rw [h1, h2] at h3
      simp at h3
    | cons y ws =>
      have hlt : (us.length : Int) < xs.length := by rw [h1]; simp; omega
      have hlt' : (us.length : Int) < ys.length := by omega
      obtain ⟨A, hA, hr⟩ := Sees.mid (A := us) (x := x) (B := vs) (by rw [← h1]; exact hx)
      obtain ⟨A', hA', hr'⟩ := Sees.mid (A := us) (x := y) (B := ws) (by rw [← h2]; exact hy)
      have g1 : h'.rdn A.block (A.off + us.length * 3) 3 = some (encEv.enc x) := hr
      have g2 : h'.rdn A'.block (A'.off + us.length * 3) 3 = some (encEv.enc y) := hr'
      have he := eq_ev x y
      by_cases hxy : x = y
      · simp [hxy] at he
        simp (maxSteps := 1000000) (disch := first | assumption | ((try simp only [push_next, put_next, adv_next, List.length_cons, List.length_nil, List.length_map, List.length_set]); omega) | simp) [e0, e1, e5, hlt, hlt', hA, hA', g1, g2, he, hxy]
        apply ih vs.length (by simp)
        refine ⟨us ++ [x], vs, ws, rfl, rfl, by simp [h1], by simp [h2, hxy], by simp [e0, hA], by simp [e1, hA'], by simp⟩
      · simp [hxy] at he
        have hne : xs ≠ ys := fun e => by rw [h1, h2] at e; simp [hxy] at e
        simp (maxSteps := 1000000) (disch := first | assumption | ((try simp only [push_next, put_next, adv_next, List.length_cons, List.length_nil, List.length_map, List.length_set]); omega) | simp) [e0, e1, e5, hlt, hlt', hA, hA', g1, g2, he]
        simpa [hne] using hq
end Go.Proofs.YtpdfdemoflofhaaGreat.Cd

/- The document's wheel within a larger struct: what each function does. -/
set_option maxRecDepth 1000000
set_option maxHeartbeats 8000000
set_option linter.unusedSimpArgs false
set_option linter.unusedVariables false
namespace Go.Proofs.YtpdfdemoflofhaaGreat.Cd
open Go Go.Dx
/-- A slice that is read, its block one of these. -/
def Se {α : Type} (E : Enc α) (h : Hp) (fr : List Nat) (v : Value) (xs : List α) : Prop := ∃ a c, v = .slice a xs.length c ∧ Sees E h a xs ∧ xs.length ≤ c ∧ ∀ A, a = some A → A.block ∈ fr
theorem Se.own {α : Type} {E : Enc α} {h : Hp} {fp fr : List Nat} {v : Value} {xs : List α} (o : Own E h v xs fp) (hs : ∀ b ∈ fp, b ∈ fr) : Se E h fr v xs := by
  obtain ⟨a, c, h1, h2, h3, h4⟩ := o.len
  exact ⟨a, c, h1, h2, h3, fun A hA => hs _ (h4 A hA)⟩
theorem Se.nul {α : Type} {E : Enc α} {h : Hp} {fr : List Nat} : Se E h fr (.slice none 0 0) [] := ⟨none, 0, rfl, .nul, Nat.le_refl _, fun A hA => (by cases hA)⟩
theorem Se.keep {α : Type} {E : Enc α} {h h' : Hp} {fr fr' : List Nat} {v : Value} {xs : List α} (s : Se E h fr v xs) (hk : ∀ b ∈ fr, h'.get b = h.get b) (hs : ∀ b ∈ fr, b ∈ fr') : Se E h' fr' v xs := by
  obtain ⟨a, c, h1, h2, h3, h4⟩ := s
  exact ⟨a, c, h1, ⟨h2.nil, fun A hA => rdn_kp (h2.get A hA) (hk _ (h4 A hA)), h2.sp⟩, h3, fun A hA => hs _ (h4 A hA)⟩
/-- A wheel at place 1 of a struct. -/
structure Wz (h : Hp) (w : Nat) (c0 : Value) (rest : List Value) (L : List Ev) (s : Int) (fr : List Nat) : Prop where
  ex : ∃ sl, h.get w = some (.cells false (c0 :: sl :: .int .i64 s :: rest)) ∧ Se encEv h fr sl L
  nw : w ∉ fr
section
variable {h : Hp} {q : Value → Hp → Prop} {c0 : Value} {rest : List Value}
/-- The document's: taken out by copying. -/
theorem zcancel {w : Nat} {L : List Ev} {s : Int} {fr : List Nat} {d : Int} (W : Wz h w c0 rest L s fr) (hb : L.length < 2 ^ 40) (hq : ∀ h' nw, Wz h' w c0 rest (wcan d L) s (fr ++ nw) → Upd h h' [w] (w :: nw) → (∀ b ∈ nw, b < h'.next) → q (.bool (whas d L)) h') : WC T n_pianolaref9_Wheel_Cancel [ptr w 1, .int .i64 d] h q := by
  obtain ⟨sl, g1, g2⟩ := W.ex
  obtain ⟨a, c, rfl, hs, hc, hfp⟩ := g2
  have hlt := lt_of_get g1
  rw [w_pianolaref9_Wheel_Cancel]
  simp (maxSteps := 1000000) (disch := first | assumption | ((try simp only [push_next, put_next, adv_next, List.length_cons, List.length_nil, List.length_map, List.length_set]); omega) | simp)
  refine G_loop (fun n e h' => ∃ us vs, n = vs.length ∧ h' = h ∧ L = us ++ vs ∧ (∀ x ∈ us, decide (x.dev = d) = false) ∧ e 0 = ptr w 1 ∧ e 1 = .int .i64 d ∧ e 5 = .int .i64 us.length) ?_ L.length _ _ ⟨[], L, rfl, rfl, rfl, by simp, by simp, by simp, by simp⟩
  rintro n ih e h' ⟨us, vs, rfl, rfl, hL, hn, e0, e1, e5⟩
  cases vs with
  | nil =>
    rw [List.append_nil] at hL
    subst hL
    obtain ⟨r1, r2⟩ := wcan_none hn
    simp (maxSteps := 1000000) (disch := first | assumption | ((try simp only [push_next, put_next, adv_next, List.length_cons, List.length_nil, List.length_map, List.length_set]); omega) | simp) [e0, e5, g1]
    rw [← r2]
    exact hq _ [] (by rw [r1, List.append_nil]; exact W) .refl (by simp)
  | cons x vs =>
    have hlt' : (us.length : Int) < L.length := by rw [hL]; simp; omega
    have hun : (us.length : Int) + 1 < 2 ^ 40 := by omega
    obtain ⟨A, hA, hr⟩ := Sees.mid (A := us) (x := x) (B := vs) (by rw [← hL]; exact hs)
    obtain ⟨ro, C, hg, hC⟩ := rdn_cells hr
    have hC1 := hC 1 (by simp)
    simp [encEv] at hC1
    by_cases hx : x.dev = d
    · obtain ⟨r1, r2⟩ := wcan_some (B := vs) hn (by simpa using hx)
      rw [← hL] at r1 r2
      subst hA
      obtain ⟨a1, c1, p1, q1, s1⟩ := hs.part (lo := 0) (hi := us.length) (l := none) (u := some (.int .i64 us.length)) (by omega) (by omega) hc (.inl ⟨rfl, rfl⟩) (.inr ⟨_, rfl⟩)
      obtain ⟨a2, c2, p2, q2, s2⟩ := hs.part (lo := us.length + 1) (hi := L.length) (l := some (.int .i64 ((us.length : Int) + 1))) (u := none) (by omega) (by omega) hc (.inr ⟨.i64, rfl⟩) (.inl ⟨rfl, rfl⟩)
      have p1' : sliceV 3 (.slice (some A) L.length c) none (some (.int .i64 us.length)) none = some (.slice a1 us.length c1) := p1
      have p2' : sliceV 3 (.slice (some A) L.length c) (some (.int .i64 ((us.length : Int) + 1))) none none = some (.slice a2 (L.length - (us.length + 1)) c2) := p2
      have hA1 : (L.drop 0).take (us.length - 0) = us := by rw [hL]; simp
      have hA2 : (L.drop (us.length + 1)).take (L.length - (us.length + 1)) = vs := by
        rw [hL, show us ++ x :: vs = (us ++ [x]) ++ vs by simp, show us.length + 1 = (us ++ [x]).length by simp, List.drop_left, List.length_append, Nat.add_sub_cancel_left, List.take_length]
      rw [hA1] at s1
      rw [hA2] at s2
      have hvl : L.length - (us.length + 1) = vs.length := by rw [hL]; simp; omega
      rw [hvl] at p2'
      have K1 : Kp h' (h'.push (.cells false [])) := (Kp.refl h').push _
      have Oe : Own encEv (h'.push (.cells false [])) (.slice (some ⟨h'.next, 0, none⟩) 0 0) [] [h'.next] := .emp get_push_self
      simp (maxSteps := 1000000) (disch := first | assumption | ((try simp only [push_next, put_next, adv_next, List.length_cons, List.length_nil, List.length_map, List.length_set]); omega) | simp) [e0, e1, e5, g1, hlt', hg, hC1, hx, p1']
      refine GVI_app (E := encEv) Oe (s1.kp K1) rfl (by simp; omega) (by simp; omega) fun v2 h2 fp2 O2 U2 => ?_
      have K2 : Kp h' h2 := U2.kp' K1 (by simp)
      have g2 : h2.get w = some (.cells false (c0 :: .slice (some A) L.length c :: .int .i64 s :: rest)) := by rw [K2.get w hlt, g1]
      have hlt2 := lt_of_get g2
      have hun' : (us.length : Int) + 1 < 9223372036854775808 := by omega
      simp (maxSteps := 1000000) (disch := first | assumption | ((try simp only [push_next, put_next, adv_next, List.length_cons, List.length_nil, List.length_map, List.length_set]); omega) | simp) [e5, g2, p2']
      refine GVI_app (E := encEv) O2 (s2.kp K2) rfl (by simp; omega) (by simp; omega) fun v3 h3 fp3 O3 U3 => ?_
      have hfp2 : ∀ b ∈ fp2, h'.next ≤ b := fun b hb => by
        rcases U2.sub b hb with h5 | h5
        · simp at h5; omega
        · simp at h5; omega
      have K3 : Kp h' h3 := U3.kp' K2 hfp2
      have g3 : h3.get w = some (.cells false (c0 :: .slice (some A) L.length c :: .int .i64 s :: rest)) := by rw [K3.get w hlt, g1]
      have hlt3 := lt_of_get g3
      have hfp3 : ∀ b ∈ fp3, h'.next ≤ b := fun b hb => by
        rcases U3.sub b hb with h5 | h5
        · exact hfp2 b h5
        · have := K2.le; omega
      obtain ⟨a3, c3, hv3, _, _, _⟩ := O3.len
      have hone : one v3 = true := by rw [hv3]; rfl
      simp (maxSteps := 1000000) (disch := first | assumption | ((try simp only [push_next, put_next, adv_next, List.length_cons, List.length_nil, List.length_map, List.length_set]); omega) | simp) [e0, g3, hone]
      have h9 := hq
      rw [r1, r2] at h9
      have hwf : w ∉ fp3 := fun hm => by have := hfp3 w hm; omega
      exact h9 _ fp3 ⟨⟨_, get_put_self hlt3, Se.own (O3.keep fun b hb => get_put_ne fun e => hwf (e ▸ hb)) fun b hb => List.mem_append_right _ hb⟩, fun hm => by
        rcases List.mem_append.1 hm with hm | hm
        · exact W.nw hm
        · exact hwf hm⟩ ⟨K3.le, fun b hb hm => by
        rw [get_put_ne (by simpa using hm), K3.get b hb], fun b hb => by
        rcases List.mem_cons.1 hb with rfl | hb
        · exact .inl (by simp)
        · exact .inr (hfp3 b hb)⟩ fun b hb => by simpa using O3.live b hb
    · simp (maxSteps := 1000000) (disch := first | assumption | ((try simp only [push_next, put_next, adv_next, List.length_cons, List.length_nil, List.length_map, List.length_set]); omega) | simp) [e0, e1, e5, g1, hlt', hA, hg, hC1, hx]
      apply ih vs.length (by simp)
      refine ⟨us ++ [x], vs, rfl, rfl, by simp [hL], fun y hy => ?_, by simp [e0], by simp [e1], by simp⟩
      rcases List.mem_append.1 hy with hy | hy
      · exact hn y hy
      · simp at hy; rw [hy]; simpa using hx
theorem ztake {w : Nat} {L : List Ev} {s now : Int} {fr : List Nat} (lv : ∀ b ∈ fr, b < h.next) (W : Wz h w c0 rest L s fr) (hb : L.length < 2 ^ 40) (hno : (∀ x ∈ L.head?, now < x.at') → ∀ h', Kp h h' → q (.tuple #[.agg #[.int .i64 0, .int .i64 0, .int .i64 0], .bool false]) h')
    (hyes : ∀ x B, L = x :: B → x.at' ≤ now → ∀ h' nw, Wz h' w c0 rest B s (fr ++ nw) → Upd h h' [w] (w :: nw) → (∀ b ∈ nw, b < h'.next) → q (.tuple #[.agg (encEv.enc x).toArray, .bool true]) h') : WC T n_pianolaref9_Wheel_Take [ptr w 1, .int .i64 now] h q := by
  rw [w_pianolaref9_Wheel_Take]
  simp (maxSteps := 1000000) (disch := first | assumption | ((try simp only [push_next, put_next, adv_next, List.length_cons, List.length_nil, List.length_map, List.length_set]); omega) | simp) [-g2_pianolaref9_Wheel_Take]
  have K1 : Kp h (h.push (.cells false [.int .i64 0, .int .i64 0, .int .i64 0])) := (Kp.refl h).push _
  have z0 : (h.push (.cells false [.int .i64 0, .int .i64 0, .int .i64 0])).get h.next = some (.cells false [.int .i64 0, .int .i64 0, .int .i64 0]) := get_push_self
  have n0 : (h.push (.cells false [.int .i64 0, .int .i64 0, .int .i64 0])).next = h.next + 1 := rfl
  generalize h.push (.cells false [.int .i64 0, .int .i64 0, .int .i64 0]) = h0 at *
  obtain ⟨sl, g1, g2⟩ := W.ex
  have hwn : w < h.next := lt_of_get g1
  rw [← K1.get w hwn] at g1
  obtain ⟨a, c, rfl, hs, hc, hfp⟩ := g2.keep (fr' := fr) (fun b hb => K1.get b (lv b hb)) fun b hb => hb
  cases L with
  | nil =>
    simp (maxSteps := 1000000) (disch := first | assumption | ((try simp only [push_next, put_next, adv_next, List.length_cons, List.length_nil, List.length_map, List.length_set]); omega) | simp) [g1, Hp.rdn, z0]
    exact hno (by simp) _ (K1.put (Nat.le_refl _) _)
  | cons x B =>
    obtain ⟨A, rfl, hr⟩ := hs.mid (A := [])
    obtain ⟨ro, C, hg, hC⟩ := rdn_cells hr
    have hC0 := hC 0 (by simp)
    simp [encEv] at hC0
    have hnn : ¬ ((B.length : Int) + 1 = 0) := by omega
    by_cases hx : now < x.at'
    · simp (maxSteps := 1000000) (disch := first | assumption | ((try simp only [push_next, put_next, adv_next, List.length_cons, List.length_nil, List.length_map, List.length_set]); omega) | simp) [g1, hg, hC0, hnn, hx, Hp.rdn, z0]
      exact hno (by simpa using hx) _ (K1.put (Nat.le_refl _) _)
    · have hr2 : h0.rdn A.block A.off 3 = some (encEv.enc x) := by simpa using hr
      simp (maxSteps := 1000000) (disch := first | assumption | ((try simp only [push_next, put_next, adv_next, List.length_cons, List.length_nil, List.length_map, List.length_set]); omega) | simp) [g1, hg, hC0, hnn, hx, hr2, encEv]
      have K2 : Kp h0 (h0.push (.cells false [.int .i64 x.at', .int .i64 x.dev, .int .i64 x.seq])) := (Kp.refl h0).push _
      generalize hh1 : h0.push (.cells false [.int .i64 x.at', .int .i64 x.dev, .int .i64 x.seq]) = h1 at *
      have y1 : h1.get h0.next = some (.cells false [.int .i64 x.at', .int .i64 x.dev, .int .i64 x.seq]) := by rw [← hh1, get_push_self]
      have n1 : h1.next = h0.next + 1 := by rw [← hh1]; rfl
      have z1 : h1.get h.next = some (.cells false [.int .i64 0, .int .i64 0, .int .i64 0]) := by rw [K2.get _ (by omega), z0]
      obtain ⟨a2, c2, p2, q2, s2⟩ := hs.part (lo := 1) (hi := (x :: B).length) (l := some (.int .i64 1)) (u := none) (by simp) (by omega) hc (.inr ⟨.i64, rfl⟩) (.inl ⟨rfl, rfl⟩)
      have p2' : sliceV 3 (.slice (some A) (B.length + 1) c) (some (.int .i64 1)) none none = some (.slice a2 B.length c2) := by simpa using p2
      have hA2 : ((x :: B).drop 1).take ((x :: B).length - 1) = B := by simp
      rw [hA2] at s2
      have K3 : Kp h1 (h1.push (.cells false [])) := (Kp.refl h1).push _
      have g1' : (h1.push (.cells false [])).get w = some (.cells false (c0 :: .slice (some A) (B.length + 1) c :: .int .i64 s :: rest)) := by rw [get_push_ne (by omega), K2.get w (by omega), g1]; rfl
      have Oe : Own encEv (h1.push (.cells false [])) (.slice (some ⟨h1.next, 0, none⟩) 0 0) [] [h1.next] := .emp get_push_self
      rw [n1] at Oe
      simp (maxSteps := 1000000) (disch := first | assumption | ((try simp only [push_next, put_next, adv_next, List.length_cons, List.length_nil, List.length_map, List.length_set]); omega) | simp) [g1', p2']
      refine GV_app (E := encEv) Oe (s2.kp (K2.trans K3)) rfl (by simp; simp at hb; omega) (by simp; simp at hb; omega) fun v3 h3 fp3 O3 U3 => ?_
      have K4 : Kp h1 h3 := U3.kp' K3 (by simp [n1])
      have hfp3 : ∀ b ∈ fp3, h0.next + 1 ≤ b := fun b hb => by
        rcases U3.sub b hb with h5 | h5
        · simp at h5; omega
        · simp at h5; omega
      have g3 : h3.get w = some (.cells false (c0 :: .slice (some A) (B.length + 1) c :: .int .i64 s :: rest)) := by rw [K4.get w (by omega), K2.get w (by omega), g1]; rfl
      have y3 : h3.get h0.next = some (.cells false [.int .i64 x.at', .int .i64 x.dev, .int .i64 x.seq]) := by rw [K4.get _ (by omega), y1]
      have z3 : h3.get h.next = some (.cells false [.int .i64 0, .int .i64 0, .int .i64 0]) := by rw [K4.get _ (by omega), z1]
      have hwl3 := lt_of_get g3
      have hyl3 := lt_of_get y3
      have hzl3 := lt_of_get z3
      obtain ⟨a3, c3, hv3, _, _, _⟩ := O3.len
      have hone : one v3 = true := by rw [hv3]; rfl
      simp (maxSteps := 1000000) (disch := first | assumption | ((try simp only [push_next, put_next, adv_next, List.length_cons, List.length_nil, List.length_map, List.length_set]); omega) | simp) [g3, hone, y3, z3, Hp.rdn]
      have hwf : w ∉ fp3 := fun hm => by have := hfp3 w hm; omega
      refine hyes x B rfl (by omega) _ fp3 ⟨⟨v3, ?_, Se.own (O3.keep fun b hb => ?_) fun b hb => List.mem_append_right _ hb⟩, fun hm => ?_⟩ ⟨?_, fun k hk hm => ?_, fun k hk => ?_⟩ fun b hb => by simpa using O3.live b hb
      · rw [get_put_ne (by omega), get_put_self (by omega)]
      · have := hfp3 b hb
        rw [get_put_ne (by omega), get_put_ne (by omega)]
      · rcases List.mem_append.1 hm with hm | hm
        · exact W.nw hm
        · exact hwf hm
      · have := K4.le
        simp
        omega
      · simp at hm
        rw [get_put_ne (by omega), get_put_ne hm, K4.get k (by omega), K2.get k (by omega), K1.get k hk]
      · rcases List.mem_cons.1 hk with rfl | hk
        · exact .inl (by simp)
        · have := hfp3 k hk
          exact .inr (by omega)
theorem zarm {w : Nat} {L : List Ev} {s d t : Int} {fr : List Nat} (lv : ∀ b ∈ fr, b < h.next) (W : Wz h w c0 rest L s fr) (hL : L.length < 2 ^ 40) (hs : Srt (·.at') L)
    (hno : wbad d t = true → q (.bool false) h) (hyes : wbad d t = false → ∀ h' nw, Wz h' w c0 rest (insl (·.at') ⟨t, d, s⟩ (wcan d L)) (IntKind.i64.wrap (s + 1)) (fr ++ nw) → Upd h h' [w] (w :: nw) → (∀ b ∈ nw, b < h'.next) → q (.bool true) h') : WC T n_pianolaref9_Wheel_Arm [ptr w 1, .int .i64 d, .int .i64 t] h q := by
  rw [w_pianolaref9_Wheel_Arm]
  by_cases c1 : d < 0
  · simp (maxSteps := 1000000) (disch := first | assumption | ((try simp only [push_next, put_next, adv_next, List.length_cons, List.length_nil, List.length_map, List.length_set]); omega) | simp) [c1]
    exact hno (by simp [wbad, c1])
  by_cases c2 : 16 ≤ d
  · simp (maxSteps := 1000000) (disch := first | assumption | ((try simp only [push_next, put_next, adv_next, List.length_cons, List.length_nil, List.length_map, List.length_set]); omega) | simp) [c1, c2]
    exact hno (by simp [wbad, c2])
  by_cases c3 : t < 0
  · simp (maxSteps := 1000000) (disch := first | assumption | ((try simp only [push_next, put_next, adv_next, List.length_cons, List.length_nil, List.length_map, List.length_set]); omega) | simp) [c1, c2, c3]
    exact hno (by simp [wbad, c3])
  have hy := hyes (by simp [wbad, c1, c2, c3])
  simp (maxSteps := 1000000) (disch := first | assumption | ((try simp only [push_next, put_next, adv_next, List.length_cons, List.length_nil, List.length_map, List.length_set]); omega) | simp) [c1, c2, c3]
  refine zcancel W hL fun h1 fp1 W1 U1 L1' => ?_
  have hsub : (wcan d L).Sublist L := List.eraseP_sublist ..
  have hsc : Srt (·.at') (wcan d L) := hs.sublist hsub
  have hlc : (wcan d L).length ≤ L.length := hsub.length_le
  generalize hL1 : wcan d L = L1 at *
  obtain ⟨sl, g1, o1⟩ := W1.ex
  obtain ⟨a, c, rfl, hsee, hc, hfp⟩ := o1
  have hw1 := lt_of_get g1
  simp (maxSteps := 1000000) (disch := first | assumption | ((try simp only [push_next, put_next, adv_next, List.length_cons, List.length_nil, List.length_map, List.length_set]); omega) | simp)
  refine G_loop (fun n e h' => ∃ us vs, n = vs.length ∧ h' = h1 ∧ L1 = us ++ vs ∧ (∀ x ∈ us, x.at' ≤ t) ∧ e 0 = ptr w 1 ∧ e 1 = .int .i64 d ∧ e 2 = .int .i64 t ∧ e 7 = .int .i64 us.length) ?_ L1.length _ _ ⟨[], L1, rfl, rfl, rfl, by simp, by simp, by simp, by simp, by simp⟩
  rintro n ih e h' ⟨us, vs, rfl, rfl, hU, hle, e0, e1, e2, e7⟩
  have out : ∀ e, (∀ y ∈ vs, t < y.at') → e 0 = ptr w 1 → e 1 = .int .i64 d → e 2 = .int .i64 t → e 7 = .int .i64 us.length → G T (fin [.t 6] (some []) h.next q) c2_pianolaref9_Wheel_Arm [] e h' := by
    clear ih e0 e1 e2 e7 e
    intro e hgt e0 e1 e2 e7
    have hlu : us.length ≤ L1.length := by rw [hU]; simp
    obtain ⟨a1, k1, p1, q1, s1⟩ := hsee.part (lo := 0) (hi := us.length) (l := none) (u := some (.int .i64 us.length)) (by omega) (by omega) hc (.inl ⟨rfl, rfl⟩) (.inr ⟨_, rfl⟩)
    obtain ⟨a2, k2, p2, q2, s2⟩ := hsee.part (lo := us.length) (hi := L1.length) (l := some (.int .i64 us.length)) (u := none) (by omega) (by omega) hc (.inr ⟨.i64, rfl⟩) (.inl ⟨rfl, rfl⟩)
    have hA1 : (L1.drop 0).take (us.length - 0) = us := by rw [hU]; simp
    have hA2 : (L1.drop us.length).take (L1.length - us.length) = vs := by
      rw [hU, List.drop_left, List.length_append, Nat.add_sub_cancel_left, List.take_length]
    have hvl : L1.length - us.length = vs.length := by rw [hU]; simp
    rw [hA1] at s1
    rw [hA2] at s2
    have p1' : sliceV 3 (.slice a L1.length c) none (some (.int .i64 us.length)) none = some (.slice a1 us.length k1) := p1
    have p2' : sliceV 3 (.slice a L1.length c) (some (.int .i64 us.length)) none none = some (.slice a2 vs.length k2) := by rw [← hvl]; exact p2
    have K1 : Kp h' ((h'.adv 2).put h'.next (some (.cells false []))) := ((Kp.refl h').adv 2).put (Nat.le_refl _) _
    have n1 : ((h'.adv 2).put h'.next (some (.cells false []))).next = h'.next + 2 := rfl
    have Oe : Own encEv ((h'.adv 2).put h'.next (some (.cells false []))) (.slice (some ⟨h'.next, 0, none⟩) 0 0) [] [h'.next] := .emp (get_put_self (by simp))
    have gA : ((h'.adv 2).put h'.next (some (.cells false []))).get w = some (.cells false (c0 :: .slice a L1.length c :: .int .i64 s :: rest)) := by rw [K1.get w hw1, g1]
    simp (maxSteps := 1000000) (disch := first | assumption | ((try simp only [push_next, put_next, adv_next, List.length_cons, List.length_nil, List.length_map, List.length_set]); omega) | simp) [e0, e7, g1, p1']
    generalize (h'.adv 2).put h'.next (some (.cells false [])) = hA at *
    refine GVI_app (E := encEv) Oe (s1.kp K1) rfl (by simp; omega) (by simp; omega) fun v2 h2 fp2 O2 U2 => ?_
    have K2 : Kp h' h2 := U2.kp' K1 (by simp)
    have n2 : h'.next + 2 ≤ h2.next := by have := U2.le; omega
    have g2 : h2.get w = some (.cells false (c0 :: .slice a L1.length c :: .int .i64 s :: rest)) := by rw [K2.get w hw1, g1]
    have hfp2 : ∀ b ∈ fp2, b = h'.next ∨ h'.next + 2 ≤ b := fun b hb => by
      rcases U2.sub b hb with h5 | h5
      · simp at h5; omega
      · omega
    simp (maxSteps := 1000000) (disch := first | assumption | ((try simp only [push_next, put_next, adv_next, List.length_cons, List.length_nil, List.length_map, List.length_set]); omega) | simp) [e0, e1, e2, e7, g2]
    have K3 : Kp h' (h2.put (h'.next + 1) (some (.cells false [.int .i64 t, .int .i64 d, .int .i64 s]))) := K2.put (by omega) _
    have O3 : Own encEv (h2.put (h'.next + 1) (some (.cells false [.int .i64 t, .int .i64 d, .int .i64 s]))) v2 ([] ++ us) fp2 := O2.keep fun b hb => get_put_ne (by have := hfp2 b hb; omega)
    have S3 : Sees encEv (h2.put (h'.next + 1) (some (.cells false [.int .i64 t, .int .i64 d, .int .i64 s]))) (some ⟨h'.next + 1, 0, none⟩) [(⟨t, d, s⟩ : Ev)] := ⟨fun hA => (by cases hA), fun A hA => by
      cases hA
      simp [Hp.rdn, get_put_self (show h'.next + 1 < h2.next by omega), encEv], fun A hA => by cases hA; exact .inl rfl⟩
    have g3 : (h2.put (h'.next + 1) (some (.cells false [.int .i64 t, .int .i64 d, .int .i64 s]))).get w = some (.cells false (c0 :: .slice a L1.length c :: .int .i64 s :: rest)) := by rw [K3.get w hw1, g1]
    generalize h2.put (h'.next + 1) (some (.cells false [.int .i64 t, .int .i64 d, .int .i64 s])) = h3 at *
    refine GVI_app (E := encEv) O3 S3 rfl (by simp; omega) (by simp; omega) fun v4 h4 fp4 O4 U4 => ?_
    have K4 : Kp h' h4 := U4.kp' K3 fun b hb => by have := hfp2 b hb; omega
    have g4 : h4.get w = some (.cells false (c0 :: .slice a L1.length c :: .int .i64 s :: rest)) := by rw [K4.get w hw1, g1]
    have hfp4 : ∀ b ∈ fp4, h'.next ≤ b := fun b hb => by
      rcases U4.sub b hb with h5 | h5
      · have := hfp2 b h5; omega
      · have := K3.le; omega
    simp (maxSteps := 1000000) (disch := first | assumption | ((try simp only [push_next, put_next, adv_next, List.length_cons, List.length_nil, List.length_map, List.length_set]); omega) | simp) [e0, e1, e2, e7, g4, p2']
    refine GVI_app (E := encEv) O4 (s2.kp K4) rfl (by simp; omega) (by simp; omega) fun v5 h5 fp5 O5 U5 => ?_
    have K5 : Kp h' h5 := U5.kp' K4 hfp4
    have g5 : h5.get w = some (.cells false (c0 :: .slice a L1.length c :: .int .i64 s :: rest)) := by rw [K5.get w hw1, g1]
    have hfp5 : ∀ b ∈ fp5, h'.next ≤ b := fun b hb => by
      rcases U5.sub b hb with h6 | h6
      · exact hfp4 b h6
      · have := K4.le; omega
    have hlt5 := lt_of_get g5
    obtain ⟨a5, k5, hv5, _, _, _⟩ := O5.len
    have hone : one v5 = true := by rw [hv5]; rfl
    simp (maxSteps := 1000000) (disch := first | assumption | ((try simp only [push_next, put_next, adv_next, List.length_cons, List.length_nil, List.length_map, List.length_set]); omega) | simp) [e0, g5, hone]
    have hwf : w ∉ fp5 := fun hm => by have := hfp5 w hm; omega
    have hres : insl (·.at') (⟨t, d, s⟩ : Ev) L1 = [] ++ us ++ [⟨t, d, s⟩] ++ vs := by rw [hU, insl_split (fun e : Ev => e.at') (x := ⟨t, d, s⟩) hle hgt]; simp
    refine hy _ fp5 ⟨⟨v5, ?_, Se.own (fp := fp5) ?_ fun b hb => List.mem_append_right _ hb⟩, fun hm => ?_⟩ ⟨?_, fun b hb hm => ?_, fun b hb => ?_⟩ fun b hb => by simpa using O5.live b hb
    · rw [get_put_self hlt5]
    · rw [hres]
      exact O5.keep fun b hb => get_put_ne fun e => hwf (e ▸ hb)
    · rcases List.mem_append.1 hm with hm | hm
      · exact W.nw hm
      · exact hwf hm
    · have h6 := U1.le
      have h7 := K5.le
      simp
      omega
    · have hb' := hm
      simp at hm
      have h6 := U1.le
      rw [get_put_ne hm, K5.get b (by omega), U1.get b hb hb']
    · have h6 := U1.le
      rcases List.mem_cons.1 hb with rfl | hb
      · exact .inl (by simp)
      · have := hfp5 b hb
        exact .inr (by omega)
  cases vs with
  | nil =>
    have hll : (us.length : Int) = L1.length := by rw [hU]; simp
    simp (maxSteps := 1000000) (disch := first | assumption | ((try simp only [push_next, put_next, adv_next, List.length_cons, List.length_nil, List.length_map, List.length_set]); omega) | simp) [e0, e7, g1, hll, -g2_pianolaref9_Wheel_Arm]
    exact out _ (by simp) (by simp [e0]) (by simp [e1]) (by simp [e2]) (by simp [e7])
  | cons x vs =>
    have hlt' : (us.length : Int) < L1.length := by rw [hU]; simp; omega
    have hun : (us.length : Int) + 1 < 2 ^ 40 := by omega
    obtain ⟨A, hA, hr⟩ := Sees.mid (A := us) (x := x) (B := vs) (by rw [← hU]; exact hsee)
    obtain ⟨ro, C, hg, hC⟩ := rdn_cells hr
    have hC0 := hC 0 (by simp)
    simp [encEv] at hC0
    by_cases hx : x.at' ≤ t
    · simp (maxSteps := 1000000) (disch := first | assumption | ((try simp only [push_next, put_next, adv_next, List.length_cons, List.length_nil, List.length_map, List.length_set]); omega) | simp) [e0, e1, e2, e7, g1, hlt', hA, hg, hC0, hx, -g2_pianolaref9_Wheel_Arm]
      apply ih vs.length (by simp)
      refine ⟨us ++ [x], vs, rfl, rfl, by simp [hU], fun y hy => ?_, by simp [e0], by simp [e1], by simp [e2], by simp⟩
      rcases List.mem_append.1 hy with hy | hy
      · exact hle y hy
      · simp at hy; rw [hy]; exact hx
    · simp (maxSteps := 1000000) (disch := first | assumption | ((try simp only [push_next, put_next, adv_next, List.length_cons, List.length_nil, List.length_map, List.length_set]); omega) | simp) [e0, e1, e2, e7, g1, hlt', hA, hg, hC0, hx, -g2_pianolaref9_Wheel_Arm]
      refine out _ (fun y hy => ?_) (by simp [e0]) (by simp [e1]) (by simp [e2]) (by simp [e7])
      have h6 := hsc
      rw [hU] at h6
      have h7 := (List.pairwise_append.1 h6).2.1
      rcases List.mem_cons.1 hy with rfl | hy
      · omega
      · have := (List.pairwise_cons.1 h7).1 y hy
        simp at this
        omega
end
end Go.Proofs.YtpdfdemoflofhaaGreat.Cd

/- Memory: what each function does. -/
set_option maxRecDepth 1000000
set_option maxHeartbeats 4000000
set_option linter.unusedSimpArgs false
set_option linter.unusedVariables false
namespace Go.Proofs.YtpdfdemoflofhaaGreat.Cd
open Go Go.Dx
/-- Memory as it lies: bytes, marks, what was written. -/
structure Ra (h : Hp) (x : Nat) (B : By) (M W : List Bool) : Prop where
  r : h.get (x + 3) = some (.cells false [.slice (some ⟨x, 0, none⟩) B.length B.length, .slice (some ⟨x + 1, 0, none⟩) M.length M.length, .slice (some ⟨x + 2, 0, none⟩) M.length M.length])
  b : h.get x = some (.cells false (B.map u8))
  m : h.get (x + 1) = some (.cells false (M.map Value.bool))
  w : h.get (x + 2) = some (.cells false (W.map Value.bool))
  sz : B.length = 1024 * M.length
  wl : W.length = M.length
  ml : 1 ≤ M.length ∧ M.length ≤ 64
section
variable {h : Hp} {q : Value → Hp → Prop} {x : Nat} {B : By} {M W : List Bool}
theorem Ra.keep {h' : Hp} (R : Ra h x B M W) (hk : ∀ b, x ≤ b → b ≤ x + 3 → h'.get b = h.get b) : Ra h' x B M W :=
  ⟨by rw [hk _ (by omega) (by omega), R.r], by rw [hk _ (by omega) (by omega), R.b], by rw [hk _ (by omega) (by omega), R.m], by rw [hk _ (by omega) (by omega), R.w], R.sz, R.wl, R.ml⟩
theorem Ra.lt (R : Ra h x B M W) : x + 3 < h.next := lt_of_get R.r
theorem Ra.kp {h' : Hp} (R : Ra h x B M W) (K : Kp h h') : Ra h' x B M W := R.keep fun b h1 h2 => K.get b (by have := R.lt; omega)
theorem Ra.upd {h' : Hp} {fp fp' : List Nat} (R : Ra h x B M W) (U : Upd h h' fp fp') (hn : ∀ b ∈ fp, b < x ∨ x + 3 < b) : Ra h' x B M W := R.keep fun b h1 h2 => U.get b (by have := R.lt; omega) fun hm => by have := hn b hm; omega
theorem rnew {n : Int} (hq : ∀ h', Ra h' h.next (List.replicate (1024 * (max 1 (min n 64)).toNat) 0#8) (List.replicate (max 1 (min n 64)).toNat false) (List.replicate (max 1 (min n 64)).toNat false) → Kp h h' → h'.next = h.next + 4 → q (ptr (h.next + 3) 0) h') :
    WC T n_ram_New [.int .i64 n] h q := by
  obtain ⟨m, hm, h1, h2⟩ : ∃ m : Nat, (if 1 < if 64 < n then 64 else n then if 64 < n then 64 else n else 1) = (m : Int) ∧ 1 ≤ m ∧ m ≤ 64 := ⟨(max 1 (min n 64)).toNat, by omega, by omega, by omega⟩
  have e : (max 1 (min n 64)).toNat = m := by omega
  rw [e] at hq
  have e2 : ((m : Int) * 1024).toNat = 1024 * m := by omega
  rw [w_ram_New]
  simp (maxSteps := 1000000) (disch := first | assumption | ((try simp only [push_next, put_next, adv_next, List.length_cons, List.length_nil, List.length_map, List.length_set]); omega) | simp) [hm, e2]
  refine hq _ ⟨?_, ?_, ?_, ?_, ?_, ?_, ?_⟩ ((((((Kp.refl h).adv 4).put (Nat.le_refl _) _).put (by omega) _).put (by omega) _).put (by omega) _) (by simp)
  · rw [get_put_self (by simp)]
    simp
  · rw [get_put_ne (by omega), get_put_ne (by omega), get_put_ne (by omega), get_put_self (by simp)]
    simp
  · rw [get_put_ne (by omega), get_put_ne (by omega), get_put_self (by simp)]
    simp
  · rw [get_put_ne (by omega), get_put_self (by simp)]
    simp
  · simp
  · simp
  · simpa using ⟨h1, h2⟩
theorem rsize (R : Ra h x B M W) : WC T n_ram_Ram_Size [ptr (x + 3) 0] h q ↔ q (u32 (BitVec.ofNat 32 B.length)) h := by
  have hr := R.r
  rw [w_ram_Ram_Size]
  simp (maxSteps := 1000000) (disch := first | assumption | ((try simp only [push_next, put_next, adv_next, List.length_cons, List.length_nil, List.length_map, List.length_set]); omega) | simp) [hr]
theorem rthere {a : BitVec 32} {n : Int} (R : Ra h x B M W) (hn : -2 ^ 62 ≤ n ∧ n ≤ 2 ^ 62) : WC T n_ram_Ram_there [ptr (x + 3) 0, u32 a, .int .i64 n] h q ↔ q (.bool (thB B a n)) h := by
  have hr := R.r
  have hl := R.sz
  have hm := R.ml
  have ha := a.isLt
  rw [w_ram_Ram_there]
  by_cases c1 : 0 ≤ n
  · by_cases c2 : (a.toNat : Int) ≤ B.length
    · simp (maxSteps := 1000000) (disch := first | assumption | ((try simp only [push_next, put_next, adv_next, List.length_cons, List.length_nil, List.length_map, List.length_set]); omega) | simp) [hr, c1, c2, thB]
    · simp (maxSteps := 1000000) (disch := first | assumption | ((try simp only [push_next, put_next, adv_next, List.length_cons, List.length_nil, List.length_map, List.length_set]); omega) | simp) [hr, c1, c2, thB]
  · simp (maxSteps := 1000000) (disch := first | assumption | ((try simp only [push_next, put_next, adv_next, List.length_cons, List.length_nil, List.length_map, List.length_set]); omega) | simp) [hr, c1, thB]
theorem ev_th {a : BitVec 32} {n : Int} (hn : n = 1 ∨ n = 2 ∨ n = 4) : evB B a n = (decide ((a.toNat : Int) % n = 0) && thB B a n) := by
  unfold evB thB
  rw [← Bool.decide_and]
  congr 1
  apply propext
  constructor
  · rintro ⟨_, h1, h2⟩; exact ⟨h1, by omega⟩
  · rintro ⟨h1, h2⟩; exact ⟨hn, h1, by omega⟩
theorem reven {a : BitVec 32} {n : Int} (R : Ra h x B M W) (hn : -2 ^ 62 ≤ n ∧ n ≤ 2 ^ 62) : WC T n_ram_Ram_even [ptr (x + 3) 0, u32 a, .int .i64 n] h q ↔ q (.bool (evB B a n)) h := by
  rw [w_ram_Ram_even]
  have ht := fun q => rthere (q := q) (a := a) R hn
  by_cases c1 : n = 1
  · subst c1
    rw [ev_th (by omega)]
    simp (maxSteps := 1000000) (disch := first | assumption | ((try simp only [push_next, put_next, adv_next, List.length_cons, List.length_nil, List.length_map, List.length_set]); omega) | simp) [GC_of ht]
  by_cases c2 : n = 2
  · subst c2
    rw [ev_th (by omega)]
    have e : ((a.toNat : Int) % 2 = 0) ↔ a % 2#32 = 0#32 := by
      rw [← BitVec.toNat_inj]
      simp
      omega
    simp only [e]
    by_cases c3 : a % 2#32 = 0#32
    · simp (maxSteps := 1000000) (disch := first | assumption | ((try simp only [push_next, put_next, adv_next, List.length_cons, List.length_nil, List.length_map, List.length_set]); omega) | simp) [GC_of ht, c3]
    · simp (maxSteps := 1000000) (disch := first | assumption | ((try simp only [push_next, put_next, adv_next, List.length_cons, List.length_nil, List.length_map, List.length_set]); omega) | simp) [c3]
  by_cases c4 : n = 4
  · subst c4
    rw [ev_th (by omega)]
    have e : ((a.toNat : Int) % 4 = 0) ↔ a % 4#32 = 0#32 := by
      rw [← BitVec.toNat_inj]
      simp
      omega
    simp only [e]
    by_cases c3 : a % 4#32 = 0#32
    · simp (maxSteps := 1000000) (disch := first | assumption | ((try simp only [push_next, put_next, adv_next, List.length_cons, List.length_nil, List.length_map, List.length_set]); omega) | simp) [GC_of ht, c3]
    · simp (maxSteps := 1000000) (disch := first | assumption | ((try simp only [push_next, put_next, adv_next, List.length_cons, List.length_nil, List.length_map, List.length_set]); omega) | simp) [c3]
  simp (maxSteps := 1000000) (disch := first | assumption | ((try simp only [push_next, put_next, adv_next, List.length_cons, List.length_nil, List.length_map, List.length_set]); omega) | simp) [c1, c2, c4, evB]
/-- What is loaded. -/
theorem rload {a : BitVec 32} {n : Int} (R : Ra h x B M W) (hn : -2 ^ 62 ≤ n ∧ n ≤ 2 ^ 62) : WC T n_ram_Ram_Load [ptr (x + 3) 0, u32 a, .int .i64 n] h q ↔ q (.tuple #[u32 (if evB B a n = true then ldB B a.toNat n.toNat else 0#32), .bool (evB B a n)]) h := by
  have he := fun q => reven (q := q) (a := a) R hn
  have hr := R.r
  have hl := R.sz
  have hm := R.ml
  refine WC_iff ?_ q
  rw [w_ram_Ram_Load]
  cases hc : evB B a n with
  | false =>
    rw [hc] at he
    simp (maxSteps := 1000000) (disch := first | assumption | ((try simp only [push_next, put_next, adv_next, List.length_cons, List.length_nil, List.length_map, List.length_set]); omega) | simp) [GC_of he]
  | true =>
    rw [hc] at he
    simp only [evB, decide_eq_true_eq] at hc
    obtain ⟨m, rfl⟩ := Int.eq_ofNat_of_zero_le (show 0 ≤ n by omega)
    obtain ⟨a', c', hs, hc', S⟩ := (sees_b R.b).parte (a := a) (m := m) (by omega) (Nat.le_refl _)
    simp only [encB_sz] at hs
    simp (maxSteps := 1000000) (disch := first | assumption | ((try simp only [push_next, put_next, adv_next, List.length_cons, List.length_nil, List.length_map, List.length_set]); omega) | simp) [GC_of he, hr, hs]
    have hL : ((B.drop a.toNat).take m).length = m := by simp; omega
    unfold ldB
    generalize (B.drop a.toNat).take m = L at *
    refine G_loop (fun n e h' => ∃ us bs, n = bs.length ∧ L = us ++ bs ∧ e 8 = u32 (ldL us) ∧ e 25 = .slice a' m c' ∧ e 26 = .int .i64 m ∧ e 27 = .int .i64 us.length ∧ h' = h) ?_ m _ _ ⟨[], L, hL.symm, rfl, by simp [ldL], by simp, by simp, by simp, rfl⟩
    rintro n ih e h' ⟨us, bs, rfl, hx, e8, e25, e26, e27, rfl⟩
    cases bs with
    | nil =>
      have h9 : us.length = m := by rw [← hL, hx]; simp
      rw [List.append_nil] at hx
      subst hx
      simp (maxSteps := 1000000) (disch := first | assumption | ((try simp only [push_next, put_next, adv_next, List.length_cons, List.length_nil, List.length_map, List.length_set]); omega) | simp) [e27, e26, h9, e8]
    | cons c bs =>
      rw [hx] at hL
      have hlt : (us.length : Int) < m := by rw [← hL]; simp; omega
      rw [hx] at S
      obtain ⟨A, ro, C, hA, hg, hC⟩ := S.cell (f := u8) (fun _ => rfl) rfl
      subst hA
      simp (maxSteps := 1000000) (disch := first | assumption | ((try simp only [push_next, put_next, adv_next, List.length_cons, List.length_nil, List.length_map, List.length_set]); omega) | simp) [e27, e26, hlt, e25, hg, hC, e8]
      exact ih bs.length (by simp) _ _ ⟨us ++ [c], bs, rfl, by simp [hx], by simp [ldL_snoc], by simp [e25], by simp [e26], by simp, rfl⟩
/-- Which pages were written. -/
theorem rtouch {a : BitVec 32} {n : Nat} (R : Ra h x B M W) (hn : a.toNat + n ≤ B.length) (hq : ∀ h', Ra h' x B M (tch M W a.toNat n) → Upd h h' [x + 2] [x + 2] → q (.tuple #[]) h') : WC T n_ram_Ram_touch [ptr (x + 3) 0, u32 a, .int .i64 n] h q := by
  have hr := R.r
  have hl := R.sz
  have hm := R.ml
  have hwl := R.wl
  have ha := a.isLt
  rw [w_ram_Ram_touch]
  by_cases h0 : n = 0
  · subst h0
    simp (maxSteps := 1000000) (disch := first | assumption | ((try simp only [push_next, put_next, adv_next, List.length_cons, List.length_nil, List.length_map, List.length_set]); omega) | simp)
    have := hq h (by simpa [tch] using R) (Kp.upd (Kp.refl h) _)
    simpa using this
  have h1 : ¬ (n : Int) < 1 := by omega
  rw [tch_tpg _ _ h0] at hq
  have hlast : (a.toNat + n - 1) / 1024 < W.length := by omega
  have hi1 : (((a.toNat + n - 1) / 1024 : Nat) : Int) = ((a.toNat : Int) + n - 1) / 1024 := by omega
  have hi2 : ((a.toNat : Int) + n - 1).tdiv 1024 = ((a.toNat : Int) + n - 1) / 1024 := Int.tdiv_eq_ediv_of_nonneg (by omega)
  have hlo : a.toNat / 1024 ≤ (a.toNat + n - 1) / 1024 := Nat.div_le_div_right (by omega)
  simp (maxSteps := 1000000) (disch := first | assumption | ((try simp only [push_next, put_next, adv_next, List.length_cons, List.length_nil, List.length_map, List.length_set]); omega) | simp) [h1]
  refine G_loop (fun k e h' => ∃ p : Nat, k = (a.toNat + n - 1) / 1024 + 1 - p ∧ a.toNat / 1024 ≤ p ∧ p ≤ (a.toNat + n - 1) / 1024 + 1 ∧ e 0 = ptr (x + 3) 0 ∧ e 1 = u32 a ∧ e 2 = .int .i64 n ∧ e 6 = .int .i64 p ∧ Ra h' x B M (tpg M W (a.toNat / 1024) p) ∧ Upd h h' [x + 2] [x + 2]) ?_ ((a.toNat + n - 1) / 1024 + 1 - a.toNat / 1024) _ _ ⟨a.toNat / 1024, rfl, Nat.le_refl _, by omega, by simp, by simp, by simp, by simp, by rw [tpg_self]; exact R, Kp.upd (Kp.refl h) _⟩
  rintro k ih e h' ⟨p, rfl, p1, p2, e0, e1, e2, e6, R', U'⟩
  generalize hlastv : (a.toNat + n - 1) / 1024 = last at *
  by_cases hp : p ≤ last
  · have hpi : (p : Int) ≤ ((a.toNat : Int) + n - 1) / 1024 := by omega
    have hr' := R'.r
    have hw' := R'.w
    have hm' := R'.m
    have hlt := R'.lt
    have hW : ((tpg M W (a.toNat / 1024) p).map Value.bool)[p]? = some (.bool (W.getD p false)) := by
      rw [List.getElem?_map, tpg_at (by omega)]
      have : ¬ (a.toNat / 1024 ≤ p ∧ p < p) := by omega
      simp [this]
    have hM : (M.map Value.bool)[p]? = some (.bool (M.getD p false)) := by
      rw [List.getElem?_map, List.getElem?_eq_getElem (by omega)]
      simp [show p < M.length by omega]
    have hset : ((tpg M W (a.toNat / 1024) p).map Value.bool).set p (.bool (W.getD p false || M.getD p false)) = (tpg M W (a.toNat / 1024) (p + 1)).map Value.bool := by
      rw [← tpg_set p1 (by omega), List.map_set]
    have hWn : ((tpg M W (a.toNat / 1024) p).map Value.bool).length = M.length := by simp [hwl]
    have hMn : (M.map Value.bool).length = M.length := by simp
    have hpM : p < M.length := by omega
    have hp1 : p + 1 ≤ M.length := by omega
    have hfin : Ra (h'.put (x + 2) (some (.cells false ((tpg M W (a.toNat / 1024) (p + 1)).map Value.bool)))) x B M (tpg M W (a.toNat / 1024) (p + 1)) :=
      ⟨by rw [get_put_ne (by omega), R'.r], by rw [get_put_ne (by omega), R'.b], by rw [get_put_ne (by omega), R'.m], by rw [get_put_self (by omega)], R'.sz, by simp [hwl], R'.ml⟩
    have hst : ∀ v, over ((tpg M W (a.toNat / 1024) p).map Value.bool) p [v] = ((tpg M W (a.toNat / 1024) p).map Value.bool).set p v := fun v => over_set (by rw [hWn]; exact hpM)
    generalize (tpg M W (a.toNat / 1024) p).map Value.bool = WL at *
    generalize (tpg M W (a.toNat / 1024) (p + 1)).map Value.bool = WL2 at *
    generalize M.map Value.bool = ML at *
    generalize W.getD p false = w0 at *
    generalize M.getD p false = m0 at *
    have fin : ∀ e', e' 0 = ptr (x + 3) 0 → e' 1 = u32 a → e' 2 = .int .i64 n → e' 6 = .int .i64 ((p : Int) + 1) → G T (fin [] (some []) h.next q) c1_ram_Ram_touch.loop [Fr.block 0] e' (h'.put (x + 2) (some (.cells false WL2))) := fun e' f0 f1 f2 f6 =>
      ih (last + 1 - (p + 1)) (by omega) _ _ ⟨p + 1, rfl, by omega, by omega, f0, f1, f2, by simpa using f6, hfin, U'.put1⟩
    have hW2 : ∀ hh : p < WL.length, WL[p]'hh = .bool w0 := fun hh => by rw [List.getElem?_eq_getElem hh] at hW; exact Option.some.inj hW
    have hM2 : ∀ hh : p < ML.length, ML[p]'hh = .bool m0 := fun hh => by rw [List.getElem?_eq_getElem hh] at hM; exact Option.some.inj hM
    cases w0
    · simp only [Bool.false_or] at hset
      simp (maxSteps := 1000000) (disch := first | assumption | ((try simp only [push_next, put_next, adv_next, List.length_cons, List.length_nil, List.length_map, List.length_set]); omega) | simp) [e0, e1, e2, e6, hi2, hpi, hr', hw', hm', hW, hM, hW2, hM2, hst, hset, hWn, hMn, hp1, -over]
      exact fin _ (by simp [e0]) (by simp [e1]) (by simp [e2]) (by simp)
    · simp only [Bool.true_or] at hset
      simp (maxSteps := 1000000) (disch := first | assumption | ((try simp only [push_next, put_next, adv_next, List.length_cons, List.length_nil, List.length_map, List.length_set]); omega) | simp) [e0, e1, e2, e6, hi2, hpi, hr', hw', hm', hW, hM, hW2, hM2, hst, hset, hWn, hMn, hp1, -over]
      exact fin _ (by simp [e0]) (by simp [e1]) (by simp [e2]) (by simp)
  · have : p = last + 1 := by omega
    subst this
    have hpi : ¬ (last : Int) + 1 ≤ ((a.toNat : Int) + n - 1) / 1024 := by omega
    simp (maxSteps := 1000000) (disch := first | assumption | ((try simp only [push_next, put_next, adv_next, List.length_cons, List.length_nil, List.length_map, List.length_set]); omega) | simp) [e1, e2, e6, hi2, hpi]
    exact hq _ R' U'
/-- Bytes that are handed out. -/
theorem rbytes {a : BitVec 32} {n : Int} (R : Ra h x B M W) (hn : -2 ^ 62 ≤ n ∧ n ≤ 2 ^ 62) (hno : thB B a n = false → q (.tuple #[.slice none 0 0, .bool false]) h)
    (hyes : ∀ m : Nat, n = m → a.toNat + m ≤ B.length → thB B a n = true → ∀ a' c' h', Sees encB h' a' ((B.drop a.toNat).take m) → Kp h h' → (∀ A, a' = some A → h.next ≤ A.block) → m ≤ c' → ((B.drop a.toNat).take m = [] ∨ ∃ fp, Own encB h' (.slice a' m c') ((B.drop a.toNat).take m) fp ∧ ∀ b ∈ fp, h.next ≤ b) → q (.tuple #[.slice a' m c', .bool true]) h') : WC T n_ram_Ram_Bytes [ptr (x + 3) 0, u32 a, .int .i64 n] h q := by
  have ht := fun q => rthere (q := q) (a := a) R hn
  have hr := R.r
  have hl := R.sz
  have hm := R.ml
  rw [w_ram_Ram_Bytes]
  cases hc : thB B a n with
  | false =>
    rw [hc] at ht
    simp (maxSteps := 1000000) (disch := first | assumption | ((try simp only [push_next, put_next, adv_next, List.length_cons, List.length_nil, List.length_map, List.length_set]); omega) | simp) [GC_of ht]
    exact hno hc
  | true =>
    rw [hc] at ht
    have hc' := hc
    simp only [thB, decide_eq_true_eq] at hc
    obtain ⟨m, rfl⟩ := Int.eq_ofNat_of_zero_le hc.1
    obtain ⟨a', c', hs, hc2, S⟩ := (sees_b R.b).parte (a := a) (m := m) (by omega) (Nat.le_refl _)
    simp only [encB_sz] at hs
    have hL : ((B.drop a.toNat).take m).length = m := by simp; omega
    simp (maxSteps := 1000000) (disch := first | assumption | ((try simp only [push_next, put_next, adv_next, List.length_cons, List.length_nil, List.length_map, List.length_set]); omega) | simp) [GC_of ht, hr, hs]
    have hcl := clone_by (q := fun v h' => q (.tuple #[v, .bool true]) h') (c := c') S (by omega) fun a2 c2 h2 S2 K2 F2 O2 => by
      rw [hL] at O2 ⊢
      refine hyes m rfl (by omega) hc' a2 c2 h2 S2 K2 F2 ?_ O2
      rcases O2 with O2 | ⟨fp, O2, _⟩
      · rw [O2] at hL
        simp at hL
        omega
      · obtain ⟨a3, c3, h3, _, h4, _⟩ := O2.len
        simp only [Value.slice.injEq] at h3
        omega
    rw [hL] at hcl
    unfold GC
    refine GC_intro hcl fun v h1 hv => ?_
    simp (maxSteps := 1000000) (disch := first | assumption | ((try simp only [push_next, put_next, adv_next, List.length_cons, List.length_nil, List.length_map, List.length_set]); omega) | simp)
    exact hv
/-- Bytes that are put there. -/
theorem rput {a : BitVec 32} {l : By} {s : Option Addr} {c : Nat} (R : Ra h x B M W) (S : Sees encB h s l) (hb : l.length < 2 ^ 40) (hno : thB B a l.length = false → q (.bool false) h)
    (hyes : thB B a l.length = true → ∀ h', Ra h' x (ovB B a.toNat l) M (tch M W a.toNat l.length) → Upd h h' [x, x + 2] [x, x + 2] → q (.bool true) h') : WC T n_ram_Ram_Put [ptr (x + 3) 0, u32 a, .slice s l.length c] h q := by
  have ht := fun q => rthere (q := q) (a := a) (n := l.length) R (by omega)
  have hr := R.r
  have hl := R.sz
  have hm := R.ml
  have hlt := R.lt
  rw [w_ram_Ram_Put]
  cases hc : thB B a l.length with
  | false =>
    rw [hc] at ht
    simp (maxSteps := 1000000) (disch := first | assumption | ((try simp only [push_next, put_next, adv_next, List.length_cons, List.length_nil, List.length_map, List.length_set]); omega) | simp) [GC_of ht]
    exact hno hc
  | true =>
    rw [hc] at ht
    have hc' := hc
    simp only [thB, decide_eq_true_eq] at hc
    have hs := sliceV_lo' (sz := 1) (b := x) (o := 0) (n := B.length) (k := .u32) (lo := a.toNat) (by omega) (by omega)
    have hs' : sliceV 1 (.slice (some ⟨x, 0, none⟩) B.length B.length) (some (u32 a)) none none = some (.slice (some (if B.length = a.toNat then ⟨x, 0, none⟩ else ⟨x, a.toNat, none⟩)) (B.length - a.toNat) (B.length - a.toNat)) := by
      have e : u32 a = .int .u32 (a.toNat : Int) := rfl
      rw [e, hs]
      simp
    have hcp := cpy_in (c := B.length - a.toNat) (c' := c) R.b S (show a.toNat + l.length ≤ B.length by omega)
    have hR : Ra (h.put x (some (.cells false ((ovB B a.toNat l).map u8)))) x (ovB B a.toNat l) M W :=
      ⟨by rw [get_put_ne (by omega), R.r, ovB_length (by omega)], by rw [get_put_self (by omega)], by rw [get_put_ne (by omega), R.m], by rw [get_put_ne (by omega), R.w], by rw [ovB_length (by omega), R.sz], R.wl, R.ml⟩
    simp (maxSteps := 1000000) (disch := first | assumption | ((try simp only [push_next, put_next, adv_next, List.length_cons, List.length_nil, List.length_map, List.length_set]); omega) | simp) [GC_of ht, hr, hs', hcp]
    refine GC_intro (rtouch (q := fun v h' => v = .tuple #[] ∧ Ra h' x (ovB B a.toNat l) M (tch M W a.toNat l.length) ∧ Upd h h' [x, x + 2] [x, x + 2]) hR (by rw [ovB_length (by omega)]; omega) fun h2 R2 U2 => ⟨rfl, R2, ?_⟩) fun v h2 ⟨hv, R2, U2⟩ => ?_
    · refine ⟨?_, fun k hk hn => ?_, fun k hk => .inl hk⟩
      · have := U2.le; simpa using this
      · rw [U2.get k (by simpa using hk) (by simp at hn ⊢; exact hn.2), get_put_ne (by simp at hn; exact hn.1)]
    · subst hv
      simp (maxSteps := 1000000) (disch := first | assumption | ((try simp only [push_next, put_next, adv_next, List.length_cons, List.length_nil, List.length_map, List.length_set]); omega) | simp)
      exact hyes hc' _ R2 U2
/-- What is stored. -/
theorem rstore {a v : BitVec 32} {n : Int} (R : Ra h x B M W) (hn : -2 ^ 62 ≤ n ∧ n ≤ 2 ^ 62) (hno : evB B a n = false → q (.bool false) h)
    (hyes : evB B a n = true → ∀ h', Ra h' x (stB B a.toNat n.toNat v) M (tch M W a.toNat n.toNat) → Upd h h' [x, x + 2] [x, x + 2] → q (.bool true) h') : WC T n_ram_Ram_Store [ptr (x + 3) 0, u32 a, .int .i64 n, u32 v] h q := by
  have he := fun q => reven (q := q) (a := a) R hn
  have hr := R.r
  have hl := R.sz
  have hm := R.ml
  have hlt := R.lt
  have ha := a.isLt
  rw [w_ram_Ram_Store]
  cases hc : evB B a n with
  | false =>
    rw [hc] at he
    simp (maxSteps := 1000000) (disch := first | assumption | ((try simp only [push_next, put_next, adv_next, List.length_cons, List.length_nil, List.length_map, List.length_set]); omega) | simp) [GC_of he]
    exact hno hc
  | true =>
    rw [hc] at he
    have hc' := hc
    simp only [evB, decide_eq_true_eq] at hc
    obtain ⟨m, rfl⟩ := Int.eq_ofNat_of_zero_le (show 0 ≤ n by omega)
    simp (maxSteps := 1000000) (disch := first | assumption | ((try simp only [push_next, put_next, adv_next, List.length_cons, List.length_nil, List.length_map, List.length_set]); omega) | simp) [GC_of he]
    refine G_loop (fun j e h' => ∃ k : Nat, j = m - k ∧ k ≤ m ∧ e 0 = ptr (x + 3) 0 ∧ e 1 = u32 a ∧ e 2 = .int .i64 m ∧ e 3 = u32 v ∧ e 15 = .int .i64 m ∧ e 16 = .int .i64 k ∧ Ra h' x (ovB B (a.toNat + m - k) ((wdB v m).drop (m - k))) M W ∧ Upd h h' [x, x + 2] [x, x + 2]) ?_ m _ _ ⟨0, rfl, Nat.zero_le _, by simp, by simp, by simp, by simp, by simp, by simp, by rw [List.drop_of_length_le (by simp), ovB_nil]; exact R, Kp.upd (Kp.refl h) _⟩
    rintro j ih e h' ⟨k, rfl, hk, e0, e1, e2, e3, e15, e16, R', U'⟩
    by_cases hkm : k < m
    · have hki : (k : Int) < m := by omega
      have hr' := R'.r
      have hb' := R'.b
      have hlt' := R'.lt
      have hlen : (ovB B (a.toNat + m - k) ((wdB v m).drop (m - k))).length = B.length := ovB_length (by simp; omega)
      have hset := ovB_set (B := B) (l := (wdB v m).drop (m - k)) (p := a.toNat + m - 1 - k) (c := (v >>> (8 * k)).setWidth 8) (by omega)
      rw [show a.toNat + m - 1 - k + 1 = a.toNat + m - k by omega, ← wdB_drop hkm] at hset
      have hfin : Ra (h'.put x (some (.cells false ((ovB B (a.toNat + m - (k + 1)) ((wdB v m).drop (m - (k + 1)))).map u8)))) x (ovB B (a.toNat + m - (k + 1)) ((wdB v m).drop (m - (k + 1)))) M W := by
        have hlen2 : (ovB B (a.toNat + m - (k + 1)) ((wdB v m).drop (m - (k + 1)))).length = B.length := ovB_length (by simp; omega)
        exact ⟨by rw [get_put_ne (by omega), R'.r, hlen, hlen2], by rw [get_put_self (by omega)], by rw [get_put_ne (by omega), R'.m], by rw [get_put_ne (by omega), R'.w], by rw [hlen2, R.sz], R.wl, R.ml⟩
      rw [show a.toNat + m - 1 - k = a.toNat + m - (k + 1) by omega, show m - 1 - k = m - (k + 1) by omega] at hset
      rw [hlen] at hr'
      have hst : over ((ovB B (a.toNat + m - k) ((wdB v m).drop (m - k))).map u8) (a.toNat + m - (k + 1)) [u8 ((v >>> (8 * k)).setWidth 8)] = (ovB B (a.toNat + m - (k + 1)) ((wdB v m).drop (m - (k + 1)))).map u8 := by
        rw [over_set (by simp [hlen]; omega), ← List.map_set, hset]
      have hix : ((a.toNat : Int) + m - 1 - k).toNat = a.toNat + m - (k + 1) := by omega
      have hbl : a.toNat + m - (k + 1) + 1 ≤ B.length := by omega
      have hsh : binV .shr (u32 v) (.int .i64 (8 * (k : Int))) = some (u32 (v >>> (8 * k))) := by
        have := shr_u32_n v .i64 (8 * k)
        simpa using this
      have hwr := wr_ok hb' (o := a.toNat + m - (k + 1)) (vs := [u8 ((v >>> (8 * k)).setWidth 8)]) (by simp [hlen]; omega) rfl
      rw [hst] at hwr
      simp (maxSteps := 1000000) (disch := first | assumption | ((try simp only [push_next, put_next, adv_next, List.length_cons, List.length_nil, List.length_map, List.length_set]); omega) | simp) [e0, e1, e2, e3, e15, e16, hki, hr', hb', hix, hsh, hwr, -over, -Hp.wr]
      exact ih (m - (k + 1)) (by omega) _ _ ⟨k + 1, rfl, by omega, by simp [e0], by simp [e1], by simp [e2], by simp [e3], by simp [e15], by simp, hfin, ⟨by simpa using U'.le, fun b hb hn => by rw [get_put_ne (by simp at hn; omega), U'.get b hb hn], fun b hb => .inl hb⟩⟩
    · have : k = m := by omega
      subst this
      simp (maxSteps := 1000000) (disch := first | assumption | ((try simp only [push_next, put_next, adv_next, List.length_cons, List.length_nil, List.length_map, List.length_set]); omega) | simp) [e15, e16, e0, e1, e2]
      rw [show a.toNat + k - k = a.toNat by omega, Nat.sub_self, List.drop_zero] at R'
      refine GC_intro (rtouch (q := fun v' h2 => v' = .tuple #[] ∧ Ra h2 x (stB B a.toNat k v) M (tch M W a.toNat k) ∧ Upd h h2 [x, x + 2] [x, x + 2]) R' (by rw [ovB_length (by simp; omega)]; omega) fun h2 R2 U2 => ⟨rfl, R2, ?_⟩) fun v' h2 ⟨hv, R2, U2⟩ => ?_
      · exact ⟨Nat.le_trans U'.le U2.le, fun b hb hn => by rw [U2.get b (Nat.lt_of_lt_of_le hb U'.le) (by simp at hn ⊢; exact hn.2), U'.get b hb hn], fun b hb => .inl hb⟩
      · subst hv
        simp (maxSteps := 1000000) (disch := first | assumption | ((try simp only [push_next, put_next, adv_next, List.length_cons, List.length_nil, List.length_map, List.length_set]); omega) | simp)
        exact hyes hc' _ (by simpa using R2) U2
end
end Go.Proofs.YtpdfdemoflofhaaGreat.Cd

/- The document's memory: what each function does. -/
set_option maxRecDepth 1000000
set_option maxHeartbeats 4000000
set_option linter.unusedSimpArgs false
set_option linter.unusedVariables false
namespace Go.Proofs.YtpdfdemoflofhaaGreat.Cd
open Go Go.Dx
section
variable {h : Hp} {q : Value → Hp → Prop} {x : Nat} {B : By} {M W : List Bool}
theorem zin {a : BitVec 32} {n : Int} (R : Ra h x B M W) (hn : n < 2 ^ 63) : WC T n_pianolaref2_Ram_In [ptr (x + 3) 0, u32 a, .int .i64 n] h q ↔ q (.bool (thB B a n)) h := by
  have hr := R.r
  have hl := R.sz
  have hm := R.ml
  have ha := a.isLt
  rw [w_pianolaref2_Ram_In]
  by_cases c1 : 0 ≤ n
  · obtain ⟨m, rfl⟩ := Int.eq_ofNat_of_zero_le c1
    have e1 : BitVec.setWidth 64 a + BitVec.ofNat 64 m ≤ BitVec.ofNat 64 B.length ↔ ((a.toNat : Int) ≤ B.length ∧ (m : Int) ≤ B.length - a.toNat) := by
      rw [BitVec.le_def, BitVec.toNat_add, BitVec.toNat_setWidth, BitVec.toNat_ofNat, BitVec.toNat_ofNat]
      omega
    have e2 : decide (BitVec.setWidth 64 a + BitVec.ofNat 64 m ≤ BitVec.ofNat 64 B.length) = thB B a m := by
      unfold thB
      rw [decide_eq_decide, e1]
      omega
    simp (maxSteps := 1000000) (disch := first | assumption | ((try simp only [push_next, put_next, adv_next, List.length_cons, List.length_nil, List.length_map, List.length_set]); omega) | simp) [hr, e2]
  · have e2 : thB B a n = false := by simp [thB, c1]
    simp (maxSteps := 1000000) (disch := first | assumption | ((try simp only [push_next, put_next, adv_next, List.length_cons, List.length_nil, List.length_map, List.length_set]); omega) | simp) [c1, e2]
theorem tch_step {M W : List Bool} {a n : Nat} (h : (a + n) / 1024 < W.length) : tch M W a (n + 1) = if M.getD ((a + n) / 1024) false = true then (tch M W a n).set ((a + n) / 1024) true else tch M W a n := by
  rw [tch_tpg _ _ (by omega)]
  have e : a + (n + 1) - 1 = a + n := by omega
  rw [e]
  have hW : tch M W a n = tpg M W (a / 1024) (if n = 0 then a / 1024 else (a + n - 1) / 1024 + 1) := by
    by_cases h0 : n = 0
    · rw [if_pos h0, tpg_self, h0]; simp [tch]
    · rw [if_neg h0, tch_tpg _ _ h0]
  rw [hW]
  by_cases hs : (if n = 0 then a / 1024 else (a + n - 1) / 1024 + 1) = (a + n) / 1024
  · rw [hs, ← tpg_set (by omega) h]
    by_cases hM : M.getD ((a + n) / 1024) false = true
    · rw [if_pos hM, hM, Bool.or_true]
    · rw [if_neg hM]
      have : M.getD ((a + n) / 1024) false = false := by simpa using hM
      rw [this, Bool.or_false]
      apply List.ext_getElem?
      intro i
      by_cases hi : i = (a + n) / 1024
      · subst hi
        rw [List.getElem?_set_self (by simpa using h), tpg_at h]
        simp
      · rw [List.getElem?_set_ne (by omega)]
  · have hn0 : n ≠ 0 := fun h0 => hs (by rw [if_pos h0, h0]; rfl)
    rw [if_neg hn0] at hs ⊢
    have e3 : (a + n - 1) / 1024 = (a + n) / 1024 := by omega
    rw [e3]
    by_cases hM : M.getD ((a + n) / 1024) false = true
    · rw [if_pos hM]
      apply List.ext_getElem?
      intro i
      by_cases hi : i = (a + n) / 1024
      · subst hi
        rw [List.getElem?_set_self (by simpa using h), tpg_at h, hM]
        have : a / 1024 ≤ (a + n) / 1024 := Nat.div_le_div_right (by omega)
        simp [this]
      · rw [List.getElem?_set_ne (by omega)]
    · rw [if_neg hM]
theorem ztouch {a : BitVec 32} {n : Nat} (R : Ra h x B M W) (hn : a.toNat + n ≤ B.length) (hq : ∀ h', Ra h' x B M (tch M W a.toNat n) → Upd h h' [x + 2] [x + 2] → q (.tuple #[]) h') : WC T n_pianolaref2_Ram_touch [ptr (x + 3) 0, u32 a, .int .i64 n] h q := by
  have hl := R.sz
  have hm := R.ml
  have hwl := R.wl
  have ha := a.isLt
  rw [w_pianolaref2_Ram_touch]
  simp (maxSteps := 1000000) (disch := first | assumption | ((try simp only [push_next, put_next, adv_next, List.length_cons, List.length_nil, List.length_map, List.length_set]); omega) | simp)
  refine G_loop (fun k e h' => ∃ p : Nat, k = n - p ∧ p ≤ n ∧ e 0 = ptr (x + 3) 0 ∧ e 1 = u32 a ∧ e 2 = .int .i64 n ∧ e 6 = .int .i64 p ∧ Ra h' x B M (tch M W a.toNat p) ∧ Upd h h' [x + 2] [x + 2]) ?_ n _ _ ⟨0, rfl, Nat.zero_le _, by simp, by simp, by simp, by simp, by simpa [tch] using R, Kp.upd (Kp.refl h) _⟩
  rintro k ih e h' ⟨p, rfl, p1, e0, e1, e2, e6, R', U'⟩
  by_cases hp : p < n
  · have hpi : (p : Int) < n := by omega
    have hr' := R'.r
    have hw' := R'.w
    have hm' := R'.m
    have hlt := R'.lt
    obtain ⟨k, hk⟩ : ∃ k, k = (a.toNat + p) / 1024 := ⟨_, rfl⟩
    have hkM : k < M.length := by omega
    have hd : ((a.toNat : Int) + p).tdiv 1024 = (k : Int) := by rw [Int.tdiv_eq_ediv_of_nonneg (by omega)]; omega
    have hst := tch_step (M := M) (W := W) (a := a.toNat) (n := p) (by omega)
    rw [← hk] at hst
    have hM : (M.map Value.bool)[k]? = some (.bool (M.getD k false)) := by
      rw [List.getElem?_map, List.getElem?_eq_getElem (by omega)]
      simp [show k < M.length by omega]
    have hMn : (M.map Value.bool).length = M.length := by simp
    have hM2 : ∀ hh : k < (M.map Value.bool).length, (M.map Value.bool)[k]'hh = .bool (M.getD k false) := fun hh => by rw [List.getElem?_eq_getElem hh] at hM; exact Option.some.inj hM
    have hlw : (tch M W a.toNat p).length = M.length := by simp [hwl]
    generalize M.getD k false = m0 at *
    generalize hML : M.map Value.bool = ML at *
    cases m0 with
    | false =>
      simp only [Bool.false_eq_true, if_false] at hst
      simp (maxSteps := 1000000) (disch := first | assumption | ((try simp only [push_next, put_next, adv_next, List.length_cons, List.length_nil, List.length_map, List.length_set]); omega) | simp) [e0, e1, e2, e6, hpi, hr', hm', hd, hM, hM2, hMn, hkM]
      exact ih (n - (p + 1)) (by omega) _ _ ⟨p + 1, rfl, by omega, by simp [e0], by simp [e1], by simp [e2], by simp, by rw [hst]; exact R', U'⟩
    | true =>
      simp only [if_true] at hst
      have hov : over ((tch M W a.toNat p).map Value.bool) k [.bool true] = (tch M W a.toNat (p + 1)).map Value.bool := by
        rw [over_set (by simp [hwl]; omega), hst, List.map_set]
      have hwr := wr_ok hw' (o := k) (vs := [.bool true]) (by simp [hwl]; omega) rfl
      rw [hov] at hwr
      simp (maxSteps := 1000000) (disch := first | assumption | ((try simp only [push_next, put_next, adv_next, List.length_cons, List.length_nil, List.length_map, List.length_set]); omega) | simp) [e0, e1, e2, e6, hpi, hr', hm', hd, hM, hM2, hMn, hkM, hlw, hwr, -over, -Hp.wr]
      refine ih (n - (p + 1)) (by omega) _ _ ⟨p + 1, rfl, by omega, by simp [e0], by simp [e1], by simp [e2], by simp, ?_, U'.put1⟩
      exact ⟨by rw [get_put_ne (by omega), R'.r], by rw [get_put_ne (by omega), R'.b], by rw [get_put_ne (by omega), R'.m], by rw [get_put_self (by omega)], R'.sz, by simp [hwl], R'.ml⟩
  · have : p = n := by omega
    subst this
    simp (maxSteps := 1000000) (disch := first | assumption | ((try simp only [push_next, put_next, adv_next, List.length_cons, List.length_nil, List.length_map, List.length_set]); omega) | simp) [e2, e6]
    exact hq _ R' U'
theorem zput {a : BitVec 32} {l : By} {s : Option Addr} {c : Nat} (R : Ra h x B M W) (S : Sees encB h s l) (hb : l.length < 2 ^ 40) (hno : thB B a l.length = false → q (.bool false) h)
    (hyes : thB B a l.length = true → ∀ h', Ra h' x (ovB B a.toNat l) M (tch M W a.toNat l.length) → Upd h h' [x, x + 2] [x, x + 2] → q (.bool true) h') : WC T n_pianolaref2_Ram_Put [ptr (x + 3) 0, u32 a, .slice s l.length c] h q := by
  have ht := fun q => zin (q := q) (a := a) (n := l.length) R (by omega)
  have hr := R.r
  have hl := R.sz
  have hm := R.ml
  have hlt := R.lt
  rw [w_pianolaref2_Ram_Put]
  cases hc : thB B a l.length with
  | false =>
    rw [hc] at ht
    simp (maxSteps := 1000000) (disch := first | assumption | ((try simp only [push_next, put_next, adv_next, List.length_cons, List.length_nil, List.length_map, List.length_set]); omega) | simp) [GC_of ht]
    exact hno hc
  | true =>
    rw [hc] at ht
    have hc' := hc
    simp only [thB, decide_eq_true_eq] at hc
    have hs := sliceV_lo' (sz := 1) (b := x) (o := 0) (n := B.length) (k := .u32) (lo := a.toNat) (by omega) (by omega)
    have hs' : sliceV 1 (.slice (some ⟨x, 0, none⟩) B.length B.length) (some (u32 a)) none none = some (.slice (some (if B.length = a.toNat then ⟨x, 0, none⟩ else ⟨x, a.toNat, none⟩)) (B.length - a.toNat) (B.length - a.toNat)) := by
      have e : u32 a = .int .u32 (a.toNat : Int) := rfl
      rw [e, hs]
      simp
    have hcp := cpy_in (c := B.length - a.toNat) (c' := c) R.b S (show a.toNat + l.length ≤ B.length by omega)
    have hR : Ra (h.put x (some (.cells false ((ovB B a.toNat l).map u8)))) x (ovB B a.toNat l) M W :=
      ⟨by rw [get_put_ne (by omega), R.r, ovB_length (by omega)], by rw [get_put_self (by omega)], by rw [get_put_ne (by omega), R.m], by rw [get_put_ne (by omega), R.w], by rw [ovB_length (by omega), R.sz], R.wl, R.ml⟩
    simp (maxSteps := 1000000) (disch := first | assumption | ((try simp only [push_next, put_next, adv_next, List.length_cons, List.length_nil, List.length_map, List.length_set]); omega) | simp) [GC_of ht, hr, hs', hcp]
    refine GC_intro (ztouch (q := fun v h' => v = .tuple #[] ∧ Ra h' x (ovB B a.toNat l) M (tch M W a.toNat l.length) ∧ Upd h h' [x, x + 2] [x, x + 2]) hR (by rw [ovB_length (by omega)]; omega) fun h2 R2 U2 => ⟨rfl, R2, ?_⟩) fun v h2 ⟨hv, R2, U2⟩ => ?_
    · refine ⟨?_, fun k hk hn => ?_, fun k hk => .inl hk⟩
      · have := U2.le; simpa using this
      · rw [U2.get k (by simpa using hk) (by simp at hn ⊢; exact hn.2), get_put_ne (by simp at hn; exact hn.1)]
    · subst hv
      simp (maxSteps := 1000000) (disch := first | assumption | ((try simp only [push_next, put_next, adv_next, List.length_cons, List.length_nil, List.length_map, List.length_set]); omega) | simp)
      exact hyes hc' _ R2 U2
theorem zbytes {a : BitVec 32} {n : Int} (R : Ra h x B M W) (hn : n < 2 ^ 63) (hno : thB B a n = false → q (.tuple #[.slice none 0 0, .bool false]) h)
    (hyes : ∀ m : Nat, n = m → a.toNat + m ≤ B.length → thB B a n = true → ∀ a' c' h', Sees encB h' a' ((B.drop a.toNat).take m) → Kp h h' → q (.tuple #[.slice a' m c', .bool true]) h') : WC T n_pianolaref2_Ram_Bytes [ptr (x + 3) 0, u32 a, .int .i64 n] h q := by
  have ht := fun q => zin (q := q) (a := a) R hn
  have hr := R.r
  have hl := R.sz
  have hm := R.ml
  rw [w_pianolaref2_Ram_Bytes]
  cases hc : thB B a n with
  | false =>
    rw [hc] at ht
    simp (maxSteps := 1000000) (disch := first | assumption | ((try simp only [push_next, put_next, adv_next, List.length_cons, List.length_nil, List.length_map, List.length_set]); omega) | simp) [GC_of ht]
    exact hno hc
  | true =>
    rw [hc] at ht
    have hc' := hc
    simp only [thB, decide_eq_true_eq] at hc
    obtain ⟨m, rfl⟩ := Int.eq_ofNat_of_zero_le hc.1
    obtain ⟨a', c', hs, hc2, S⟩ := (sees_b R.b).parte (a := a) (m := m) (by omega) (Nat.le_refl _)
    simp only [encB_sz] at hs
    have hL : ((B.drop a.toNat).take m).length = m := by simp; omega
    have K1 : Kp h (h.push (.cells false [])) := (Kp.refl h).push _
    have Oe : Own encB (h.push (.cells false [])) (.slice (some ⟨h.next, 0, none⟩) 0 0) [] [h.next] := .emp get_push_self
    have hr1 : (h.push (.cells false [])).get (x + 3) = _ := (K1.get _ R.lt).trans R.r
    simp (maxSteps := 1000000) (disch := first | assumption | ((try simp only [push_next, put_next, adv_next, List.length_cons, List.length_nil, List.length_map, List.length_set]); omega) | simp) [GC_of ht, hr1, hs]
    refine GV_app (E := encB) Oe (S.kp K1) hL.symm (by simp; omega) (by simp; omega) fun v2 h2 fp2 O2 U2 => ?_
    obtain ⟨a3, c3, hv3, s3, _, _⟩ := O2.len
    rw [List.nil_append, hL] at hv3
    rw [List.nil_append] at s3
    subst hv3
    simp (maxSteps := 1000000) (disch := first | assumption | ((try simp only [push_next, put_next, adv_next, List.length_cons, List.length_nil, List.length_map, List.length_set]); omega) | simp)
    exact hyes m rfl (by omega) hc' _ _ _ s3 (U2.kp' K1 (by simp))
theorem zstore {a v : BitVec 32} {n : Int} (R : Ra h x B M W) (hno : evB B a n = false → q (.bool false) h)
    (hyes : evB B a n = true → ∀ h', Ra h' x (stB B a.toNat n.toNat v) M (tch M W a.toNat n.toNat) → Upd h h' [x, x + 2] [x, x + 2] → q (.bool true) h') : WC T n_pianolaref2_Ram_Store [ptr (x + 3) 0, u32 a, .int .i64 n, u32 v] h q := by
  have hr := R.r
  have hl := R.sz
  have hm := R.ml
  have hlt := R.lt
  have ha := a.isLt
  rw [w_pianolaref2_Ram_Store]
  by_cases hn : n = 1 ∨ n = 2 ∨ n = 4
  case neg =>
    have c1 : n ≠ 1 := fun h => hn (.inl h)
    have c2 : n ≠ 2 := fun h => hn (.inr (.inl h))
    have c4 : n ≠ 4 := fun h => hn (.inr (.inr h))
    simp (maxSteps := 1000000) (disch := first | assumption | ((try simp only [push_next, put_next, adv_next, List.length_cons, List.length_nil, List.length_map, List.length_set]); omega) | simp) [c1, c2, c4]
    exact hno (by simp [evB, c1, c2, c4])
  obtain ⟨m, hnm⟩ := Int.eq_ofNat_of_zero_le (show 0 ≤ n by omega)
  have ht := fun q => zin (q := q) (a := a) (n := n) R (by omega)
  have e : ((a.toNat : Int) % n = 0) ↔ a % BitVec.ofInt 32 n = 0#32 := by
    rw [← BitVec.toNat_inj, BitVec.toNat_umod, BitVec.toNat_ofInt]
    rcases hn with rfl | rfl | rfl <;> simp <;> omega
  have hev : evB B a n = (decide (a % BitVec.ofInt 32 n = 0#32) && thB B a n) := by
    rw [ev_th hn]
    congr 1
    rw [decide_eq_decide]
    exact e
  cases hc : evB B a n with
  | false =>
    rw [hev] at hc
    replace hno := hno (by rw [hev]; exact hc)
    clear e hev
    by_cases c3 : a % BitVec.ofInt 32 n = 0#32
    · have c4 : thB B a n = false := by simpa only [c3, decide_true, Bool.true_and] using hc
      rw [c4] at ht
      rcases hn with rfl | rfl | rfl
      · simp (maxSteps := 1000000) (disch := first | assumption | ((try simp only [push_next, put_next, adv_next, List.length_cons, List.length_nil, List.length_map, List.length_set]); omega) | simp) [GC_of ht]
        exact hno
      · have c3 : a % 2#32 = 0#32 := c3
        simp (maxSteps := 1000000) (disch := first | assumption | ((try simp only [push_next, put_next, adv_next, List.length_cons, List.length_nil, List.length_map, List.length_set]); omega) | simp) [GC_of ht, c3]
        exact hno
      · have c3 : a % 4#32 = 0#32 := c3
        simp (maxSteps := 1000000) (disch := first | assumption | ((try simp only [push_next, put_next, adv_next, List.length_cons, List.length_nil, List.length_map, List.length_set]); omega) | simp) [GC_of ht, c3]
        exact hno
    · rcases hn with rfl | rfl | rfl
      · exact absurd (by simp) c3
      · have c3 : ¬ a % 2#32 = 0#32 := c3
        simp (maxSteps := 1000000) (disch := first | assumption | ((try simp only [push_next, put_next, adv_next, List.length_cons, List.length_nil, List.length_map, List.length_set]); omega) | simp) [c3]
        exact hno
      · have c3 : ¬ a % 4#32 = 0#32 := c3
        simp (maxSteps := 1000000) (disch := first | assumption | ((try simp only [push_next, put_next, adv_next, List.length_cons, List.length_nil, List.length_map, List.length_set]); omega) | simp) [c3]
        exact hno
  | true =>
    replace hyes := hyes hc
    rw [hev] at hc
    simp only [Bool.and_eq_true, decide_eq_true_eq] at hc
    obtain ⟨c3, c4⟩ := hc
    have c5 : a.toNat + m ≤ B.length := by simp only [thB, decide_eq_true_eq] at c4; omega
    rw [c4] at ht
    have hm4 : m ≤ 4 := by omega
    have hm1 : n.toNat = m := by omega
    rw [hm1] at hyes
    have body : ∀ e0 : Env, e0 0 = ptr (x + 3) 0 → e0 1 = u32 a → e0 2 = .int .i64 n → e0 3 = u32 v → e0 9 = .int .i64 0 → G T (fin [.t 8] (some []) h.next q) (.loop c1_pianolaref2_Ram_Store) [Fr.block 0, Fr.seq (.seq (.ops [⟨some 57, none, .mov (.t 0)⟩, ⟨some 58, none, .mov (.t 1)⟩, ⟨some 59, none, .mov (.t 2)⟩, ⟨some 60, none, .call n_pianolaref2_Ram_touch [.t 57, .t 58, .t 59]⟩]) (.seq (.ops [⟨some 8, none, .mov (.c (.bool true))⟩]) .ret))] e0 h := fun e0 f0 f1 f2 f3 f9 => by
      refine G_loop (fun j e h' => ∃ k : Nat, j = m - k ∧ k ≤ m ∧ e 0 = ptr (x + 3) 0 ∧ e 1 = u32 a ∧ e 2 = .int .i64 n ∧ e 3 = u32 v ∧ e 9 = .int .i64 k ∧ Ra h' x (ovB B a.toNat ((wdB v m).take k)) M W ∧ Upd h h' [x, x + 2] [x, x + 2]) ?_ m _ _ ⟨0, rfl, Nat.zero_le _, f0, f1, f2, f3, f9, by rw [List.take_zero, ovB_nil]; exact R, Kp.upd (Kp.refl h) _⟩
      rintro j ih e h' ⟨k, rfl, hk, e0, e1, e2, e3, e9, R', U'⟩
      by_cases hkm : k < m
      · have hki : (k : Int) < n := by omega
        have hr' := R'.r
        have hb' := R'.b
        have hlt' := R'.lt
        have htl : ((wdB v m).take k).length = k := by simp; omega
        have hlen : (ovB B a.toNat ((wdB v m).take k)).length = B.length := ovB_length (by rw [htl]; omega)
        have hlen2 : (ovB B a.toNat ((wdB v m).take (k + 1))).length = B.length := ovB_length (by simp; omega)
        have hset : (ovB B a.toNat ((wdB v m).take k)).set (a.toNat + k) ((v >>> (8 * (m - 1 - k))).setWidth 8) = ovB B a.toNat ((wdB v m).take (k + 1)) := by
          have e1 : (wdB v m).take (k + 1) = (wdB v m).take k ++ [(v >>> (8 * (m - 1 - k))).setWidth 8] := by
            rw [List.take_succ_eq_append_getElem (by simpa using hkm)]
            simp [wdB]
          rw [e1]
          unfold ovB
          have h1 : (B.take a.toNat ++ (wdB v m).take k).length = a.toNat + k := by rw [List.length_append, htl, List.length_take]; omega
          have h2 : B.drop (a.toNat + k) = B[a.toNat + k] :: B.drop (a.toNat + k + 1) := List.drop_eq_getElem_cons (by omega)
          rw [List.set_append_right _ _ (by omega), h1, Nat.sub_self, htl, h2, List.set_cons_zero, List.length_append, htl, List.length_singleton]
          simp only [List.append_assoc, List.cons_append, List.nil_append, Nat.add_assoc]
        rw [hlen] at hr'
        have hst : over ((ovB B a.toNat ((wdB v m).take k)).map u8) (a.toNat + k) [u8 ((v >>> (8 * (m - 1 - k))).setWidth 8)] = (ovB B a.toNat ((wdB v m).take (k + 1))).map u8 := by
          rw [over_set (by simp [hlen]; omega), ← List.map_set, hset]
        have hix : ((a.toNat : Int) + k).toNat = a.toNat + k := by omega
        have hbl : a.toNat + k + 1 ≤ B.length := by omega
        have hcv : BitVec.ofInt 64 (8 * (n - 1 - k)) = BitVec.ofNat 64 (8 * (m - 1 - k)) := by
          rw [← BitVec.toNat_inj, BitVec.toNat_ofInt, BitVec.toNat_ofNat]
          omega
        have hcn : (BitVec.ofNat 64 (8 * (m - 1 - k))).toNat = 8 * (m - 1 - k) := by
          rw [BitVec.toNat_ofNat]
          omega
        have hwr := wr_ok hb' (o := a.toNat + k) (vs := [u8 ((v >>> (8 * (m - 1 - k))).setWidth 8)]) (by simp [hlen]; omega) rfl
        rw [hst] at hwr
        simp (maxSteps := 1000000) (disch := first | assumption | ((try simp only [push_next, put_next, adv_next, List.length_cons, List.length_nil, List.length_map, List.length_set]); omega) | simp) [e0, e1, e2, e3, e9, hki, hr', hb', hix, hcv, hcn, hwr, -over, -Hp.wr]
        refine ih (m - (k + 1)) (by omega) _ _ ⟨k + 1, rfl, by omega, by simp [e0], by simp [e1], by simp [e2], by simp [e3], by simp, ?_, ⟨by simpa using U'.le, fun b hb hn => by rw [get_put_ne (by simp at hn; omega), U'.get b hb hn], fun b hb => .inl hb⟩⟩
        exact ⟨by rw [get_put_ne (by omega), R'.r, hlen, hlen2], by rw [get_put_self (by omega)], by rw [get_put_ne (by omega), R'.m], by rw [get_put_ne (by omega), R'.w], by rw [hlen2, R.sz], R.wl, R.ml⟩
      · have : k = m := by omega
        subst this
        have hd : (wdB v k).take k = wdB v k := List.take_of_length_le (by simp)
        rw [hd] at R'
        have hlt9 : ¬ (k : Int) < n := by omega
        simp (maxSteps := 1000000) (disch := first | assumption | ((try simp only [push_next, put_next, adv_next, List.length_cons, List.length_nil, List.length_map, List.length_set]); omega) | simp) [e9, e2, e0, e1, hlt9]
        rw [hnm]
        refine GC_intro (ztouch (q := fun v' h2 => v' = .tuple #[] ∧ Ra h2 x (stB B a.toNat k v) M (tch M W a.toNat k) ∧ Upd h h2 [x, x + 2] [x, x + 2]) R' (by rw [ovB_length (by simp; omega)]; omega) fun h2 R2 U2 => ⟨rfl, R2, ?_⟩) fun v' h2 ⟨hv, R2, U2⟩ => ?_
        · exact ⟨Nat.le_trans U'.le U2.le, fun b hb hn => by rw [U2.get b (Nat.lt_of_lt_of_le hb U'.le) (by simp at hn ⊢; exact hn.2), U'.get b hb hn], fun b hb => .inl hb⟩
        · subst hv
          simp (maxSteps := 1000000) (disch := first | assumption | ((try simp only [push_next, put_next, adv_next, List.length_cons, List.length_nil, List.length_map, List.length_set]); omega) | simp)
          exact hyes _ (by simpa using R2) U2
    clear e hev
    rcases hn with rfl | rfl | rfl
    · simp (maxSteps := 1000000) (disch := first | assumption | ((try simp only [push_next, put_next, adv_next, List.length_cons, List.length_nil, List.length_map, List.length_set]); omega) | simp) [GC_of ht]
      exact body _ (by simp) (by simp) (by simp) (by simp) (by simp)
    · have c3 : a % 2#32 = 0#32 := c3
      simp (maxSteps := 1000000) (disch := first | assumption | ((try simp only [push_next, put_next, adv_next, List.length_cons, List.length_nil, List.length_map, List.length_set]); omega) | simp) [GC_of ht, c3]
      exact body _ (by simp) (by simp) (by simp) (by simp) (by simp)
    · have c3 : a % 4#32 = 0#32 := c3
      simp (maxSteps := 1000000) (disch := first | assumption | ((try simp only [push_next, put_next, adv_next, List.length_cons, List.length_nil, List.length_map, List.length_set]); omega) | simp) [GC_of ht, c3]
      exact body _ (by simp) (by simp) (by simp) (by simp) (by simp)
end
end Go.Proofs.YtpdfdemoflofhaaGreat.Cd

/- Moves of memory: what each function does. -/
set_option maxRecDepth 1000000
set_option maxHeartbeats 4000000
set_option linter.unusedSimpArgs false
set_option linter.unusedVariables false
namespace Go.Proofs.YtpdfdemoflofhaaGreat.Cd
open Go Go.Dx
/-- What moves, as words. -/
structure DmS where
  f : BitVec 32
  t : BitVec 32
  c : BitVec 32
  s : BitVec 32
def DmS.rd (D : DmS) (a : BitVec 32) : BitVec 32 := if a = 0#32 then D.f else if a = 4#32 then D.t else if a = 8#32 then D.c else if a = 16#32 then D.s else 0#32
def dat (a : BitVec 32) : Bool := decide (a = 0#32 ∨ a = 4#32 ∨ a = 8#32 ∨ a = 12#32 ∨ a = 16#32)
/-- How long a move takes. -/
def dtime (c : BitVec 32) : Int := ((if 4096#32 < c then 4096#32 else c).toNat : Int) / 4 + 1
def DmS.go (D : DmS) (v : BitVec 32) : Bool := v &&& 1#32 != 0#32 && D.s &&& 1#32 == 0#32
def DmS.wr (D : DmS) (a v : BitVec 32) : DmS :=
  if a = 0#32 then { D with f := v } else if a = 4#32 then { D with t := v } else if a = 8#32 then { D with c := v }
  else if a = 12#32 then (if D.go v = true then { D with s := D.s ||| 1#32 } else D) else if a = 16#32 then { D with s := D.s &&& ~~~(v &&& 6#32) } else D
def DmS.wrw (D : DmS) (W : WhS) (d : Int) (a v : BitVec 32) (now : Int) : WhS := if a = 12#32 ∧ D.go v = true then W.arm d (now + dtime D.c) else W
/-- May it be moved? -/
def DmS.ok (D : DmS) (B : By) : Bool := decide (D.c.toNat ≤ 4096) && thB B D.f D.c.toNat && thB B D.t D.c.toNat
def DmS.fire (D : DmS) (B : By) : DmS := { D with s := if D.ok B = true then (D.s &&& 4294967294#32) ||| 2#32 else ((D.s &&& 4294967294#32) ||| 2#32) ||| 4#32 }
def DmS.mem (D : DmS) (B : By) : By := if D.ok B = true then ovB B D.t.toNat ((B.drop D.f.toNat).take D.c.toNat) else B
def DmS.wrt (D : DmS) (B : By) (M W : List Bool) : List Bool := if D.ok B = true then tch M W D.t.toNat D.c.toNat else W
def Dm (h : Hp) (d w x : Nat) (v : Int) (D : DmS) : Prop := h.get d = some (.cells false [.int .i64 v, ptr w 0, ptr (x + 3) 0, u32 D.f, u32 D.t, u32 D.c, u32 D.s])
section
variable {h : Hp} {q : Value → Hp → Prop} {d w x : Nat} {B : By} {M W : List Bool} {S : WhS} {fp : List Nat} {D : DmS} {dv now : Int} {a v : BitVec 32}
theorem dnew (hw : w < h.next) : WC T n_dma_New [.int .i64 dv, ptr w 0, ptr (x + 3) 0] h q ↔ q (ptr h.next 0) (h.push (.cells false [.int .i64 dv, ptr w 0, ptr (x + 3) 0, u32 0#32, u32 0#32, u32 0#32, u32 0#32])) := by
  rw [w_dma_New]
  simp (maxSteps := 1000000) (disch := first | assumption | ((try simp only [push_next, put_next, adv_next, List.length_cons, List.length_nil, List.length_map, List.length_set]); omega) | simp)
theorem dread (A : Dm h d w x dv D) : WC T n_dma_Dma_Read [ptr d 0, u32 a] h q ↔ q (.tuple #[u32 (D.rd a), .bool (dat a)]) h := by
  unfold Dm at A
  rw [w_dma_Dma_Read]
  by_cases a0 : a = 0#32
  · subst a0; simp (maxSteps := 1000000) (disch := first | assumption | ((try simp only [push_next, put_next, adv_next, List.length_cons, List.length_nil, List.length_map, List.length_set]); omega) | simp) [A, DmS.rd, dat]
  by_cases a4 : a = 4#32
  · subst a4; simp (maxSteps := 1000000) (disch := first | assumption | ((try simp only [push_next, put_next, adv_next, List.length_cons, List.length_nil, List.length_map, List.length_set]); omega) | simp) [A, DmS.rd, dat]
  by_cases a8 : a = 8#32
  · subst a8; simp (maxSteps := 1000000) (disch := first | assumption | ((try simp only [push_next, put_next, adv_next, List.length_cons, List.length_nil, List.length_map, List.length_set]); omega) | simp) [A, DmS.rd, dat]
  by_cases a12 : a = 12#32
  · subst a12; simp (maxSteps := 1000000) (disch := first | assumption | ((try simp only [push_next, put_next, adv_next, List.length_cons, List.length_nil, List.length_map, List.length_set]); omega) | simp) [A, DmS.rd, dat]
  by_cases a16 : a = 16#32
  · subst a16; simp (maxSteps := 1000000) (disch := first | assumption | ((try simp only [push_next, put_next, adv_next, List.length_cons, List.length_nil, List.length_map, List.length_set]); omega) | simp) [A, DmS.rd, dat]
  simp (maxSteps := 1000000) (disch := first | assumption | ((try simp only [push_next, put_next, adv_next, List.length_cons, List.length_nil, List.length_map, List.length_set]); omega) | simp) [A, a0, a4, a8, a12, a16, DmS.rd, dat]
theorem dline (A : Dm h d w x dv D) : WC T n_dma_Dma_Line [ptr d 0] h q ↔ q (.bool (D.s &&& 6#32 != 0#32)) h := by
  unfold Dm at A
  rw [w_dma_Dma_Line]
  simp (maxSteps := 1000000) (disch := first | assumption | ((try simp only [push_next, put_next, adv_next, List.length_cons, List.length_nil, List.length_map, List.length_set]); omega) | simp) [A]
theorem dbegin (A : Dm h d w x dv D) (Q : WhA h w S fp) (hd : d ∉ w :: fp) (hn : 0 ≤ now ∧ now ≤ 2 ^ 60)
    (hno : D.s &&& 1#32 ≠ 0#32 → q (.tuple #[]) h)
    (hyes : D.s &&& 1#32 = 0#32 → ∀ h' fp', Dm h' d w x dv { D with s := D.s ||| 1#32 } → WhA h' w (S.arm dv (now + dtime D.c)) fp' → Upd h h' (d :: w :: fp) (d :: w :: fp') → d ∉ w :: fp' → q (.tuple #[]) h') :
    WC T n_dma_Dma_begin [ptr d 0, .int .i64 now] h q := by
  unfold Dm at A
  have hl := lt_of_get A
  rw [w_dma_Dma_begin]
  by_cases c1 : D.s &&& 1#32 = 0#32
  · simp (maxSteps := 1000000) (disch := first | assumption | ((try simp only [push_next, put_next, adv_next, List.length_cons, List.length_nil, List.length_map, List.length_set]); omega) | simp) [A, c1]
    have e : now + ((if 4096#32 < D.c then 4096#32 else D.c).toNat : Int) / 4 + 1 = now + dtime D.c := by unfold dtime; omega
    rw [e]
    have hdw : ∀ b ∈ w :: fp, b ≠ d := fun b hb e => hd (e ▸ hb)
    have Q1 := Q.keep (h' := h.put d (some (.cells false [.int .i64 dv, ptr w 0, ptr (x + 3) 0, u32 D.f, u32 D.t, u32 D.c, u32 (D.s ||| 1#32)]))) fun b hb => get_put_ne (hdw b hb)
    refine GC_intro (warmS (q := fun v h' => ∃ fp', Dm h' d w x dv { D with s := D.s ||| 1#32 } ∧ WhA h' w (S.arm dv (now + dtime D.c)) fp' ∧ Upd h h' (d :: w :: fp) (d :: w :: fp') ∧ d ∉ w :: fp') Q1 fun h2 fp2 Q2 U2 => ⟨fp2, ?_, Q2, ?_, fun hm => ?_⟩) fun v h2 ⟨fp2, D2, Q2, U2, N2⟩ => ?_
    · unfold Dm
      rw [U2.get d (by simpa using hl) hd, get_put_self hl]
    · refine ⟨by simpa using U2.le, fun b hb hn => ?_, fun b hb => ?_⟩
      · rw [U2.get b (by simpa using hb) (fun hm => hn (List.mem_cons_of_mem _ hm)), get_put_ne (fun e => hn (by rw [e]; simp))]
      · rcases List.mem_cons.1 hb with rfl | hb
        · exact .inl (by simp)
        · rcases U2.sub b hb with h5 | h5
          · exact .inl (List.mem_cons_of_mem _ h5)
          · exact .inr (by simpa using h5)
    · rcases U2.sub d hm with h5 | h5
      · exact hd h5
      · simp at h5; omega
    · simp (maxSteps := 1000000) (disch := first | assumption | ((try simp only [push_next, put_next, adv_next, List.length_cons, List.length_nil, List.length_map, List.length_set]); omega) | simp)
      exact hyes c1 _ _ D2 Q2 U2 N2
  · simp (maxSteps := 1000000) (disch := first | assumption | ((try simp only [push_next, put_next, adv_next, List.length_cons, List.length_nil, List.length_map, List.length_set]); omega) | simp) [A, c1]
    exact hno c1
theorem dwrite (A : Dm h d w x dv D) (Q : WhA h w S fp) (hd : d ∉ w :: fp) (hn : 0 ≤ now ∧ now ≤ 2 ^ 60)
    (hq : ∀ h' fp', Dm h' d w x dv (D.wr a v) → WhA h' w (D.wrw S dv a v now) fp' → Upd h h' (d :: w :: fp) (d :: w :: fp') → d ∉ w :: fp' → q (.bool (dat a)) h') :
    WC T n_dma_Dma_Write [ptr d 0, u32 a, u32 v, .int .i64 now] h q := by
  have A0 := A
  unfold Dm at A
  have hl := lt_of_get A
  have hdw : ∀ b ∈ w :: fp, b ≠ d := fun b hb e => hd (e ▸ hb)
  have key : ∀ D' : DmS, ∀ o, o = Ob.cells false [.int .i64 dv, ptr w 0, ptr (x + 3) 0, u32 D'.f, u32 D'.t, u32 D'.c, u32 D'.s] → Dm (h.put d (some o)) d w x dv D' ∧ WhA (h.put d (some o)) w S fp ∧ Upd h (h.put d (some o)) (d :: w :: fp) (d :: w :: fp) := fun D' o ho => by
    subst ho
    refine ⟨by unfold Dm; rw [get_put_self hl], Q.keep fun b hb => get_put_ne (hdw b hb), ⟨by simp, fun b hb hn => get_put_ne fun e => hn (by rw [e]; simp), fun b hb => .inl hb⟩⟩
  rw [w_dma_Dma_Write]
  by_cases a0 : a = 0#32
  · subst a0
    simp (maxSteps := 1000000) (disch := first | assumption | ((try simp only [push_next, put_next, adv_next, List.length_cons, List.length_nil, List.length_map, List.length_set]); omega) | simp) [A]
    obtain ⟨k1, k2, k3⟩ := key { D with f := v } _ rfl
    exact hq _ fp (by simpa [DmS.wr] using k1) (by simpa [DmS.wrw] using k2) k3 hd
  by_cases a4 : a = 4#32
  · subst a4
    simp (maxSteps := 1000000) (disch := first | assumption | ((try simp only [push_next, put_next, adv_next, List.length_cons, List.length_nil, List.length_map, List.length_set]); omega) | simp) [A]
    obtain ⟨k1, k2, k3⟩ := key { D with t := v } _ rfl
    exact hq _ fp (by simpa [DmS.wr] using k1) (by simpa [DmS.wrw] using k2) k3 hd
  by_cases a8 : a = 8#32
  · subst a8
    simp (maxSteps := 1000000) (disch := first | assumption | ((try simp only [push_next, put_next, adv_next, List.length_cons, List.length_nil, List.length_map, List.length_set]); omega) | simp) [A]
    obtain ⟨k1, k2, k3⟩ := key { D with c := v } _ rfl
    exact hq _ fp (by simpa [DmS.wr] using k1) (by simpa [DmS.wrw] using k2) k3 hd
  by_cases a16 : a = 16#32
  · subst a16
    simp (maxSteps := 1000000) (disch := first | assumption | ((try simp only [push_next, put_next, adv_next, List.length_cons, List.length_nil, List.length_map, List.length_set]); omega) | simp) [A]
    obtain ⟨k1, k2, k3⟩ := key { D with s := D.s &&& ~~~(v &&& 6#32) } _ rfl
    exact hq _ fp (by simpa [DmS.wr] using k1) (by simpa [DmS.wrw] using k2) k3 hd
  by_cases a12 : a = 12#32
  · subst a12
    by_cases v1 : v &&& 1#32 = 0#32
    · simp (maxSteps := 1000000) (disch := first | assumption | ((try simp only [push_next, put_next, adv_next, List.length_cons, List.length_nil, List.length_map, List.length_set]); omega) | simp) [A, v1]
      exact hq _ fp (by simpa [DmS.wr, DmS.go, v1] using A0) (by simpa [DmS.wrw, DmS.go, v1] using Q) (Kp.upd (Kp.refl h) _) hd
    · simp (maxSteps := 1000000) (disch := first | assumption | ((try simp only [push_next, put_next, adv_next, List.length_cons, List.length_nil, List.length_map, List.length_set]); omega) | simp) [A, v1]
      refine GC_intro (dbegin (q := fun u h' => ∃ fp', Dm h' d w x dv (D.wr 12#32 v) ∧ WhA h' w (D.wrw S dv 12#32 v now) fp' ∧ Upd h h' (d :: w :: fp) (d :: w :: fp') ∧ d ∉ w :: fp') A0 Q hd hn (fun hs => ⟨fp, ?_, ?_, Kp.upd (Kp.refl h) _, hd⟩) fun hs h' fp' k1 k2 k3 k4 => ⟨fp', ?_, ?_, k3, k4⟩) fun u h' ⟨fp', k1, k2, k3, k4⟩ => ?_
      · simpa [DmS.wr, DmS.go, hs] using A0
      · simpa [DmS.wrw, DmS.go, hs] using Q
      · simpa [DmS.wr, DmS.go, hs, v1] using k1
      · simpa [DmS.wrw, DmS.go, hs, v1] using k2
      · simp (maxSteps := 1000000) (disch := first | assumption | ((try simp only [push_next, put_next, adv_next, List.length_cons, List.length_nil, List.length_map, List.length_set]); omega) | simp)
        exact hq _ _ k1 k2 k3 k4
  simp (maxSteps := 1000000) (disch := first | assumption | ((try simp only [push_next, put_next, adv_next, List.length_cons, List.length_nil, List.length_map, List.length_set]); omega) | simp) [A, a0, a4, a8, a12, a16]
  have := hq h fp (by simpa [DmS.wr, a0, a4, a8, a12, a16] using A0) (by simpa [DmS.wrw, a12] using Q) (Kp.upd (Kp.refl h) _) hd
  simpa [dat, a0, a4, a8, a12, a16] using this
theorem dmove (A : Dm h d w x dv D) (R : Ra h x B M W) (hno : D.ok B = false → ∀ h', Kp h h' → q (.bool false) h')
    (hyes : D.ok B = true → ∀ h', Ra h' x (D.mem B) M (D.wrt B M W) → Upd h h' [x, x + 2] [x, x + 2] → q (.bool true) h') : WC T n_dma_Dma_move [ptr d 0] h q := by
  unfold Dm at A
  have hc := D.c.isLt
  have hl := lt_of_get A
  rw [w_dma_Dma_move]
  by_cases c1 : 4096#32 < D.c
  · have : ¬ D.c.toNat ≤ 4096 := by
      have := BitVec.lt_def.1 c1
      simp at this
      omega
    simp (maxSteps := 1000000) (disch := first | assumption | ((try simp only [push_next, put_next, adv_next, List.length_cons, List.length_nil, List.length_map, List.length_set]); omega) | simp) [A, c1]
    exact hno (by simp [DmS.ok, this]) _ (.refl _)
  · have c2 : D.c.toNat ≤ 4096 := by
      rw [BitVec.lt_def] at c1
      simp at c1
      omega
    simp (maxSteps := 1000000) (disch := first | assumption | ((try simp only [push_next, put_next, adv_next, List.length_cons, List.length_nil, List.length_map, List.length_set]); omega) | simp) [A, c1]
    refine GC_intro (rbytes (q := fun v h' => (thB B D.f D.c.toNat = false ∧ v = .tuple #[.slice none 0 0, .bool false] ∧ h' = h) ∨ ∃ a' c', thB B D.f D.c.toNat = true ∧ v = .tuple #[.slice a' D.c.toNat c', .bool true] ∧ Sees encB h' a' ((B.drop D.f.toNat).take D.c.toNat) ∧ Kp h h' ∧ D.f.toNat + D.c.toNat ≤ B.length) R (by omega) (fun hb => .inl ⟨hb, rfl, rfl⟩) fun m hm hle hb a' c' h' S K F hc O => .inr ?_) fun v h1 hv => ?_
    · have : m = D.c.toNat := by omega
      subst this
      exact ⟨a', c', hb, rfl, S, K, hle⟩
    · rcases hv with ⟨hb, rfl, rfl⟩ | ⟨a', c', hb, rfl, S, K, hle⟩
      · simp (maxSteps := 1000000) (disch := first | assumption | ((try simp only [push_next, put_next, adv_next, List.length_cons, List.length_nil, List.length_map, List.length_set]); omega) | simp)
        exact hno (by simp [DmS.ok, hb]) _ (.refl _)
      · have A1 : h1.get d = _ := (K.get d hl).trans A
        have R1 := R.kp K
        have hL : ((B.drop D.f.toNat).take D.c.toNat).length = D.c.toNat := by simp; omega
        simp (maxSteps := 1000000) (disch := first | assumption | ((try simp only [push_next, put_next, adv_next, List.length_cons, List.length_nil, List.length_map, List.length_set]); omega) | simp) [A1]
        have hp := rput (a := D.t) (c := c') (q := fun v h' => (D.ok B = false ∧ v = .bool false ∧ Kp h h') ∨ (D.ok B = true ∧ v = .bool true ∧ Ra h' x (D.mem B) M (D.wrt B M W) ∧ Upd h h' [x, x + 2] [x, x + 2])) R1 S (by omega) (fun ht => .inl ⟨by rw [hL] at ht; simp [DmS.ok, ht], rfl, K⟩) fun ht h2 R2 U2 => .inr ?_
        · rw [hL] at hp
          refine GC_intro hp fun v h2 hv => ?_
          rcases hv with ⟨ho, rfl, K2⟩ | ⟨ho, rfl, R2, U2⟩
          · simp (maxSteps := 1000000) (disch := first | assumption | ((try simp only [push_next, put_next, adv_next, List.length_cons, List.length_nil, List.length_map, List.length_set]); omega) | simp)
            exact hno ho _ K2
          · simp (maxSteps := 1000000) (disch := first | assumption | ((try simp only [push_next, put_next, adv_next, List.length_cons, List.length_nil, List.length_map, List.length_set]); omega) | simp)
            exact hyes ho _ R2 U2
        · rw [hL] at ht R2
          have ho : D.ok B = true := by simp [DmS.ok, ht, hb, c2]
          refine ⟨ho, rfl, ?_, (K.upd _).trans U2⟩
          unfold DmS.mem DmS.wrt
          rw [if_pos ho, if_pos ho]
          exact R2
theorem dfire (A : Dm h d w x dv D) (R : Ra h x B M W) (hd : d < x ∨ x + 3 < d) (hq : ∀ h', Dm h' d w x dv (D.fire B) → Ra h' x (D.mem B) M (D.wrt B M W) → Upd h h' [d, x, x + 2] [d, x, x + 2] → q (.tuple #[]) h') :
    WC T n_dma_Dma_Fire [ptr d 0, .int .i64 now] h q := by
  have A0 := A
  unfold Dm at A
  have hl := lt_of_get A
  rw [w_dma_Dma_Fire]
  simp (maxSteps := 1000000) (disch := first | assumption | ((try simp only [push_next, put_next, adv_next, List.length_cons, List.length_nil, List.length_map, List.length_set]); omega) | simp) [A]
  have D1 : Dm (h.put d (some (.cells false [.int .i64 dv, ptr w 0, ptr (x + 3) 0, u32 D.f, u32 D.t, u32 D.c, u32 (D.s &&& 4294967294#32 ||| 2#32)]))) d w x dv { D with s := D.s &&& 4294967294#32 ||| 2#32 } := by
    unfold Dm
    rw [get_put_self hl]
  have R1 : Ra (h.put d (some (.cells false [.int .i64 dv, ptr w 0, ptr (x + 3) 0, u32 D.f, u32 D.t, u32 D.c, u32 (D.s &&& 4294967294#32 ||| 2#32)]))) x B M W := R.keep fun b h1 h2 => get_put_ne (by omega)
  have U1 : Upd h (h.put d (some (.cells false [.int .i64 dv, ptr w 0, ptr (x + 3) 0, u32 D.f, u32 D.t, u32 D.c, u32 (D.s &&& 4294967294#32 ||| 2#32)]))) [d, x, x + 2] [d, x, x + 2] := ⟨by simp, fun b hb hn => get_put_ne (by simp at hn; exact hn.1), fun b hb => .inl hb⟩
  generalize h.put d (some (.cells false [.int .i64 dv, ptr w 0, ptr (x + 3) 0, u32 D.f, u32 D.t, u32 D.c, u32 (D.s &&& 4294967294#32 ||| 2#32)])) = h1 at *
  refine GC_intro (dmove (q := fun v h' => (D.ok B = false ∧ v = .bool false ∧ Kp h1 h') ∨ (D.ok B = true ∧ v = .bool true ∧ Ra h' x (D.mem B) M (D.wrt B M W) ∧ Upd h1 h' [x, x + 2] [x, x + 2])) D1 R1 (fun ho h' K => .inl ⟨ho, rfl, K⟩) fun ho h' R2 U2 => .inr ⟨ho, rfl, R2, U2⟩) fun v h2 hv => ?_
  have D1' := D1
  unfold Dm at D1'
  have hl1 := lt_of_get D1'
  rcases hv with ⟨ho, rfl, K⟩ | ⟨ho, rfl, R2, U2⟩
  · have D2 : h2.get d = _ := (K.get d hl1).trans D1'
    have hl2 := lt_of_get D2
    simp (maxSteps := 1000000) (disch := first | assumption | ((try simp only [push_next, put_next, adv_next, List.length_cons, List.length_nil, List.length_map, List.length_set]); omega) | simp) [D2]
    refine hq _ ?_ ?_ ?_
    · unfold Dm
      rw [get_put_self hl2]
      simp [DmS.fire, ho]
    · simp only [DmS.mem, DmS.wrt, ho]
      exact (R1.kp K).keep fun b h1 h2 => get_put_ne (by omega)
    · refine U1.trans ⟨by simpa using K.le, fun b hb hn => ?_, fun b hb => .inl hb⟩
      rw [get_put_ne (by simp at hn; exact hn.1), K.get b hb]
  · simp (maxSteps := 1000000) (disch := first | assumption | ((try simp only [push_next, put_next, adv_next, List.length_cons, List.length_nil, List.length_map, List.length_set]); omega) | simp)
    refine hq _ ?_ R2 (U1.trans ⟨U2.le, fun b hb hn => U2.get b hb (by simp at hn ⊢; exact hn.2), fun b hb => .inl hb⟩)
    unfold Dm
    rw [U2.get d hl1 (by simp; omega), D1']
    simp [DmS.fire, ho]
end
end Go.Proofs.YtpdfdemoflofhaaGreat.Cd

/- The disk: what each function does. -/
set_option maxRecDepth 1000000
set_option maxHeartbeats 4000000
set_option linter.unusedSimpArgs false
set_option linter.unusedVariables false
namespace Go.Proofs.YtpdfdemoflofhaaGreat.Cd
open Go Go.Dx
/-- A disk's words. -/
structure DkS where
  e : BitVec 32
  a : BitVec 32
  c : BitVec 32
  s : BitVec 32
def DkS.rd (D : DkS) (a : BitVec 32) : BitVec 32 := if a = 0#32 then D.e else if a = 4#32 then D.a else if a = 8#32 then D.c else if a = 12#32 then D.s else 0#32
def kat (a : BitVec 32) : Bool := decide (a = 0#32 ∨ a = 4#32 ∨ a = 8#32 ∨ a = 12#32)
def DkS.wr (D : DkS) (a v : BitVec 32) : DkS :=
  if a = 0#32 then { D with e := v } else if a = 4#32 then { D with a := v }
  else if a = 8#32 then (if D.s &&& 1#32 = 0#32 then { D with c := v, s := D.s ||| 1#32 } else D) else if a = 12#32 then { D with s := D.s &&& ~~~(v &&& 6#32) } else D
def DkS.wrw (D : DkS) (W : WhS) (d : Int) (a : BitVec 32) (now : Int) : WhS := if a = 8#32 ∧ D.s &&& 1#32 = 0#32 then W.arm d (now + 32) else W
/-- May it be done? -/
def DkS.ok (D : DkS) (E B : By) : Bool := decide (D.e.toNat < E.length / 64 ∧ (D.c = 1#32 ∨ D.c = 2#32)) && thB B D.a 64
def DkS.fire (D : DkS) (E B : By) : DkS := { D with s := if D.ok E B = true then (D.s &&& 4294967294#32) ||| 2#32 else ((D.s &&& 4294967294#32) ||| 2#32) ||| 4#32 }
def DkS.mem (D : DkS) (E B : By) : By := if D.ok E B = true ∧ D.c = 1#32 then ovB B D.a.toNat ((E.drop (64 * D.e.toNat)).take 64) else B
def DkS.wrt (D : DkS) (E B : By) (M W : List Bool) : List Bool := if D.ok E B = true ∧ D.c = 1#32 then tch M W D.a.toNat 64 else W
def DkS.img (D : DkS) (E B : By) : By := if D.ok E B = true ∧ D.c = 2#32 then ovB E (64 * D.e.toNat) ((B.drop D.a.toNat).take 64) else E
/-- A disk as it lies: its words in block y, its bytes in block z. -/
structure Dk (h : Hp) (y z w x : Nat) (v : Int) (E : By) (D : DkS) : Prop where
  d : h.get y = some (.cells false [.int .i64 v, ptr w 0, ptr (x + 3) 0, .slice (some ⟨z, 0, none⟩) E.length E.length, u32 D.e, u32 D.a, u32 D.c, u32 D.s])
  b : h.get z = some (.cells false (E.map u8))
  l : E.length % 64 = 0 ∧ E.length ≤ 4096
section
variable {h : Hp} {q : Value → Hp → Prop} {y z w x : Nat} {B E : By} {M W : List Bool} {S : WhS} {fp : List Nat} {D : DkS} {dv now : Int} {a v : BitVec 32}
theorem kread (A : Dk h y z w x dv E D) : WC T n_disk_Disk_Read [ptr y 0, u32 a] h q ↔ q (.tuple #[u32 (D.rd a), .bool (kat a)]) h := by
  have g1 := A.d
  rw [w_disk_Disk_Read]
  by_cases a0 : a = 0#32
  · subst a0; simp (maxSteps := 1000000) (disch := first | assumption | ((try simp only [push_next, put_next, adv_next, List.length_cons, List.length_nil, List.length_map, List.length_set]); omega) | simp) [g1, DkS.rd, kat]
  by_cases a4 : a = 4#32
  · subst a4; simp (maxSteps := 1000000) (disch := first | assumption | ((try simp only [push_next, put_next, adv_next, List.length_cons, List.length_nil, List.length_map, List.length_set]); omega) | simp) [g1, DkS.rd, kat]
  by_cases a8 : a = 8#32
  · subst a8; simp (maxSteps := 1000000) (disch := first | assumption | ((try simp only [push_next, put_next, adv_next, List.length_cons, List.length_nil, List.length_map, List.length_set]); omega) | simp) [g1, DkS.rd, kat]
  by_cases a12 : a = 12#32
  · subst a12; simp (maxSteps := 1000000) (disch := first | assumption | ((try simp only [push_next, put_next, adv_next, List.length_cons, List.length_nil, List.length_map, List.length_set]); omega) | simp) [g1, DkS.rd, kat]
  simp (maxSteps := 1000000) (disch := first | assumption | ((try simp only [push_next, put_next, adv_next, List.length_cons, List.length_nil, List.length_map, List.length_set]); omega) | simp) [g1, a0, a4, a8, a12, DkS.rd, kat]
theorem kline (A : Dk h y z w x dv E D) : WC T n_disk_Disk_Line [ptr y 0] h q ↔ q (.bool (D.s &&& 6#32 != 0#32)) h := by
  have g1 := A.d
  rw [w_disk_Disk_Line]
  simp (maxSteps := 1000000) (disch := first | assumption | ((try simp only [push_next, put_next, adv_next, List.length_cons, List.length_nil, List.length_map, List.length_set]); omega) | simp) [g1]
theorem kbytes (A : Dk h y z w x dv E D) (hq : ∀ a c h', Sees encB h' a E → Kp h h' → q (.slice a E.length c) h') : WC T n_disk_Disk_Bytes [ptr y 0] h q := by
  have g1 := A.d
  have hl := A.l
  rw [w_disk_Disk_Bytes]
  simp (maxSteps := 1000000) (disch := first | assumption | ((try simp only [push_next, put_next, adv_next, List.length_cons, List.length_nil, List.length_map, List.length_set]); omega) | simp) [g1]
  refine clone_by (sees_b A.b) (by omega) fun a' c' h' hs' K _ _ => ?_
  simp (maxSteps := 1000000) (disch := first | assumption | ((try simp only [push_next, put_next, adv_next, List.length_cons, List.length_nil, List.length_map, List.length_set]); omega) | simp)
  exact hq _ _ _ hs' K
theorem kwrite (A : Dk h y z w x dv E D) (Q : WhA h w S fp) (hd : y ∉ w :: fp ∧ z ∉ w :: fp) (hyz : y ≠ z) (hn : 0 ≤ now ∧ now ≤ 2 ^ 60)
    (hq : ∀ h' fp', Dk h' y z w x dv E (D.wr a v) → WhA h' w (D.wrw S dv a now) fp' → Upd h h' (y :: w :: fp) (y :: w :: fp') → y ∉ w :: fp' ∧ z ∉ w :: fp' → q (.bool (kat a)) h') :
    WC T n_disk_Disk_Write [ptr y 0, u32 a, u32 v, .int .i64 now] h q := by
  have A0 := A
  have g1 := A.d
  have hl := lt_of_get g1
  have hlz := lt_of_get A.b
  have key : ∀ D' : DkS, Dk (h.put y (some (.cells false [.int .i64 dv, ptr w 0, ptr (x + 3) 0, .slice (some ⟨z, 0, none⟩) E.length E.length, u32 D'.e, u32 D'.a, u32 D'.c, u32 D'.s]))) y z w x dv E D' ∧ WhA (h.put y (some (.cells false [.int .i64 dv, ptr w 0, ptr (x + 3) 0, .slice (some ⟨z, 0, none⟩) E.length E.length, u32 D'.e, u32 D'.a, u32 D'.c, u32 D'.s]))) w S fp ∧ Upd h (h.put y (some (.cells false [.int .i64 dv, ptr w 0, ptr (x + 3) 0, .slice (some ⟨z, 0, none⟩) E.length E.length, u32 D'.e, u32 D'.a, u32 D'.c, u32 D'.s]))) (y :: w :: fp) (y :: w :: fp) := fun D' =>
    ⟨⟨get_put_self hl, by rw [get_put_ne (Ne.symm hyz), A0.b], A0.l⟩, Q.keep fun b hb => get_put_ne fun e => hd.1 (e ▸ hb), ⟨by simp, fun b hb hn => get_put_ne fun e => hn (by rw [e]; simp), fun b hb => .inl hb⟩⟩
  rw [w_disk_Disk_Write]
  by_cases a0 : a = 0#32
  · subst a0
    simp (maxSteps := 1000000) (disch := first | assumption | ((try simp only [push_next, put_next, adv_next, List.length_cons, List.length_nil, List.length_map, List.length_set]); omega) | simp) [g1]
    obtain ⟨k1, k2, k3⟩ := key { D with e := v }
    exact hq _ fp (by simpa [DkS.wr] using k1) (by simpa [DkS.wrw] using k2) k3 hd
  by_cases a4 : a = 4#32
  · subst a4
    simp (maxSteps := 1000000) (disch := first | assumption | ((try simp only [push_next, put_next, adv_next, List.length_cons, List.length_nil, List.length_map, List.length_set]); omega) | simp) [g1]
    obtain ⟨k1, k2, k3⟩ := key { D with a := v }
    exact hq _ fp (by simpa [DkS.wr] using k1) (by simpa [DkS.wrw] using k2) k3 hd
  by_cases a12 : a = 12#32
  · subst a12
    simp (maxSteps := 1000000) (disch := first | assumption | ((try simp only [push_next, put_next, adv_next, List.length_cons, List.length_nil, List.length_map, List.length_set]); omega) | simp) [g1]
    obtain ⟨k1, k2, k3⟩ := key { D with s := D.s &&& ~~~(v &&& 6#32) }
    exact hq _ fp (by simpa [DkS.wr] using k1) (by simpa [DkS.wrw] using k2) k3 hd
  by_cases a8 : a = 8#32
  · subst a8
    by_cases c1 : D.s &&& 1#32 = 0#32
    · obtain ⟨k1, k2, k3⟩ := key { D with c := v, s := D.s ||| 1#32 }
      have hwr : D.wr 8#32 v = { D with c := v, s := D.s ||| 1#32 } := by simp [DkS.wr, c1]
      simp (maxSteps := 1000000) (disch := first | assumption | ((try simp only [push_next, put_next, adv_next, List.length_cons, List.length_nil, List.length_map, List.length_set]); omega) | simp) []
      unfold GC
      rw [w_disk_Disk_begin]
      simp (maxSteps := 1000000) (disch := first | assumption | ((try simp only [push_next, put_next, adv_next, List.length_cons, List.length_nil, List.length_map, List.length_set]); omega) | simp) [g1, c1]
      refine warmS k2 fun h2 fp2 Q2 U2 => ?_
      simp (maxSteps := 1000000) (disch := first | assumption | ((try simp only [push_next, put_next, adv_next, List.length_cons, List.length_nil, List.length_map, List.length_set]); omega) | simp)
      have hk1 := k1.d
      have hk2 := k1.b
      generalize h.put y (some (.cells false [.int .i64 dv, ptr w 0, ptr (x + 3) 0, .slice (some ⟨z, 0, none⟩) E.length E.length, u32 D.e, u32 D.a, u32 v, u32 (D.s ||| 1#32)])) = h1 at *
      have := hq h2 fp2 (by rw [hwr]; exact ⟨by rw [U2.get y (lt_of_get hk1) hd.1, hk1], by rw [U2.get z (lt_of_get hk2) hd.2, hk2], A0.l⟩) (by simpa [DkS.wrw, c1] using Q2) ⟨Nat.le_trans k3.le U2.le, fun b hb hn => by
        rw [U2.get b (Nat.lt_of_lt_of_le hb k3.le) (fun hm => hn (List.mem_cons_of_mem _ hm)), k3.get b hb hn], fun b hb => by
        rcases List.mem_cons.1 hb with rfl | hb
        · exact .inl (by simp)
        · rcases U2.sub b hb with h5 | h5
          · exact .inl (List.mem_cons_of_mem _ h5)
          · exact .inr (Nat.le_trans k3.le h5)⟩ ⟨fun hm => by
        rcases U2.sub y hm with h5 | h5
        · exact hd.1 h5
        · have := lt_of_get hk1; omega, fun hm => by
        rcases U2.sub z hm with h5 | h5
        · exact hd.2 h5
        · have := lt_of_get hk2; omega⟩
      rwa [show kat 8#32 = true from rfl] at this
    · simp (maxSteps := 1000000) (disch := first | assumption | ((try simp only [push_next, put_next, adv_next, List.length_cons, List.length_nil, List.length_map, List.length_set]); omega) | simp) []
      unfold GC
      rw [w_disk_Disk_begin]
      simp (maxSteps := 1000000) (disch := first | assumption | ((try simp only [push_next, put_next, adv_next, List.length_cons, List.length_nil, List.length_map, List.length_set]); omega) | simp) [g1, c1]
      exact hq h fp (by simpa [DkS.wr, c1] using A0) (by simpa [DkS.wrw, c1] using Q) (Kp.upd (Kp.refl h) _) hd
  have h9 := hq h fp (by simpa [DkS.wr, a0, a4, a8, a12] using A0) (by simpa [DkS.wrw, a8] using Q) (Kp.upd (Kp.refl h) _) hd
  simp only [kat, a0, a4, a8, a12, or_false, decide_false] at h9
  simp (maxSteps := 1000000) (disch := first | assumption | ((try simp only [push_next, put_next, adv_next, List.length_cons, List.length_nil, List.length_map, List.length_set]); omega) | simp) [a0, a4, a8, a12]
  exact h9
theorem _root_.Go.Dx.Upd.wid {h h' : Hp} {fp fp' fp2 : List Nat} (U : Upd h h' fp fp') (hs : ∀ b ∈ fp, b ∈ fp2) : Upd h h' fp2 fp2 := ⟨U.le, fun b hb hn => U.get b hb fun hm => hn (hs b hm), fun b hb => .inl hb⟩
theorem Dk.keep {h' : Hp} (A : Dk h y z w x dv E D) (hy : h'.get y = h.get y) (hz : h'.get z = h.get z) : Dk h' y z w x dv E D := ⟨by rw [hy, A.d], by rw [hz, A.b], A.l⟩
theorem cpy_at {h : Hp} {z o n c c' : Nat} {B l : By} {s : Option Addr} (hg : h.get z = some (.cells false (B.map u8))) (S : Sees encB h s l) (hl : o + l.length ≤ B.length) (hn : l.length = n) :
    copyV h 1 (.slice (some ⟨z, o, none⟩) n c) (.slice s n c') = some (.int .i64 n, h.put z (some (.cells false ((ovB B o l).map u8)))) := by
  subst hn
  have he := S.elems (c := c')
  simp only [encB_sz, encB_all] at he
  unfold copyV
  simp only [lenV, Nat.min_self, he]
  by_cases h0 : l.length = 0
  · have : l = [] := List.length_eq_zero_iff.1 h0
    subst this
    rw [ovB_nil, put_get hg]
    simp
  · rw [if_neg h0, wr_ok hg (by simp; omega) (all_u8 l), over_u8]
    rfl
theorem ksectors (A : Dk h y z w x dv E D) : WC T n_disk_Disk_Sectors [ptr y 0] h q ↔ q (.int .i64 ((E.length : Int) / 64)) h := by
  have g1 := A.d
  have hl := A.l
  have hw : IntKind.i64.wrap ((E.length : Int) / 64) = (E.length : Int) / 64 := wrap_i64 (by omega) (by omega)
  rw [w_disk_Disk_Sectors]
  simp (maxSteps := 1000000) (disch := first | assumption | ((try simp only [push_next, put_next, adv_next, List.length_cons, List.length_nil, List.length_map, List.length_set]); omega) | simp) [g1, hw]
theorem kdo (A : Dk h y z w x dv E D) (R : Ra h x B M W) (hyz : y ≠ z) (hoff : (y < x ∨ x + 3 < y) ∧ (z < x ∨ x + 3 < z))
    (hq : ∀ h', Dk h' y z w x dv (D.img E B) D → Ra h' x (D.mem E B) M (D.wrt E B M W) → Upd h h' [z, x, x + 2] [z, x, x + 2] → q (.bool (D.ok E B)) h') : WC T n_disk_Disk_do [ptr y 0] h q := by
  have g1 := A.d
  have hl := A.l
  have he := D.e.isLt
  have hS := fun q => ksectors (q := q) A
  rw [w_disk_Disk_do]
  have hin : (BitVec.ofInt 32 ((E.length : Int) / 64)).toNat = E.length / 64 := by
    rw [BitVec.toNat_ofInt]
    omega
  by_cases c1 : D.e.toNat < E.length / 64
  · have c1' : ¬ BitVec.ofInt 32 ((E.length : Int) / 64) ≤ D.e := by
      rw [BitVec.le_def, hin]
      omega
    have s1 := sliceV_lo' (sz := 1) (b := z) (o := 0) (n := E.length) (k := .i64) (lo := (D.e.toNat : Int) * 64) (by omega) (by omega)
    have e1 : ((D.e.toNat : Int) * 64).toNat = 64 * D.e.toNat := by omega
    rw [e1, if_neg (by omega)] at s1
    have s2 := sliceV_hi' (sz := 1) (b := z) (o := 64 * D.e.toNat) (n := E.length - 64 * D.e.toNat) (c := E.length - 64 * D.e.toNat) (k := .i64) (hi := 64) (by omega) (by omega) (by omega)
    have s3 : Sees encB h (some ⟨z, 64 * D.e.toNat, none⟩) ((E.drop (64 * D.e.toNat)).take 64) := ⟨fun hA => (by cases hA), fun A2 hA => by
      cases hA
      have hl64 : ((E.drop (64 * D.e.toNat)).take 64).length = 64 := by simp; omega
      have := rdn_part (rdn_all A.b (n := E.length) (by simp)) (k := 64 * D.e.toNat) (n := 64) (by omega)
      rw [Nat.zero_add] at this
      rw [hl64, encB_sz, Nat.mul_one, encB_all, this, List.map_take, List.map_drop], fun A2 hA => (by cases hA; exact .inl rfl)⟩
    have hl64 : ((E.drop (64 * D.e.toNat)).take 64).length = 64 := by simp; omega
    by_cases d1 : D.c = 1#32
    · simp (maxSteps := 1000000) (disch := first | assumption | ((try simp only [push_next, put_next, adv_next, List.length_cons, List.length_nil, List.length_map, List.length_set]); omega) | simp) [g1, GC_of hS, GCI_of hS, c1', s1, s2, d1]
      have hp := rput (a := D.a) (c := E.length - 64 * D.e.toNat) (q := fun v h' => (D.ok E B = false ∧ v = .bool false ∧ h' = h) ∨ (D.ok E B = true ∧ v = .bool true ∧ Ra h' x (D.mem E B) M (D.wrt E B M W) ∧ Upd h h' [x, x + 2] [x, x + 2])) R s3 (by omega) (fun ht => .inl ⟨by rw [hl64] at ht; simpa [DkS.ok, d1] using fun _ => ht, rfl, rfl⟩) fun ht h2 R2 U2 => .inr ?_
      · rw [hl64] at hp
        refine GC_intro hp fun v h2 hv => ?_
        rcases hv with ⟨ho, rfl, rfl⟩ | ⟨ho, rfl, R2, U2⟩
        · have := hq h2 (by simpa [DkS.img, ho] using A) (by simpa [DkS.mem, DkS.wrt, ho] using R) (Kp.upd (Kp.refl h2) _)
          rw [ho] at this
          simp (maxSteps := 1000000) (disch := first | assumption | ((try simp only [push_next, put_next, adv_next, List.length_cons, List.length_nil, List.length_map, List.length_set]); omega) | simp)
          exact this
        · have := hq h2 (by simpa [DkS.img, ho, d1] using A.keep (U2.get y (lt_of_get g1) (by simp; omega)) (U2.get z (lt_of_get A.b) (by simp; omega))) R2 (U2.wid (by simp))
          rw [ho] at this
          simp (maxSteps := 1000000) (disch := first | assumption | ((try simp only [push_next, put_next, adv_next, List.length_cons, List.length_nil, List.length_map, List.length_set]); omega) | simp)
          exact this
      · rw [hl64] at ht R2
        have ho : D.ok E B = true := by have : thB B D.a 64 = true := ht; simp [DkS.ok, this, d1, c1]
        refine ⟨ho, rfl, ?_, U2⟩
        simpa [DkS.mem, DkS.wrt, ho, d1] using R2
    · by_cases d2 : D.c = 2#32
      · simp (maxSteps := 1000000) (disch := first | assumption | ((try simp only [push_next, put_next, adv_next, List.length_cons, List.length_nil, List.length_map, List.length_set]); omega) | simp) [g1, GC_of hS, GCI_of hS, c1', s1, s2, d1, d2]
        refine GC_intro (rbytes (a := D.a) (q := fun v h' => (thB B D.a 64 = false ∧ v = .tuple #[.slice none 0 0, .bool false] ∧ h' = h) ∨ ∃ a' c', thB B D.a 64 = true ∧ v = .tuple #[.slice a' 64 c', .bool true] ∧ Sees encB h' a' ((B.drop D.a.toNat).take 64) ∧ Kp h h' ∧ D.a.toNat + 64 ≤ B.length) R (by omega) (fun hb => .inl ⟨hb, rfl, rfl⟩) fun m hm hle hb a' c' h' S K F hc O => .inr ?_) fun v h1 hv => ?_
        · have : m = 64 := by omega
          subst this
          exact ⟨a', c', hb, rfl, S, K, hle⟩
        · rcases hv with ⟨hb, rfl, rfl⟩ | ⟨a', c', hb, rfl, S, K, hle⟩
          · have ho : D.ok E B = false := by simp [DkS.ok, hb]
            have := hq h1 (by simpa [DkS.img, ho] using A) (by simpa [DkS.mem, DkS.wrt, ho] using R) (Kp.upd (Kp.refl h1) _)
            rw [ho] at this
            simp (maxSteps := 1000000) (disch := first | assumption | ((try simp only [push_next, put_next, adv_next, List.length_cons, List.length_nil, List.length_map, List.length_set]); omega) | simp) [copyV, lenV, elems]
            exact this
          · have ho : D.ok E B = true := by simp [DkS.ok, hb, c1, d2]
            have hlz := lt_of_get A.b
            have hly := lt_of_get g1
            have hb1 : h1.get z = _ := (K.get z hlz).trans A.b
            have hL : ((B.drop D.a.toNat).take 64).length = 64 := by simp; omega
            have hcp := cpy_at (n := 64) (c := E.length - 64 * D.e.toNat) (c' := c') hb1 S (o := 64 * D.e.toNat) (by omega) hL
            have := hq (h1.put z (some (.cells false ((ovB E (64 * D.e.toNat) ((B.drop D.a.toNat).take 64)).map u8)))) (by
              have h9 : D.img E B = ovB E (64 * D.e.toNat) ((B.drop D.a.toNat).take 64) := by simp [DkS.img, ho, d2]
              have h8 : (D.img E B).length = E.length := by rw [h9, ovB_length (by omega)]
              rw [← h9]
              exact ⟨by rw [get_put_ne hyz, K.get y hly, g1, h8], get_put_self (Nat.lt_of_lt_of_le hlz K.le), by rw [h8]; exact hl⟩) (by
              have e1 : D.mem E B = B := by simp [DkS.mem, d1]
              have e2 : D.wrt E B M W = W := by simp [DkS.wrt, d1]
              rw [e1, e2]
              exact (R.kp K).keep fun b h3 h4 => get_put_ne (by omega)) ⟨by simpa using K.le, fun b hb hn => by rw [get_put_ne (by simp at hn; exact hn.1), K.get b hb], fun b hb => .inl hb⟩
            rw [ho] at this
            simp (maxSteps := 1000000) (disch := first | assumption | ((try simp only [push_next, put_next, adv_next, List.length_cons, List.length_nil, List.length_map, List.length_set]); omega) | simp) [hcp]
            exact this
      · have hok : D.ok E B = false := by simp [DkS.ok, d1, d2]
        have := hq h (by simpa [DkS.img, hok] using A) (by simpa [DkS.mem, DkS.wrt, hok] using R) (Kp.upd (Kp.refl h) _)
        rw [hok] at this
        simp (maxSteps := 1000000) (disch := first | assumption | ((try simp only [push_next, put_next, adv_next, List.length_cons, List.length_nil, List.length_map, List.length_set]); omega) | simp) [g1, GC_of hS, GCI_of hS, c1', s1, s2, d1, d2]
        exact this
  · have c1' : BitVec.ofInt 32 ((E.length : Int) / 64) ≤ D.e := by
      rw [BitVec.le_def, hin]
      omega
    have hok : D.ok E B = false := by simp [DkS.ok, c1]
    have := hq h (by simpa [DkS.img, hok] using A) (by simpa [DkS.mem, DkS.wrt, hok] using R) (Kp.upd (Kp.refl h) _)
    rw [hok] at this
    simp (maxSteps := 1000000) (disch := first | assumption | ((try simp only [push_next, put_next, adv_next, List.length_cons, List.length_nil, List.length_map, List.length_set]); omega) | simp) [g1, GC_of hS, GCI_of hS, c1']
    exact this
theorem kfire (A : Dk h y z w x dv E D) (R : Ra h x B M W) (hyz : y ≠ z) (hoff : (y < x ∨ x + 3 < y) ∧ (z < x ∨ x + 3 < z))
    (hq : ∀ h', Dk h' y z w x dv (D.img E B) (D.fire E B) → Ra h' x (D.mem E B) M (D.wrt E B M W) → Upd h h' [y, z, x, x + 2] [y, z, x, x + 2] → q (.tuple #[]) h') : WC T n_disk_Disk_Fire [ptr y 0, .int .i64 now] h q := by
  have g1 := A.d
  have hl := lt_of_get g1
  have hlz := lt_of_get A.b
  rw [w_disk_Disk_Fire]
  simp (maxSteps := 1000000) (disch := first | assumption | ((try simp only [push_next, put_next, adv_next, List.length_cons, List.length_nil, List.length_map, List.length_set]); omega) | simp) [g1]
  have D1 : Dk (h.put y (some (.cells false [.int .i64 dv, ptr w 0, ptr (x + 3) 0, .slice (some ⟨z, 0, none⟩) E.length E.length, u32 D.e, u32 D.a, u32 D.c, u32 (D.s &&& 4294967294#32 ||| 2#32)]))) y z w x dv E { D with s := D.s &&& 4294967294#32 ||| 2#32 } := ⟨get_put_self hl, by rw [get_put_ne (Ne.symm hyz), A.b], A.l⟩
  have R1 : Ra (h.put y (some (.cells false [.int .i64 dv, ptr w 0, ptr (x + 3) 0, .slice (some ⟨z, 0, none⟩) E.length E.length, u32 D.e, u32 D.a, u32 D.c, u32 (D.s &&& 4294967294#32 ||| 2#32)]))) x B M W := R.keep fun b h1 h2 => get_put_ne (by omega)
  have U1 : Upd h (h.put y (some (.cells false [.int .i64 dv, ptr w 0, ptr (x + 3) 0, .slice (some ⟨z, 0, none⟩) E.length E.length, u32 D.e, u32 D.a, u32 D.c, u32 (D.s &&& 4294967294#32 ||| 2#32)]))) [y, z, x, x + 2] [y, z, x, x + 2] := ⟨by simp, fun b hb hn => get_put_ne (by simp at hn; exact hn.1), fun b hb => .inl hb⟩
  generalize h.put y (some (.cells false [.int .i64 dv, ptr w 0, ptr (x + 3) 0, .slice (some ⟨z, 0, none⟩) E.length E.length, u32 D.e, u32 D.a, u32 D.c, u32 (D.s &&& 4294967294#32 ||| 2#32)])) = h1 at *
  refine GC_intro (kdo (q := fun v h' => v = .bool (D.ok E B) ∧ Dk h' y z w x dv (D.img E B) { D with s := D.s &&& 4294967294#32 ||| 2#32 } ∧ Ra h' x (D.mem E B) M (D.wrt E B M W) ∧ Upd h1 h' [z, x, x + 2] [z, x, x + 2]) D1 R1 hyz hoff fun h' A2 R2 U2 => ⟨rfl, A2, R2, U2⟩) fun v h2 ⟨hv, A2, R2, U2⟩ => ?_
  subst hv
  have g2 := A2.d
  have hl2 := lt_of_get g2
  have U3 := U1.trans (U2.wid (fp2 := [y, z, x, x + 2]) (by simp))
  cases ho : D.ok E B with
  | true =>
    have := hq h2 (by simpa [DkS.fire, ho] using A2) R2 U3
    simp (maxSteps := 1000000) (disch := first | assumption | ((try simp only [push_next, put_next, adv_next, List.length_cons, List.length_nil, List.length_map, List.length_set]); omega) | simp)
    exact this
  | false =>
    simp (maxSteps := 1000000) (disch := first | assumption | ((try simp only [push_next, put_next, adv_next, List.length_cons, List.length_nil, List.length_map, List.length_set]); omega) | simp) [g2]
    refine hq _ ⟨?_, ?_, A2.l⟩ (R2.keep fun b h1 h2 => get_put_ne (by omega)) ⟨by simpa using U3.le, fun b hb hn => by rw [get_put_ne (by simp at hn; exact hn.1), U3.get b hb hn], fun b hb => .inl hb⟩
    · rw [get_put_self hl2]
      simp [DkS.fire, ho]
    · rw [get_put_ne (Ne.symm hyz), A2.b]
/-- The bytes of a disk that is made of an image. -/
def dkE (l : By) : By := (l ++ List.replicate (64 * min ((l.length + 63) / 64) 64) 0#8).take (64 * min ((l.length + 63) / 64) 64)
theorem dkE_length (l : By) : (dkE l).length = 64 * min ((l.length + 63) / 64) 64 := by simp [dkE]
theorem cpy_pre {h : Hp} {z m c c' : Nat} {l : By} {s : Option Addr} (hg : h.get z = some (.cells false ((List.replicate m 0#8).map u8))) (S : Sees encB h s l) :
    ∃ j : Int, copyV h 1 (.slice (some ⟨z, 0, none⟩) m c) (.slice s l.length c') = some (.int .i64 j, h.put z (some (.cells false (((l ++ List.replicate m 0#8).take m).map u8)))) := by
  have S2 : Sees encB h s (l.take (min l.length m)) := ⟨fun hs => by rw [S.nil hs]; simp, fun A hA => by
    have := rdn_part (S.get A hA) (k := 0) (n := min l.length m) (by simp; omega)
    rw [Nat.add_zero] at this
    simpa [encB_all] using this, S.sp⟩
  have hL : (l.take (min l.length m)).length = min l.length m := by simp
  have hcp := cpy_at (B := List.replicate m 0#8) (c := c) (c' := c') (n := min l.length m) hg S2 (o := 0) (by simp; try omega) hL
  have hov : ovB (List.replicate m 0#8) 0 (l.take (min l.length m)) = (l ++ List.replicate m 0#8).take m := by
    simp only [ovB, List.take_zero, List.nil_append, hL, Nat.zero_add]
    by_cases hm : l.length ≤ m
    · rw [Nat.min_eq_left hm, List.take_length, List.take_append, List.take_of_length_le hm]
      simp
    · rw [Nat.min_eq_right (by omega), List.take_append_of_le_length (by omega)]
      simp
  rw [hov] at hcp
  refine ⟨(min l.length m : Nat), ?_⟩
  rw [← hcp]
  unfold copyV
  cases s <;> simp [lenV, elems]
theorem knew {l : By} {a : Option Addr} {c : Nat} (S : Sees encB h a l) (hb : l.length < 2 ^ 40) (hw : w < h.next) (hx : x + 3 < h.next)
    (hq : ∀ h', Dk h' (h.next + 1) h.next w x dv (dkE l) ⟨0#32, 0#32, 0#32, 0#32⟩ → Kp h h' → h'.next = h.next + 2 → q (ptr (h.next + 1) 0) h') : WC T n_disk_New [.int .i64 dv, ptr w 0, ptr (x + 3) 0, .slice a l.length c] h q := by
  rw [w_disk_New]
  obtain ⟨d, hd, hd2⟩ : ∃ d : Nat, ((l.length : Int) + 64 - 1).tdiv 64 = (d : Int) ∧ d = (l.length + 63) / 64 := ⟨(l.length + 63) / 64, by rw [Int.tdiv_eq_ediv_of_nonneg (by omega)]; omega, rfl⟩
  obtain ⟨n, hn, h64⟩ : ∃ n : Nat, (if 64 < (d : Int) then 64 else (d : Int)) = (n : Int) ∧ n = min d 64 := ⟨min d 64, by split <;> omega, rfl⟩
  have e2 : ((n : Int) * 64).toNat = 64 * n := by omega
  have hE : (l ++ List.replicate (64 * n) 0#8).take (64 * n) = dkE l := by rw [h64, hd2, dkE]
  have hEl : (dkE l).length = 64 * n := by rw [dkE_length, h64, hd2]
  simp (maxSteps := 1000000) (disch := first | assumption | ((try simp only [push_next, put_next, adv_next, List.length_cons, List.length_nil, List.length_map, List.length_set]); omega) | simp) [hd, hn, e2]
  generalize hg1 : (h.push (.cells false (List.replicate (64 * n) (u8 0#8)))) = h1 at *
  have hb1 : h1.get h.next = some (.cells false ((List.replicate (64 * n) 0#8).map u8)) := by rw [← hg1]; simp
  have hn1 : h1.next = h.next + 1 := by rw [← hg1]; simp
  have K1 : Kp h h1 := by rw [← hg1]; exact (Kp.refl h).push _
  obtain ⟨j, hcp⟩ := cpy_pre (c := 64 * n) (c' := c) hb1 (S.kp K1)
  rw [hE] at hcp
  simp (maxSteps := 1000000) (disch := first | assumption | ((try simp only [push_next, put_next, adv_next, List.length_cons, List.length_nil, List.length_map, List.length_set]); omega) | simp) [hcp]
  have hl1 : h.next < h1.next := by omega
  have hq' := hq ((h1.put h.next (some (.cells false ((dkE l).map u8)))).push (.cells false [.int .i64 dv, ptr w 0, ptr (x + 3) 0, .slice (some ⟨h.next, 0, none⟩) (64 * n) (64 * n), u32 0#32, u32 0#32, u32 0#32, u32 0#32])) ⟨?_, ?_, ?_⟩ (((K1.put (Nat.le_refl _) _)).push _) (by simp [hn1])
  · rw [hn1]
    exact hq'
  · rw [hEl, ← hn1]
    exact get_push_self
  · rw [get_push_ne (by simp; omega), get_put_self hl1]
  · rw [hEl]
    omega
end
end Go.Proofs.YtpdfdemoflofhaaGreat.Cd

/- A timer as a state: what each function does. -/
set_option maxRecDepth 1000000
set_option maxHeartbeats 4000000
set_option linter.unusedSimpArgs false
set_option linter.unusedVariables false
namespace Go.Proofs.YtpdfdemoflofhaaGreat.Cd
open Go Go.Dx
/-- A timer's words. -/
structure TmS where
  c : BitVec 32
  p : BitVec 32
  s : BitVec 32
def TmS.rd (T : TmS) (a : BitVec 32) : BitVec 32 := if a = 0#32 then T.c else if a = 4#32 then T.p else if a = 8#32 then T.s else 0#32
def mat (a : BitVec 32) : Bool := decide (a = 0#32 ∨ a = 4#32 ∨ a = 8#32)
/-- A period, one at least. -/
def tper (p : BitVec 32) : Int := ((if 1#32 < p then p else 1#32).toNat : Int)
theorem tper_pos (p : BitVec 32) : 1 ≤ tper p ∧ tper p < 4294967296 := by
  unfold tper
  split
  · rename_i h
    have h1 := BitVec.lt_def.1 h
    have h2 := p.isLt
    simp at h1
    omega
  · decide
def TmS.wr (T : TmS) (a v : BitVec 32) : TmS := if a = 0#32 then { T with c := v &&& 3#32 } else if a = 4#32 then { T with p := v } else if a = 8#32 then (if v &&& 1#32 = 0#32 then T else { T with s := 0#32 }) else T
def TmS.wrw (T : TmS) (W : WhS) (d : Int) (a v : BitVec 32) (now : Int) : WhS := if a = 0#32 then (if v &&& 1#32 = 0#32 then W.can d else W.arm d (now + tper T.p)) else W
def TmS.fire (T : TmS) : TmS := if T.c &&& 2#32 = 0#32 then { T with c := T.c &&& ~~~ 1#32, s := 1#32 } else { T with s := 1#32 }
def TmS.firew (T : TmS) (W : WhS) (d now : Int) : WhS := if T.c &&& 2#32 = 0#32 then W else W.arm d (now + tper T.p)
def TmC (h : Hp) (t w : Nat) (d : Int) (T : TmS) : Prop := h.get t = some (.cells false [.int .i64 d, ptr w 0, u32 T.c, u32 T.p, u32 T.s])
section
variable {h : Hp} {q : Value → Hp → Prop} {t w : Nat} {dv now : Int} {N : TmS} {S : WhS} {fp : List Nat} {a v : BitVec 32}
theorem wcanS (A : WhA h w S fp) (hq : ∀ v h' fp', WhA h' w (S.can dv) fp' → Upd h h' (w :: fp) (w :: fp') → q v h') : WC T n_wheel_Wheel_Cancel [ptr w 0, .int .i64 dv] h q := by
  have := A.wi.len
  exact wcancel A.wh (by omega) fun h1 fp1 W1 U1 => hq _ _ _ ⟨W1, A.wi.can dv⟩ U1
theorem mline (A : TmC h t w dv N) : WC T n_timer_Timer_Line [ptr t 0] h q ↔ q (.bool (N.s != 0#32)) h := by
  unfold TmC at A
  rw [w_timer_Timer_Line]
  simp (maxSteps := 1000000) (disch := first | assumption | ((try simp only [push_next, put_next, adv_next, List.length_cons, List.length_nil, List.length_map, List.length_set]); omega) | simp) [A]
theorem mnew (hw : w < h.next) : WC T n_timer_New [.int .i64 dv, ptr w 0] h q ↔ q (ptr h.next 0) (h.push (.cells false [.int .i64 dv, ptr w 0, u32 0#32, u32 0#32, u32 0#32])) := by
  rw [w_timer_New]
  simp (maxSteps := 1000000) (disch := first | assumption | ((try simp only [push_next, put_next, adv_next, List.length_cons, List.length_nil, List.length_map, List.length_set]); omega) | simp)
theorem mread (A : TmC h t w dv N) : WC T n_timer_Timer_Read [ptr t 0, u32 a] h q ↔ q (.tuple #[u32 (N.rd a), .bool (mat a)]) h := by
  unfold TmC at A
  rw [w_timer_Timer_Read]
  by_cases a0 : a = 0#32
  · subst a0; simp (maxSteps := 1000000) (disch := first | assumption | ((try simp only [push_next, put_next, adv_next, List.length_cons, List.length_nil, List.length_map, List.length_set]); omega) | simp) [A, TmS.rd, mat]
  by_cases a4 : a = 4#32
  · subst a4; simp (maxSteps := 1000000) (disch := first | assumption | ((try simp only [push_next, put_next, adv_next, List.length_cons, List.length_nil, List.length_map, List.length_set]); omega) | simp) [A, TmS.rd, mat]
  by_cases a8 : a = 8#32
  · subst a8; simp (maxSteps := 1000000) (disch := first | assumption | ((try simp only [push_next, put_next, adv_next, List.length_cons, List.length_nil, List.length_map, List.length_set]); omega) | simp) [A, TmS.rd, mat]
  simp (maxSteps := 1000000) (disch := first | assumption | ((try simp only [push_next, put_next, adv_next, List.length_cons, List.length_nil, List.length_map, List.length_set]); omega) | simp) [A, a0, a4, a8, TmS.rd, mat]
theorem TmC.upd {h' : Hp} {fp' : List Nat} (A : TmC h t w dv N) (hd : t ∉ w :: fp) (U : Upd h h' (w :: fp) (w :: fp')) : TmC h' t w dv N ∧ Upd h h' (t :: w :: fp) (t :: w :: fp') ∧ t ∉ w :: fp' := by
  unfold TmC at A ⊢
  have hl := lt_of_get A
  refine ⟨by rw [U.get t hl hd, A], ⟨U.le, fun b hb hn => U.get b hb fun hm => hn (List.mem_cons_of_mem _ hm), fun b hb => ?_⟩, fun hm => ?_⟩
  · rcases List.mem_cons.1 hb with rfl | hb
    · exact .inl (by simp)
    · rcases U.sub b hb with h5 | h5
      · exact .inl (List.mem_cons_of_mem _ h5)
      · exact .inr h5
  · rcases U.sub t hm with h5 | h5
    · exact hd h5
    · omega
theorem marm (A : TmC h t w dv N) (Q : WhA h w S fp) (hd : t ∉ w :: fp) (hn : 0 ≤ now ∧ now ≤ 2 ^ 60)
    (hq : ∀ h' fp', TmC h' t w dv N → WhA h' w (S.arm dv (now + tper N.p)) fp' → Upd h h' (t :: w :: fp) (t :: w :: fp') → t ∉ w :: fp' → q (.tuple #[]) h') : WC T n_timer_Timer_arm [ptr t 0, .int .i64 now] h q := by
  have A0 := A
  unfold TmC at A
  obtain ⟨p1, p2⟩ := tper_pos N.p
  have hw' : IntKind.i64.wrap (now + ((if 1#32 < N.p then N.p else 1#32).toNat : Int)) = now + tper N.p := wrap_i64 (by omega) (by omega)
  rw [w_timer_Timer_arm]
  simp (maxSteps := 1000000) (disch := first | assumption | ((try simp only [push_next, put_next, adv_next, List.length_cons, List.length_nil, List.length_map, List.length_set]); omega) | simp) [A, hw']
  refine warmS Q fun h1 fp1 Q1 U1 => ?_
  simp (maxSteps := 1000000) (disch := first | assumption | ((try simp only [push_next, put_next, adv_next, List.length_cons, List.length_nil, List.length_map, List.length_set]); omega) | simp)
  obtain ⟨k1, k2, k3⟩ := A0.upd hd U1
  exact hq _ _ k1 Q1 k2 k3
theorem mwrite (A : TmC h t w dv N) (Q : WhA h w S fp) (hd : t ∉ w :: fp) (hn : 0 ≤ now ∧ now ≤ 2 ^ 60)
    (hq : ∀ h' fp', TmC h' t w dv (N.wr a v) → WhA h' w (N.wrw S dv a v now) fp' → Upd h h' (t :: w :: fp) (t :: w :: fp') → t ∉ w :: fp' → q (.bool (mat a)) h') :
    WC T n_timer_Timer_Write [ptr t 0, u32 a, u32 v, .int .i64 now] h q := by
  have A0 := A
  unfold TmC at A
  have hl := lt_of_get A
  have hdw : ∀ b ∈ w :: fp, b ≠ t := fun b hb e => hd (e ▸ hb)
  have key : ∀ T' : TmS, TmC (h.put t (some (.cells false [.int .i64 dv, ptr w 0, u32 T'.c, u32 T'.p, u32 T'.s]))) t w dv T' ∧ WhA (h.put t (some (.cells false [.int .i64 dv, ptr w 0, u32 T'.c, u32 T'.p, u32 T'.s]))) w S fp ∧ Upd h (h.put t (some (.cells false [.int .i64 dv, ptr w 0, u32 T'.c, u32 T'.p, u32 T'.s]))) (t :: w :: fp) (t :: w :: fp) := fun T' =>
    ⟨by unfold TmC; rw [get_put_self hl], Q.keep fun b hb => get_put_ne (hdw b hb), ⟨by simp, fun b hb hn => get_put_ne fun e => hn (by rw [e]; simp), fun b hb => .inl hb⟩⟩
  rw [w_timer_Timer_Write]
  by_cases a0 : a = 0#32
  · subst a0
    obtain ⟨k1, k2, k3⟩ := key { N with c := v &&& 3#32 }
    by_cases v1 : v &&& 1#32 = 0#32
    · have A1 := k1
      unfold TmC at A1
      simp (maxSteps := 1000000) (disch := first | assumption | ((try simp only [push_next, put_next, adv_next, List.length_cons, List.length_nil, List.length_map, List.length_set]); omega) | simp) [A, v1]
      generalize h.put t (some (.cells false [.int .i64 dv, ptr w 0, u32 (v &&& 3#32), u32 N.p, u32 N.s])) = h1 at *
      refine wcanS k2 fun _ h2 fp2 Q2 U2 => ?_
      obtain ⟨j1, j2, j3⟩ := k1.upd hd U2
      simp (maxSteps := 1000000) (disch := first | assumption | ((try simp only [push_next, put_next, adv_next, List.length_cons, List.length_nil, List.length_map, List.length_set]); omega) | simp)
      exact hq _ _ (by simpa [TmS.wr] using j1) (by simpa [TmS.wrw, v1] using Q2) (k3.trans j2) j3
    · simp (maxSteps := 1000000) (disch := first | assumption | ((try simp only [push_next, put_next, adv_next, List.length_cons, List.length_nil, List.length_map, List.length_set]); omega) | simp) [A, v1]
      generalize h.put t (some (.cells false [.int .i64 dv, ptr w 0, u32 (v &&& 3#32), u32 N.p, u32 N.s])) = h1 at *
      refine marm k1 k2 hd hn fun h2 fp2 T2 Q2 U2 N2 => ?_
      simp (maxSteps := 1000000) (disch := first | assumption | ((try simp only [push_next, put_next, adv_next, List.length_cons, List.length_nil, List.length_map, List.length_set]); omega) | simp)
      exact hq _ _ (by simpa [TmS.wr] using T2) (by simpa [TmS.wrw, v1] using Q2) (k3.trans U2) N2
  by_cases a4 : a = 4#32
  · subst a4
    obtain ⟨k1, k2, k3⟩ := key { N with p := v }
    simp (maxSteps := 1000000) (disch := first | assumption | ((try simp only [push_next, put_next, adv_next, List.length_cons, List.length_nil, List.length_map, List.length_set]); omega) | simp) [A]
    exact hq _ fp (by simpa [TmS.wr] using k1) (by simpa [TmS.wrw] using k2) k3 hd
  by_cases a8 : a = 8#32
  · subst a8
    obtain ⟨k1, k2, k3⟩ := key { N with s := 0#32 }
    by_cases v1 : v &&& 1#32 = 0#32
    · simp (maxSteps := 1000000) (disch := first | assumption | ((try simp only [push_next, put_next, adv_next, List.length_cons, List.length_nil, List.length_map, List.length_set]); omega) | simp) [A, v1]
      exact hq _ fp (by simpa [TmS.wr, v1] using A0) (by simpa [TmS.wrw] using Q) (Kp.upd (Kp.refl h) _) hd
    · simp (maxSteps := 1000000) (disch := first | assumption | ((try simp only [push_next, put_next, adv_next, List.length_cons, List.length_nil, List.length_map, List.length_set]); omega) | simp) [A, v1]
      exact hq _ fp (by simpa [TmS.wr, v1] using k1) (by simpa [TmS.wrw] using k2) k3 hd
  have h9 := hq h fp (by simpa [TmS.wr, a0, a4, a8] using A0) (by simpa [TmS.wrw, a0] using Q) (Kp.upd (Kp.refl h) _) hd
  simp only [mat, a0, a4, a8, or_false, decide_false] at h9
  simp (maxSteps := 1000000) (disch := first | assumption | ((try simp only [push_next, put_next, adv_next, List.length_cons, List.length_nil, List.length_map, List.length_set]); omega) | simp) [a0, a4, a8]
  exact h9
theorem mfire (A : TmC h t w dv N) (Q : WhA h w S fp) (hd : t ∉ w :: fp) (hn : 0 ≤ now ∧ now ≤ 2 ^ 60)
    (hq : ∀ h' fp', TmC h' t w dv N.fire → WhA h' w (N.firew S dv now) fp' → Upd h h' (t :: w :: fp) (t :: w :: fp') → t ∉ w :: fp' → q (.tuple #[]) h') :
    WC T n_timer_Timer_Fire [ptr t 0, .int .i64 now] h q := by
  have A0 := A
  unfold TmC at A
  have hl := lt_of_get A
  have hdw : ∀ b ∈ w :: fp, b ≠ t := fun b hb e => hd (e ▸ hb)
  have key : ∀ T' : TmS, TmC (h.put t (some (.cells false [.int .i64 dv, ptr w 0, u32 T'.c, u32 T'.p, u32 T'.s]))) t w dv T' ∧ WhA (h.put t (some (.cells false [.int .i64 dv, ptr w 0, u32 T'.c, u32 T'.p, u32 T'.s]))) w S fp ∧ Upd h (h.put t (some (.cells false [.int .i64 dv, ptr w 0, u32 T'.c, u32 T'.p, u32 T'.s]))) (t :: w :: fp) (t :: w :: fp) := fun T' =>
    ⟨by unfold TmC; rw [get_put_self hl], Q.keep fun b hb => get_put_ne (hdw b hb), ⟨by simp, fun b hb hn => get_put_ne fun e => hn (by rw [e]; simp), fun b hb => .inl hb⟩⟩
  rw [w_timer_Timer_Fire]
  by_cases c2 : N.c &&& 2#32 = 0#32
  · obtain ⟨k1, k2, k3⟩ := key { N with c := N.c &&& ~~~ 1#32, s := 1#32 }
    simp (maxSteps := 1000000) (disch := first | assumption | ((try simp only [push_next, put_next, adv_next, List.length_cons, List.length_nil, List.length_map, List.length_set]); omega) | simp) [A, c2]
    exact hq _ _ (by simpa [TmS.fire, c2] using k1) (by simpa [TmS.firew, c2] using k2) k3 hd
  · obtain ⟨k1, k2, k3⟩ := key { N with s := 1#32 }
    simp (maxSteps := 1000000) (disch := first | assumption | ((try simp only [push_next, put_next, adv_next, List.length_cons, List.length_nil, List.length_map, List.length_set]); omega) | simp) [A, c2]
    generalize h.put t (some (.cells false [.int .i64 dv, ptr w 0, u32 N.c, u32 N.p, u32 1#32])) = h1 at *
    refine marm k1 k2 hd hn fun h2 fp2 T2 Q2 U2 N2 => ?_
    simp (maxSteps := 1000000) (disch := first | assumption | ((try simp only [push_next, put_next, adv_next, List.length_cons, List.length_nil, List.length_map, List.length_set]); omega) | simp)
    exact hq _ _ (by simpa [TmS.fire, c2] using T2) (by simpa [TmS.firew, c2] using Q2) (k3.trans U2) N2
end
end Go.Proofs.YtpdfdemoflofhaaGreat.Cd

/- The lines: what each function does. -/
set_option maxRecDepth 1000000
set_option linter.unusedSimpArgs false
namespace Go.Proofs.YtpdfdemoflofhaaGreat.Cd
open Go Go.Dx
theorem k32_0 : Value.int .u32 0 = u32 0 := rfl
theorem k32_1 : Value.int .u32 1 = u32 1 := rfl
theorem k32_4 : Value.int .u32 4 = u32 4 := rfl
theorem k32_8 : Value.int .u32 8 = u32 8 := rfl
theorem k32_12 : Value.int .u32 12 = u32 12 := rfl
theorem k32_62 : Value.int .u32 62 = u32 62 := rfl
section
variable {h : Hp} {b : Nat} {r m : BitVec 32} {q : Value → Hp → Prop}
def Ln (h : Hp) (b : Nat) (r m : BitVec 32) : Prop := h.get b = some (.cells false [u32 r, u32 m])
theorem lraised (hb : Ln h b r m) : WC T n_lines_Lines_Raised [ptr b 0] h q ↔ q (.bool (r &&& m != 0)) h := by
  unfold Ln at hb
  rw [w_lines_Lines_Raised]
  simp [Hp.rd, Hp.cells, hb, k32_0, and_u32, neq_u32]
theorem lnew : WC T n_lines_New [] h q ↔ q (ptr h.next 0) (h.push (.cells false [u32 0, u32 0])) := by
  rw [w_lines_New]
  simp [opA, k32_0, fillIn, evp, Value.cells]
/-- A line up or down. -/
def lset (d : Int) (up : Bool) (r : BitVec 32) : BitVec 32 :=
  if d < 1 ∨ 5 < d then r else if up then r &&& ~~~ (1#32 <<< d.toNat) ||| 1#32 <<< d.toNat else r &&& ~~~ (1#32 <<< d.toNat)
theorem shl_u32_I (x : BitVec 32) {k : IntKind} {n : Int} (hn : 0 ≤ n) : binV .shl (u32 x) (.int k n) = some (u32 (x <<< n.toNat)) := by
  obtain ⟨m, rfl⟩ := Int.eq_ofNat_of_zero_le hn
  exact shl_u32_n x k m
theorem binV_lss64 (a b : Int) : binV .lss (.int .i64 a) (.int .i64 b) = some (.bool (decide (a < b))) := rfl
theorem binV_gtr64 (a b : Int) : binV .gtr (.int .i64 a) (.int .i64 b) = some (.bool (decide (a > b))) := rfl
theorem lsets {d : Int} {up : Bool} (hb : Ln h b r m) : WC T n_lines_Lines_Set [ptr b 0, .int .i64 d, .bool up] h q ↔ q (.tuple #[]) (if d < 1 ∨ 5 < d then h else h.put b (some (.cells false [u32 (lset d up r), u32 m]))) := by
  have hlt := lt_of_get hb
  unfold Ln at hb
  rw [w_lines_Lines_Set]
  by_cases h1 : d < 1
  · simp [binV_lss64, binV_gtr64, h1]
  by_cases h2 : 5 < d
  · simp [binV_lss64, binV_gtr64, h1, h2]
  have h3 : 0 ≤ d := by omega
  cases up <;> simp [Hp.rd, Hp.cells, Hp.wr, over, hb, get_put_self hlt, k32_1, h1, h2, lset, andNot_u32, or_u32, shl_u32_I _ h3, binV_lss64, binV_gtr64]
/-- Which words there are. -/
def lat (at' : BitVec 32) : Bool := at' == 4 || at' == 0 || at' == 8 || at' == 12
theorem lwrite {at' v : BitVec 32} (hb : Ln h b r m) : WC T n_lines_Lines_Write [ptr b 0, u32 at', u32 v] h q ↔ q (.bool (lat at')) (if at' = 4 then h.put b (some (.cells false [u32 r, u32 (v &&& 62)])) else h) := by
  have hlt := lt_of_get hb
  unfold Ln at hb
  rw [w_lines_Lines_Write]
  by_cases h4 : at' = 4#32
  · simp [Hp.rd, Hp.cells, Hp.wr, over, hb, get_put_self hlt, h4, eql_u32, and_u32, k32_4, k32_62, lat]
  by_cases h0 : at' = 0#32
  · simp [Hp.rd, Hp.cells, Hp.wr, over, hb, get_put_self hlt, h0, eql_u32, and_u32, k32_4, k32_0, k32_8, k32_12, k32_62, lat]
  by_cases h8 : at' = 8#32
  · simp [Hp.rd, Hp.cells, Hp.wr, over, hb, get_put_self hlt, h8, eql_u32, and_u32, k32_4, k32_0, k32_8, k32_12, k32_62, lat]
  by_cases h12 : at' = 12#32
  · simp [Hp.rd, Hp.cells, Hp.wr, over, hb, get_put_self hlt, h12, eql_u32, and_u32, k32_4, k32_0, k32_8, k32_12, k32_62, lat]
  have e4 : (at' == 4#32) = false := by simpa using h4
  have e0 : (at' == 0#32) = false := by simpa using h0
  have e8 : (at' == 8#32) = false := by simpa using h8
  have e12 : (at' == 12#32) = false := by simpa using h12
  simp [Hp.rd, Hp.cells, Hp.wr, over, hb, get_put_self hlt, e4, e0, e8, e12, h0, h4, h8, h12, eql_u32, and_u32, k32_4, k32_0, k32_8, k32_12, k32_62, lat]
/-- What a word says. -/
def lrd (r m at' : BitVec 32) (now : Int) : BitVec 32 :=
  if at' = 0 then r else if at' = 4 then m else if at' = 8 then BitVec.ofInt 32 now else if at' = 12 then BitVec.ofInt 32 (now.fdiv 4294967296) else 0
theorem lread {at' : BitVec 32} {now : Int} (hb : Ln h b r m) : WC T n_lines_Lines_Read [ptr b 0, u32 at', .int .i64 now] h q ↔ q (.tuple #[u32 (lrd r m at' now), .bool (lat at')]) h := by
  have hlt := lt_of_get hb
  unfold Ln at hb
  rw [w_lines_Lines_Read]
  have hsh : binV .shr (.int .i64 now) (.int .u64 32) = some (.int .i64 (now.fdiv 4294967296)) := rfl
  by_cases h0 : at' = 0#32
  · simp [cvt_u32_int, int_u32, Hp.rd, Hp.cells, Hp.wr, over, hb, get_put_self hlt, h0, eql_u32, and_u32, k32_4, k32_0, k32_8, k32_12, k32_62, lat, lrd, hsh, cvt_u32_int]
  by_cases h4 : at' = 4#32
  · simp [cvt_u32_int, int_u32, Hp.rd, Hp.cells, Hp.wr, over, hb, get_put_self hlt, h4, eql_u32, and_u32, k32_4, k32_0, k32_8, k32_12, k32_62, lat, lrd, hsh, cvt_u32_int]
  by_cases h8 : at' = 8#32
  · simp [cvt_u32_int, int_u32, Hp.rd, Hp.cells, Hp.wr, over, hb, get_put_self hlt, h8, eql_u32, and_u32, k32_4, k32_0, k32_8, k32_12, k32_62, lat, lrd, hsh, cvt_u32_int]
  by_cases h12 : at' = 12#32
  · simp [cvt_u32_int, int_u32, Hp.rd, Hp.cells, Hp.wr, over, hb, get_put_self hlt, h12, eql_u32, and_u32, k32_4, k32_0, k32_8, k32_12, k32_62, lat, lrd, hsh, cvt_u32_int]
  have e4 : (at' == 4#32) = false := by simpa using h4
  have e0 : (at' == 0#32) = false := by simpa using h0
  have e8 : (at' == 8#32) = false := by simpa using h8
  have e12 : (at' == 12#32) = false := by simpa using h12
  simp [cvt_u32_int, int_u32, Hp.rd, Hp.cells, Hp.wr, over, hb, get_put_self hlt, e4, e0, e8, e12, h0, h4, h8, h12, eql_u32, and_u32, k32_4, k32_0, k32_8, k32_12, k32_62, lat, lrd, hsh, cvt_u32_int]
end
end Go.Proofs.YtpdfdemoflofhaaGreat.Cd

/- The line of bytes: what each function does. -/
set_option maxRecDepth 1000000
set_option maxHeartbeats 4000000
set_option linter.unusedSimpArgs false
set_option linter.unusedVariables false
namespace Go.Proofs.YtpdfdemoflofhaaGreat.Cd
open Go Go.Dx
structure UaS where
  i : By
  o : By
  lost : Bool
  ctl : BitVec 32
  out : By
def uat (a : BitVec 32) : Bool := decide (a = 0#32 ∨ a = 4#32 ∨ a = 8#32)
def ubit (t : Bool) (b : BitVec 32) : BitVec 32 := if t = true then b else 0#32
def UaS.stat (U : UaS) : BitVec 32 := ubit (decide (0 < U.i.length)) 1#32 ||| ubit (decide ((U.o.length : Int) = 16)) 2#32 ||| ubit U.lost 4#32 ||| ubit (decide (U.o = [])) 8#32
def UaS.rd (U : UaS) (a : BitVec 32) : BitVec 32 := if a = 0#32 then (match U.i with | [] => 256#32 | b :: _ => b.setWidth 32) else if a = 4#32 then U.stat else if a = 8#32 then U.ctl else 0#32
def UaS.rds (U : UaS) (a : BitVec 32) : UaS := if a = 0#32 then { U with i := U.i.tail } else U
def UaS.wr (U : UaS) (a v : BitVec 32) : UaS := if a = 0#32 then (if U.o.length < 16 then { U with o := U.o ++ [v.setWidth 8] } else U) else if a = 4#32 then { U with lost := U.lost && decide (v &&& 4#32 = 0#32) } else if a = 8#32 then { U with ctl := v &&& 3#32 } else U
def UaS.wrw (U : UaS) (W : WhS) (d : Int) (a : BitVec 32) (now : Int) : WhS := if a = 0#32 ∧ U.o.length = 0 then W.arm d (now + 8) else W
def UaS.fire (U : UaS) : UaS := match U.o with | [] => U | b :: t => { U with o := t, out := if U.out.length < 65536 then U.out ++ [b] else U.out }
def UaS.firew (U : UaS) (W : WhS) (d now : Int) : WhS := if 1 < U.o.length then W.arm d (now + 8) else W
def UaS.line (U : UaS) : Bool := (U.ctl &&& 1#32 != 0#32 && decide (0 < U.i.length)) || (U.ctl &&& 2#32 != 0#32 && decide (U.o = []))
/-- A line as it lies. -/
structure Ua (h : Hp) (x w : Nat) (dv : Int) (fo : List Nat) (U : UaS) : Prop where
  u : ∃ v, h.get (x + 2) = some (.cells false [.int .i64 dv, ptr w 0, .chan (some x), .chan (some (x + 1)), .bool U.lost, u32 U.ctl, v]) ∧ Own encB h v U.out fo
  i : h.get x = some (.chan 16 (U.i.map u8))
  o : h.get (x + 1) = some (.chan 16 (U.o.map u8))
  off : ∀ b ∈ fo, b < x ∨ x + 2 < b
  ni : U.i.length ≤ 16
  no : U.o.length ≤ 16
  nout : U.out.length ≤ 65536
section
variable {h : Hp} {q : Value → Hp → Prop} {x w c : Nat} {dv now : Int} {fo fp : List Nat} {U : UaS} {S : WhS} {a v : BitVec 32} {B : By} {cap : Nat} {b : BitVec 8}
theorem utake (hg : h.get c = some (.chan cap (B.map u8))) : WC T n_uart_take [.chan (some c)] h q ↔ q (.tuple #[u8 (B.headD 0#8), .bool (!B.isEmpty)]) (match B with | [] => h | _ :: t => h.put c (some (.chan cap (t.map u8)))) := by
  rw [WC_spec T_uart_take]
  cases B with
  | nil =>
    simp only [List.map_nil] at hg
    simp only [sTake, hg]
    constructor
    · rintro ⟨r, e, hq⟩
      cases e
      exact hq
    · exact fun hq => ⟨_, rfl, hq⟩
  | cons y B =>
    simp only [List.map_cons] at hg
    have hg' : h.get c = some (.chan cap (.int .u8 (y.toNat : Int) :: B.map u8)) := hg
    simp only [sTake, hg']
    constructor
    · rintro ⟨r, e, hq⟩
      cases e
      exact hq
    · exact fun hq => ⟨_, rfl, hq⟩
theorem uput (hg : h.get c = some (.chan cap (B.map u8))) : WC T n_uart_put [.chan (some c), u8 b] h q ↔ q (.bool (decide (B.length < cap))) (if B.length < cap then h.put c (some (.chan cap ((B ++ [b]).map u8))) else h) := by
  rw [WC_spec T_uart_put]
  simp only [sPut, u8, hg]
  by_cases hl : B.length < cap
  · have hl' : (B.map u8).length < cap := by simpa using hl
    simp only [if_pos hl', if_pos hl]
    constructor
    · rintro ⟨r, e, hq⟩
      cases e
      simpa [hl, u8] using hq
    · exact fun hq => ⟨_, rfl, by simpa [hl, u8] using hq⟩
  · have hl' : ¬ (B.map u8).length < cap := by simpa using hl
    simp only [if_neg hl', if_neg hl]
    constructor
    · rintro ⟨r, e, hq⟩
      cases e
      simpa [hl] using hq
    · exact fun hq => ⟨_, rfl, by simpa [hl] using hq⟩
theorem ubit_ {t : Bool} {v : BitVec 32} : WC T n_uart_bit [.bool t, u32 v] h q ↔ q (u32 (ubit t v)) h := by
  rw [w_uart_bit]
  cases t <;> simp (maxSteps := 1000000) (disch := first | assumption | ((try simp only [push_next, put_next, adv_next, List.length_cons, List.length_nil, List.length_map, List.length_set]); omega) | simp) [ubit]
theorem unew (hw : w < h.next) (hq : ∀ h', Ua h' h.next w dv [] ⟨[], [], false, 0#32, []⟩ → Kp h h' → h'.next = h.next + 3 → q (ptr (h.next + 2) 0) h') : WC T n_uart_New [.int .i64 dv, ptr w 0] h q := by
  rw [w_uart_New]
  simp (maxSteps := 1000000) (disch := first | assumption | ((try simp only [push_next, put_next, adv_next, List.length_cons, List.length_nil, List.length_map, List.length_set]); omega) | simp)
  refine hq _ ⟨⟨.slice none 0 0, ?_, .nul⟩, ?_, ?_, by simp, by simp, by simp, by simp⟩ (((((Kp.refl h).adv 3).put (Nat.le_refl _) _).put (by omega) _).put (by omega) _) (by simp)
  · rw [get_put_self (by simp)]
  · rw [get_put_ne (by omega), get_put_ne (by omega), get_put_self (by simp)]
    rfl
  · rw [get_put_ne (by omega), get_put_self (by simp)]
    rfl
theorem uread (A : Ua h x w dv fo U) (hq : ∀ h', Ua h' x w dv fo (U.rds a) → Upd h h' [x] [x] → q (.tuple #[u32 (U.rd a), .bool (uat a)]) h') : WC T n_uart_Uart_Read [ptr (x + 2) 0, u32 a] h q := by
  obtain ⟨v, g1, ho⟩ := A.u
  have g2 := A.i
  have g3 := A.o
  have n2 := lenC_of g2
  have n3 := lenC_of g3
  have l1 := lt_of_get g1
  rw [w_uart_Uart_Read]
  by_cases a0 : a = 0#32
  · subst a0
    cases hU : U.i with
    | nil =>
      rw [hU] at g2
      have ht := fun q => utake (q := q) g2
      simp only [List.headD_nil, List.isEmpty_nil, Bool.not_true] at ht
      simp (maxSteps := 1000000) (disch := first | assumption | ((try simp only [push_next, put_next, adv_next, List.length_cons, List.length_nil, List.length_map, List.length_set]); omega) | simp) [g1, GC_of ht]
      have e : U.rds 0#32 = U := by cases U; simp at hU; subst hU; rfl
      have := hq h (by rw [e]; exact A) (Kp.upd (Kp.refl h) _)
      simpa [UaS.rd, hU, uat] using this
    | cons y t =>
      rw [hU] at g2
      have ht := fun q => utake (q := q) g2
      simp only [List.headD_cons, List.isEmpty_cons, Bool.not_false] at ht
      simp (maxSteps := 1000000) (disch := first | assumption | ((try simp only [push_next, put_next, adv_next, List.length_cons, List.length_nil, List.length_map, List.length_set]); omega) | simp) [g1, GC_of ht]
      have A1 : Ua (h.put x (some (.chan 16 (t.map u8)))) x w dv fo (U.rds 0#32) :=
        ⟨⟨v, by rw [get_put_ne (by omega), g1]; rfl, ho.keep fun b hb => get_put_ne (by have := A.off b hb; omega)⟩, by rw [get_put_self (by omega)]; simp [UaS.rds, hU], by rw [get_put_ne (by omega), g3]; rfl, A.off, by have := A.ni; rw [hU] at this; simp [UaS.rds, hU] at this ⊢; omega, A.no, A.nout⟩
      have := hq _ A1 ⟨by simp, fun b hb hn => get_put_ne (by simpa using hn), fun b hb => .inl hb⟩
      simpa [UaS.rd, hU, uat] using this
  by_cases a4 : a = 4#32
  · subst a4
    simp (maxSteps := 1000000) (disch := first | assumption | ((try simp only [push_next, put_next, adv_next, List.length_cons, List.length_nil, List.length_map, List.length_set]); omega) | simp) [g1, n2, n3, GC_of (fun q => ubit_ (q := q)), GCI_of (fun q => ubit_ (q := q))]
    refine ⟨by simp [veq, veqF], ?_⟩
    have := hq h A (Kp.upd (Kp.refl h) _)
    simpa [UaS.rd, UaS.stat, uat] using this
  by_cases a8 : a = 8#32
  · subst a8
    simp (maxSteps := 1000000) (disch := first | assumption | ((try simp only [push_next, put_next, adv_next, List.length_cons, List.length_nil, List.length_map, List.length_set]); omega) | simp) [g1]
    have := hq h A (Kp.upd (Kp.refl h) _)
    simpa [UaS.rd, uat] using this
  have h0 := hq h (by simpa [UaS.rds, a0] using A) (Kp.upd (Kp.refl h) _)
  simp only [UaS.rd, uat, a0, a4, a8, if_false, or_false, decide_false] at h0
  simp (maxSteps := 1000000) (disch := first | assumption | ((try simp only [push_next, put_next, adv_next, List.length_cons, List.length_nil, List.length_map, List.length_set]); omega) | simp) [a0, a4, a8]
  exact h0
theorem uline (A : Ua h x w dv fo U) : WC T n_uart_Uart_Line [ptr (x + 2) 0] h q ↔ q (.bool U.line) h := by
  obtain ⟨v, g1, ho⟩ := A.u
  have g2 := A.i
  have g3 := A.o
  have n2 := lenC_of g2
  have n3 := lenC_of g3
  rw [w_uart_Uart_Line]
  by_cases c1 : U.ctl &&& 1#32 = 0#32
  · by_cases c2 : U.ctl &&& 2#32 = 0#32
    · simp (maxSteps := 1000000) (disch := first | assumption | ((try simp only [push_next, put_next, adv_next, List.length_cons, List.length_nil, List.length_map, List.length_set]); omega) | simp) [g1, n2, n3, c1, c2, UaS.line]
    · have b2 : (U.ctl &&& 2#32 != 0#32) = true := by simpa using c2
      simp (maxSteps := 1000000) (disch := first | assumption | ((try simp only [push_next, put_next, adv_next, List.length_cons, List.length_nil, List.length_map, List.length_set]); omega) | simp) [g1, n2, n3, c1, c2, UaS.line, b2]
  · have b1 : (U.ctl &&& 1#32 != 0#32) = true := by simpa using c1
    by_cases c3 : 0 < U.i.length
    · simp (maxSteps := 1000000) (disch := first | assumption | ((try simp only [push_next, put_next, adv_next, List.length_cons, List.length_nil, List.length_map, List.length_set]); omega) | simp) [g1, n2, n3, c1, c3, UaS.line, b1]
    · by_cases c2 : U.ctl &&& 2#32 = 0#32
      · simp (maxSteps := 1000000) (disch := first | assumption | ((try simp only [push_next, put_next, adv_next, List.length_cons, List.length_nil, List.length_map, List.length_set]); omega) | simp) [g1, n2, n3, c1, c2, c3, UaS.line, b1]
      · have b2 : (U.ctl &&& 2#32 != 0#32) = true := by simpa using c2
        simp (maxSteps := 1000000) (disch := first | assumption | ((try simp only [push_next, put_next, adv_next, List.length_cons, List.length_nil, List.length_map, List.length_set]); omega) | simp) [g1, n2, n3, c1, c2, c3, UaS.line, b1, b2]
theorem Ua.lt (A : Ua h x w dv fo U) : x + 2 < h.next := by
  obtain ⟨v, g1, ho⟩ := A.u
  exact lt_of_get g1
theorem Ua.keep {h' : Hp} (A : Ua h x w dv fo U) (hk : ∀ b, b < h.next → (x ≤ b ∧ b ≤ x + 2 ∨ b ∈ fo) → h'.get b = h.get b) : Ua h' x w dv fo U := by
  have hl := A.lt
  obtain ⟨v, g1, ho⟩ := A.u
  exact ⟨⟨v, by rw [hk _ (by omega) (by omega), g1], ho.keep fun b hb => hk _ (ho.live b hb) (.inr hb)⟩, by rw [hk _ (by omega) (by omega), A.i], by rw [hk _ (by omega) (by omega), A.o], A.off, A.ni, A.no, A.nout⟩
theorem Ua.kp {h' : Hp} (A : Ua h x w dv fo U) (K : Kp h h') : Ua h' x w dv fo U := A.keep fun b hb _ => K.get b hb
theorem uout (A : Ua h x w dv fo U) (hq : ∀ a c h', Sees encB h' a U.out → Kp h h' → q (.slice a U.out.length c) h') : WC T n_uart_Uart_Out [ptr (x + 2) 0] h q := by
  obtain ⟨v, g1, ho⟩ := A.u
  have hno := A.nout
  obtain ⟨a, c, rfl, hs, _, _⟩ := ho.len
  rw [w_uart_Uart_Out]
  simp (maxSteps := 1000000) (disch := first | assumption | ((try simp only [push_next, put_next, adv_next, List.length_cons, List.length_nil, List.length_map, List.length_set]); omega) | simp) [g1]
  refine clone_by hs (by omega) fun a' c' h' hs' K _ _ => ?_
  simp (maxSteps := 1000000) (disch := first | assumption | ((try simp only [push_next, put_next, adv_next, List.length_cons, List.length_nil, List.length_map, List.length_set]); omega) | simp)
  exact hq _ _ _ hs' K
/-- Apart from the line's own blocks. -/
def Ap (x : Nat) (fo l : List Nat) : Prop := ∀ b ∈ l, (b < x ∨ x + 2 < b) ∧ b ∉ fo
/-- It is armed. -/
theorem uarm (A : Ua h x w dv fo U) (Q : WhA h w S fp) (hoff : Ap x fo (w :: fp)) (hn : -2 ^ 62 ≤ now ∧ now ≤ 2 ^ 62)
    (hq : ∀ h' fp', Ua h' x w dv fo U → WhA h' w (S.arm dv (now + 8)) fp' → Upd h h' (w :: fp) (w :: fp') → Ap x fo (w :: fp') → q (.tuple #[]) h') : WC T n_uart_Uart_arm [ptr (x + 2) 0, .int .i64 now] h q := by
  obtain ⟨v, g1, ho⟩ := A.u
  rw [w_uart_Uart_arm]
  simp (maxSteps := 1000000) (disch := first | assumption | ((try simp only [push_next, put_next, adv_next, List.length_cons, List.length_nil, List.length_map, List.length_set]); omega) | simp) [g1]
  refine warmS Q fun h1 fp1 Q1 U1 => ?_
  simp (maxSteps := 1000000) (disch := first | assumption | ((try simp only [push_next, put_next, adv_next, List.length_cons, List.length_nil, List.length_map, List.length_set]); omega) | simp)
  exact hq _ _ (A.keep fun b hb hm => U1.get b hb fun hc => by
    have := hoff b hc
    rcases hm with hm | hm
    · omega
    · exact this.2 hm) Q1 U1 fun b hb => by
      rcases U1.sub b hb with h5 | h5
      · exact hoff b h5
      · have := A.lt
        exact ⟨by omega, fun hf => by have := ho.live b hf; omega⟩
theorem uwrite (A : Ua h x w dv fo U) (Q : WhA h w S fp) (hoff : Ap x fo (w :: fp)) (hn : -2 ^ 62 ≤ now ∧ now ≤ 2 ^ 62)
    (hq : ∀ h' fp', Ua h' x w dv fo (U.wr a v) → WhA h' w (U.wrw S dv a now) fp' → Upd h h' ((x + 1) :: (x + 2) :: w :: fp) ((x + 1) :: (x + 2) :: w :: fp') → Ap x fo (w :: fp') → q (.bool (uat a)) h') :
    WC T n_uart_Uart_Write [ptr (x + 2) 0, u32 a, u32 v, .int .i64 now] h q := by
  have A0 := A
  obtain ⟨vo, g1, ho⟩ := A.u
  have g2 := A.i
  have g3 := A.o
  have n3 := lenC_of g3
  have l1 := lt_of_get g1
  rw [w_uart_Uart_Write]
  by_cases a0 : a = 0#32
  · subst a0
    have t0 : uat 0#32 = true := rfl
    have ht := fun q => uput (q := q) (b := v.setWidth 8) g3
    by_cases hc : U.o.length < 16
    · simp only [hc, decide_true, if_true] at ht
      have A1 : Ua (h.put (x + 1) (some (.chan 16 ((U.o ++ [v.setWidth 8]).map u8)))) x w dv fo (U.wr 0#32 v) :=
        ⟨⟨vo, by rw [get_put_ne (by omega), g1]; simp [UaS.wr, hc], by simpa [UaS.wr, hc] using ho.keep fun b hb => get_put_ne (by have := A.off b hb; omega)⟩, by rw [get_put_ne (by omega), g2]; simp [UaS.wr, hc], by rw [get_put_self (by omega)]; simp [UaS.wr, hc], A.off, by simpa [UaS.wr, hc] using A.ni, by simp [UaS.wr, hc]; omega, by simpa [UaS.wr, hc] using A.nout⟩
      have Q1 : WhA (h.put (x + 1) (some (.chan 16 ((U.o ++ [v.setWidth 8]).map u8)))) w S fp := Q.keep fun b hb => get_put_ne (by have := (hoff b hb).1; omega)
      have U1 : Upd h (h.put (x + 1) (some (.chan 16 ((U.o ++ [v.setWidth 8]).map u8)))) [x + 1] [x + 1] := ⟨by simp, fun b hb hn => get_put_ne (by simpa using hn), fun b hb => .inl hb⟩
      generalize h.put (x + 1) (some (.chan 16 ((U.o ++ [v.setWidth 8]).map u8))) = h1 at *
      by_cases h0 : U.o = []
      · have h0' : U.o.length = 0 := by rw [h0]; rfl
        simp (maxSteps := 1000000) (disch := first | assumption | ((try simp only [push_next, put_next, adv_next, List.length_cons, List.length_nil, List.length_map, List.length_set]); omega) | simp) [g1, n3, h0, GC_of ht]
        refine uarm A1 Q1 hoff hn fun h2 fp2 A2 Q2 U2 P2 => ?_
        simp (maxSteps := 1000000) (disch := first | assumption | ((try simp only [push_next, put_next, adv_next, List.length_cons, List.length_nil, List.length_map, List.length_set]); omega) | simp)
        have := hq h2 fp2 A2 (by simpa [UaS.wrw, h0'] using Q2) ⟨Nat.le_trans U1.le U2.le, fun b hb hn => by
          simp only [List.mem_cons, not_or] at hn
          rw [U2.get b (Nat.lt_of_lt_of_le hb U1.le) (by simp only [List.mem_cons, not_or]; exact hn.2.2), U1.get b hb (by simpa using hn.1)], fun b hb => by
          simp only [List.mem_cons] at hb ⊢
          rcases hb with hb | hb | hb
          · exact .inl (.inl hb)
          · exact .inl (.inr (.inl hb))
          · rcases U2.sub b (by simpa using hb) with h5 | h5
            · exact .inl (.inr (.inr (by simpa using h5)))
            · exact .inr (Nat.le_trans U1.le h5)⟩ P2
        rwa [t0] at this
      · have h0' : ¬ U.o.length = 0 := fun e => h0 (List.length_eq_zero_iff.1 e)
        simp (maxSteps := 1000000) (disch := first | assumption | ((try simp only [push_next, put_next, adv_next, List.length_cons, List.length_nil, List.length_map, List.length_set]); omega) | simp) [g1, n3, h0, h0', GC_of ht]
        have := hq h1 fp A1 (by simpa [UaS.wrw, h0'] using Q1) ⟨U1.le, fun b hb hn => U1.get b hb (by simp only [List.mem_cons, not_or] at hn; simpa using hn.1), fun b hb => .inl hb⟩ hoff
        rwa [t0] at this
    · simp only [hc, decide_false, if_false] at ht
      have h0' : ¬ U.o.length = 0 := by omega
      simp (maxSteps := 1000000) (disch := first | assumption | ((try simp only [push_next, put_next, adv_next, List.length_cons, List.length_nil, List.length_map, List.length_set]); omega) | simp) [g1, n3, GC_of ht]
      have := hq h fp (by simpa [UaS.wr, hc] using A0) (by simpa [UaS.wrw, h0'] using Q) (Kp.upd (Kp.refl h) _) hoff
      rwa [t0] at this
  have key : ∀ U' : UaS, U'.i = U.i → U'.o = U.o → U'.out = U.out → Ua (h.put (x + 2) (some (.cells false [.int .i64 dv, ptr w 0, .chan (some x), .chan (some (x + 1)), .bool U'.lost, u32 U'.ctl, vo]))) x w dv fo U' ∧ WhA (h.put (x + 2) (some (.cells false [.int .i64 dv, ptr w 0, .chan (some x), .chan (some (x + 1)), .bool U'.lost, u32 U'.ctl, vo]))) w S fp ∧ Upd h (h.put (x + 2) (some (.cells false [.int .i64 dv, ptr w 0, .chan (some x), .chan (some (x + 1)), .bool U'.lost, u32 U'.ctl, vo]))) ((x + 1) :: (x + 2) :: w :: fp) ((x + 1) :: (x + 2) :: w :: fp) := fun U' e1 e2 e3 =>
    ⟨⟨⟨vo, get_put_self l1, by rw [e3]; exact ho.keep fun b hb => get_put_ne (by have := A0.off b hb; omega)⟩, by rw [get_put_ne (by omega), g2, e1], by rw [get_put_ne (by omega), g3, e2], A0.off, by rw [e1]; exact A0.ni, by rw [e2]; exact A0.no, by rw [e3]; exact A0.nout⟩, Q.keep fun b hb => get_put_ne (by have := (hoff b hb).1; omega), ⟨by simp, fun b hb hn => get_put_ne (by simp only [List.mem_cons, not_or] at hn; exact hn.2.1), fun b hb => .inl hb⟩⟩
  by_cases a4 : a = 4#32
  · subst a4
    have t4 : uat 4#32 = true := rfl
    cases hlo : U.lost with
    | false =>
      rw [hlo] at g1
      simp (maxSteps := 1000000) (disch := first | assumption | ((try simp only [push_next, put_next, adv_next, List.length_cons, List.length_nil, List.length_map, List.length_set]); omega) | simp) [g1]
      obtain ⟨k1, k2, k3⟩ := key { U with lost := false } rfl rfl rfl
      have e : U.wr 4#32 v = { U with lost := false } := by simp [UaS.wr, hlo]
      have := hq _ fp (by rw [e]; exact k1) (by simpa [UaS.wrw] using k2) k3 hoff
      rwa [t4] at this
    | true =>
      rw [hlo] at g1
      by_cases v4 : v &&& 4#32 = 0#32
      · simp (maxSteps := 1000000) (disch := first | assumption | ((try simp only [push_next, put_next, adv_next, List.length_cons, List.length_nil, List.length_map, List.length_set]); omega) | simp) [g1, v4]
        obtain ⟨k1, k2, k3⟩ := key { U with lost := true } rfl rfl rfl
        have e : U.wr 4#32 v = { U with lost := true } := by simp [UaS.wr, hlo, v4]
        have := hq _ fp (by rw [e]; exact k1) (by simpa [UaS.wrw] using k2) k3 hoff
        rwa [t4] at this
      · have b4 : (v &&& 4#32 == 0#32) = false := by simpa using v4
        simp (maxSteps := 1000000) (disch := first | assumption | ((try simp only [push_next, put_next, adv_next, List.length_cons, List.length_nil, List.length_map, List.length_set]); omega) | simp) [g1, v4, b4]
        obtain ⟨k1, k2, k3⟩ := key { U with lost := false } rfl rfl rfl
        have e : U.wr 4#32 v = { U with lost := false } := by simp [UaS.wr, hlo, v4]
        have := hq _ fp (by rw [e]; exact k1) (by simpa [UaS.wrw] using k2) k3 hoff
        rwa [t4] at this
  by_cases a8 : a = 8#32
  · subst a8
    simp (maxSteps := 1000000) (disch := first | assumption | ((try simp only [push_next, put_next, adv_next, List.length_cons, List.length_nil, List.length_map, List.length_set]); omega) | simp) [g1]
    obtain ⟨k1, k2, k3⟩ := key { U with ctl := v &&& 3#32 } rfl rfl rfl
    have e : U.wr 8#32 v = { U with ctl := v &&& 3#32 } := by simp [UaS.wr]
    have := hq _ fp (by rw [e]; exact k1) (by simpa [UaS.wrw] using k2) k3 hoff
    rwa [show uat 8#32 = true from rfl] at this
  have h9 := hq h fp (by simpa [UaS.wr, a0, a4, a8] using A0) (by simpa [UaS.wrw, a0] using Q) (Kp.upd (Kp.refl h) _) hoff
  simp only [uat, a0, a4, a8, or_false, decide_false] at h9
  simp (maxSteps := 1000000) (disch := first | assumption | ((try simp only [push_next, put_next, adv_next, List.length_cons, List.length_nil, List.length_map, List.length_set]); omega) | simp) [a0, a4, a8]
  exact h9
/-- A byte goes out. -/
theorem ufire (A : Ua h x w dv fo U) (Q : WhA h w S fp) (hoff : Ap x fo (w :: fp)) (hn : -2 ^ 62 ≤ now ∧ now ≤ 2 ^ 62)
    (hq : ∀ h' fp' fo', Ua h' x w dv fo' U.fire → WhA h' w (U.firew S dv now) fp' → Upd h h' ((x + 1) :: (x + 2) :: fo ++ w :: fp) ((x + 1) :: (x + 2) :: fo' ++ w :: fp') → Ap x fo' (w :: fp') → q (.tuple #[]) h') :
    WC T n_uart_Uart_Fire [ptr (x + 2) 0, .int .i64 now] h q := by
  have A0 := A
  obtain ⟨vo, g1, ho⟩ := A.u
  have g2 := A.i
  have g3 := A.o
  have n3 := lenC_of g3
  have l1 := lt_of_get g1
  rw [w_uart_Uart_Fire]
  cases hU : U.o with
  | nil =>
    rw [hU] at g3 n3
    have ht := fun q => utake (q := q) g3
    simp only [List.headD_nil, List.isEmpty_nil, Bool.not_true] at ht
    simp (maxSteps := 1000000) (disch := first | assumption | ((try simp only [push_next, put_next, adv_next, List.length_cons, List.length_nil, List.length_map, List.length_set]); omega) | simp) [g1, GC_of ht, n3]
    refine hq h fp fo (by simpa [UaS.fire, hU] using A0) (by simpa [UaS.firew, hU] using Q) (Kp.upd (Kp.refl h) _) hoff
  | cons y t =>
    rw [hU] at g3 n3
    have ht := fun q => utake (q := q) g3
    simp only [List.headD_cons, List.isEmpty_cons, Bool.not_false] at ht
    obtain ⟨a0, c0, hvo, hs0, _, _⟩ := ho.len
    have hno := A0.nout
    subst hvo
    by_cases hl : U.out.length < 65536
    · have hli : (U.out.length : Int) < 65536 := by omega
      have ho1 : Own encB (h.put (x + 1) (some (.chan 16 (t.map u8)))) (.slice a0 U.out.length c0) U.out fo := ho.keep fun b hb => get_put_ne (by have := A0.off b hb; omega)
      obtain ⟨v', h2, fo2, e2, o2, U2⟩ := ho1.app1 y (bytes := 1) (by omega) (by omega)
      obtain ⟨a2, c2, hv2, _, _, _⟩ := o2.len
      rw [List.length_append, List.length_singleton] at hv2
      subst hv2
      have e2' : appendV ((h.put (x + 1) (some (.chan 16 (t.map u8)))).push (.cells false [u8 y])) 1 1 (.slice a0 U.out.length c0) (.slice (some ⟨h.next, 0, none⟩) 1 1) = some (.slice a2 (U.out.length + 1) c2, h2) := e2
      have hx : x ∉ fo := fun hm => by have := A0.off x hm; omega
      have hx1 : x + 1 ∉ fo := fun hm => by have := A0.off _ hm; omega
      have hx2 : x + 2 ∉ fo := fun hm => by have := A0.off _ hm; omega
      have k1 : h2.get (x + 2) = _ := (U2.get (x + 2) (by simpa using l1) hx2).trans ((get_put_ne (by omega)).trans g1)
      have k2 : h2.get x = some (.chan 16 (U.i.map u8)) := by rw [U2.get x (by simp; omega) hx, get_put_ne (by omega), g2]
      have k3 : h2.get (x + 1) = some (.chan 16 (t.map u8)) := by rw [U2.get (x + 1) (by simp; omega) hx1, get_put_self (by omega)]
      have l2 := lt_of_get k1
      have hle := U2.le
      simp only [put_next] at hle
      have hfo2 : ∀ b ∈ fo2, (b < x ∨ x + 2 < b) ∧ b ∉ w :: fp := fun b hb => by
        rcases U2.sub b hb with h5 | h5
        · exact ⟨A0.off b h5, fun hm => (hoff b hm).2 h5⟩
        · simp only [put_next] at h5
          exact ⟨by omega, fun hm => by have := Q.live b hm; omega⟩
      have A3 : Ua (h2.put (x + 2) (some (.cells false [.int .i64 dv, ptr w 0, .chan (some x), .chan (some (x + 1)), .bool U.lost, u32 U.ctl, .slice a2 (U.out.length + 1) c2]))) x w dv fo2 U.fire :=
        ⟨⟨.slice a2 (U.out.length + 1) c2, by rw [get_put_self l2]; simp [UaS.fire, hU], by
          have : U.fire.out = U.out ++ [y] := by simp [UaS.fire, hU, hl]
          rw [this]
          exact o2.keep fun b hb => get_put_ne (by have := (hfo2 b hb).1; omega)⟩, by rw [get_put_ne (by omega), k2]; simp [UaS.fire, hU], by rw [get_put_ne (by omega), k3]; simp [UaS.fire, hU], fun b hb => (hfo2 b hb).1, by simpa [UaS.fire, hU] using A0.ni, by have := A0.no; simp [UaS.fire, hU] at this ⊢; omega, by simp [UaS.fire, hU, hl]; omega⟩
      have Q3 : WhA (h2.put (x + 2) (some (.cells false [.int .i64 dv, ptr w 0, .chan (some x), .chan (some (x + 1)), .bool U.lost, u32 U.ctl, .slice a2 (U.out.length + 1) c2]))) w S fp := Q.keep fun b hb => by
        have h5 := hoff b hb
        rw [get_put_ne (by omega), U2.get b (by simpa using Q.live b hb) h5.2, get_put_ne (by omega)]
      have P3 : Ap x fo2 (w :: fp) := fun b hb => ⟨(hoff b hb).1, fun hm => (hfo2 b hm).2 hb⟩
      have U3 : Upd h (h2.put (x + 2) (some (.cells false [.int .i64 dv, ptr w 0, .chan (some x), .chan (some (x + 1)), .bool U.lost, u32 U.ctl, .slice a2 (U.out.length + 1) c2]))) ((x + 1) :: (x + 2) :: fo ++ w :: fp) ((x + 1) :: (x + 2) :: fo2 ++ w :: fp) := ⟨by simpa using hle, fun b hb hn => by
        simp only [List.cons_append, List.mem_cons, List.mem_append, not_or] at hn
        rw [get_put_ne hn.2.1, U2.get b (by simpa using hb) hn.2.2.1, get_put_ne hn.1], fun b hb => by
        simp only [List.cons_append, List.mem_cons, List.mem_append] at hb ⊢
        rcases hb with hb | hb | hb | hb
        · exact .inl (.inl hb)
        · exact .inl (.inr (.inl hb))
        · rcases U2.sub b hb with h5 | h5
          · exact .inl (.inr (.inr (.inl h5)))
          · exact .inr h5
        · exact .inl (.inr (.inr (.inr hb)))⟩
      have n4 : lenC (h2.put (x + 2) (some (.cells false [.int .i64 dv, ptr w 0, .chan (some x), .chan (some (x + 1)), .bool U.lost, u32 U.ctl, .slice a2 (U.out.length + 1) c2]))) (.chan (some (x + 1))) = some (.int .i64 t.length) := lenC_of (by rw [get_put_ne (by omega), k3])
      simp (maxSteps := 1000000) (disch := first | assumption | ((try simp only [push_next, put_next, adv_next, List.length_cons, List.length_nil, List.length_map, List.length_set]); omega) | simp) [g1, GC_of ht, n3, hli, e2', k1]
      generalize h2.put (x + 2) (some (.cells false [.int .i64 dv, ptr w 0, .chan (some x), .chan (some (x + 1)), .bool U.lost, u32 U.ctl, .slice a2 (U.out.length + 1) c2])) = h3 at *
      obtain ⟨v3, g5, _⟩ := A3.u
      cases t with
      | nil =>
        simp (maxSteps := 1000000) (disch := first | assumption | ((try simp only [push_next, put_next, adv_next, List.length_cons, List.length_nil, List.length_map, List.length_set]); omega) | simp) [g5, n4]
        exact hq h3 fp fo2 A3 (by simpa [UaS.firew, hU] using Q3) U3 P3
      | cons z t =>
        have hz : (0 : Int) < ((z :: t).length : Nat) := by simp
        simp (maxSteps := 1000000) (disch := first | assumption | ((try simp only [push_next, put_next, adv_next, List.length_cons, List.length_nil, List.length_map, List.length_set]); omega) | simp) [g5, n4]
        refine uarm A3 Q3 P3 hn fun h4 fp4 A4 Q4 U4 P4 => ?_
        simp (maxSteps := 1000000) (disch := first | assumption | ((try simp only [push_next, put_next, adv_next, List.length_cons, List.length_nil, List.length_map, List.length_set]); omega) | simp)
        refine hq h4 fp4 fo2 A4 (by simpa [UaS.firew, hU] using Q4) (U3.trans ⟨U4.le, fun b hb hn => U4.get b hb fun hm => hn (List.mem_append_right _ hm), fun b hb => ?_⟩) P4
        rcases List.mem_append.1 hb with h5 | h5
        · exact .inl (List.mem_append_left _ h5)
        · rcases U4.sub b h5 with h6 | h6
          · exact .inl (List.mem_append_right _ h6)
          · exact .inr h6
    · have hli : ¬ (U.out.length : Int) < 65536 := by omega
      have A3 : Ua (h.put (x + 1) (some (.chan 16 (t.map u8)))) x w dv fo U.fire :=
        ⟨⟨.slice a0 U.out.length c0, by rw [get_put_ne (by omega), g1]; simp [UaS.fire, hU], by
          have : U.fire.out = U.out := by simp [UaS.fire, hU, hl]
          rw [this]
          exact ho.keep fun b hb => get_put_ne (by have := A0.off b hb; omega)⟩, by rw [get_put_ne (by omega), g2]; simp [UaS.fire, hU], by rw [get_put_self (by omega)]; simp [UaS.fire, hU], A0.off, by simpa [UaS.fire, hU] using A0.ni, by have := A0.no; simp [UaS.fire, hU] at this ⊢; omega, by simp [UaS.fire, hU, hl]; omega⟩
      have Q3 : WhA (h.put (x + 1) (some (.chan 16 (t.map u8)))) w S fp := Q.keep fun b hb => get_put_ne (by have := hoff b hb; omega)
      have n4 : lenC (h.put (x + 1) (some (.chan 16 (t.map u8)))) (.chan (some (x + 1))) = some (.int .i64 t.length) := lenC_of (get_put_self (by omega))
      have U3 : Upd h (h.put (x + 1) (some (.chan 16 (t.map u8)))) ((x + 1) :: (x + 2) :: fo ++ w :: fp) ((x + 1) :: (x + 2) :: fo ++ w :: fp) := ⟨by simp, fun b hb hn => get_put_ne (by simp only [List.cons_append, List.mem_cons, not_or] at hn; exact hn.1), fun b hb => .inl hb⟩
      simp (maxSteps := 1000000) (disch := first | assumption | ((try simp only [push_next, put_next, adv_next, List.length_cons, List.length_nil, List.length_map, List.length_set]); omega) | simp) [g1, GC_of ht, n3, hli]
      generalize h.put (x + 1) (some (.chan 16 (t.map u8))) = h3 at *
      cases t with
      | nil =>
        simp (maxSteps := 1000000) (disch := first | assumption | ((try simp only [push_next, put_next, adv_next, List.length_cons, List.length_nil, List.length_map, List.length_set]); omega) | simp) [n4]
        exact hq h3 fp fo A3 (by simpa [UaS.firew, hU] using Q3) U3 hoff
      | cons z t =>
        have hz : (0 : Int) < ((z :: t).length : Nat) := by simp
        simp (maxSteps := 1000000) (disch := first | assumption | ((try simp only [push_next, put_next, adv_next, List.length_cons, List.length_nil, List.length_map, List.length_set]); omega) | simp) [n4]
        refine uarm A3 Q3 hoff hn fun h4 fp4 A4 Q4 U4 P4 => ?_
        simp (maxSteps := 1000000) (disch := first | assumption | ((try simp only [push_next, put_next, adv_next, List.length_cons, List.length_nil, List.length_map, List.length_set]); omega) | simp)
        refine hq h4 fp4 fo A4 (by simpa [UaS.firew, hU] using Q4) (U3.trans ⟨U4.le, fun b hb hn => U4.get b hb fun hm => hn (List.mem_append_right _ hm), fun b hb => ?_⟩) P4
        rcases List.mem_append.1 hb with h5 | h5
        · exact .inl (List.mem_append_left _ h5)
        · rcases U4.sub b h5 with h6 | h6
          · exact .inl (List.mem_append_right _ h6)
          · exact .inr h6
end
end Go.Proofs.YtpdfdemoflofhaaGreat.Cd

/- The bus: a world of memory and devices, and what keeps it. -/
set_option maxRecDepth 1000000
set_option maxHeartbeats 8000000
set_option linter.unusedSimpArgs false
set_option linter.unusedVariables false
namespace Go.Proofs.YtpdfdemoflofhaaGreat.Cd
open Go Go.Dx
/-- Where each part lies. -/
structure BL where
  x : Nat
  w : Nat
  l : Nat
  t1 : Nat
  t2 : Nat
  u : Nat
  d : Nat
  z : Nat
  y : Nat
  b : Nat
/-- What each part is. -/
structure BS where
  B : By
  M : List Bool
  W : List Bool
  S : WhS
  r : BitVec 32
  m : BitVec 32
  T1 : TmS
  T2 : TmS
  U : UaS
  D : DmS
  K : DkS
  E : By
def BL.ok (L : BL) : Prop := L.x + 3 < L.w ∧ L.w < L.l ∧ L.l < L.t1 ∧ L.t1 < L.t2 ∧ L.t2 < L.u ∧ L.u + 2 < L.d ∧ L.d < L.z ∧ L.z < L.y ∧ L.y < L.b
def BL.fx (L : BL) : List Nat := [L.x, L.x + 1, L.x + 2, L.x + 3, L.w, L.l, L.t1, L.t2, L.u, L.u + 1, L.u + 2, L.d, L.z, L.y, L.b]
def BL.fp (L : BL) (fp fo : List Nat) : List Nat := L.fx ++ (fp ++ fo)
/-- The bus as it lies. -/
structure BW (h : Hp) (L : BL) (fp fo : List Nat) (X : BS) : Prop where
  bs : h.get L.b = some (.cells false [ptr (L.x + 3) 0, ptr L.w 0, ptr L.l 0, ptr L.t1 0, ptr L.t2 0, ptr (L.u + 2) 0, ptr L.d 0, ptr L.y 0])
  ra : Ra h L.x X.B X.M X.W
  wh : WhA h L.w X.S fp
  ln : Ln h L.l X.r X.m
  t1 : TmC h L.t1 L.w 1 X.T1
  t2 : TmC h L.t2 L.w 2 X.T2
  ua : Ua h L.u L.w 3 fo X.U
  dm : Dm h L.d L.w L.x 4 X.D
  dk : Dk h L.y L.z L.w L.x 5 X.E X.K
  lay : L.ok
  gf : ∀ b ∈ fp, L.b < b
  go : ∀ b ∈ fo, L.b < b ∧ b ∉ fp
section
variable {h h' : Hp} {q : Value → Hp → Prop} {L : BL} {fp fo fp' fo' : List Nat} {X : BS} {S' : WhS} {now : Int} {a v : BitVec 32}
theorem BW.lt (A : BW h L fp fo X) : L.b < h.next := lt_of_get A.bs
theorem BW.nf (A : BW h L fp fo X) {c : Nat} (hc : c ≤ L.b) : c ∉ fp := fun hm => by have := A.gf c hm; omega
theorem BW.no (A : BW h L fp fo X) {c : Nat} (hc : c ≤ L.b) : c ∉ fo := fun hm => by have := A.go c hm; omega
theorem BL.mem (L : BL) {c : Nat} (ho : L.ok) (hc : c ∈ L.fx) : L.x ≤ c ∧ c ≤ L.b := by
  unfold BL.ok at ho
  simp only [BL.fx, List.mem_cons, List.not_mem_nil, or_false] at hc
  omega
theorem BW.keep (A : BW h L fp fo X) (hk : ∀ b ∈ L.fp fp fo, h'.get b = h.get b) : BW h' L fp fo X := by
  have ho := A.lay
  have kx : ∀ c ∈ L.fx, h'.get c = h.get c := fun c hc => hk c (List.mem_append_left _ hc)
  refine ⟨by rw [kx _ (by simp [BL.fx]), A.bs], A.ra.keep fun b h1 h2 => kx _ ?_, A.wh.keep fun b hb => ?_, ?_, ?_, ?_, A.ua.keep fun b _ hb => ?_, ?_, A.dk.keep (kx _ (by simp [BL.fx])) (kx _ (by simp [BL.fx])), ho, A.gf, A.go⟩
  · have : b = L.x ∨ b = L.x + 1 ∨ b = L.x + 2 ∨ b = L.x + 3 := by omega
    rcases this with rfl | rfl | rfl | rfl <;> simp [BL.fx]
  · rcases List.mem_cons.1 hb with rfl | hb
    · exact kx _ (by simp [BL.fx])
    · exact hk _ (List.mem_append_right _ (List.mem_append_left _ hb))
  · have := A.ln; unfold Ln at this ⊢; rw [kx _ (by simp [BL.fx]), this]
  · have := A.t1; unfold TmC at this ⊢; rw [kx _ (by simp [BL.fx]), this]
  · have := A.t2; unfold TmC at this ⊢; rw [kx _ (by simp [BL.fx]), this]
  · rcases hb with hb | hb
    · have : b = L.u ∨ b = L.u + 1 ∨ b = L.u + 2 := by omega
      rcases this with rfl | rfl | rfl <;> exact kx _ (by simp [BL.fx])
    · exact hk _ (List.mem_append_right _ (List.mem_append_right _ hb))
  · have := A.dm; unfold Dm at this ⊢; rw [kx _ (by simp [BL.fx]), this]
theorem BW.live (A : BW h L fp fo X) : ∀ b ∈ L.fp fp fo, b < h.next := fun b hb => by
  rcases List.mem_append.1 hb with hb | hb
  · have := (L.mem A.lay hb).2
    have := A.lt
    omega
  · rcases List.mem_append.1 hb with hb | hb
    · exact A.wh.live b (List.mem_cons_of_mem _ hb)
    · obtain ⟨v, _, ho⟩ := A.ua.u
      exact ho.live b hb
theorem BW.kp (A : BW h L fp fo X) (K : Kp h h') : BW h' L fp fo X := A.keep fun b hb => K.get b (A.live b hb)
theorem BW.upd {p p' : List Nat} (A : BW h L fp fo X) (U : Upd h h' p p') (hn : ∀ b ∈ L.fp fp fo, b ∉ p) : BW h' L fp fo X := A.keep fun b hb => U.get b (A.live b hb) (hn b hb)
/-- One part at a fixed place, and the wheel, changed. -/
theorem BW.dev (A : BW h L fp fo X) {c0 : Nat} (h0 : c0 ∈ L.fx) (Q1 : WhA h' L.w S' fp') (U : Upd h h' (c0 :: L.w :: fp) (c0 :: L.w :: fp')) (N : c0 ∉ fp') :
    (∀ c, c ≤ L.b → c ≠ c0 → c ≠ L.w → h'.get c = h.get c) ∧ (∀ b ∈ fo, h'.get b = h.get b) ∧ (∀ b ∈ fp', L.b < b) ∧ (∀ b ∈ fo, L.b < b ∧ b ∉ fp') ∧ Upd h h' (L.fp fp fo) (L.fp fp' fo) := by
  have hlt := A.lt
  have hx := (L.mem A.lay h0).2
  have hw : L.w ∈ L.fx := by simp [BL.fx]
  have hwb := (L.mem A.lay hw).2
  have sub : ∀ b ∈ fp', b ∈ fp ∨ h.next ≤ b := fun b hb => by
    rcases U.sub b (by simp [hb]) with h5 | h5
    · rcases List.mem_cons.1 h5 with rfl | h5
      · exact absurd hb N
      · rcases List.mem_cons.1 h5 with rfl | h5
        · exact absurd hb Q1.wh.nw
        · exact .inl h5
    · exact .inr h5
  have lo : ∀ b ∈ fo, b < h.next := fun b hb => A.live b (List.mem_append_right _ (List.mem_append_right _ hb))
  refine ⟨fun c hc n0 n1 => U.get c (by omega) ?_, fun b hb => U.get b (lo b hb) ?_, fun b hb => ?_, fun b hb => ⟨(A.go b hb).1, fun hm => ?_⟩, U.le, fun b hb hn => U.get b hb fun hm => hn ?_, fun b hb => ?_⟩
  · simp only [List.mem_cons, n0, n1, false_or]
    exact A.nf hc
  · have := A.go b hb
    simp only [List.mem_cons, not_or]
    exact ⟨by omega, by omega, this.2⟩
  · rcases sub b hb with h5 | h5
    · exact A.gf b h5
    · omega
  · rcases sub b hm with h5 | h5
    · exact (A.go b hb).2 h5
    · have := lo b hb; omega
  · rcases List.mem_cons.1 hm with rfl | hm
    · exact List.mem_append_left _ h0
    · rcases List.mem_cons.1 hm with rfl | hm
      · exact List.mem_append_left _ hw
      · exact List.mem_append_right _ (List.mem_append_left _ hm)
  · rcases List.mem_append.1 hb with hb | hb
    · exact .inl (List.mem_append_left _ hb)
    · rcases List.mem_append.1 hb with hb | hb
      · rcases sub b hb with h5 | h5
        · exact .inl (List.mem_append_right _ (List.mem_append_left _ h5))
        · exact .inr h5
      · exact .inl (List.mem_append_right _ (List.mem_append_right _ hb))
/-- Fixed places changed. -/
theorem BW.fix (A : BW h L fp fo X) {l : List Nat} (hl : ∀ b ∈ l, b ∈ L.fx) (U : Upd h h' l l) :
    (∀ c, c ≤ L.b → c ∉ l → h'.get c = h.get c) ∧ (∀ b ∈ fp ++ fo, h'.get b = h.get b) ∧ Upd h h' (L.fp fp fo) (L.fp fp fo) := by
  have hlt := A.lt
  refine ⟨fun c hc n0 => U.get c (by omega) n0, fun b hb => U.get b (A.live b (List.mem_append_right _ hb)) fun hm => ?_, U.wid fun b hb => List.mem_append_left _ (hl b hb)⟩
  have := (L.mem A.lay (hl b hm)).2
  rcases List.mem_append.1 hb with hb | hb
  · have := A.gf b hb; omega
  · have := (A.go b hb).1; omega
theorem BW.off (A : BW h L fp fo X) {c : Nat} (hc : c ∈ L.fx) (hw : c ≠ L.w) : c ∉ L.w :: fp := by
  simp only [List.mem_cons, hw, false_or]
  exact A.nf (L.mem A.lay hc).2
/-- The wheel alone. -/
theorem BW.wheel (A : BW h L fp fo X) (Q1 : WhA h' L.w S' fp') (U : Upd h h' (L.w :: fp) (L.w :: fp')) : BW h' L fp' fo { X with S := S' } ∧ Upd h h' (L.fp fp fo) (L.fp fp' fo) := by
  have ho := A.lay
  unfold BL.ok at ho
  obtain ⟨hk, hf, g1, g2, UU⟩ := A.dev (c0 := L.w) (by simp [BL.fx]) Q1 ⟨U.le, fun b hb hn => U.get b hb fun hm => hn (List.mem_cons_of_mem _ hm), fun b hb => by
    rcases List.mem_cons.1 hb with rfl | hb
    · exact .inl (by simp)
    · rcases U.sub b hb with h5 | h5
      · exact .inl (List.mem_cons_of_mem _ h5)
      · exact .inr h5⟩ Q1.wh.nw
  have hk : ∀ c, c ≤ L.b → c ≠ L.w → h'.get c = h.get c := fun c h1 h2 => hk c h1 h2 h2
  refine ⟨⟨by rw [hk _ (by omega) (by omega), A.bs], A.ra.keep fun b h1 h2 => hk _ (by omega) (by omega), Q1, ?_, ?_, ?_, A.ua.keep fun b _ hb => ?_, ?_, A.dk.keep (hk _ (by omega) (by omega)) (hk _ (by omega) (by omega)), A.lay, g1, g2⟩, UU⟩
  · have := A.ln; unfold Ln at this ⊢; rw [hk _ (by omega) (by omega), this]
  · have := A.t1; unfold TmC at this ⊢; rw [hk _ (by omega) (by omega), this]
  · have := A.t2; unfold TmC at this ⊢; rw [hk _ (by omega) (by omega), this]
  · rcases hb with hb | hb
    · exact hk _ (by omega) (by omega)
    · exact hf b hb
  · have := A.dm; unfold Dm at this ⊢; rw [hk _ (by omega) (by omega), this]
theorem BW.tim1 {P : TmS} (A : BW h L fp fo X) (T1 : TmC h' L.t1 L.w 1 P) (Q1 : WhA h' L.w S' fp') (U : Upd h h' (L.t1 :: L.w :: fp) (L.t1 :: L.w :: fp')) (N : L.t1 ∉ L.w :: fp') : BW h' L fp' fo { X with S := S', T1 := P } ∧ Upd h h' (L.fp fp fo) (L.fp fp' fo) := by
  have ho := A.lay
  unfold BL.ok at ho
  obtain ⟨hk, hf, g1, g2, UU⟩ := A.dev (c0 := L.t1) (by simp [BL.fx]) Q1 U fun hm => N (List.mem_cons_of_mem _ hm)
  refine ⟨⟨by rw [hk _ (by omega) (by omega) (by omega), A.bs], A.ra.keep fun b h1 h2 => hk _ (by omega) (by omega) (by omega), Q1, ?_, T1, ?_, A.ua.keep fun b _ hb => ?_, ?_, A.dk.keep (hk _ (by omega) (by omega) (by omega)) (hk _ (by omega) (by omega) (by omega)), A.lay, g1, g2⟩, UU⟩
  · have := A.ln; unfold Ln at this ⊢; rw [hk _ (by omega) (by omega) (by omega), this]
  · have := A.t2; unfold TmC at this ⊢; rw [hk _ (by omega) (by omega) (by omega), this]
  · rcases hb with hb | hb
    · exact hk _ (by omega) (by omega) (by omega)
    · exact hf b hb
  · have := A.dm; unfold Dm at this ⊢; rw [hk _ (by omega) (by omega) (by omega), this]
theorem BW.tim2 {P : TmS} (A : BW h L fp fo X) (T1 : TmC h' L.t2 L.w 2 P) (Q1 : WhA h' L.w S' fp') (U : Upd h h' (L.t2 :: L.w :: fp) (L.t2 :: L.w :: fp')) (N : L.t2 ∉ L.w :: fp') : BW h' L fp' fo { X with S := S', T2 := P } ∧ Upd h h' (L.fp fp fo) (L.fp fp' fo) := by
  have ho := A.lay
  unfold BL.ok at ho
  obtain ⟨hk, hf, g1, g2, UU⟩ := A.dev (c0 := L.t2) (by simp [BL.fx]) Q1 U fun hm => N (List.mem_cons_of_mem _ hm)
  refine ⟨⟨by rw [hk _ (by omega) (by omega) (by omega), A.bs], A.ra.keep fun b h1 h2 => hk _ (by omega) (by omega) (by omega), Q1, ?_, ?_, T1, A.ua.keep fun b _ hb => ?_, ?_, A.dk.keep (hk _ (by omega) (by omega) (by omega)) (hk _ (by omega) (by omega) (by omega)), A.lay, g1, g2⟩, UU⟩
  · have := A.ln; unfold Ln at this ⊢; rw [hk _ (by omega) (by omega) (by omega), this]
  · have := A.t1; unfold TmC at this ⊢; rw [hk _ (by omega) (by omega) (by omega), this]
  · rcases hb with hb | hb
    · exact hk _ (by omega) (by omega) (by omega)
    · exact hf b hb
  · have := A.dm; unfold Dm at this ⊢; rw [hk _ (by omega) (by omega) (by omega), this]
theorem BW.dma {P : DmS} (A : BW h L fp fo X) (T1 : Dm h' L.d L.w L.x 4 P) (Q1 : WhA h' L.w S' fp') (U : Upd h h' (L.d :: L.w :: fp) (L.d :: L.w :: fp')) (N : L.d ∉ L.w :: fp') : BW h' L fp' fo { X with S := S', D := P } ∧ Upd h h' (L.fp fp fo) (L.fp fp' fo) := by
  have ho := A.lay
  unfold BL.ok at ho
  obtain ⟨hk, hf, g1, g2, UU⟩ := A.dev (c0 := L.d) (by simp [BL.fx]) Q1 U fun hm => N (List.mem_cons_of_mem _ hm)
  refine ⟨⟨by rw [hk _ (by omega) (by omega) (by omega), A.bs], A.ra.keep fun b h1 h2 => hk _ (by omega) (by omega) (by omega), Q1, ?_, ?_, ?_, A.ua.keep fun b _ hb => ?_, T1, A.dk.keep (hk _ (by omega) (by omega) (by omega)) (hk _ (by omega) (by omega) (by omega)), A.lay, g1, g2⟩, UU⟩
  · have := A.ln; unfold Ln at this ⊢; rw [hk _ (by omega) (by omega) (by omega), this]
  · have := A.t1; unfold TmC at this ⊢; rw [hk _ (by omega) (by omega) (by omega), this]
  · have := A.t2; unfold TmC at this ⊢; rw [hk _ (by omega) (by omega) (by omega), this]
  · rcases hb with hb | hb
    · exact hk _ (by omega) (by omega) (by omega)
    · exact hf b hb
theorem BW.disk {P : DkS} (A : BW h L fp fo X) (T1 : Dk h' L.y L.z L.w L.x 5 X.E P) (Q1 : WhA h' L.w S' fp') (U : Upd h h' (L.y :: L.w :: fp) (L.y :: L.w :: fp')) (N : L.y ∉ L.w :: fp') : BW h' L fp' fo { X with S := S', K := P } ∧ Upd h h' (L.fp fp fo) (L.fp fp' fo) := by
  have ho := A.lay
  unfold BL.ok at ho
  obtain ⟨hk, hf, g1, g2, UU⟩ := A.dev (c0 := L.y) (by simp [BL.fx]) Q1 U fun hm => N (List.mem_cons_of_mem _ hm)
  refine ⟨⟨by rw [hk _ (by omega) (by omega) (by omega), A.bs], A.ra.keep fun b h1 h2 => hk _ (by omega) (by omega) (by omega), Q1, ?_, ?_, ?_, A.ua.keep fun b _ hb => ?_, ?_, T1, A.lay, g1, g2⟩, UU⟩
  · have := A.ln; unfold Ln at this ⊢; rw [hk _ (by omega) (by omega) (by omega), this]
  · have := A.t1; unfold TmC at this ⊢; rw [hk _ (by omega) (by omega) (by omega), this]
  · have := A.t2; unfold TmC at this ⊢; rw [hk _ (by omega) (by omega) (by omega), this]
  · rcases hb with hb | hb
    · exact hk _ (by omega) (by omega) (by omega)
    · exact hf b hb
  · have := A.dm; unfold Dm at this ⊢; rw [hk _ (by omega) (by omega) (by omega), this]
end
end Go.Proofs.YtpdfdemoflofhaaGreat.Cd

/- The bus: what each function does. -/
set_option maxRecDepth 1000000
set_option maxHeartbeats 8000000
set_option linter.unusedSimpArgs false
set_option linter.unusedVariables false
namespace Go.Proofs.YtpdfdemoflofhaaGreat.Cd
open Go Go.Dx
section
variable {h h' : Hp} {q : Value → Hp → Prop} {L : BL} {fp fo fp' fo' : List Nat} {X : BS} {S' : WhS} {now : Int} {a v : BitVec 32}
theorem BW.ram {B' : By} {W' : List Bool} (A : BW h L fp fo X) (R : Ra h' L.x B' X.M W') (U : Upd h h' [L.x, L.x + 2] [L.x, L.x + 2]) : BW h' L fp fo { X with B := B', W := W' } ∧ Upd h h' (L.fp fp fo) (L.fp fp fo) := by
  have ho := A.lay
  unfold BL.ok at ho
  obtain ⟨hk0, hf, UU⟩ := A.fix (by simp [BL.fx]) U
  have hk : ∀ c, c ≤ L.b → L.x + 3 < c → h'.get c = h.get c := fun c h1 h2 => hk0 c h1 (by simp; omega)
  refine ⟨⟨by rw [hk _ (by omega) (by omega), A.bs], R, A.wh.keep fun b hb => ?_, ?_, ?_, ?_, A.ua.keep fun b _ hb => ?_, ?_, A.dk.keep (hk _ (by omega) (by omega)) (hk _ (by omega) (by omega)), A.lay, A.gf, A.go⟩, UU⟩
  · rcases List.mem_cons.1 hb with rfl | hb
    · exact hk _ (by omega) (by omega)
    · exact hf b (List.mem_append_left _ hb)
  · have := A.ln; unfold Ln at this ⊢; rw [hk _ (by omega) (by omega), this]
  · have := A.t1; unfold TmC at this ⊢; rw [hk _ (by omega) (by omega), this]
  · have := A.t2; unfold TmC at this ⊢; rw [hk _ (by omega) (by omega), this]
  · rcases hb with hb | hb
    · exact hk _ (by omega) (by omega)
    · exact hf b (List.mem_append_right _ hb)
  · have := A.dm; unfold Dm at this ⊢; rw [hk _ (by omega) (by omega), this]
theorem BW.lin {r m : BitVec 32} (A : BW h L fp fo X) : BW (h.put L.l (some (.cells false [u32 r, u32 m]))) L fp fo { X with r := r, m := m } ∧ Upd h (h.put L.l (some (.cells false [u32 r, u32 m]))) (L.fp fp fo) (L.fp fp fo) := by
  have ho := A.lay
  unfold BL.ok at ho
  have hlt := A.lt
  obtain ⟨hk0, hf, UU⟩ := A.fix (l := [L.l]) (h' := h.put L.l (some (.cells false [u32 r, u32 m]))) (by simp [BL.fx]) ⟨by simp, fun b hb hn => get_put_ne (by simpa using hn), fun b hb => .inl hb⟩
  have hk : ∀ c, c ≤ L.b → c ≠ L.l → (h.put L.l (some (.cells false [u32 r, u32 m]))).get c = h.get c := fun c h1 h2 => hk0 c h1 (by simpa using h2)
  refine ⟨⟨by rw [hk _ (by omega) (by omega), A.bs], A.ra.keep fun b h1 h2 => hk _ (by omega) (by omega), A.wh.keep fun b hb => ?_, ?_, ?_, ?_, A.ua.keep fun b _ hb => ?_, ?_, A.dk.keep (hk _ (by omega) (by omega)) (hk _ (by omega) (by omega)), A.lay, A.gf, A.go⟩, UU⟩
  · rcases List.mem_cons.1 hb with rfl | hb
    · exact hk _ (by omega) (by omega)
    · exact hf b (List.mem_append_left _ hb)
  · unfold Ln; rw [get_put_self (by omega)]
  · have := A.t1; unfold TmC at this ⊢; rw [hk _ (by omega) (by omega), this]
  · have := A.t2; unfold TmC at this ⊢; rw [hk _ (by omega) (by omega), this]
  · rcases hb with hb | hb
    · exact hk _ (by omega) (by omega)
    · exact hf b (List.mem_append_right _ hb)
  · have := A.dm; unfold Dm at this ⊢; rw [hk _ (by omega) (by omega), this]
theorem BW.uar {U' : UaS} {l : List Nat} (A : BW h L fp fo X) (R : Ua h' L.u L.w 3 fo U') (hl : ∀ b ∈ l, b = L.u ∨ b = L.u + 1 ∨ b = L.u + 2) (U : Upd h h' l l) : BW h' L fp fo { X with U := U' } ∧ Upd h h' (L.fp fp fo) (L.fp fp fo) := by
  have ho := A.lay
  unfold BL.ok at ho
  obtain ⟨hk0, hf, UU⟩ := A.fix (l := l) (fun b hb => by rcases hl b hb with rfl | rfl | rfl <;> simp [BL.fx]) U
  have hk : ∀ c, c ≤ L.b → c < L.u ∨ L.u + 2 < c → h'.get c = h.get c := fun c h1 h2 => hk0 c h1 fun hm => by have := hl c hm; omega
  refine ⟨⟨by rw [hk _ (by omega) (by omega), A.bs], A.ra.keep fun b h1 h2 => hk _ (by omega) (by omega), A.wh.keep fun b hb => ?_, ?_, ?_, ?_, R, ?_, A.dk.keep (hk _ (by omega) (by omega)) (hk _ (by omega) (by omega)), A.lay, A.gf, A.go⟩, UU⟩
  · rcases List.mem_cons.1 hb with rfl | hb
    · exact hk _ (by omega) (by omega)
    · exact hf b (List.mem_append_left _ hb)
  · have := A.ln; unfold Ln at this ⊢; rw [hk _ (by omega) (by omega), this]
  · have := A.t1; unfold TmC at this ⊢; rw [hk _ (by omega) (by omega), this]
  · have := A.t2; unfold TmC at this ⊢; rw [hk _ (by omega) (by omega), this]
  · have := A.dm; unfold Dm at this ⊢; rw [hk _ (by omega) (by omega), this]
/-- The line: it and the wheel, and what it put out. -/
theorem BW.uaw {U' : UaS} (A : BW h L fp fo X) (R : Ua h' L.u L.w 3 fo' U') (Q1 : WhA h' L.w S' fp') (U : Upd h h' ((L.u + 1) :: (L.u + 2) :: (fo ++ L.w :: fp)) ((L.u + 1) :: (L.u + 2) :: (fo' ++ L.w :: fp'))) (P : Ap L.u fo' (L.w :: fp')) :
    BW h' L fp' fo' { X with S := S', U := U' } ∧ Upd h h' (L.fp fp fo) (L.fp fp' fo') := by
  have ho := A.lay
  unfold BL.ok at ho
  have hlt := A.lt
  have hk : ∀ c, c ≤ L.b → c < L.u ∨ L.u + 2 < c → c ≠ L.w → h'.get c = h.get c := fun c h1 h2 h3 => U.get c (by omega) (by
    have n1 := A.nf h1
    have n2 := A.no h1
    simp only [List.mem_cons, List.mem_append, n1, n2, h3, false_or, or_false]
    omega)
  have sub : ∀ b, b ∈ fo' ∨ b ∈ fp' → (b ∈ fo ∨ b ∈ fp) ∨ h.next ≤ b := fun b hb => by
    have h6 : b ≠ L.u + 1 ∧ b ≠ L.u + 2 ∧ b ≠ L.w := by
      have hP := P L.w (by simp)
      rcases hb with hb | hb
      · have := R.off b hb
        exact ⟨by omega, by omega, fun e => hP.2 (e ▸ hb)⟩
      · have := (P b (List.mem_cons_of_mem _ hb)).1
        exact ⟨by omega, by omega, fun e => Q1.wh.nw (e ▸ hb)⟩
    rcases U.sub b (by simp only [List.mem_cons, List.mem_append]; rcases hb with hb | hb <;> simp [hb]) with h5 | h5
    · simp only [List.mem_cons, List.mem_append, h6.1, h6.2.1, h6.2.2, false_or] at h5
      exact .inl h5
    · exact .inr h5
  have gt : ∀ b, b ∈ fo' ∨ b ∈ fp' → L.b < b := fun b hb => by
    rcases sub b hb with (h5 | h5) | h5
    · exact (A.go b h5).1
    · exact A.gf b h5
    · omega
  refine ⟨⟨by rw [hk _ (by omega) (by omega) (by omega), A.bs], A.ra.keep fun b h1 h2 => hk _ (by omega) (by omega) (by omega), Q1, ?_, ?_, ?_, R, ?_, A.dk.keep (hk _ (by omega) (by omega) (by omega)) (hk _ (by omega) (by omega) (by omega)), A.lay, fun b hb => gt b (.inr hb), fun b hb => ⟨gt b (.inl hb), fun hm => (P b (List.mem_cons_of_mem _ hm)).2 hb⟩⟩, U.le, fun b hb hn => U.get b hb fun hm => hn ?_, fun b hb => ?_⟩
  · have := A.ln; unfold Ln at this ⊢; rw [hk _ (by omega) (by omega) (by omega), this]
  · have := A.t1; unfold TmC at this ⊢; rw [hk _ (by omega) (by omega) (by omega), this]
  · have := A.t2; unfold TmC at this ⊢; rw [hk _ (by omega) (by omega) (by omega), this]
  · have := A.dm; unfold Dm at this ⊢; rw [hk _ (by omega) (by omega) (by omega), this]
  · simp only [List.mem_cons, List.mem_append] at hm
    simp only [BL.fp, BL.fx, List.mem_cons, List.mem_append]
    rcases hm with rfl | rfl | hm | rfl | hm
    · simp
    · simp
    · simp [hm]
    · simp
    · simp [hm]
  · rcases List.mem_append.1 hb with hb | hb
    · exact .inl (List.mem_append_left _ hb)
    · rcases sub b (by rcases List.mem_append.1 hb with hb | hb <;> simp [hb]) with (h5 | h5) | h5
      · exact .inl (List.mem_append_right _ (List.mem_append_right _ h5))
      · exact .inl (List.mem_append_right _ (List.mem_append_left _ h5))
      · exact .inr h5
theorem BW.dmaf {B' : By} {W' : List Bool} {P : DmS} (A : BW h L fp fo X) (T1 : Dm h' L.d L.w L.x 4 P) (R : Ra h' L.x B' X.M W') (U : Upd h h' [L.d, L.x, L.x + 2] [L.d, L.x, L.x + 2]) : BW h' L fp fo { X with B := B', W := W', D := P } ∧ Upd h h' (L.fp fp fo) (L.fp fp fo) := by
  have ho := A.lay
  unfold BL.ok at ho
  obtain ⟨hk0, hf, UU⟩ := A.fix (by simp [BL.fx]) U
  have hk : ∀ c, c ≤ L.b → L.x + 3 < c → c ≠ L.d → h'.get c = h.get c := fun c h1 h2 h3 => hk0 c h1 (by simp; omega)
  refine ⟨⟨by rw [hk _ (by omega) (by omega) (by omega), A.bs], R, A.wh.keep fun b hb => ?_, ?_, ?_, ?_, A.ua.keep fun b _ hb => ?_, T1, A.dk.keep (hk _ (by omega) (by omega) (by omega)) (hk _ (by omega) (by omega) (by omega)), A.lay, A.gf, A.go⟩, UU⟩
  · rcases List.mem_cons.1 hb with rfl | hb
    · exact hk _ (by omega) (by omega) (by omega)
    · exact hf b (List.mem_append_left _ hb)
  · have := A.ln; unfold Ln at this ⊢; rw [hk _ (by omega) (by omega) (by omega), this]
  · have := A.t1; unfold TmC at this ⊢; rw [hk _ (by omega) (by omega) (by omega), this]
  · have := A.t2; unfold TmC at this ⊢; rw [hk _ (by omega) (by omega) (by omega), this]
  · rcases hb with hb | hb
    · exact hk _ (by omega) (by omega) (by omega)
    · exact hf b (List.mem_append_right _ hb)
theorem BW.diskf {B' E' : By} {W' : List Bool} {P : DkS} (A : BW h L fp fo X) (T1 : Dk h' L.y L.z L.w L.x 5 E' P) (R : Ra h' L.x B' X.M W') (U : Upd h h' [L.y, L.z, L.x, L.x + 2] [L.y, L.z, L.x, L.x + 2]) : BW h' L fp fo { X with B := B', W := W', K := P, E := E' } ∧ Upd h h' (L.fp fp fo) (L.fp fp fo) := by
  have ho := A.lay
  unfold BL.ok at ho
  obtain ⟨hk0, hf, UU⟩ := A.fix (by simp [BL.fx]) U
  have hk : ∀ c, c ≤ L.b → L.x + 3 < c → c ≠ L.y → c ≠ L.z → h'.get c = h.get c := fun c h1 h2 h3 h4 => hk0 c h1 (by simp; omega)
  refine ⟨⟨by rw [hk _ (by omega) (by omega) (by omega) (by omega), A.bs], R, A.wh.keep fun b hb => ?_, ?_, ?_, ?_, A.ua.keep fun b _ hb => ?_, ?_, T1, A.lay, A.gf, A.go⟩, UU⟩
  · rcases List.mem_cons.1 hb with rfl | hb
    · exact hk _ (by omega) (by omega) (by omega) (by omega)
    · exact hf b (List.mem_append_left _ hb)
  · have := A.ln; unfold Ln at this ⊢; rw [hk _ (by omega) (by omega) (by omega) (by omega), this]
  · have := A.t1; unfold TmC at this ⊢; rw [hk _ (by omega) (by omega) (by omega) (by omega), this]
  · have := A.t2; unfold TmC at this ⊢; rw [hk _ (by omega) (by omega) (by omega) (by omega), this]
  · rcases hb with hb | hb
    · exact hk _ (by omega) (by omega) (by omega) (by omega)
    · exact hf b (List.mem_append_right _ hb)
  · have := A.dm; unfold Dm at this ⊢; rw [hk _ (by omega) (by omega) (by omega) (by omega), this]
/-- Does a device ask? -/
def BS.line (X : BS) (d : Int) : Bool := if d = 1 then X.T1.s != 0#32 else if d = 2 then X.T2.s != 0#32 else if d = 3 then X.U.line else if d = 4 then X.D.s &&& 6#32 != 0#32 else X.K.s &&& 6#32 != 0#32
theorem bline {d : Int} (A : BW h L fp fo X) : WC T n_bus_Bus_line [ptr L.b 0, .int .i64 d] h q ↔ q (.bool (X.line d)) h := by
  have g := A.bs
  rw [w_bus_Bus_line]
  by_cases d1 : d = 1
  · subst d1; simp (maxSteps := 1000000) (disch := first | assumption | ((try simp only [push_next, put_next, adv_next, List.length_cons, List.length_nil, List.length_map, List.length_set]); omega) | simp) [g, GC_of (fun q => mline A.t1), BS.line]
  by_cases d2 : d = 2
  · subst d2; simp (maxSteps := 1000000) (disch := first | assumption | ((try simp only [push_next, put_next, adv_next, List.length_cons, List.length_nil, List.length_map, List.length_set]); omega) | simp) [g, GC_of (fun q => mline A.t2), BS.line]
  by_cases d3 : d = 3
  · subst d3; simp (maxSteps := 1000000) (disch := first | assumption | ((try simp only [push_next, put_next, adv_next, List.length_cons, List.length_nil, List.length_map, List.length_set]); omega) | simp) [g, GC_of (fun q => uline A.ua), BS.line]
  by_cases d4 : d = 4
  · subst d4; simp (maxSteps := 1000000) (disch := first | assumption | ((try simp only [push_next, put_next, adv_next, List.length_cons, List.length_nil, List.length_map, List.length_set]); omega) | simp) [g, GC_of (fun q => dline A.dm), BS.line]
  simp (maxSteps := 1000000) (disch := first | assumption | ((try simp only [push_next, put_next, adv_next, List.length_cons, List.length_nil, List.length_map, List.length_set]); omega) | simp) [g, d1, d2, d3, d4, GC_of (fun q => kline A.dk), BS.line]
def BS.up (X : BS) : BitVec 32 := lset 5 (X.line 5) (lset 4 (X.line 4) (lset 3 (X.line 3) (lset 2 (X.line 2) (lset 1 (X.line 1) X.r))))
/-- All lines are the devices'. -/
def BS.gath (X : BS) : BS := { X with r := X.up }
theorem bgather (A : BW h L fp fo X) (hq : ∀ h', BW h' L fp fo X.gath → Upd h h' (L.fp fp fo) (L.fp fp fo) → q (.tuple #[]) h') : WC T n_bus_Bus_gather [ptr L.b 0] h q := by
  rw [w_bus_Bus_gather]
  simp (maxSteps := 1000000) (disch := first | assumption | ((try simp only [push_next, put_next, adv_next, List.length_cons, List.length_nil, List.length_map, List.length_set]); omega) | simp)
  have step : ∀ (d : Int) (r : BitVec 32) (h1 : Hp), 1 ≤ d → d ≤ 5 → BW h1 L fp fo { X with r := r } → ∃ h2, BW h2 L fp fo { X with r := lset d (X.line d) r } ∧ Upd h1 h2 (L.fp fp fo) (L.fp fp fo) ∧ ∀ (up : Bool) q', up = X.line d → (WC T n_lines_Lines_Set [ptr L.l 0, .int .i64 d, .bool up] h1 q' ↔ q' (.tuple #[]) h2) := fun d r h1 d1 d5 A1 => by
    obtain ⟨k1, k2⟩ := A1.lin (r := lset d (X.line d) r) (m := X.m)
    refine ⟨_, k1, k2, fun up q' hu => ?_⟩
    subst hu
    rw [lsets A1.ln, if_neg (by omega)]
  refine G_loop (fun n e h1 => ∃ d : Int, n = (6 - d).toNat ∧ 1 ≤ d ∧ d ≤ 6 ∧ e 0 = ptr L.b 0 ∧ e 2 = .int .i64 d ∧ Upd h h1 (L.fp fp fo) (L.fp fp fo) ∧ ∃ r, BW h1 L fp fo { X with r := r } ∧ (if d = 1 then r = X.r else if d = 2 then r = lset 1 (X.line 1) X.r else if d = 3 then r = lset 2 (X.line 2) (lset 1 (X.line 1) X.r) else if d = 4 then r = lset 3 (X.line 3) (lset 2 (X.line 2) (lset 1 (X.line 1) X.r)) else if d = 5 then r = lset 4 (X.line 4) (lset 3 (X.line 3) (lset 2 (X.line 2) (lset 1 (X.line 1) X.r))) else r = X.up)) ?_ 5 _ _ ⟨1, rfl, by omega, by omega, by simp, by simp, .refl, X.r, A, by simp⟩
  rintro n ih e h1 ⟨d, rfl, d1, d6, e0, e2, U1, r, A1, hr⟩
  by_cases h6 : d = 6
  · subst h6
    simp at hr
    subst hr
    simp (maxSteps := 1000000) (disch := first | assumption | ((try simp only [push_next, put_next, adv_next, List.length_cons, List.length_nil, List.length_map, List.length_set]); omega) | simp) [e2]
    exact hq _ A1 U1
  · obtain ⟨h2, A2, U2, hs⟩ := step d r h1 d1 (by omega) A1
    have g := A1.bs
    have hle : d ≤ 5 := by omega
    have hb := fun q => bline (q := q) (d := d) A1
    have hl : BS.line { X with r := r } d = X.line d := rfl
    simp only [hl] at hb
    have hs' := fun q' => hs _ q' rfl
    simp (maxSteps := 1000000) (disch := first | assumption | ((try simp only [push_next, put_next, adv_next, List.length_cons, List.length_nil, List.length_map, List.length_set]); omega) | simp) [e0, e2, hle, g, GC_of hb, GCI_of hb, GC_of hs', GCI_of hs']
    refine ih (6 - (d + 1)).toNat (by omega) _ _ ⟨d + 1, rfl, by omega, by omega, by simp [e0], by simp, U1.trans U2, _, A2, ?_⟩
    have : d = 1 ∨ d = 2 ∨ d = 3 ∨ d = 4 ∨ d = 5 := by omega
    rcases this with rfl | rfl | rfl | rfl | rfl <;> simp at hr ⊢ <;> simp [hr, BS.up]
end
end Go.Proofs.YtpdfdemoflofhaaGreat.Cd

/- The bus: words that are read and written. -/
set_option maxRecDepth 1000000
set_option maxHeartbeats 8000000
set_option linter.unusedSimpArgs false
set_option linter.unusedVariables false
namespace Go.Proofs.YtpdfdemoflofhaaGreat.Cd
open Go Go.Dx
section
variable {h h' : Hp} {q : Value → Hp → Prop} {x : Nat} {B : By} {M W : List Bool}
theorem ev_range {B : By} {a : BitVec 32} {n : Int} (hn : ¬ (-2 ^ 62 ≤ n ∧ n ≤ 2 ^ 62)) : evB B a n = false ∧ n ≠ 1 ∧ n ≠ 2 ∧ n ≠ 4 := by
  have h3 : n ≠ 1 ∧ n ≠ 2 ∧ n ≠ 4 := ⟨by omega, by omega, by omega⟩
  exact ⟨by simp [evB, h3], h3⟩
theorem revenr {a : BitVec 32} {n : Int} (R : Ra h x B M W) : WC T n_ram_Ram_even [ptr (x + 3) 0, u32 a, .int .i64 n] h q ↔ q (.bool (evB B a n)) h := by
  by_cases hn : -2 ^ 62 ≤ n ∧ n ≤ 2 ^ 62
  · exact reven R hn
  · obtain ⟨h1, c1, c2, c4⟩ := ev_range (B := B) (a := a) hn
    rw [w_ram_Ram_even, h1]
    simp (maxSteps := 1000000) (disch := first | assumption | ((try simp only [push_next, put_next, adv_next, List.length_cons, List.length_nil, List.length_map, List.length_set]); omega) | simp) [c1, c2, c4]
theorem rloadr {a : BitVec 32} {n : Int} (R : Ra h x B M W) : WC T n_ram_Ram_Load [ptr (x + 3) 0, u32 a, .int .i64 n] h q ↔ q (.tuple #[u32 (if evB B a n = true then ldB B a.toNat n.toNat else 0#32), .bool (evB B a n)]) h := by
  by_cases hn : -2 ^ 62 ≤ n ∧ n ≤ 2 ^ 62
  · exact rload R hn
  · have he := fun q => revenr (q := q) (a := a) (n := n) R
    obtain ⟨h1, _⟩ := ev_range (B := B) (a := a) hn
    rw [h1] at he ⊢
    rw [w_ram_Ram_Load]
    simp (maxSteps := 1000000) (disch := first | assumption | ((try simp only [push_next, put_next, adv_next, List.length_cons, List.length_nil, List.length_map, List.length_set]); omega) | simp) [GC_of he]
theorem rstorer {a v : BitVec 32} {n : Int} (R : Ra h x B M W) (hno : evB B a n = false → q (.bool false) h)
    (hyes : evB B a n = true → ∀ h', Ra h' x (stB B a.toNat n.toNat v) M (tch M W a.toNat n.toNat) → Upd h h' [x, x + 2] [x, x + 2] → q (.bool true) h') : WC T n_ram_Ram_Store [ptr (x + 3) 0, u32 a, .int .i64 n, u32 v] h q := by
  by_cases hn : -2 ^ 62 ≤ n ∧ n ≤ 2 ^ 62
  · exact rstore R hn hno hyes
  · have he := fun q => revenr (q := q) (a := a) (n := n) R
    obtain ⟨h1, _⟩ := ev_range (B := B) (a := a) hn
    rw [h1] at he
    rw [w_ram_Ram_Store]
    simp (maxSteps := 1000000) (disch := first | assumption | ((try simp only [push_next, put_next, adv_next, List.length_cons, List.length_nil, List.length_map, List.length_set]); omega) | simp) [GC_of he]
    exact hno h1
end
section
variable {h h' : Hp} {q : Value → Hp → Prop} {L : BL} {fp fo fp' fo' : List Nat} {X : BS} {S' : WhS} {now : Int} {a v : BitVec 32}
/-- A device's word: which, and where in it. -/
def bwin (a : BitVec 32) (n : Int) : Bool := decide (n = 4 ∧ ¬ a < 520093696#32 ∧ a % 4#32 = 0#32 ∧ (a - 520093696#32) / 64#32 ≤ 5#32)
def bwd (a : BitVec 32) : Int := ((a - 520093696#32) / 64#32).toNat
def bwo (a : BitVec 32) : BitVec 32 := (a - 520093696#32) % 64#32
theorem bwindow {n : Int} (h1 : bwin a n = true → q (.tuple #[.int .i64 (bwd a), u32 (bwo a), .bool true]) h) (h0 : bwin a n = false → ∀ d k, q (.tuple #[d, k, .bool false]) h) : WC T n_bus_window [u32 a, .int .i64 n] h q := by
  rw [w_bus_window]
  by_cases c1 : n = 4
  · subst c1
    by_cases c2 : a < 520093696#32
    · simp (maxSteps := 1000000) (disch := first | assumption | ((try simp only [push_next, put_next, adv_next, List.length_cons, List.length_nil, List.length_map, List.length_set]); omega) | simp) [c2]
      exact h0 (by simp [bwin, c2]) _ _
    · by_cases c3 : a % 4#32 = 0#32
      · have hw : IntKind.i64.wrap (((a - 520093696#32) / 64#32).toNat : Int) = ((a - 520093696#32) / 64#32).toNat := by
          have := ((a - 520093696#32) / 64#32).isLt
          exact wrap_i64 (by omega) (by omega)
        by_cases c4 : (a - 520093696#32) / 64#32 ≤ 5#32
        · have := h1 (by simp [bwin, c2, c3, c4])
          unfold bwd bwo at this
          simp (maxSteps := 1000000) (disch := first | assumption | ((try simp only [push_next, put_next, adv_next, List.length_cons, List.length_nil, List.length_map, List.length_set]); omega) | simp) [c2, c3, c4, hw]
          exact this
        · simp (maxSteps := 1000000) (disch := first | assumption | ((try simp only [push_next, put_next, adv_next, List.length_cons, List.length_nil, List.length_map, List.length_set]); omega) | simp) [c2, c3, c4, hw]
          exact h0 (by simp [bwin, c4]) _ _
      · simp (maxSteps := 1000000) (disch := first | assumption | ((try simp only [push_next, put_next, adv_next, List.length_cons, List.length_nil, List.length_map, List.length_set]); omega) | simp) [c2, c3]
        exact h0 (by simp [bwin, c3]) _ _
  · simp (maxSteps := 1000000) (disch := first | assumption | ((try simp only [push_next, put_next, adv_next, List.length_cons, List.length_nil, List.length_map, List.length_set]); omega) | simp) [c1]
    exact h0 (by simp [bwin, c1]) _ _
def BS.rd (X : BS) (d : Int) (a : BitVec 32) (now : Int) : BitVec 32 := if d = 0 then lrd X.r X.m a now else if d = 1 then X.T1.rd a else if d = 2 then X.T2.rd a else if d = 3 then X.U.rd a else if d = 4 then X.D.rd a else X.K.rd a
def wok (d : Int) (a : BitVec 32) : Bool := if d = 0 then lat a else if d = 1 ∨ d = 2 then mat a else if d = 3 then uat a else if d = 4 then dat a else kat a
def BS.rds (X : BS) (d : Int) (a : BitVec 32) : BS := if d = 3 then { X with U := X.U.rds a } else X
theorem bread {d : Int} (A : BW h L fp fo X) (hq : ∀ h', BW h' L fp fo (X.rds d a) → Upd h h' (L.fp fp fo) (L.fp fp fo) → q (.tuple #[u32 (X.rd d a now), .bool (wok d a)]) h') : WC T n_bus_Bus_read [ptr L.b 0, .int .i64 d, u32 a, .int .i64 now] h q := by
  have g := A.bs
  rw [w_bus_Bus_read]
  by_cases d0 : d = 0
  · subst d0
    have := hq h (by simpa [BS.rds] using A) .refl
    simp (maxSteps := 1000000) (disch := first | assumption | ((try simp only [push_next, put_next, adv_next, List.length_cons, List.length_nil, List.length_map, List.length_set]); omega) | simp) [g, GC_of (fun q => lread (q := q) (at' := a) (now := now) A.ln)]
    simpa [BS.rd, wok] using this
  by_cases d1 : d = 1
  · subst d1
    have := hq h (by simpa [BS.rds] using A) .refl
    simp (maxSteps := 1000000) (disch := first | assumption | ((try simp only [push_next, put_next, adv_next, List.length_cons, List.length_nil, List.length_map, List.length_set]); omega) | simp) [g, GC_of (fun q => mread (q := q) (a := a) A.t1)]
    simpa [BS.rd, wok] using this
  by_cases d2 : d = 2
  · subst d2
    have := hq h (by simpa [BS.rds] using A) .refl
    simp (maxSteps := 1000000) (disch := first | assumption | ((try simp only [push_next, put_next, adv_next, List.length_cons, List.length_nil, List.length_map, List.length_set]); omega) | simp) [g, GC_of (fun q => mread (q := q) (a := a) A.t2)]
    simpa [BS.rd, wok] using this
  by_cases d3 : d = 3
  · subst d3
    simp (maxSteps := 1000000) (disch := first | assumption | ((try simp only [push_next, put_next, adv_next, List.length_cons, List.length_nil, List.length_map, List.length_set]); omega) | simp) [g]
    refine uread A.ua fun h1 A1 U1 => ?_
    obtain ⟨k1, k2⟩ := A.uar A1 (by simp) U1
    have := hq h1 (by simpa [BS.rds] using k1) k2
    simp (maxSteps := 1000000) (disch := first | assumption | ((try simp only [push_next, put_next, adv_next, List.length_cons, List.length_nil, List.length_map, List.length_set]); omega) | simp)
    simpa [BS.rd, wok] using this
  by_cases d4 : d = 4
  · subst d4
    have := hq h (by simpa [BS.rds] using A) .refl
    simp (maxSteps := 1000000) (disch := first | assumption | ((try simp only [push_next, put_next, adv_next, List.length_cons, List.length_nil, List.length_map, List.length_set]); omega) | simp) [g, GC_of (fun q => dread (q := q) (a := a) A.dm)]
    simpa [BS.rd, wok] using this
  have := hq h (by simpa [BS.rds, d3] using A) .refl
  simp (maxSteps := 1000000) (disch := first | assumption | ((try simp only [push_next, put_next, adv_next, List.length_cons, List.length_nil, List.length_map, List.length_set]); omega) | simp) [g, d0, d1, d2, d3, d4, GC_of (fun q => kread (q := q) (a := a) A.dk)]
  simpa [BS.rd, wok, d0, d1, d2, d3, d4] using this
def BS.wr (X : BS) (d : Int) (a v : BitVec 32) (now : Int) : BS :=
  if d = 0 then (if a = 4#32 then { X with m := v &&& 62#32 } else X) else if d = 1 then { X with T1 := X.T1.wr a v, S := X.T1.wrw X.S 1 a v now } else if d = 2 then { X with T2 := X.T2.wr a v, S := X.T2.wrw X.S 2 a v now }
  else if d = 3 then { X with U := X.U.wr a v, S := X.U.wrw X.S 3 a now } else if d = 4 then { X with D := X.D.wr a v, S := X.D.wrw X.S 4 a v now } else { X with K := X.K.wr a v, S := X.K.wrw X.S 5 a now }
theorem BW.ap (A : BW h L fp fo X) : Ap L.u fo (L.w :: fp) := fun b hb => by
  have ho := A.lay
  unfold BL.ok at ho
  rcases List.mem_cons.1 hb with rfl | hb
  · exact ⟨by omega, A.no (by omega)⟩
  · have := A.gf b hb
    exact ⟨by omega, fun hm => (A.go b hm).2 hb⟩
theorem bwrite {d : Int} (A : BW h L fp fo X) (hn : 0 ≤ now ∧ now ≤ 2 ^ 60) (hq : ∀ h' fp', BW h' L fp' fo (X.wr d a v now) → Upd h h' (L.fp fp fo) (L.fp fp' fo) → q (.bool (wok d a)) h') : WC T n_bus_Bus_write [ptr L.b 0, .int .i64 d, u32 a, u32 v, .int .i64 now] h q := by
  have g := A.bs
  have ho := A.lay
  unfold BL.ok at ho
  rw [w_bus_Bus_write]
  by_cases d0 : d = 0
  · subst d0
    simp (maxSteps := 1000000) (disch := first | assumption | ((try simp only [push_next, put_next, adv_next, List.length_cons, List.length_nil, List.length_map, List.length_set]); omega) | simp) [g, GC_of (fun q => lwrite (q := q) (at' := a) (v := v) A.ln)]
    by_cases a4 : a = 4#32
    · obtain ⟨k1, k2⟩ := A.lin (r := X.r) (m := v &&& 62#32)
      have := hq _ fp (by simpa [BS.wr, a4] using k1) k2
      rw [if_pos a4]
      simpa [wok] using this
    · have := hq h fp (by simpa [BS.wr, a4] using A) .refl
      rw [if_neg a4]
      simpa [wok] using this
  by_cases d1 : d = 1
  · subst d1
    simp (maxSteps := 1000000) (disch := first | assumption | ((try simp only [push_next, put_next, adv_next, List.length_cons, List.length_nil, List.length_map, List.length_set]); omega) | simp) [g]
    refine mwrite A.t1 A.wh (A.off (by simp [BL.fx]) (by omega)) hn fun h1 fp1 T1 Q1 U1 N1 => ?_
    obtain ⟨k1, k2⟩ := A.tim1 T1 Q1 U1 N1
    have := hq h1 fp1 (by simpa [BS.wr] using k1) k2
    simp (maxSteps := 1000000) (disch := first | assumption | ((try simp only [push_next, put_next, adv_next, List.length_cons, List.length_nil, List.length_map, List.length_set]); omega) | simp)
    simpa [wok] using this
  by_cases d2 : d = 2
  · subst d2
    simp (maxSteps := 1000000) (disch := first | assumption | ((try simp only [push_next, put_next, adv_next, List.length_cons, List.length_nil, List.length_map, List.length_set]); omega) | simp) [g]
    refine mwrite A.t2 A.wh (A.off (by simp [BL.fx]) (by omega)) hn fun h1 fp1 T1 Q1 U1 N1 => ?_
    obtain ⟨k1, k2⟩ := A.tim2 T1 Q1 U1 N1
    have := hq h1 fp1 (by simpa [BS.wr] using k1) k2
    simp (maxSteps := 1000000) (disch := first | assumption | ((try simp only [push_next, put_next, adv_next, List.length_cons, List.length_nil, List.length_map, List.length_set]); omega) | simp)
    simpa [wok] using this
  by_cases d3 : d = 3
  · subst d3
    simp (maxSteps := 1000000) (disch := first | assumption | ((try simp only [push_next, put_next, adv_next, List.length_cons, List.length_nil, List.length_map, List.length_set]); omega) | simp) [g]
    refine uwrite A.ua A.wh A.ap (by omega) fun h1 fp1 T1 Q1 U1 P1 => ?_
    obtain ⟨k1, k2⟩ := A.uaw T1 Q1 ⟨U1.le, fun b hb hn => U1.get b hb fun hm => hn (by
      simp only [List.mem_cons] at hm
      rcases hm with rfl | rfl | rfl | hm
      · simp
      · simp
      · simp
      · simp [hm]), fun b hb => by
      simp only [List.mem_cons, List.mem_append] at hb
      rcases hb with rfl | rfl | hb | rfl | hb
      · exact .inl (by simp)
      · exact .inl (by simp)
      · exact .inl (by simp [hb])
      · exact .inl (by simp)
      · rcases U1.sub b (by simp [hb]) with h5 | h5
        · refine .inl ?_
          simp only [List.mem_cons] at h5
          rcases h5 with rfl | rfl | rfl | h5
          · simp
          · simp
          · simp
          · simp [h5]
        · exact .inr h5⟩ P1
    have := hq h1 fp1 (by simpa [BS.wr] using k1) k2
    simp (maxSteps := 1000000) (disch := first | assumption | ((try simp only [push_next, put_next, adv_next, List.length_cons, List.length_nil, List.length_map, List.length_set]); omega) | simp)
    simpa [wok] using this
  by_cases d4 : d = 4
  · subst d4
    simp (maxSteps := 1000000) (disch := first | assumption | ((try simp only [push_next, put_next, adv_next, List.length_cons, List.length_nil, List.length_map, List.length_set]); omega) | simp) [g]
    refine dwrite A.dm A.wh (A.off (by simp [BL.fx]) (by omega)) hn fun h1 fp1 T1 Q1 U1 N1 => ?_
    obtain ⟨k1, k2⟩ := A.dma T1 Q1 U1 N1
    have := hq h1 fp1 (by simpa [BS.wr] using k1) k2
    simp (maxSteps := 1000000) (disch := first | assumption | ((try simp only [push_next, put_next, adv_next, List.length_cons, List.length_nil, List.length_map, List.length_set]); omega) | simp)
    simpa [wok] using this
  simp (maxSteps := 1000000) (disch := first | assumption | ((try simp only [push_next, put_next, adv_next, List.length_cons, List.length_nil, List.length_map, List.length_set]); omega) | simp) [g, d0, d1, d2, d3, d4]
  refine kwrite A.dk A.wh ⟨A.off (by simp [BL.fx]) (by omega), A.off (by simp [BL.fx]) (by omega)⟩ (by omega) hn fun h1 fp1 T1 Q1 U1 N1 => ?_
  obtain ⟨k1, k2⟩ := A.disk T1 Q1 U1 N1.1
  have := hq h1 fp1 (by simpa [BS.wr, d0, d1, d2, d3, d4] using k1) k2
  simp (maxSteps := 1000000) (disch := first | assumption | ((try simp only [push_next, put_next, adv_next, List.length_cons, List.length_nil, List.length_map, List.length_set]); omega) | simp)
  simpa [wok, d0, d1, d2, d3, d4] using this
theorem BW.size (A : BW h L fp fo X) : 1024 ≤ X.B.length ∧ X.B.length ≤ 65536 := by
  have := A.ra.sz
  have := A.ra.ml
  omega
/-- What an address has. -/
def BS.ld (X : BS) (a : BitVec 32) (n now : Int) : BitVec 32 := if a.toNat < X.B.length then (if evB X.B a n = true then ldB X.B a.toNat n.toNat else 0#32) else if bwin a n = true then X.rd (bwd a) (bwo a) now else 0#32
def BS.ok (X : BS) (a : BitVec 32) (n : Int) : Bool := if a.toNat < X.B.length then evB X.B a n else bwin a n && wok (bwd a) (bwo a)
def BS.lds (X : BS) (a : BitVec 32) (n : Int) : BS := if a.toNat < X.B.length then X else if bwin a n = true then (X.rds (bwd a) (bwo a)).gath else X
theorem lt_size {a : BitVec 32} {n : Nat} (hn : n ≤ 65536) : a < BitVec.ofNat 32 n ↔ a.toNat < n := by
  rw [BitVec.lt_def, BitVec.toNat_ofNat, Nat.mod_eq_of_lt (by omega)]
theorem bload {n : Int} (A : BW h L fp fo X) (hq : ∀ h', BW h' L fp fo (X.lds a n) → Upd h h' (L.fp fp fo) (L.fp fp fo) → q (.tuple #[u32 (X.ld a n now), .bool (X.ok a n)]) h') : WC T n_bus_Bus_Load [ptr L.b 0, u32 a, .int .i64 n, .int .i64 now] h q := by
  have g := A.bs
  have hs := A.size
  have hc := lt_size (a := a) hs.2
  rw [w_bus_Bus_Load]
  by_cases c1 : a.toNat < X.B.length
  · have := hq h (by simpa [BS.lds, c1] using A) .refl
    simp (maxSteps := 1000000) (disch := first | assumption | ((try simp only [push_next, put_next, adv_next, List.length_cons, List.length_nil, List.length_map, List.length_set]); omega) | simp) [g, GC_of (fun q => rsize (q := q) A.ra), hc, c1, GC_of (fun q => rloadr (q := q) (a := a) (n := n) A.ra)]
    simpa [BS.ld, BS.ok, c1] using this
  · simp (maxSteps := 1000000) (disch := first | assumption | ((try simp only [push_next, put_next, adv_next, List.length_cons, List.length_nil, List.length_map, List.length_set]); omega) | simp) [g, GC_of (fun q => rsize (q := q) A.ra), hc, c1]
    refine bwindow (fun hw => ?_) fun hw d k => ?_
    · simp (maxSteps := 1000000) (disch := first | assumption | ((try simp only [push_next, put_next, adv_next, List.length_cons, List.length_nil, List.length_map, List.length_set]); omega) | simp)
      refine bread A fun h1 A1 U1 => ?_
      simp (maxSteps := 1000000) (disch := first | assumption | ((try simp only [push_next, put_next, adv_next, List.length_cons, List.length_nil, List.length_map, List.length_set]); omega) | simp)
      refine bgather A1 fun h2 A2 U2 => ?_
      have := hq h2 (by simpa [BS.lds, c1, hw] using A2) (U1.trans U2)
      simp (maxSteps := 1000000) (disch := first | assumption | ((try simp only [push_next, put_next, adv_next, List.length_cons, List.length_nil, List.length_map, List.length_set]); omega) | simp)
      simpa [BS.ld, BS.ok, c1, hw] using this
    · have := hq h (by simpa [BS.lds, c1, hw] using A) .refl
      simp (maxSteps := 1000000) (disch := first | assumption | ((try simp only [push_next, put_next, adv_next, List.length_cons, List.length_nil, List.length_map, List.length_set]); omega) | simp)
      simpa [BS.ld, BS.ok, c1, hw] using this
/-- What it has then. -/
def BS.st (X : BS) (a : BitVec 32) (n : Int) (v : BitVec 32) (now : Int) : BS := if a.toNat < X.B.length then (if evB X.B a n = true then { X with B := stB X.B a.toNat n.toNat v, W := tch X.M X.W a.toNat n.toNat } else X) else if bwin a n = true then (X.wr (bwd a) (bwo a) v now).gath else X
theorem bstore {n : Int} (A : BW h L fp fo X) (hn : 0 ≤ now ∧ now ≤ 2 ^ 60) (hq : ∀ h' fp', BW h' L fp' fo (X.st a n v now) → Upd h h' (L.fp fp fo) (L.fp fp' fo) → q (.bool (X.ok a n)) h') : WC T n_bus_Bus_Store [ptr L.b 0, u32 a, .int .i64 n, u32 v, .int .i64 now] h q := by
  have g := A.bs
  have hs := A.size
  have hc := lt_size (a := a) hs.2
  rw [w_bus_Bus_Store]
  by_cases c1 : a.toNat < X.B.length
  · simp (maxSteps := 1000000) (disch := first | assumption | ((try simp only [push_next, put_next, adv_next, List.length_cons, List.length_nil, List.length_map, List.length_set]); omega) | simp) [g, GC_of (fun q => rsize (q := q) A.ra), hc, c1]
    refine rstorer A.ra (fun he => ?_) fun he h1 R1 U1 => ?_
    · have := hq h fp (by simpa [BS.st, c1, he] using A) .refl
      simp (maxSteps := 1000000) (disch := first | assumption | ((try simp only [push_next, put_next, adv_next, List.length_cons, List.length_nil, List.length_map, List.length_set]); omega) | simp)
      simpa [BS.ok, c1, he] using this
    · obtain ⟨k1, k2⟩ := A.ram R1 U1
      have := hq h1 fp (by simpa [BS.st, c1, he] using k1) k2
      simp (maxSteps := 1000000) (disch := first | assumption | ((try simp only [push_next, put_next, adv_next, List.length_cons, List.length_nil, List.length_map, List.length_set]); omega) | simp)
      simpa [BS.ok, c1, he] using this
  · simp (maxSteps := 1000000) (disch := first | assumption | ((try simp only [push_next, put_next, adv_next, List.length_cons, List.length_nil, List.length_map, List.length_set]); omega) | simp) [g, GC_of (fun q => rsize (q := q) A.ra), hc, c1]
    refine bwindow (fun hw => ?_) fun hw d k => ?_
    · simp (maxSteps := 1000000) (disch := first | assumption | ((try simp only [push_next, put_next, adv_next, List.length_cons, List.length_nil, List.length_map, List.length_set]); omega) | simp)
      refine bwrite A hn fun h1 fp1 A1 U1 => ?_
      simp (maxSteps := 1000000) (disch := first | assumption | ((try simp only [push_next, put_next, adv_next, List.length_cons, List.length_nil, List.length_map, List.length_set]); omega) | simp)
      refine bgather A1 fun h2 A2 U2 => ?_
      have := hq h2 fp1 (by simpa [BS.st, c1, hw] using A2) (U1.trans U2)
      simp (maxSteps := 1000000) (disch := first | assumption | ((try simp only [push_next, put_next, adv_next, List.length_cons, List.length_nil, List.length_map, List.length_set]); omega) | simp)
      simpa [BS.ok, c1, hw] using this
    · have := hq h fp (by simpa [BS.st, c1, hw] using A) .refl
      simp (maxSteps := 1000000) (disch := first | assumption | ((try simp only [push_next, put_next, adv_next, List.length_cons, List.length_nil, List.length_map, List.length_set]); omega) | simp)
      simpa [BS.ok, c1, hw] using this
end
end Go.Proofs.YtpdfdemoflofhaaGreat.Cd

/- The bus: what is due is done; it is made. -/
set_option maxRecDepth 1000000
set_option maxHeartbeats 8000000
set_option linter.unusedSimpArgs false
set_option linter.unusedVariables false
namespace Go.Proofs.YtpdfdemoflofhaaGreat.Cd
open Go Go.Dx
/-- What a device does when it is due. -/
def BS.fire (X : BS) (d t : Int) : BS :=
  if d = 1 then { X with T1 := X.T1.fire, S := X.T1.firew X.S 1 t } else if d = 2 then { X with T2 := X.T2.fire, S := X.T2.firew X.S 2 t } else if d = 3 then { X with U := X.U.fire, S := X.U.firew X.S 3 t }
  else if d = 4 then { X with D := X.D.fire X.B, B := X.D.mem X.B, W := X.D.wrt X.B X.M X.W } else if d = 5 then { X with K := X.K.fire X.E X.B, B := X.K.mem X.E X.B, W := X.K.wrt X.E X.B X.M X.W, E := X.K.img X.E X.B } else X
def BS.due : Nat → BS → Int → Nat × BS
  | 0, X, _ => (0, X)
  | k + 1, X, now => match X.S.L with
    | [] => (0, X)
    | e :: E => if e.at' ≤ now then ((BS.due k (BS.fire { X with S := ⟨E, X.S.n⟩ } e.dev e.at') now).1 + 1, (BS.due k (BS.fire { X with S := ⟨E, X.S.n⟩ } e.dev e.at') now).2) else (0, X)
section
variable {h h' : Hp} {q : Value → Hp → Prop} {L : BL} {fp fo fp' fo' : List Nat} {X : BS} {S' : WhS} {now : Int} {a v : BitVec 32}
theorem BW.more {p : List Nat} {fp fo : List Nat} {g : Hp} (A : BW h L fp fo X) (K : Kp g h) : Upd g h (L.fp fp fo) (L.fp fp fo) := K.upd _
theorem _root_.Go.Dx.Upd.kp1 {g h h' : Hp} {p p' : List Nat} (K : Kp g h) (U : Upd h h' p p') : Upd g h' p p' := ⟨Nat.le_trans K.le U.le, fun b hb hn => by rw [U.get b (Nat.lt_of_lt_of_le hb K.le) hn, K.get b hb], fun b hb => by
  rcases U.sub b hb with h5 | h5
  · exact .inl h5
  · exact .inr (Nat.le_trans K.le h5)⟩
theorem bfire {e : Ev} (A : BW h L fp fo X) (hn : 0 ≤ e.at' ∧ e.at' ≤ 2 ^ 60) (hq : ∀ h' fp' fo', BW h' L fp' fo' (X.fire e.dev e.at') → Upd h h' (L.fp fp fo) (L.fp fp' fo') → q (.tuple #[]) h') :
    WC T n_bus_Bus_fire [ptr L.b 0, .agg #[.int .i64 e.at', .int .i64 e.dev, .int .i64 e.seq]] h q := by
  have ho := A.lay
  unfold BL.ok at ho
  rw [w_bus_Bus_fire]
  simp (maxSteps := 1000000) (disch := first | assumption | ((try simp only [push_next, put_next, adv_next, List.length_cons, List.length_nil, List.length_map, List.length_set]); omega) | simp) [-g4_bus_Bus_fire]
  have K : Kp h (h.push (.cells false [.int .i64 e.at', .int .i64 e.dev, .int .i64 e.seq])) := (Kp.refl h).push _
  have A1 := A.kp K
  have hq1 : ∀ h' fp' fo', BW h' L fp' fo' (X.fire e.dev e.at') → Upd (h.push (.cells false [.int .i64 e.at', .int .i64 e.dev, .int .i64 e.seq])) h' (L.fp fp fo) (L.fp fp' fo') → q (.tuple #[]) h' := fun h1 f1 f2 k1 k2 => hq h1 f1 f2 k1 (.kp1 K k2)
  have z1 : (h.push (.cells false [.int .i64 e.at', .int .i64 e.dev, .int .i64 e.seq])).get h.next = some (.cells false [.int .i64 e.at', .int .i64 e.dev, .int .i64 e.seq]) := get_push_self
  generalize h.push (.cells false [.int .i64 e.at', .int .i64 e.dev, .int .i64 e.seq]) = h0 at *
  have g := A1.bs
  clear A
  by_cases d1 : e.dev = 1
  · rw [d1] at hq1 z1 ⊢
    simp (maxSteps := 1000000) (disch := first | assumption | ((try simp only [push_next, put_next, adv_next, List.length_cons, List.length_nil, List.length_map, List.length_set]); omega) | simp) [g, z1, d1]
    refine mfire A1.t1 A1.wh (A1.off (by simp [BL.fx]) (by omega)) hn fun h1 fp1 T1 Q1 U1 N1 => ?_
    obtain ⟨k1, k2⟩ := A1.tim1 T1 Q1 U1 N1
    have := hq1 h1 fp1 fo (by simpa [BS.fire] using k1) k2
    simp (maxSteps := 1000000) (disch := first | assumption | ((try simp only [push_next, put_next, adv_next, List.length_cons, List.length_nil, List.length_map, List.length_set]); omega) | simp)
    exact this
  by_cases d2 : e.dev = 2
  · rw [d2] at hq1 z1 ⊢
    simp (maxSteps := 1000000) (disch := first | assumption | ((try simp only [push_next, put_next, adv_next, List.length_cons, List.length_nil, List.length_map, List.length_set]); omega) | simp) [g, z1, d2]
    refine mfire A1.t2 A1.wh (A1.off (by simp [BL.fx]) (by omega)) hn fun h1 fp1 T1 Q1 U1 N1 => ?_
    obtain ⟨k1, k2⟩ := A1.tim2 T1 Q1 U1 N1
    have := hq1 h1 fp1 fo (by simpa [BS.fire] using k1) k2
    simp (maxSteps := 1000000) (disch := first | assumption | ((try simp only [push_next, put_next, adv_next, List.length_cons, List.length_nil, List.length_map, List.length_set]); omega) | simp)
    exact this
  by_cases d3 : e.dev = 3
  · rw [d3] at hq1 z1 ⊢
    simp (maxSteps := 1000000) (disch := first | assumption | ((try simp only [push_next, put_next, adv_next, List.length_cons, List.length_nil, List.length_map, List.length_set]); omega) | simp) [g, z1, d3]
    refine ufire A1.ua A1.wh A1.ap (by omega) fun h1 fp1 fo1 T1 Q1 U1 P1 => ?_
    obtain ⟨k1, k2⟩ := A1.uaw T1 Q1 (by simpa only [List.cons_append] using U1) P1
    have := hq1 h1 fp1 fo1 (by simpa [BS.fire] using k1) k2
    simp (maxSteps := 1000000) (disch := first | assumption | ((try simp only [push_next, put_next, adv_next, List.length_cons, List.length_nil, List.length_map, List.length_set]); omega) | simp)
    exact this
  by_cases d4 : e.dev = 4
  · rw [d4] at hq1 z1 ⊢
    simp (maxSteps := 1000000) (disch := first | assumption | ((try simp only [push_next, put_next, adv_next, List.length_cons, List.length_nil, List.length_map, List.length_set]); omega) | simp) [g, z1, d4]
    refine dfire A1.dm A1.ra (by omega) fun h1 T1 R1 U1 => ?_
    obtain ⟨k1, k2⟩ := A1.dmaf T1 R1 U1
    have := hq1 h1 fp fo (by simpa [BS.fire] using k1) k2
    simp (maxSteps := 1000000) (disch := first | assumption | ((try simp only [push_next, put_next, adv_next, List.length_cons, List.length_nil, List.length_map, List.length_set]); omega) | simp)
    exact this
  by_cases d5 : e.dev = 5
  · rw [d5] at hq1 z1 ⊢
    simp (maxSteps := 1000000) (disch := first | assumption | ((try simp only [push_next, put_next, adv_next, List.length_cons, List.length_nil, List.length_map, List.length_set]); omega) | simp) [g, z1, d5]
    refine kfire A1.dk A1.ra (by omega) (by omega) fun h1 T1 R1 U1 => ?_
    obtain ⟨k1, k2⟩ := A1.diskf T1 R1 U1
    have := hq1 h1 fp fo (by simpa [BS.fire] using k1) k2
    simp (maxSteps := 1000000) (disch := first | assumption | ((try simp only [push_next, put_next, adv_next, List.length_cons, List.length_nil, List.length_map, List.length_set]); omega) | simp)
    exact this
  have := hq1 h0 fp fo (by simpa [BS.fire, d1, d2, d3, d4, d5] using A1) .refl
  simp (maxSteps := 1000000) (disch := first | assumption | ((try simp only [push_next, put_next, adv_next, List.length_cons, List.length_nil, List.length_map, List.length_set]); omega) | simp) [g, z1, d1, d2, d3, d4, d5]
  exact this
end
end Go.Proofs.YtpdfdemoflofhaaGreat.Cd

/- The bus: all that is due is done. -/
set_option maxRecDepth 1000000
set_option maxHeartbeats 2000000
set_option linter.unusedSimpArgs false
set_option linter.unusedVariables false
namespace Go.Proofs.YtpdfdemoflofhaaGreat.Cd
open Go Go.Dx
section
variable {h h' : Hp} {q : Value → Hp → Prop} {L : BL} {fp fo fp' fo' : List Nat} {X : BS} {S' : WhS} {now : Int} {a v : BitVec 32}
theorem bFire (A : BW h L fp fo X) (hn : now ≤ 2 ^ 60) (hq : ∀ h' fp' fo', BW h' L fp' fo' (X.due 256 now).2.gath → Upd h h' (L.fp fp fo) (L.fp fp' fo') → q (.int .i64 (X.due 256 now).1) h') :
    WC T n_bus_Bus_Fire [ptr L.b 0, .int .i64 now] h q := by
  rw [w_bus_Bus_Fire]
  simp (maxSteps := 1000000) (disch := first | assumption | ((try simp only [push_next, put_next, adv_next, List.length_cons, List.length_nil, List.length_map, List.length_set]); omega) | simp)
  refine G_loop (fun k e h1 => ∃ (n : Nat) (Y : BS) (fp1 fo1 : List Nat), n + k = 256 ∧ e 0 = ptr L.b 0 ∧ e 1 = .int .i64 now ∧ e 5 = .int .i64 n ∧ BW h1 L fp1 fo1 Y ∧ Upd h h1 (L.fp fp fo) (L.fp fp1 fo1) ∧ X.due 256 now = (n + (Y.due k now).1, (Y.due k now).2)) ?_ 256 _ _ ⟨0, X, fp, fo, rfl, by simp, by simp, by simp, A, .refl, by simp⟩
  rintro k ih e h1 ⟨n, Y, fp1, fo1, hk, e0, e1, e5, A1, U1, hD⟩
  generalize X.due 256 now = D at *
  cases k with
  | zero =>
    have : n = 256 := by omega
    subst this
    simp only [BS.due, Nat.add_zero] at hD
    subst hD
    simp (maxSteps := 1000000) (disch := first | assumption | ((try simp only [push_next, put_next, adv_next, List.length_cons, List.length_nil, List.length_map, List.length_set]); omega) | simp) [e5, e0]
    refine bgather A1 fun h2 A2 U2 => ?_
    simp (maxSteps := 1000000) (disch := first | assumption | ((try simp only [push_next, put_next, adv_next, List.length_cons, List.length_nil, List.length_map, List.length_set]); omega) | simp) [e5]
    exact hq h2 fp1 fo1 A2 (U1.trans U2)
  | succ k =>
    have hlt : (n : Int) < 256 := by omega
    have g := A1.bs
    simp (maxSteps := 1000000) (disch := first | assumption | ((try simp only [push_next, put_next, adv_next, List.length_cons, List.length_nil, List.length_map, List.length_set]); omega) | simp) [e0, e1, e5, hlt, g]
    refine takeS A1.wh (fun hno h2 K2 => ?_) fun x E hL hx h2 fp2 Q2 U2 => ?_
    · have hd : Y.due (k + 1) now = (0, Y) := by
        unfold BS.due
        cases hY : Y.S.L with
        | nil => rfl
        | cons x E =>
          have := hno x (by simp [hY])
          simp only
          rw [if_neg (by omega)]
      rw [hd] at hD
      simp only [Nat.add_zero] at hD
      subst hD
      simp (maxSteps := 1000000) (disch := first | assumption | ((try simp only [push_next, put_next, adv_next, List.length_cons, List.length_nil, List.length_map, List.length_set]); omega) | simp) [e0, e1, e5]
      have K3 : Kp h1 (h2.push (.cells false [.int .i64 0, .int .i64 0, .int .i64 0])) := K2.push _
      refine bgather (A1.kp K3) fun h3 A3 U3 => ?_
      simp (maxSteps := 1000000) (disch := first | assumption | ((try simp only [push_next, put_next, adv_next, List.length_cons, List.length_nil, List.length_map, List.length_set]); omega) | simp) [e5]
      exact hq h3 fp1 fo1 A3 (U1.trans (.kp1 K3 U3))
    · obtain ⟨A2, U2'⟩ := A1.wheel Q2 U2
      have pos : 0 ≤ x.at' := A1.wh.wi.pos x (by rw [hL]; simp)
      have K3 : Kp h2 (h2.push (.cells false [.int .i64 x.at', .int .i64 x.dev, .int .i64 x.seq])) := (Kp.refl h2).push _
      have hd : Y.due (k + 1) now = ((BS.due k (BS.fire { Y with S := ⟨E, Y.S.n⟩ } x.dev x.at') now).1 + 1, (BS.due k (BS.fire { Y with S := ⟨E, Y.S.n⟩ } x.dev x.at') now).2) := by
        conv => lhs; unfold BS.due
        rw [hL]
        simp only
        rw [if_pos hx]
      rw [hd] at hD
      simp (maxSteps := 1000000) (disch := first | assumption | ((try simp only [push_next, put_next, adv_next, List.length_cons, List.length_nil, List.length_map, List.length_set]); omega) | simp) [Hp.rdn]
      simp (maxSteps := 1000000) (disch := first | assumption | ((try simp only [push_next, put_next, adv_next, List.length_cons, List.length_nil, List.length_map, List.length_set]); omega) | simp) [e0, e1, e5]
      refine bfire (A2.kp K3) ⟨pos, by omega⟩ fun h4 fp4 fo4 A4 U4 => ?_
      have hn1 : IntKind.i64.wrap ((n : Int) + 1) = ((n + 1 : Nat) : Int) := by
        rw [wrap_i64 (by omega) (by omega)]
        rfl
      simp (maxSteps := 1000000) (disch := first | assumption | ((try simp only [push_next, put_next, adv_next, List.length_cons, List.length_nil, List.length_map, List.length_set]); omega) | simp) [e0, e1, e5]
      refine ih k (by omega) _ _ ⟨n + 1, _, fp4, fo4, by omega, by simp [e0], by simp [e1], by simp, A4, (U1.trans U2').trans (.kp1 K3 U4), ?_⟩
      rw [hD]
      congr 1
      omega
theorem bnext (A : BW h L fp fo X) : WC T n_bus_Bus_Next [ptr L.b 0] h q ↔ q (.tuple #[.int .i64 (X.S.L.head?.elim 0 (·.at')), .bool (!X.S.L.isEmpty)]) h := by
  have g := A.bs
  rw [w_bus_Bus_Next]
  simp (maxSteps := 1000000) (disch := first | assumption | ((try simp only [push_next, put_next, adv_next, List.length_cons, List.length_nil, List.length_map, List.length_set]); omega) | simp) [g, GC_of (fun q => wnext (q := q) A.wh.wh)]
theorem braised (A : BW h L fp fo X) : WC T n_bus_Bus_Raised [ptr L.b 0] h q ↔ q (.bool (X.r &&& X.m != 0#32)) h := by
  have g := A.bs
  rw [w_bus_Bus_Raised]
  simp (maxSteps := 1000000) (disch := first | assumption | ((try simp only [push_next, put_next, adv_next, List.length_cons, List.length_nil, List.length_map, List.length_set]); omega) | simp) [g, GC_of (fun q => lraised (q := q) A.ln)]
theorem bram (A : BW h L fp fo X) : WC T n_bus_Bus_Ram [ptr L.b 0] h q ↔ q (ptr (L.x + 3) 0) h := by
  have g := A.bs
  rw [w_bus_Bus_Ram]
  simp (maxSteps := 1000000) (disch := first | assumption | ((try simp only [push_next, put_next, adv_next, List.length_cons, List.length_nil, List.length_map, List.length_set]); omega) | simp) [g]
/-- How many pages. -/
def pgs (n : Int) : Nat := (max 1 (min n 64)).toNat
/-- A bus that is made. -/
def BS.mk0 (n : Int) (im se : By) : BS :=
  { B := ovB (List.replicate (1024 * pgs n) 0#8) 0 (im.take (1024 * pgs n)), M := List.replicate (pgs n) false, W := tch (List.replicate (pgs n) false) (List.replicate (pgs n) false) 0 (im.take (1024 * pgs n)).length,
    S := ⟨[], 0⟩, r := 0#32, m := 0#32, T1 := ⟨0#32, 0#32, 0#32⟩, T2 := ⟨0#32, 0#32, 0#32⟩, U := ⟨[], [], false, 0#32, []⟩, D := ⟨0#32, 0#32, 0#32, 0#32⟩, K := ⟨0#32, 0#32, 0#32, 0#32⟩, E := dkE se }
theorem bnew {n : Int} {im se : By} {ai as0 : Option Addr} {ci cs : Nat} (Si : Sees encB h ai im) (Ss : Sees encB h as0 se) (hi : im.length < 2 ^ 40) (hs : se.length < 2 ^ 40) (hci : im.length ≤ ci)
    (hq : ∀ h' L, BW h' L [] [] (BS.mk0 n im se) → h.next ≤ L.x → Kp h h' → q (ptr L.b 0) h') :
    WC T n_bus_New [.int .i64 n, .slice ai im.length ci, .slice as0 se.length cs] h q := by
  rw [w_bus_New]
  simp (maxSteps := 1000000) (disch := first | assumption | ((try simp only [push_next, put_next, adv_next, List.length_cons, List.length_nil, List.length_map, List.length_set]); omega) | simp)
  refine rnew fun h1 R1 K1 n1 => ?_
  have hp : 1 ≤ pgs n ∧ pgs n ≤ 64 := by unfold pgs; omega
  rw [show (max 1 (min n 64)).toNat = pgs n from rfl] at R1
  simp (maxSteps := 1000000) (disch := first | assumption | ((try simp only [push_next, put_next, adv_next, List.length_cons, List.length_nil, List.length_map, List.length_set]); omega) | simp) [GC_of (fun q => wnew)]
  have W1 : WhA (h1.push (.cells false [.slice none 0 0, .int .i64 0])) h1.next ⟨[], 0⟩ [] := ⟨Wh.new (h := h1), .nil⟩
  have K2 : Kp h1 (h1.push (.cells false [.slice none 0 0, .int .i64 0])) := (Kp.refl h1).push _
  have n2 : (h1.push (.cells false [.slice none 0 0, .int .i64 0])).next = h1.next + 1 := rfl
  generalize h1.push (.cells false [.slice none 0 0, .int .i64 0]) = h2 at *
  have R2 := R1.kp K2
  have hB : (List.replicate (1024 * pgs n) 0#8 : By).length = 1024 * pgs n := by simp
  generalize hBB : (List.replicate (1024 * pgs n) 0#8 : By) = B at *
  obtain ⟨hi2, hm⟩ : ∃ m : Nat, m = min im.length (1024 * pgs n) := ⟨_, rfl⟩
  have ht : im.take (1024 * pgs n) = im.take hi2 := by
    rw [hm]
    rcases Nat.le_total im.length (1024 * pgs n) with h5 | h5
    · rw [Nat.min_eq_left h5, List.take_of_length_le h5, List.take_length]
    · rw [Nat.min_eq_right h5]
  obtain ⟨a1, c1, p1, p2, s1⟩ := (Si.kp (K1.trans K2)).part (c := ci) (lo := 0) (hi := hi2) (l := none) (u := some (.int .i64 hi2)) (by omega) (by omega) hci (.inl ⟨rfl, rfl⟩) (.inr ⟨.i64, rfl⟩)
  simp only [Nat.sub_zero, List.drop_zero, encB_sz] at p1 p2 s1
  have hsz : BitVec.toNat (BitVec.ofNat 32 B.length) = 1024 * pgs n := by
    rw [BitVec.toNat_ofNat, hB]
    omega
  have hmin : (if 1024 * (pgs n : Int) < (im.length : Int) then 1024 * (pgs n : Int) else (im.length : Int)) = (hi2 : Int) := by
    rw [hm]
    split <;> omega
  have hil : (im.take hi2).length = hi2 := by rw [List.length_take]; omega
  have hpz : pgs n ≠ 0 := by omega
  simp (maxSteps := 1000000) (disch := first | assumption | ((try simp only [push_next, put_next, adv_next, List.length_cons, List.length_nil, List.length_map, List.length_set]); omega) | simp) [GC_of (fun q => rsize (q := q) R2), hsz, hmin, p1]
  have hp1 := rput (a := 0#32) (c := c1) (q := fun v h' => v = .bool true ∧ Ra h' h.next (ovB B 0 (im.take hi2)) (List.replicate (pgs n) false) (tch (List.replicate (pgs n) false) (List.replicate (pgs n) false) 0 (im.take hi2).length) ∧ Upd h2 h' [h.next, h.next + 2] [h.next, h.next + 2]) R2 s1 (by rw [hil]; omega) (fun hb => by
    exfalso
    rw [hil] at hb
    simp [thB, hB] at hb
    omega) fun _ h3 R3 U3 => ⟨rfl, R3, U3⟩
  rw [hil] at hp1
  refine GC_intro hp1 fun v h3 ⟨hv, R3, U3⟩ => ?_
  subst hv
  have n3 := U3.le
  have W3 : WhA h3 h1.next ⟨[], 0⟩ [] := W1.keep fun b hb => by
    simp at hb
    subst hb
    exact U3.get _ (by omega) (by simp; omega)
  have K3 : Kp h h3 := ⟨by have := K1.le; omega, fun b hb => by rw [U3.get b (by omega) (by simp; omega), K2.get b (by omega), K1.get b hb]⟩
  have R4 := R3
  have hw3 : h1.next < h3.next := by omega
  simp (maxSteps := 1000000) (disch := first | assumption | ((try simp only [push_next, put_next, adv_next, List.length_cons, List.length_nil, List.length_map, List.length_set]); omega) | simp) [GC_of (fun q => lnew)]
  have L4 : Ln (h3.push (.cells false [u32 0#32, u32 0#32])) h3.next 0#32 0#32 := get_push_self
  have K4 : Kp h3 (h3.push (.cells false [u32 0#32, u32 0#32])) := (Kp.refl h3).push _
  have n4 : (h3.push (.cells false [u32 0#32, u32 0#32])).next = h3.next + 1 := rfl
  generalize h3.push (.cells false [u32 0#32, u32 0#32]) = h4 at *
  have hw4 : h1.next < h4.next := by omega
  simp (maxSteps := 1000000) (disch := first | assumption | ((try simp only [push_next, put_next, adv_next, List.length_cons, List.length_nil, List.length_map, List.length_set]); omega) | simp) [GC_of (fun q => mnew (dv := 1) hw4)]
  have T5 : TmC (h4.push (.cells false [.int .i64 1, ptr h1.next 0, u32 0#32, u32 0#32, u32 0#32])) h4.next h1.next 1 ⟨0#32, 0#32, 0#32⟩ := get_push_self
  have K5 : Kp h4 (h4.push (.cells false [.int .i64 1, ptr h1.next 0, u32 0#32, u32 0#32, u32 0#32])) := (Kp.refl h4).push _
  have n5 : (h4.push (.cells false [.int .i64 1, ptr h1.next 0, u32 0#32, u32 0#32, u32 0#32])).next = h4.next + 1 := rfl
  generalize h4.push (.cells false [.int .i64 1, ptr h1.next 0, u32 0#32, u32 0#32, u32 0#32]) = h5 at *
  have hw5 : h1.next < h5.next := by omega
  simp (maxSteps := 1000000) (disch := first | assumption | ((try simp only [push_next, put_next, adv_next, List.length_cons, List.length_nil, List.length_map, List.length_set]); omega) | simp) [GC_of (fun q => mnew (dv := 2) hw5)]
  have T6 : TmC (h5.push (.cells false [.int .i64 2, ptr h1.next 0, u32 0#32, u32 0#32, u32 0#32])) h5.next h1.next 2 ⟨0#32, 0#32, 0#32⟩ := get_push_self
  have K6 : Kp h5 (h5.push (.cells false [.int .i64 2, ptr h1.next 0, u32 0#32, u32 0#32, u32 0#32])) := (Kp.refl h5).push _
  have n6 : (h5.push (.cells false [.int .i64 2, ptr h1.next 0, u32 0#32, u32 0#32, u32 0#32])).next = h5.next + 1 := rfl
  generalize h5.push (.cells false [.int .i64 2, ptr h1.next 0, u32 0#32, u32 0#32, u32 0#32]) = h6 at *
  refine unew (by omega) fun h7 U7 K7 n7 => ?_
  have hw7 : h1.next < h7.next := by omega
  simp (maxSteps := 1000000) (disch := first | assumption | ((try simp only [push_next, put_next, adv_next, List.length_cons, List.length_nil, List.length_map, List.length_set]); omega) | simp) [GC_of (fun q => dnew (dv := 4) (x := h.next) hw7)]
  have D8 : Dm (h7.push (.cells false [.int .i64 4, ptr h1.next 0, ptr (h.next + 3) 0, u32 0#32, u32 0#32, u32 0#32, u32 0#32])) h7.next h1.next h.next 4 ⟨0#32, 0#32, 0#32, 0#32⟩ := get_push_self
  have K8 : Kp h7 (h7.push (.cells false [.int .i64 4, ptr h1.next 0, ptr (h.next + 3) 0, u32 0#32, u32 0#32, u32 0#32, u32 0#32])) := (Kp.refl h7).push _
  have n8 : (h7.push (.cells false [.int .i64 4, ptr h1.next 0, ptr (h.next + 3) 0, u32 0#32, u32 0#32, u32 0#32, u32 0#32])).next = h7.next + 1 := rfl
  generalize h7.push (.cells false [.int .i64 4, ptr h1.next 0, ptr (h.next + 3) 0, u32 0#32, u32 0#32, u32 0#32, u32 0#32]) = h8 at *
  have K38 : Kp h3 h8 := (((K4.trans K5).trans K6).trans K7).trans K8
  refine knew (Ss.kp (K3.trans K38)) hs (by omega) (by omega) fun h9 E9 K9 n9 => ?_
  simp (maxSteps := 1000000) (disch := first | assumption | ((try simp only [push_next, put_next, adv_next, List.length_cons, List.length_nil, List.length_map, List.length_set]); omega) | simp)
  have K10 : Kp h9 (h9.push (.cells false [ptr (h.next + 3) 0, ptr h1.next 0, ptr h3.next 0, ptr h4.next 0, ptr h5.next 0, ptr (h6.next + 2) 0, ptr h7.next 0, ptr (h8.next + 1) 0])) := (Kp.refl h9).push _
  have b10 : (h9.push (.cells false [ptr (h.next + 3) 0, ptr h1.next 0, ptr h3.next 0, ptr h4.next 0, ptr h5.next 0, ptr (h6.next + 2) 0, ptr h7.next 0, ptr (h8.next + 1) 0])).get h9.next = some (.cells false [ptr (h.next + 3) 0, ptr h1.next 0, ptr h3.next 0, ptr h4.next 0, ptr h5.next 0, ptr (h6.next + 2) 0, ptr h7.next 0, ptr (h8.next + 1) 0]) := get_push_self
  generalize h9.push (.cells false [ptr (h.next + 3) 0, ptr h1.next 0, ptr h3.next 0, ptr h4.next 0, ptr h5.next 0, ptr (h6.next + 2) 0, ptr h7.next 0, ptr (h8.next + 1) 0]) = h10 at *
  have K810 := K9.trans K10
  have K710 := K8.trans K810
  have K610 := K7.trans K710
  have K510 := K6.trans K610
  have K410 := K5.trans K510
  have K310 := K4.trans K410
  refine hq h10 ⟨h.next, h1.next, h3.next, h4.next, h5.next, h6.next, h7.next, h8.next, h8.next + 1, h9.next⟩ ⟨b10, ?_, W3.kp K310, ?_, ?_, ?_, U7.kp K710, ?_, E9.keep (K10.get _ (by omega)) (K10.get _ (by omega)), ?_, by simp, by simp⟩ (Nat.le_refl _) (K3.trans K310)
  · have := R3.kp K310
    simpa only [BS.mk0, ht, hBB, hil] using this
  · unfold Ln at L4 ⊢; simp only []; rw [K410.get _ (by omega), L4]; rfl
  · unfold TmC at T5 ⊢; simp only []; rw [K510.get _ (by omega), T5]; rfl
  · unfold TmC at T6 ⊢; simp only []; rw [K610.get _ (by omega), T6]; rfl
  · unfold Dm at D8 ⊢; simp only []; rw [K810.get _ (by omega), D8]; rfl
  · simp only [BL.ok]
    omega
end
end Go.Proofs.YtpdfdemoflofhaaGreat.Cd

/- The document's bus: a world, and what arms and cancels. -/
set_option maxRecDepth 1000000
set_option maxHeartbeats 8000000
set_option linter.unusedSimpArgs false
set_option linter.unusedVariables false
namespace Go.Proofs.YtpdfdemoflofhaaGreat.Cd
open Go Go.Dx
def rrest (x : Nat) (X : BS) (vi vo vu : Value) : List Value :=
  [u32 X.T1.c, u32 X.T1.p, u32 X.T1.s, u32 X.T2.c, u32 X.T2.p, u32 X.T2.s, vi, vo, .bool X.U.lost, u32 X.U.ctl, vu, u32 X.D.f, u32 X.D.t, u32 X.D.c, u32 X.D.s, u32 X.K.e, u32 X.K.a, u32 X.K.c, u32 X.K.s, .slice (some ⟨x + 5, 0, none⟩) X.E.length X.E.length, u32 X.r, u32 X.m]
def rcl (x : Nat) (X : BS) (vL vi vo vu : Value) : List Value := ptr (x + 3) 0 :: vL :: .int .i64 X.S.n :: rrest x X vi vo vu
def RL (x : Nat) (fr fo : List Nat) : List Nat := [x, x + 1, x + 2, x + 3, x + 4, x + 5] ++ (fr ++ fo)
structure RS (h : Hp) (x : Nat) (fr fo : List Nat) (X : BS) (vL vi vo vu : Value) : Prop where
  g : h.get (x + 4) = some (.cells false (rcl x X vL vi vo vu))
  sL : Se encEv h fr vL X.S.L
  si : Se encB h fr vi X.U.i
  so : Se encB h fr vo X.U.o
  su : Own encB h vu X.U.out fo
/-- The document's bus as it lies. -/
structure RW (h : Hp) (x : Nat) (fr fo : List Nat) (X : BS) : Prop where
  bs : ∃ vL vi vo vu, RS h x fr fo X vL vi vo vu
  ra : Ra h x X.B X.M X.W
  dk : h.get (x + 5) = some (.cells false (X.E.map u8))
  el : X.E.length % 64 = 0 ∧ X.E.length ≤ 4096
  fr : ∀ b ∈ fr, x + 5 < b ∧ b < h.next ∧ b ∉ fo
  fo : ∀ b ∈ fo, x + 5 < b
  wi : WI X.S.L
  ni : X.U.i.length ≤ 16
  no : X.U.o.length ≤ 16
  nout : X.U.out.length ≤ 65536
section
variable {h h' : Hp} {q : Value → Hp → Prop} {x : Nat} {fr fo nw fo' : List Nat} {X X' : BS} {now d t : Int} {a v : BitVec 32} {vL vi vo vu : Value}
theorem RW.lt (A : RW h x fr fo X) : x + 5 < h.next := lt_of_get A.dk
theorem RW.folt (A : RW h x fr fo X) : ∀ b ∈ fo, b < h.next := by
  obtain ⟨vL, vi, vo, vu, S⟩ := A.bs
  exact S.su.live
theorem RW.live (A : RW h x fr fo X) : ∀ b ∈ RL x fr fo, b < h.next := fun b hb => by
  have := A.lt
  rcases List.mem_append.1 hb with hb | hb
  · simp at hb; omega
  · rcases List.mem_append.1 hb with hb | hb
    · exact (A.fr b hb).2.1
    · exact A.folt b hb
theorem RW.keep (A : RW h x fr fo X) (hn : h.next ≤ h'.next) (hk : ∀ b ∈ RL x fr fo, h'.get b = h.get b) : RW h' x fr fo X := by
  obtain ⟨vL, vi, vo, vu, S⟩ := A.bs
  have k1 : ∀ b ∈ fr, h'.get b = h.get b := fun b hb => hk b (by simp [RL, hb])
  refine ⟨⟨vL, vi, vo, vu, by rw [hk _ (by simp [RL]), S.g], S.sL.keep k1 (fun b hb => hb), S.si.keep k1 (fun b hb => hb), S.so.keep k1 (fun b hb => hb), S.su.keep fun b hb => hk b (by simp [RL, hb])⟩, A.ra.keep fun b h1 h2 => hk b ?_, by rw [hk _ (by simp [RL]), A.dk], A.el, fun b hb => ⟨(A.fr b hb).1, Nat.lt_of_lt_of_le (A.fr b hb).2.1 hn, (A.fr b hb).2.2⟩, A.fo, A.wi, A.ni, A.no, A.nout⟩
  have : b = x ∨ b = x + 1 ∨ b = x + 2 ∨ b = x + 3 := by omega
  rcases this with rfl | rfl | rfl | rfl <;> simp [RL]
theorem RW.kp (A : RW h x fr fo X) (K : Kp h h') : RW h' x fr fo X := A.keep K.le fun b hb => K.get b (A.live b hb)
theorem RW.upd {p p' : List Nat} (A : RW h x fr fo X) (U : Upd h h' p p') (hn : ∀ b ∈ RL x fr fo, b ∉ p) : RW h' x fr fo X := A.keep U.le fun b hb => U.get b (A.live b hb) (hn b hb)
/-- The struct alone is changed. -/
theorem RW.put (A : RW h x fr fo X) (S : RS h x fr fo X vL vi vo vu) {n : Int} {T1 T2 : TmS} {lost : Bool} {ctl r m : BitVec 32} {D : DmS} {K : DkS} {C : List Value}
    (hC : C = rcl x { X with S := ⟨X.S.L, n⟩, T1 := T1, T2 := T2, U := { X.U with lost := lost, ctl := ctl }, D := D, K := K, r := r, m := m } vL vi vo vu) :
    RW (h.put (x + 4) (some (.cells false C))) x fr fo { X with S := ⟨X.S.L, n⟩, T1 := T1, T2 := T2, U := { X.U with lost := lost, ctl := ctl }, D := D, K := K, r := r, m := m } ∧ RS (h.put (x + 4) (some (.cells false C))) x fr fo { X with S := ⟨X.S.L, n⟩, T1 := T1, T2 := T2, U := { X.U with lost := lost, ctl := ctl }, D := D, K := K, r := r, m := m } vL vi vo vu ∧ Upd h (h.put (x + 4) (some (.cells false C))) (RL x fr fo) (RL x fr fo) := by
  subst hC
  have hl := A.lt
  have k1 : ∀ b ∈ fr, (h.put (x + 4) (some (.cells false (rcl x { X with S := ⟨X.S.L, n⟩, T1 := T1, T2 := T2, U := { X.U with lost := lost, ctl := ctl }, D := D, K := K, r := r, m := m } vL vi vo vu)))).get b = h.get b := fun b hb => get_put_ne (by have := (A.fr b hb).1; omega)
  have S' : RS (h.put (x + 4) (some (.cells false (rcl x { X with S := ⟨X.S.L, n⟩, T1 := T1, T2 := T2, U := { X.U with lost := lost, ctl := ctl }, D := D, K := K, r := r, m := m } vL vi vo vu)))) x fr fo { X with S := ⟨X.S.L, n⟩, T1 := T1, T2 := T2, U := { X.U with lost := lost, ctl := ctl }, D := D, K := K, r := r, m := m } vL vi vo vu :=
    ⟨get_put_self (by omega), S.sL.keep k1 (fun b hb => hb), S.si.keep k1 (fun b hb => hb), S.so.keep k1 (fun b hb => hb), S.su.keep fun b hb => get_put_ne (by have := A.fo b hb; omega)⟩
  exact ⟨⟨⟨vL, vi, vo, vu, S'⟩, A.ra.keep fun b h1 h2 => get_put_ne (by omega), by rw [get_put_ne (by omega), A.dk], A.el, fun b hb => ⟨(A.fr b hb).1, by simpa using (A.fr b hb).2.1, (A.fr b hb).2.2⟩, A.fo, A.wi, A.ni, A.no, A.nout⟩, S', ⟨by simp, fun b hb hn => get_put_ne fun e => hn (by rw [e]; simp [RL]), fun b hb => .inl hb⟩⟩
theorem _root_.Go.Dx.Upd.rl {x : Nat} {fr fo nw : List Nat} (U : Upd h h' [x + 4] ((x + 4) :: nw)) : Upd h h' (RL x fr fo) (RL x (fr ++ nw) fo) := ⟨U.le, fun b hb hn => U.get b hb fun hm => hn (by simp at hm; simp [RL, hm]), fun b hb => by
  simp only [RL, List.mem_append] at hb ⊢
  rcases hb with hb | (hb | hb) | hb
  · exact .inl (.inl hb)
  · exact .inl (.inr (.inl hb))
  · rcases U.sub b (List.mem_cons_of_mem _ hb) with h5 | h5
    · exact .inl (.inl (by simp at h5; simp [h5]))
    · exact .inr h5
  · exact .inl (.inr (.inr hb))⟩
/-- The wheel within is changed. -/
theorem RW.whl {L' : List Ev} {n' : Int} (A : RW h x fr fo X) (S : RS h x fr fo X vL vi vo vu) (Z : Wz h' (x + 4) (ptr (x + 3) 0) (rrest x X vi vo vu) L' n' (fr ++ nw)) (U : Upd h h' [x + 4] ((x + 4) :: nw)) (hl : ∀ b ∈ nw, b < h'.next) (I : WI L') :
    RW h' x (fr ++ nw) fo { X with S := ⟨L', n'⟩ } ∧ Upd h h' (RL x fr fo) (RL x (fr ++ nw) fo) := by
  have hlt := A.lt
  obtain ⟨vL', g, sL⟩ := Z.ex
  have k1 : ∀ b ∈ fr, h'.get b = h.get b := fun b hb => U.get b (A.fr b hb).2.1 (by have := (A.fr b hb).1; simp; omega)
  have hs : ∀ b ∈ nw, h.next ≤ b := fun b hb => by
    rcases U.sub b (List.mem_cons_of_mem _ hb) with h5 | h5
    · simp at h5
      subst h5
      exact absurd (List.mem_append_right _ hb) Z.nw
    · exact h5
  refine ⟨⟨⟨vL', vi, vo, vu, g, sL, S.si.keep k1 fun b hb => List.mem_append_left _ hb, S.so.keep k1 fun b hb => List.mem_append_left _ hb, S.su.keep fun b hb => U.get b (A.folt b hb) (by have := A.fo b hb; simp; omega)⟩, A.ra.keep fun b h1 h2 => U.get b (by omega) (by simp; omega), by rw [U.get _ (by omega) (by simp), A.dk], A.el, fun b hb => ?_, A.fo, I, A.ni, A.no, A.nout⟩, U.rl⟩
  rcases List.mem_append.1 hb with hb | hb
  · exact ⟨(A.fr b hb).1, Nat.lt_of_lt_of_le (A.fr b hb).2.1 U.le, (A.fr b hb).2.2⟩
  · have := hs b hb
    exact ⟨by omega, hl b hb, fun hm => by have := A.folt b hm; omega⟩
theorem RW.arm (A : RW h x fr fo X) (hq : ∀ h' nw, RW h' x (fr ++ nw) fo { X with S := X.S.arm d t } → Upd h h' (RL x fr fo) (RL x (fr ++ nw) fo) → q (.bool (!wbad d t)) h') : WC T n_pianolaref9_Wheel_Arm [ptr (x + 4) 1, .int .i64 d, .int .i64 t] h q := by
  obtain ⟨vL, vi, vo, vu, S⟩ := A.bs
  have hlen := A.wi.len
  refine zarm (fun b hb => (A.fr b hb).2.1) (show Wz h (x + 4) (ptr (x + 3) 0) (rrest x X vi vo vu) X.S.L X.S.n fr from ⟨⟨vL, S.g, S.sL⟩, fun hm => by have := (A.fr _ hm).1; omega⟩) (by omega) A.wi.srt (fun hb => ?_) fun hb h1 nw Z U hl => ?_
  · have := hq h [] (by simpa [WhS.arm, hb] using A) (by rw [List.append_nil]; exact .refl)
    rw [hb] at this
    exact this
  · obtain ⟨k1, k2⟩ := A.whl S Z U hl (A.wi.arm hb)
    have := hq h1 nw (by simpa [WhS.arm, hb] using k1) k2
    rw [hb] at this
    exact this
theorem RW.can (A : RW h x fr fo X) (hq : ∀ v h' nw, RW h' x (fr ++ nw) fo { X with S := X.S.can d } → Upd h h' (RL x fr fo) (RL x (fr ++ nw) fo) → q v h') : WC T n_pianolaref9_Wheel_Cancel [ptr (x + 4) 1, .int .i64 d] h q := by
  obtain ⟨vL, vi, vo, vu, S⟩ := A.bs
  have hlen := A.wi.len
  refine zcancel (show Wz h (x + 4) (ptr (x + 3) 0) (rrest x X vi vo vu) X.S.L X.S.n fr from ⟨⟨vL, S.g, S.sL⟩, fun hm => by have := (A.fr _ hm).1; omega⟩) (by omega) fun h1 nw Z U hl => ?_
  obtain ⟨k1, k2⟩ := A.whl S Z U hl (A.wi.can d)
  exact hq _ h1 nw k1 k2
theorem RW.take (A : RW h x fr fo X) (hno : (∀ e ∈ X.S.L.head?, t < e.at') → ∀ h', Kp h h' → q (.tuple #[.agg #[.int .i64 0, .int .i64 0, .int .i64 0], .bool false]) h')
    (hyes : ∀ e B, X.S.L = e :: B → e.at' ≤ t → ∀ h' nw, RW h' x (fr ++ nw) fo { X with S := ⟨B, X.S.n⟩ } → Upd h h' (RL x fr fo) (RL x (fr ++ nw) fo) → q (.tuple #[.agg #[.int .i64 e.at', .int .i64 e.dev, .int .i64 e.seq], .bool true]) h') :
    WC T n_pianolaref9_Wheel_Take [ptr (x + 4) 1, .int .i64 t] h q := by
  obtain ⟨vL, vi, vo, vu, S⟩ := A.bs
  have hlen := A.wi.len
  refine ztake (fun b hb => (A.fr b hb).2.1) (show Wz h (x + 4) (ptr (x + 3) 0) (rrest x X vi vo vu) X.S.L X.S.n fr from ⟨⟨vL, S.g, S.sL⟩, fun hm => by have := (A.fr _ hm).1; omega⟩) (by omega) hno fun e B hL ht h1 nw Z U hl => ?_
  have hw := A.wi
  rw [hL] at hw
  obtain ⟨k1, k2⟩ := A.whl S Z U hl hw.tail
  exact hyes e B hL ht h1 nw k1 k2
end
end Go.Proofs.YtpdfdemoflofhaaGreat.Cd
