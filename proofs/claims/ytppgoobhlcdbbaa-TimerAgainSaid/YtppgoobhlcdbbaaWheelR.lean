/- The document's wheel: what each function does. -/
import Derived.Test.YtppgoobhlcdbbaaSameEv
set_option maxRecDepth 1000000
set_option linter.unusedSimpArgs false
set_option linter.unusedVariables false
namespace Go.Proofs.Ytppgoobhlcdbbaa.Cd
open Go Go.Dx
section
variable {h : Hp} {q : Value → Hp → Prop}
theorem within {n lo hi : Int} (h0 : -1000000000000 ≤ lo) (h1 : lo ≤ hi) (h2 : hi ≤ 1000000000000) (hq : ∀ m, lo ≤ m → m ≤ hi → q (.int .i64 m) h) : WC T n_pianolabook_Within [.int .i64 n, .int .i64 lo, .int .i64 hi] h q := by
  rw [w_pianolabook_Within]
  have hne : hi - lo + 1 ≠ 0 := by omega
  have hw : n.tmod (hi - lo + 1) < hi - lo + 1 := Int.tmod_lt_of_pos _ (by omega)
  have hw' : - (hi - lo + 1) < n.tmod (hi - lo + 1) := by
    have := Int.tmod_lt_of_pos (-n) (show 0 < hi - lo + 1 by omega)
    rw [Int.neg_tmod] at this
    omega
  by_cases c1 : lo ≤ n
  · by_cases c2 : n ≤ hi
    · simp (disch := first | assumption | ((try simp only [push_next, put_next, adv_next, List.length_cons, List.length_nil]); omega) | simp) [c1, c2]
      exact hq _ c1 c2
    · by_cases c3 : n.tmod (hi - lo + 1) < 0
      · simp (disch := first | assumption | ((try simp only [push_next, put_next, adv_next, List.length_cons, List.length_nil]); omega) | simp) [c1, c2, c3, hne]
        exact hq _ (by omega) (by omega)
      · simp (disch := first | assumption | ((try simp only [push_next, put_next, adv_next, List.length_cons, List.length_nil]); omega) | simp) [c1, c2, c3, hne]
        exact hq _ (by omega) (by omega)
  · by_cases c3 : n.tmod (hi - lo + 1) < 0
    · simp (disch := first | assumption | ((try simp only [push_next, put_next, adv_next, List.length_cons, List.length_nil]); omega) | simp) [c1, c3, hne]
      exact hq _ (by omega) (by omega)
    · simp (disch := first | assumption | ((try simp only [push_next, put_next, adv_next, List.length_cons, List.length_nil]); omega) | simp) [c1, c3, hne]
      exact hq _ (by omega) (by omega)
/-- The document's: taken out by copying. -/
theorem rcancel {w : Nat} {L : List Ev} {s : Int} {fp : List Nat} {d : Int} (W : Wh h w L s fp) (hb : L.length < 2 ^ 40) (hq : ∀ h' fp', Wh h' w (wcan d L) s fp' → Upd h h' (w :: fp) (w :: fp') → q (.bool (whas d L)) h') : WC T n_pianolaref9_Wheel_Cancel [ptr w 0, .int .i64 d] h q := by
  obtain ⟨sl, g1, g2⟩ := W.ex
  obtain ⟨a, c, rfl, hs, hc, hfp⟩ := g2.len
  have hlt := lt_of_get g1
  rw [w_pianolaref9_Wheel_Cancel]
  simp (disch := first | assumption | ((try simp only [push_next, put_next, adv_next, List.length_cons, List.length_nil]); omega) | simp)
  refine G_loop (fun n e h' => ∃ us vs, n = vs.length ∧ h' = h ∧ L = us ++ vs ∧ (∀ x ∈ us, decide (x.dev = d) = false) ∧ e 0 = ptr w 0 ∧ e 1 = .int .i64 d ∧ e 5 = .int .i64 us.length) ?_ L.length _ _ ⟨[], L, rfl, rfl, rfl, by simp, by simp, by simp, by simp⟩
  rintro n ih e h' ⟨us, vs, rfl, rfl, hL, hn, e0, e1, e5⟩
  cases vs with
  | nil =>
    rw [List.append_nil] at hL
    subst hL
    obtain ⟨r1, r2⟩ := wcan_none hn
    simp (disch := first | assumption | ((try simp only [push_next, put_next, adv_next, List.length_cons, List.length_nil]); omega) | simp) [e0, e5, g1]
    rw [← r2]
    exact hq _ fp (by rw [r1]; exact W) .refl
  | cons x vs =>
    have hlt' : (us.length : Int) < L.length := by rw [hL]; simp; omega
    have hun : (us.length : Int) + 1 < 2 ^ 40 := by omega
    obtain ⟨A, hA, hr⟩ := Sees.mid (A := us) (x := x) (B := vs) (by rw [← hL]; exact hs)
    obtain ⟨ro, C, hg, hC⟩ := rdn_cells hr
    have hC1 := hC 1 (by simp)
    simp [encEv] at hC1
    by_cases hx : x.dev = d
    · obtain ⟨r1, r2⟩ := wcan_some (B := vs) hn (by simpa using hx)
      rw [← hL] at r1 r2
      subst hA
      obtain ⟨a1, c1, p1, q1, s1⟩ := hs.part (lo := 0) (hi := us.length) (l := none) (u := some (.int .i64 us.length)) (by omega) (by omega) hc (.inl ⟨rfl, rfl⟩) (.inr ⟨_, rfl⟩)
      obtain ⟨a2, c2, p2, q2, s2⟩ := hs.part (lo := us.length + 1) (hi := L.length) (l := some (.int .i64 ((us.length : Int) + 1))) (u := none) (by omega) (by omega) hc (.inr ⟨.i64, rfl⟩) (.inl ⟨rfl, rfl⟩)
      have p1' : sliceV 3 (.slice (some A) L.length c) none (some (.int .i64 us.length)) none = some (.slice a1 us.length c1) := p1
      have p2' : sliceV 3 (.slice (some A) L.length c) (some (.int .i64 ((us.length : Int) + 1))) none none = some (.slice a2 (L.length - (us.length + 1)) c2) := p2
      have hA1 : (L.drop 0).take (us.length - 0) = us := by rw [hL]; simp
      have hA2 : (L.drop (us.length + 1)).take (L.length - (us.length + 1)) = vs := by
        rw [hL, show us ++ x :: vs = (us ++ [x]) ++ vs by simp, show us.length + 1 = (us ++ [x]).length by simp, List.drop_left, List.length_append, Nat.add_sub_cancel_left, List.take_length]
      rw [hA1] at s1
      rw [hA2] at s2
      have hvl : L.length - (us.length + 1) = vs.length := by rw [hL]; simp; omega
      rw [hvl] at p2'
      have K1 : Kp h' (h'.push (.cells false [])) := (Kp.refl h').push _
      have Oe : Own encEv (h'.push (.cells false [])) (.slice (some ⟨h'.next, 0, none⟩) 0 0) [] [h'.next] := .emp get_push_self
      simp (disch := first | assumption | ((try simp only [push_next, put_next, adv_next, List.length_cons, List.length_nil]); omega) | simp) [e0, e1, e5, g1, hlt', hg, hC1, hx, p1']
      refine GVI_app (E := encEv) Oe (s1.kp K1) rfl (by simp; omega) (by simp; omega) fun v2 h2 fp2 O2 U2 => ?_
      have K2 : Kp h' h2 := U2.kp' K1 (by simp)
      have g2 : h2.get w = some (.cells false [.slice (some A) L.length c, .int .i64 s]) := by rw [K2.get w hlt, g1]
      have hlt2 := lt_of_get g2
      have hun' : (us.length : Int) + 1 < 9223372036854775808 := by omega
      simp (disch := first | assumption | ((try simp only [push_next, put_next, adv_next, List.length_cons, List.length_nil]); omega) | simp) [e5, g2, p2']
      refine GVI_app (E := encEv) O2 (s2.kp K2) rfl (by simp; omega) (by simp; omega) fun v3 h3 fp3 O3 U3 => ?_
      have hfp2 : ∀ b ∈ fp2, h'.next ≤ b := fun b hb => by
        rcases U2.sub b hb with h5 | h5
        · simp at h5; omega
        · simp at h5; omega
      have K3 : Kp h' h3 := U3.kp' K2 hfp2
      have g3 : h3.get w = some (.cells false [.slice (some A) L.length c, .int .i64 s]) := by rw [K3.get w hlt, g1]
      have hlt3 := lt_of_get g3
      have hfp3 : ∀ b ∈ fp3, h'.next ≤ b := fun b hb => by
        rcases U3.sub b hb with h5 | h5
        · exact hfp2 b h5
        · have := K2.le; omega
      obtain ⟨a3, c3, hv3, _, _, _⟩ := O3.len
      have hone : one v3 = true := by rw [hv3]; rfl
      simp (disch := first | assumption | ((try simp only [push_next, put_next, adv_next, List.length_cons, List.length_nil]); omega) | simp) [e0, g3, hone]
      have h9 := hq
      rw [r1, r2] at h9
      have hwf : w ∉ fp3 := fun hm => by have := hfp3 w hm; omega
      exact h9 _ fp3 ⟨⟨_, get_put_self hlt3, O3.keep fun b hb => get_put_ne fun e => hwf (e ▸ hb)⟩, hwf⟩ ⟨K3.le, fun b hb hm => by
        simp at hm
        rw [get_put_ne hm.1, K3.get b hb], fun b hb => by
        rcases List.mem_cons.1 hb with rfl | hb
        · exact .inl (by simp)
        · exact .inr (hfp3 b hb)⟩
    · simp (disch := first | assumption | ((try simp only [push_next, put_next, adv_next, List.length_cons, List.length_nil]); omega) | simp) [e0, e1, e5, g1, hlt', hA, hg, hC1, hx]
      apply ih vs.length (by simp)
      refine ⟨us ++ [x], vs, rfl, rfl, by simp [hL], fun y hy => ?_, by simp [e0], by simp [e1], by simp⟩
      rcases List.mem_append.1 hy with hy | hy
      · exact hn y hy
      · simp at hy; rw [hy]; simpa using hx
theorem rat {w : Nat} {L : List Ev} {s : Int} {fp : List Nat} {d : Int} (W : Wh h w L s fp) (hb : L.length < 2 ^ 40)
    (hq : q (.tuple #[.int .i64 ((L.find? fun x => decide (x.dev = d)).elim 0 (·.at')), .bool (whas d L)]) h) : WC T n_pianolaref9_Wheel_At [ptr w 0, .int .i64 d] h q := by
  obtain ⟨sl, g1, g2⟩ := W.ex
  obtain ⟨a, c, rfl, hs, hc, hfp⟩ := g2.len
  have hlt := lt_of_get g1
  rw [w_pianolaref9_Wheel_At]
  simp (disch := first | assumption | ((try simp only [push_next, put_next, adv_next, List.length_cons, List.length_nil]); omega) | simp)
  refine G_loop (fun n e h' => ∃ us vs, n = vs.length ∧ h' = h ∧ L = us ++ vs ∧ (∀ x ∈ us, decide (x.dev = d) = false) ∧ e 0 = ptr w 0 ∧ e 1 = .int .i64 d ∧ e 6 = .int .i64 us.length) ?_ L.length _ _ ⟨[], L, rfl, rfl, rfl, by simp, by simp, by simp, by simp⟩
  rintro n ih e h' ⟨us, vs, rfl, rfl, hL, hn, e0, e1, e6⟩
  cases vs with
  | nil =>
    rw [List.append_nil] at hL
    subst hL
    obtain ⟨r1, r2⟩ := wcan_none hn
    have : (L.find? fun x => decide (x.dev = d)) = none := List.find?_eq_none.2 fun x hx => by simp [hn x hx]
    rw [this, r2] at hq
    simp (disch := first | assumption | ((try simp only [push_next, put_next, adv_next, List.length_cons, List.length_nil]); omega) | simp) [e0, e6, g1]
    exact hq
  | cons x vs =>
    have hlt' : (us.length : Int) < L.length := by rw [hL]; simp; omega
    have hun : (us.length : Int) + 1 < 2 ^ 40 := by omega
    obtain ⟨A, hA, hr⟩ := Sees.mid (A := us) (x := x) (B := vs) (by rw [← hL]; exact hs)
    obtain ⟨ro, C, hg, hC⟩ := rdn_cells hr
    have hC1 := hC 1 (by simp)
    have hC0 := hC 0 (by simp)
    simp [encEv] at hC1 hC0
    by_cases hx : x.dev = d
    · obtain ⟨r1, r2⟩ := wcan_some (B := vs) hn (by simpa using hx)
      have : (L.find? fun x => decide (x.dev = d)) = some x := by
        rw [hL, List.find?_append, List.find?_eq_none.2 fun x hx => by simp [hn x hx]]
        simp only [Option.none_or]
        exact List.find?_cons_of_pos (by simpa using hx)
      rw [this, hL, r2] at hq
      simp (disch := first | assumption | ((try simp only [push_next, put_next, adv_next, List.length_cons, List.length_nil]); omega) | simp) [e0, e1, e6, g1, hlt', hA, hg, hC1, hC0, hx]
      exact hq
    · simp (disch := first | assumption | ((try simp only [push_next, put_next, adv_next, List.length_cons, List.length_nil]); omega) | simp) [e0, e1, e6, g1, hlt', hA, hg, hC1, hC0, hx]
      apply ih vs.length (by simp)
      refine ⟨us ++ [x], vs, rfl, rfl, by simp [hL], fun y hy => ?_, by simp [e0], by simp [e1], by simp⟩
      rcases List.mem_append.1 hy with hy | hy
      · exact hn y hy
      · simp at hy; rw [hy]; simpa using hx
theorem rtake {w : Nat} {L : List Ev} {s now : Int} {fp : List Nat} (W : Wh h w L s fp) (hb : L.length < 2 ^ 40) (hno : (∀ x ∈ L.head?, now < x.at') → ∀ h', Kp h h' → q (.tuple #[.agg #[.int .i64 0, .int .i64 0, .int .i64 0], .bool false]) h')
    (hyes : ∀ x B, L = x :: B → x.at' ≤ now → ∀ h' fp', Wh h' w B s fp' → Upd h h' (w :: fp) (w :: fp') → q (.tuple #[.agg (encEv.enc x).toArray, .bool true]) h') : WC T n_pianolaref9_Wheel_Take [ptr w 0, .int .i64 now] h q := by
  rw [w_pianolaref9_Wheel_Take]
  simp (disch := first | assumption | ((try simp only [push_next, put_next, adv_next, List.length_cons, List.length_nil]); omega) | simp) [-g2_pianolaref9_Wheel_Take]
  have K1 : Kp h (h.push (.cells false [.int .i64 0, .int .i64 0, .int .i64 0])) := (Kp.refl h).push _
  have W1 := W.kp K1
  have z0 : (h.push (.cells false [.int .i64 0, .int .i64 0, .int .i64 0])).get h.next = some (.cells false [.int .i64 0, .int .i64 0, .int .i64 0]) := get_push_self
  have n0 : (h.push (.cells false [.int .i64 0, .int .i64 0, .int .i64 0])).next = h.next + 1 := rfl
  generalize h.push (.cells false [.int .i64 0, .int .i64 0, .int .i64 0]) = h0 at *
  obtain ⟨sl, g1, g2⟩ := W1.ex
  obtain ⟨a, c, rfl, hs, hc, hfp⟩ := g2.len
  have hwn : w < h.next := W.live w (by simp)
  cases L with
  | nil =>
    simp (disch := first | assumption | ((try simp only [push_next, put_next, adv_next, List.length_cons, List.length_nil]); omega) | simp) [g1, Hp.rdn, z0]
    exact hno (by simp) _ (K1.put (Nat.le_refl _) _)
  | cons x B =>
    obtain ⟨A, rfl, hr⟩ := hs.mid (A := [])
    obtain ⟨ro, C, hg, hC⟩ := rdn_cells hr
    have hC0 := hC 0 (by simp)
    simp [encEv] at hC0
    have hnn : ¬ ((B.length : Int) + 1 = 0) := by omega
    by_cases hx : now < x.at'
    · simp (disch := first | assumption | ((try simp only [push_next, put_next, adv_next, List.length_cons, List.length_nil]); omega) | simp) [g1, hg, hC0, hnn, hx, Hp.rdn, z0]
      exact hno (by simpa using hx) _ (K1.put (Nat.le_refl _) _)
    · have hr2 : h0.rdn A.block A.off 3 = some (encEv.enc x) := by simpa using hr
      simp (disch := first | assumption | ((try simp only [push_next, put_next, adv_next, List.length_cons, List.length_nil]); omega) | simp) [g1, hg, hC0, hnn, hx, hr2, encEv]
      have K2 : Kp h0 ((h0.push (.cells false [.int .i64 0, .int .i64 0, .int .i64 0])).put h0.next (some (.cells false [.int .i64 x.at', .int .i64 x.dev, .int .i64 x.seq]))) := ((Kp.refl h0).push _).put (Nat.le_refl _) _
      generalize hh1 : (h0.push (.cells false [.int .i64 0, .int .i64 0, .int .i64 0])).put h0.next (some (.cells false [.int .i64 x.at', .int .i64 x.dev, .int .i64 x.seq])) = h1 at *
      have y1 : h1.get h0.next = some (.cells false [.int .i64 x.at', .int .i64 x.dev, .int .i64 x.seq]) := by rw [← hh1, get_put_self (by simp)]
      have n1 : h1.next = h0.next + 1 := by rw [← hh1]; rfl
      have z1 : h1.get h.next = some (.cells false [.int .i64 0, .int .i64 0, .int .i64 0]) := by rw [K2.get _ (by omega), z0]
      obtain ⟨a2, c2, p2, q2, s2⟩ := hs.part (lo := 1) (hi := (x :: B).length) (l := some (.int .i64 1)) (u := none) (by simp) (by omega) hc (.inr ⟨.i64, rfl⟩) (.inl ⟨rfl, rfl⟩)
      have p2' : sliceV 3 (.slice (some A) (B.length + 1) c) (some (.int .i64 1)) none none = some (.slice a2 B.length c2) := by simpa using p2
      have hA2 : ((x :: B).drop 1).take ((x :: B).length - 1) = B := by simp
      rw [hA2] at s2
      have K3 : Kp h1 (h1.push (.cells false [])) := (Kp.refl h1).push _
      have g1' : (h1.push (.cells false [])).get w = some (.cells false [.slice (some A) (B.length + 1) c, .int .i64 s]) := by rw [get_push_ne (by omega), K2.get w (by omega), g1]; rfl
      have Oe : Own encEv (h1.push (.cells false [])) (.slice (some ⟨h1.next, 0, none⟩) 0 0) [] [h1.next] := .emp get_push_self
      rw [n1] at Oe
      simp (disch := first | assumption | ((try simp only [push_next, put_next, adv_next, List.length_cons, List.length_nil]); omega) | simp) [g1', p2']
      refine GV_app (E := encEv) Oe (s2.kp (K2.trans K3)) rfl (by simp; simp at hb; omega) (by simp; simp at hb; omega) fun v3 h3 fp3 O3 U3 => ?_
      have K4 : Kp h1 h3 := U3.kp' K3 (by simp [n1])
      have hfp3 : ∀ b ∈ fp3, h0.next + 1 ≤ b := fun b hb => by
        rcases U3.sub b hb with h5 | h5
        · simp at h5; omega
        · simp at h5; omega
      have g3 : h3.get w = some (.cells false [.slice (some A) (B.length + 1) c, .int .i64 s]) := by rw [K4.get w (by omega), K2.get w (by omega), g1]; rfl
      have y3 : h3.get h0.next = some (.cells false [.int .i64 x.at', .int .i64 x.dev, .int .i64 x.seq]) := by rw [K4.get _ (by omega), y1]
      have z3 : h3.get h.next = some (.cells false [.int .i64 0, .int .i64 0, .int .i64 0]) := by rw [K4.get _ (by omega), z1]
      have hwl3 := lt_of_get g3
      have hyl3 := lt_of_get y3
      have hzl3 := lt_of_get z3
      obtain ⟨a3, c3, hv3, _, _, _⟩ := O3.len
      have hone : one v3 = true := by rw [hv3]; rfl
      simp (disch := first | assumption | ((try simp only [push_next, put_next, adv_next, List.length_cons, List.length_nil]); omega) | simp) [g3, hone, y3, z3, Hp.rdn]
      have hwf : w ∉ fp3 := fun hm => by have := hfp3 w hm; omega
      refine hyes x B rfl (by omega) _ fp3 ⟨⟨v3, ?_, O3.keep fun b hb => ?_⟩, hwf⟩ ⟨?_, fun k hk hm => ?_, fun k hk => ?_⟩
      · rw [get_put_ne (by omega), get_put_self (by omega)]
      · have := hfp3 b hb
        rw [get_put_ne (by omega), get_put_ne (by omega)]
      · have := K4.le
        simp
        omega
      · simp at hm
        rw [get_put_ne (by omega), get_put_ne hm.1, K4.get k (by omega), K2.get k (by omega), K1.get k hk]
      · rcases List.mem_cons.1 hk with rfl | hk
        · exact .inl (by simp)
        · have := hfp3 k hk
          exact .inr (by omega)
theorem rarm {w : Nat} {L : List Ev} {s d t : Int} {fp : List Nat} (W : Wh h w L s fp) (hL : L.length < 2 ^ 40) (hs : Srt (·.at') L)
    (hno : wbad d t = true → q (.bool false) h) (hyes : wbad d t = false → ∀ h' fp', Wh h' w (insl (·.at') ⟨t, d, s⟩ (wcan d L)) (IntKind.i64.wrap (s + 1)) fp' → Upd h h' (w :: fp) (w :: fp') → q (.bool true) h') : WC T n_pianolaref9_Wheel_Arm [ptr w 0, .int .i64 d, .int .i64 t] h q := by
  rw [w_pianolaref9_Wheel_Arm]
  by_cases c1 : d < 0
  · simp (disch := first | assumption | ((try simp only [push_next, put_next, adv_next, List.length_cons, List.length_nil]); omega) | simp) [c1]
    exact hno (by simp [wbad, c1])
  by_cases c2 : 16 ≤ d
  · simp (disch := first | assumption | ((try simp only [push_next, put_next, adv_next, List.length_cons, List.length_nil]); omega) | simp) [c1, c2]
    exact hno (by simp [wbad, c2])
  by_cases c3 : t < 0
  · simp (disch := first | assumption | ((try simp only [push_next, put_next, adv_next, List.length_cons, List.length_nil]); omega) | simp) [c1, c2, c3]
    exact hno (by simp [wbad, c3])
  have hy := hyes (by simp [wbad, c1, c2, c3])
  simp (disch := first | assumption | ((try simp only [push_next, put_next, adv_next, List.length_cons, List.length_nil]); omega) | simp) [c1, c2, c3]
  refine rcancel W hL fun h1 fp1 W1 U1 => ?_
  have hsub : (wcan d L).Sublist L := List.eraseP_sublist ..
  have hsc : Srt (·.at') (wcan d L) := hs.sublist hsub
  have hlc : (wcan d L).length ≤ L.length := hsub.length_le
  generalize hL1 : wcan d L = L1 at *
  obtain ⟨sl, g1, o1⟩ := W1.ex
  obtain ⟨a, c, rfl, hsee, hc, hfp⟩ := o1.len
  have hw1 := lt_of_get g1
  simp (disch := first | assumption | ((try simp only [push_next, put_next, adv_next, List.length_cons, List.length_nil]); omega) | simp)
  refine G_loop (fun n e h' => ∃ us vs, n = vs.length ∧ h' = h1 ∧ L1 = us ++ vs ∧ (∀ x ∈ us, x.at' ≤ t) ∧ e 0 = ptr w 0 ∧ e 1 = .int .i64 d ∧ e 2 = .int .i64 t ∧ e 7 = .int .i64 us.length) ?_ L1.length _ _ ⟨[], L1, rfl, rfl, rfl, by simp, by simp, by simp, by simp, by simp⟩
  rintro n ih e h' ⟨us, vs, rfl, rfl, hU, hle, e0, e1, e2, e7⟩
  have out : ∀ e, (∀ y ∈ vs, t < y.at') → e 0 = ptr w 0 → e 1 = .int .i64 d → e 2 = .int .i64 t → e 7 = .int .i64 us.length → G T (fin [.t 6] (some []) h.next q) c2_pianolaref9_Wheel_Arm [] e h' := by
    clear ih e0 e1 e2 e7 e
    intro e hgt e0 e1 e2 e7
    have hlu : us.length ≤ L1.length := by rw [hU]; simp
    obtain ⟨a1, k1, p1, q1, s1⟩ := hsee.part (lo := 0) (hi := us.length) (l := none) (u := some (.int .i64 us.length)) (by omega) (by omega) hc (.inl ⟨rfl, rfl⟩) (.inr ⟨_, rfl⟩)
    obtain ⟨a2, k2, p2, q2, s2⟩ := hsee.part (lo := us.length) (hi := L1.length) (l := some (.int .i64 us.length)) (u := none) (by omega) (by omega) hc (.inr ⟨.i64, rfl⟩) (.inl ⟨rfl, rfl⟩)
    have hA1 : (L1.drop 0).take (us.length - 0) = us := by rw [hU]; simp
    have hA2 : (L1.drop us.length).take (L1.length - us.length) = vs := by
      rw [hU, List.drop_left, List.length_append, Nat.add_sub_cancel_left, List.take_length]
    have hvl : L1.length - us.length = vs.length := by rw [hU]; simp
    rw [hA1] at s1
    rw [hA2] at s2
    have p1' : sliceV 3 (.slice a L1.length c) none (some (.int .i64 us.length)) none = some (.slice a1 us.length k1) := p1
    have p2' : sliceV 3 (.slice a L1.length c) (some (.int .i64 us.length)) none none = some (.slice a2 vs.length k2) := by rw [← hvl]; exact p2
    have K1 : Kp h' ((h'.adv 2).put h'.next (some (.cells false []))) := ((Kp.refl h').adv 2).put (Nat.le_refl _) _
    have n1 : ((h'.adv 2).put h'.next (some (.cells false []))).next = h'.next + 2 := rfl
    have Oe : Own encEv ((h'.adv 2).put h'.next (some (.cells false []))) (.slice (some ⟨h'.next, 0, none⟩) 0 0) [] [h'.next] := .emp (get_put_self (by simp))
    have gA : ((h'.adv 2).put h'.next (some (.cells false []))).get w = some (.cells false [.slice a L1.length c, .int .i64 s]) := by rw [K1.get w hw1, g1]
    simp (disch := first | assumption | ((try simp only [push_next, put_next, adv_next, List.length_cons, List.length_nil]); omega) | simp) [e0, e7, g1, p1']
    generalize (h'.adv 2).put h'.next (some (.cells false [])) = hA at *
    refine GVI_app (E := encEv) Oe (s1.kp K1) rfl (by simp; omega) (by simp; omega) fun v2 h2 fp2 O2 U2 => ?_
    have K2 : Kp h' h2 := U2.kp' K1 (by simp)
    have n2 : h'.next + 2 ≤ h2.next := by have := U2.le; omega
    have g2 : h2.get w = some (.cells false [.slice a L1.length c, .int .i64 s]) := by rw [K2.get w hw1, g1]
    have hfp2 : ∀ b ∈ fp2, b = h'.next ∨ h'.next + 2 ≤ b := fun b hb => by
      rcases U2.sub b hb with h5 | h5
      · simp at h5; omega
      · omega
    simp (disch := first | assumption | ((try simp only [push_next, put_next, adv_next, List.length_cons, List.length_nil]); omega) | simp) [e0, e1, e2, e7, g2]
    have K3 : Kp h' (h2.put (h'.next + 1) (some (.cells false [.int .i64 t, .int .i64 d, .int .i64 s]))) := K2.put (by omega) _
    have O3 : Own encEv (h2.put (h'.next + 1) (some (.cells false [.int .i64 t, .int .i64 d, .int .i64 s]))) v2 ([] ++ us) fp2 := O2.keep fun b hb => get_put_ne (by have := hfp2 b hb; omega)
    have S3 : Sees encEv (h2.put (h'.next + 1) (some (.cells false [.int .i64 t, .int .i64 d, .int .i64 s]))) (some ⟨h'.next + 1, 0, none⟩) [(⟨t, d, s⟩ : Ev)] := ⟨fun hA => (by cases hA), fun A hA => by
      cases hA
      simp [Hp.rdn, get_put_self (show h'.next + 1 < h2.next by omega), encEv], fun A hA => by cases hA; exact .inl rfl⟩
    have g3 : (h2.put (h'.next + 1) (some (.cells false [.int .i64 t, .int .i64 d, .int .i64 s]))).get w = some (.cells false [.slice a L1.length c, .int .i64 s]) := by rw [K3.get w hw1, g1]
    generalize h2.put (h'.next + 1) (some (.cells false [.int .i64 t, .int .i64 d, .int .i64 s])) = h3 at *
    refine GVI_app (E := encEv) O3 S3 rfl (by simp; omega) (by simp; omega) fun v4 h4 fp4 O4 U4 => ?_
    have K4 : Kp h' h4 := U4.kp' K3 fun b hb => by have := hfp2 b hb; omega
    have g4 : h4.get w = some (.cells false [.slice a L1.length c, .int .i64 s]) := by rw [K4.get w hw1, g1]
    have hfp4 : ∀ b ∈ fp4, h'.next ≤ b := fun b hb => by
      rcases U4.sub b hb with h5 | h5
      · have := hfp2 b h5; omega
      · have := K3.le; omega
    simp (disch := first | assumption | ((try simp only [push_next, put_next, adv_next, List.length_cons, List.length_nil]); omega) | simp) [e0, e1, e2, e7, g4, p2']
    refine GVI_app (E := encEv) O4 (s2.kp K4) rfl (by simp; omega) (by simp; omega) fun v5 h5 fp5 O5 U5 => ?_
    have K5 : Kp h' h5 := U5.kp' K4 hfp4
    have g5 : h5.get w = some (.cells false [.slice a L1.length c, .int .i64 s]) := by rw [K5.get w hw1, g1]
    have hfp5 : ∀ b ∈ fp5, h'.next ≤ b := fun b hb => by
      rcases U5.sub b hb with h6 | h6
      · exact hfp4 b h6
      · have := K4.le; omega
    have hlt5 := lt_of_get g5
    obtain ⟨a5, k5, hv5, _, _, _⟩ := O5.len
    have hone : one v5 = true := by rw [hv5]; rfl
    simp (disch := first | assumption | ((try simp only [push_next, put_next, adv_next, List.length_cons, List.length_nil]); omega) | simp) [e0, g5, hone]
    have hwf : w ∉ fp5 := fun hm => by have := hfp5 w hm; omega
    have hres : insl (·.at') (⟨t, d, s⟩ : Ev) L1 = [] ++ us ++ [⟨t, d, s⟩] ++ vs := by rw [hU, insl_split (fun e : Ev => e.at') (x := ⟨t, d, s⟩) hle hgt]; simp
    refine hy _ fp5 ⟨⟨v5, ?_, ?_⟩, hwf⟩ ⟨?_, fun b hb hm => ?_, fun b hb => ?_⟩
    · rw [get_put_self hlt5]
    · rw [hres]
      exact O5.keep fun b hb => get_put_ne fun e => hwf (e ▸ hb)
    · have h6 := U1.le
      have h7 := K5.le
      simp
      omega
    · have hb' := hm
      simp at hm
      have h6 := U1.le
      rw [get_put_ne hm.1, K5.get b (by omega), U1.get b hb hb']
    · have h6 := U1.le
      rcases List.mem_cons.1 hb with rfl | hb
      · exact .inl (by simp)
      · have := hfp5 b hb
        exact .inr (by omega)
  cases vs with
  | nil =>
    have hll : (us.length : Int) = L1.length := by rw [hU]; simp
    simp (disch := first | assumption | ((try simp only [push_next, put_next, adv_next, List.length_cons, List.length_nil]); omega) | simp) [e0, e7, g1, hll, -g2_pianolaref9_Wheel_Arm]
    exact out _ (by simp) (by simp [e0]) (by simp [e1]) (by simp [e2]) (by simp [e7])
  | cons x vs =>
    have hlt' : (us.length : Int) < L1.length := by rw [hU]; simp; omega
    have hun : (us.length : Int) + 1 < 2 ^ 40 := by omega
    obtain ⟨A, hA, hr⟩ := Sees.mid (A := us) (x := x) (B := vs) (by rw [← hU]; exact hsee)
    obtain ⟨ro, C, hg, hC⟩ := rdn_cells hr
    have hC0 := hC 0 (by simp)
    simp [encEv] at hC0
    by_cases hx : x.at' ≤ t
    · simp (disch := first | assumption | ((try simp only [push_next, put_next, adv_next, List.length_cons, List.length_nil]); omega) | simp) [e0, e1, e2, e7, g1, hlt', hA, hg, hC0, hx, -g2_pianolaref9_Wheel_Arm]
      apply ih vs.length (by simp)
      refine ⟨us ++ [x], vs, rfl, rfl, by simp [hU], fun y hy => ?_, by simp [e0], by simp [e1], by simp [e2], by simp⟩
      rcases List.mem_append.1 hy with hy | hy
      · exact hle y hy
      · simp at hy; rw [hy]; exact hx
    · simp (disch := first | assumption | ((try simp only [push_next, put_next, adv_next, List.length_cons, List.length_nil]); omega) | simp) [e0, e1, e2, e7, g1, hlt', hA, hg, hC0, hx, -g2_pianolaref9_Wheel_Arm]
      refine out _ (fun y hy => ?_) (by simp [e0]) (by simp [e1]) (by simp [e2]) (by simp [e7])
      have h6 := hsc
      rw [hU] at h6
      have h7 := (List.pairwise_append.1 h6).2.1
      rcases List.mem_cons.1 hy with rfl | hy
      · omega
      · have := (List.pairwise_cons.1 h7).1 y hy
        simp at this
        omega
end
end Go.Proofs.Ytppgoobhlcdbbaa.Cd
