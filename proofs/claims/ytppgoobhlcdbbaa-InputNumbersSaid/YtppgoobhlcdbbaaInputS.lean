/- The document's own order of the plan. -/
import Derived.Test.YtppgoobhlcdbbaaRoomKey
set_option maxRecDepth 1000000
set_option linter.unusedSimpArgs false
set_option linter.unusedVariables false
namespace Go.Proofs.Ytppgoobhlcdbbaa.Cd
open Go Go.Dx
section
variable {g h : Hp} {a a1 : Option Addr} {c c1 : Nat} {L S : List Key} {q : Value → Hp → Prop}
theorem kp_adv {g h : Hp} (K : Kp g h) (n : Nat) : Kp g (h.adv n) := ⟨Nat.le_trans K.le (Nat.le_add_right _ _), fun b hb => K.get b hb⟩
theorem back_loop {e : Env} {Q : Ex → Env → Hp → Prop} {k : List Fr} {i : Nat} {x : Key} (hs : Sees encKey h a L) (hx : L[i]? = some x) (hS : Sees encKey h a1 S) (sS : Srt (·.at') S) (hb : S.length < 2 ^ 40)
    (h0 : e 0 = .slice a L.length c) (h3 : e 3 = .slice a1 S.length c1) (h4 : e 4 = .int .i64 i) (h5 : e 5 = .int .i64 S.length)
    (hR : ∀ e' k', (∀ t, t ≤ 4 → e' t = e t) → e' 5 = .int .i64 (k' : Nat) → k' ≤ S.length → insl (·.at') x S = S.take k' ++ x :: S.drop k' → GR T Q k (.x 2) e' h) : G T Q (.loop c0_pianolalaw24_sorted) k e h := by
  have hi : i < L.length := (List.getElem?_eq_some_iff.1 hx).1
  refine G_loop (fun m e' h' => m ≤ S.length ∧ h' = h ∧ (∀ t, t ≤ 4 → e' t = e t) ∧ e' 5 = .int .i64 m ∧ ∀ y ∈ S.drop m, x.at' < y.at') ?_ S.length e h ⟨Nat.le_refl _, rfl, fun _ _ => rfl, h5, by simp⟩
  rintro m ih e' h' ⟨hm, rfl, he, e5, hd⟩
  have e0 := (he 0 (by omega)).trans h0
  have e3 := (he 3 (by omega)).trans h3
  have e4 := (he 4 (by omega)).trans h4
  have out : (0 < m → ∀ y, S[m - 1]? = some y → y.at' ≤ x.at') → insl (·.at') x S = S.take m ++ x :: S.drop m := fun hh => by
    have := insl_split (·.at') (x := x) (p := S.take m) (q := S.drop m) (srt_take (key := (·.at')) sS (t := x.at') hm hh) hd
    rwa [List.take_append_drop] at this
  cases m with
  | zero =>
    simp (disch := first | assumption | ((try simp only [push_next, put_next, adv_next, List.length_cons, List.length_nil]); omega) | simp) [e0, e3, e4, e5]
    exact hR _ 0 (fun t ht => by repeat rw [upd_ne _ (by omega)]
                                 exact he t ht) (by simp [e5]) hm (out (by omega))
  | succ m =>
    obtain ⟨A, rfl, hr⟩ := hs.at' i hi
    obtain ⟨ro, C, gA, hC⟩ := rdn_cells hr
    have c0 : C[A.off + i * 2]? = some (.int .i64 x.at') := by
      have := hC 0 (by simp)
      rw [List.getElem?_eq_getElem hi] at hx
      cases hx
      exact this
    obtain ⟨A1, rfl, hr1⟩ := hS.at' m (by omega)
    obtain ⟨ro1, C1, gA1, hC1⟩ := rdn_cells hr1
    have hy : S[m]? = some S[m] := List.getElem?_eq_getElem (by omega)
    have c1' : C1[A1.off + m * 2]? = some (.int .i64 S[m].at') := hC1 0 (by simp)
    have hmS : m < S.length := by omega
    generalize S[m] = y at hy c1'
    have e5' : e' 5 = .int .i64 ((m : Int) + 1) := by rw [e5]; rfl
    have gt : (0 : Int) < (m : Int) + 1 := by omega
    clear e5
    by_cases t : x.at' < y.at'
    · simp (disch := first | assumption | ((try simp only [push_next, put_next, adv_next, List.length_cons, List.length_nil]); omega) | simp) [e0, e3, e4, e5', gt, gA, gA1, c0, c1', hi, hmS, t]
      refine ih m (by omega) _ _ ⟨by omega, rfl, fun t ht => ?_, by simp, fun z hz => ?_⟩
      · repeat rw [upd_ne _ (by omega)]
        exact he t ht
      · have := List.getElem?_eq_some_iff.1 hy
        rw [List.drop_eq_getElem_cons hmS] at hz
        rcases List.mem_cons.1 hz with hz | hz
        · rw [hz, this.2]; exact t
        · exact hd z hz
    · simp (disch := first | assumption | ((try simp only [push_next, put_next, adv_next, List.length_cons, List.length_nil]); omega) | simp) [e0, e3, e4, e5', gt, gA, gA1, c0, c1', hi, hmS, t]
      exact hR _ (m + 1) (fun t ht => by repeat rw [upd_ne _ (by omega)]
                                         exact he t ht) (by simp [e5']) hm (out fun _ z hz => by
        rw [Nat.add_sub_cancel, hy] at hz
        cases hz
        omega)
theorem isorted (hs : Sees encKey g a L) (hq : ∀ a' c' h', Sees encKey h' a' (isort (·.at') (L.take 256)) → (isort (·.at') (L.take 256)).length ≤ c' → Kp g h' → (∀ A, a' = some A → g.next ≤ A.block) → q (.slice a' (isort (·.at') (L.take 256)).length c') h') : WC T n_pianolalaw24_sorted [.slice a L.length c] g q := by
  rw [w_pianolalaw24_sorted]
  simp (disch := first | assumption | ((try simp only [push_next, put_next, adv_next, List.length_cons, List.length_nil]); omega) | simp) [-g2_pianolalaw24_sorted]
  refine G_loop (fun m e h => ∃ (i : Nat) (a1 : Option Addr) (c1 : Nat) (S : List Key), m = 256 - i ∧ i ≤ 256 ∧ i ≤ L.length ∧ S = isort (·.at') (L.take i) ∧ S.length = i ∧ Sees encKey h a1 S ∧ S.length ≤ c1 ∧ Kp g h ∧ (∀ A, a1 = some A → g.next ≤ A.block) ∧ e 0 = .slice a L.length c ∧ e 3 = .slice a1 S.length c1 ∧ e 4 = .int .i64 i) ?_ 256 _ _
    ⟨0, none, 0, [], rfl, by omega, by omega, rfl, rfl, Sees.nul, by simp, .refl _, fun A hA => (by cases hA), by simp, by simp, by simp⟩
  rintro m ih e h ⟨i, a1, c1, S, rfl, hi, hiL, hSe, hSl, hS, hc1, K, hA1, e0, e3, e4⟩
  have fin : i = min L.length 256 → q (.slice a1 S.length c1) h := fun hh => by
    have : L.take 256 = L.take i := by
      rcases Nat.lt_or_ge L.length 256 with h1 | h1
      · rw [List.take_of_length_le (by omega), List.take_of_length_le (by omega)]
      · rw [hh, Nat.min_eq_right h1]
    rw [this, ← hSe] at hq
    exact hq a1 c1 h hS hc1 K hA1
  by_cases t1 : i < L.length
  · by_cases t2 : i < 256
    · have t2' : (i : Int) < 256 := by omega
      have hx : L[i]? = some L[i] := List.getElem?_eq_getElem t1
      generalize L[i] = x at hx
      simp (disch := first | assumption | ((try simp only [push_next, put_next, adv_next, List.length_cons, List.length_nil]); omega) | simp) [e0, e3, e4, t1, t2', -g0_pianolalaw24_sorted]
      refine back_loop (a := a) (c := c) (L := L) (a1 := a1) (c1 := c1) (S := S) (i := i) (x := x) (hs.kp K) hx hS (by rw [hSe]; exact srt_isort _ _) (by omega) (by simp [e0]) (by simp [e3]) (by simp [e4]) (by simp) ?_
      intro e1 k he f5 hk hins
      have f0 := he 0 (by omega)
      have f3 := he 3 (by omega)
      have f4 := he 4 (by omega)
      simp [e0, e3, e4] at f0 f3 f4
      obtain ⟨A, rfl, hr⟩ := (hs.kp K).at' i t1
      have hr' : h.rdn A.block (A.off + i * 2) 2 = some (encKey.enc x) := by
        rw [List.getElem?_eq_getElem t1] at hx
        cases hx
        exact hr
      clear hr
      have hr2 : (h.adv 2).rdn A.block (A.off + i * 2) 2 = some (encKey.enc x) := hr'
      obtain ⟨a3, c3, hsl1, hc3, s3⟩ := hS.part (c := c1) (lo := 0) (hi := k) (by omega) hk hc1 (l := none) (u := some (.int .i64 k)) (.inl ⟨rfl, rfl⟩) (.inr ⟨_, rfl⟩)
      obtain ⟨a4, c4, hsl2, hc4, s4⟩ := hS.part (c := c1) (lo := k) (hi := S.length) hk (Nat.le_refl _) hc1 (l := some (.int .i64 k)) (u := none) (.inr ⟨_, rfl⟩) (.inl ⟨rfl, rfl⟩)
      simp at hsl1 s3
      simp at hsl2
      rw [List.take_of_length_le (by simp)] at s4
      have K1 : Kp h ((h.adv 2).put h.next (some (.cells false []))) := (Kp.adv (.refl h) 2).put (Nat.le_refl _) _
      have o1 : Own encKey ((h.adv 2).put h.next (some (.cells false []))) (.slice (some ⟨h.next, 0, none⟩) 0 0) [] [h.next] := .emp (get_put_self (show h.next < h.next + 2 by omega))
      have n1 : ((h.adv 2).put h.next (some (.cells false []))).next = h.next + 2 := rfl
      simp (disch := first | assumption | ((try simp only [push_next, put_next, adv_next, List.length_cons, List.length_nil]); omega) | simp) [f0, f3, f4, f5, t1, hr2, hsl1]
      generalize (h.adv 2).put h.next (some (.cells false [])) = h1 at *
      refine GVI_app (E := encKey) o1 (s3.kp K1) (by simp; omega) (by simp; omega) (by simp; omega) fun v1 h2 fp1 O1 U1 => ?_
      have K2 := U1.kp' K1 (by simp)
      have hr3 : h2.rdn A.block (A.off + i * 2) 2 = some (encKey.enc x) := rdn_kp hr' (K2.get _ (lt_of_rdn hr'))
      have hvq : veq (.agg (encKey.enc x).toArray) (.agg (encKey.enc x).toArray) = true := by simp [veq, veqF, veqL, encKey, u8]
      have n2 := U1.le
      have hel : (encKey.enc x).length = 2 := rfl
      have hl : h.next + 1 < h2.next := by omega
      have hf1 : ∀ b ∈ fp1, h.next ≤ b ∧ b ≠ h.next + 1 := fun b hb => by
        rcases U1.sub b hb with h7 | h7
        · simp at h7; omega
        · omega
      have K3 : Kp h (h2.put (h.next + 1) (some (.cells false (encKey.enc x)))) := K2.put (by omega) _
      have O2 : Own encKey (h2.put (h.next + 1) (some (.cells false (encKey.enc x)))) v1 ([] ++ S.take k) fp1 := O1.keep fun b hb => get_put_ne (hf1 b hb).2
      have sx : Sees encKey (h2.put (h.next + 1) (some (.cells false (encKey.enc x)))) (some ⟨h.next + 1, 0, none⟩) [x] := by
        refine ⟨fun hA => (by cases hA), fun B hB => ?_, fun B hB => (by cases hB; exact .inl rfl)⟩
        cases hB
        simp [Hp.rdn, get_put_self hl, encKey]
      simp (disch := first | assumption | ((try simp only [push_next, put_next, adv_next, List.length_cons, List.length_nil]); omega) | simp) [hr3, hvq, hel]
      generalize h2.put (h.next + 1) (some (.cells false (encKey.enc x))) = h3 at *
      refine GVI_app (E := encKey) O2 sx (by simp) (by simp; omega) (by simp; omega) fun v2 h4 fp2 O3 U2 => ?_
      have K4 := U2.kp' K3 (fun b hb => (hf1 b hb).1)
      have hf2 : ∀ b ∈ fp2, h.next ≤ b := fun b hb => by
        rcases U2.sub b hb with h7 | h7
        · exact (hf1 b h7).1
        · have := K3.le; omega
      simp (disch := first | assumption | ((try simp only [push_next, put_next, adv_next, List.length_cons, List.length_nil]); omega) | simp) [f3, f5, hsl2]
      refine GVI_app (E := encKey) O3 (s4.kp K4) (by simp) (by simp; omega) (by simp; omega) fun v3 h5 fp3 O4 U3 => ?_
      have K5 := U3.kp' K4 hf2
      obtain ⟨a5, c5, rfl, s5, hc5, hA5⟩ := O4.len
      have hnew : [] ++ S.take k ++ [x] ++ S.drop k = isort (·.at') (L.take (i + 1)) := by
        rw [List.take_add_one, hx]
        simp only [Option.toList_some]
        rw [isort_snoc, ← hSe, hins]
        simp
      rw [hnew] at s5 hc5
      have hnl : (isort (·.at') (L.take (i + 1))).length = i + 1 := by simp; omega
      simp (disch := first | assumption | ((try simp only [push_next, put_next, adv_next, List.length_cons, List.length_nil]); omega) | simp) [f0, f4]
      apply ih (256 - (i + 1)) (by omega)
      refine ⟨i + 1, a5, c5, _, rfl, by omega, by omega, rfl, hnl, s5, hc5, K.trans K5, fun B hB => ?_, by simp [f0], ?_, by simp⟩
      · have h9 := hA5 B hB
        rcases U3.sub _ h9 with h7 | h7
        · exact Nat.le_trans K.le (hf2 _ h7)
        · have := K4.le; have := K.le; omega
      have hnn := congrArg List.length hnew
      rw [hnl] at hnn
      simp at hnn
      simp [hnl]
      omega
    · have t2' : ¬ (i : Int) < 256 := by omega
      simp (disch := first | assumption | ((try simp only [push_next, put_next, adv_next, List.length_cons, List.length_nil]); omega) | simp) [e0, e3, e4, t1, t2']
      exact fin (by omega)
  · simp (disch := first | assumption | ((try simp only [push_next, put_next, adv_next, List.length_cons, List.length_nil]); omega) | simp) [e0, e3, e4, t1]
    exact fin (by omega)
end
end Go.Proofs.Ytppgoobhlcdbbaa.Cd
