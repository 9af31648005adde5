/- Bytes taken time by time are those taken at once. -/
import Derived.Test.YtppgoobhlcdbbaaInputL
set_option maxRecDepth 1000000
set_option linter.unusedSimpArgs false
set_option linter.unusedVariables false
namespace Go.Proofs.Ytppgoobhlcdbbaa.Cd
open Go Go.Dx
def encI : Enc Int := ⟨1, fun n => [.int .i64 n], fun _ => rfl, fun _ => rfl, by decide⟩
@[simp] theorem encI_sz : encI.sz = 1 := rfl
theorem mod100 (x : Int) : -100 < x.tmod 100 ∧ x.tmod 100 < 100 ∧ 0 ≤ (x.tmod 100 + 100).tmod 100 ∧ (x.tmod 100 + 100).tmod 100 < 100 := by
  have h1 := Int.tmod_lt_of_pos x (show (0 : Int) < 100 by omega)
  have h2 : -100 < x.tmod 100 := by
    have := Int.tmod_lt_of_pos (-x) (show (0 : Int) < 100 by omega)
    rw [Int.neg_tmod] at this
    omega
  have h3 := Int.tmod_nonneg 100 (show 0 ≤ x.tmod 100 + 100 by omega)
  have h4 := Int.tmod_lt_of_pos (x.tmod 100 + 100) (show (0 : Int) < 100 by omega)
  exact ⟨h2, h1, h3, h4⟩
theorem tw_ex (P : Key → Bool) (L : List Key) : ∃ l r, L = l ++ r ∧ (∀ x ∈ l, P x = true) ∧ (∀ x, r.head? = some x → P x = false) := by
  induction L with
  | nil => exact ⟨[], [], rfl, by simp, by simp⟩
  | cons x L ih =>
    obtain ⟨l, r, h1, h2, h3⟩ := ih
    cases hx : P x with
    | true =>
      refine ⟨x :: l, r, by rw [h1]; rfl, fun y hy => ?_, h3⟩
      rcases List.mem_cons.1 hy with rfl | hy
      · exact hx
      · exact h2 y hy
    | false => exact ⟨[], x :: L, rfl, by simp, fun y hy => by simp at hy; subst hy; exact hx⟩
section
variable {g h : Hp} {a a1 : Option Addr} {c c1 : Nat} {xs : List Key} {ns : List Int}
theorem near_loop {e : Env} {Q : Ex → Env → Hp → Prop} {k : List Fr} (hs : Sees encKey g a xs) (h0 : e 0 = .slice a xs.length c) (h5 : e 5 = .slice none 0 0) (h6 : e 6 = .int .i64 0)
    (hR : ∀ e' h' (M : List Key) v fp, (∀ t, t ≤ 4 → e' t = e t) → e' 5 = v → Own encKey h' v M fp → Kp g h' → (∀ x ∈ M, x.at' ≤ 100) → M.length ≤ 30 → GR T Q k (.x 0) e' h') : G T Q (.loop c1_pianolalaw24_InputParts) k e g := by
  refine G_loop (fun m e' h => ∃ (i : Nat) (M : List Key) (v : Value) (fp : List Nat), m = 30 - i ∧ i ≤ 30 ∧ M.length = i ∧ i ≤ xs.length ∧ (∀ x ∈ M, x.at' ≤ 100) ∧ Own encKey h v M fp ∧ (∀ b ∈ fp, g.next ≤ b) ∧ Kp g h ∧ (∀ t, t ≤ 4 → e' t = e t) ∧ e' 5 = v ∧ e' 6 = .int .i64 i) ?_ 30 _ _
    ⟨0, [], _, [], rfl, by omega, rfl, by omega, by simp, .nul, by simp, .refl _, fun _ _ => rfl, h5, h6⟩
  rintro m ih e' h ⟨i, M, v, fp, rfl, hi, hM, hix, hl, O, hf, K, he, e5, e6⟩
  have e0 := (he 0 (by omega)).trans h0
  by_cases t1 : i < xs.length
  · by_cases t2 : i < 30
    · obtain ⟨A, rfl, hr⟩ := hs.at' i t1
      have hri := rdn_kp hr (K.get _ (lt_of_rdn hr))
      obtain ⟨ro, C, hg, hC⟩ := rdn_cells hri
      have c0 : C[A.off + i * 2]? = some (.int .i64 xs[i].at') := hC 0 (by simp)
      have c1 : C[A.off + i * 2 + 1]? = some (u8 xs[i].b) := hC 1 (by simp)
      obtain ⟨m1, m2, m3, m4⟩ := mod100 xs[i].at'
      have t2' : (i : Int) < 30 := by omega
      simp (disch := first | assumption | ((try simp only [push_next, put_next, adv_next, List.length_cons, List.length_nil]); omega) | simp) [e0, e5, e6, t1, t2', hg, c0, c1]
      refine GVI_app1 (E := encKey) (x := ⟨(xs[i].at'.tmod 100 + 100).tmod 100, xs[i].b⟩) O (by omega) (by omega) fun v' h' fp' O' U' => ?_
      simp (disch := first | assumption | ((try simp only [push_next, put_next, adv_next, List.length_cons, List.length_nil]); omega) | simp) [e6]
      apply ih (30 - (i + 1)) (by omega)
      refine ⟨i + 1, _, v', fp', rfl, by omega, by simp [hM], by omega, fun x hx => ?_, O', fun b hb => ?_, U'.kp' K hf, fun t ht => ?_, by simp, by simp⟩
      · rcases List.mem_append.1 hx with hx | hx
        · exact hl x hx
        · simp at hx
          subst hx
          simp only []
          omega
      · rcases U'.sub b hb with h7 | h7
        · exact hf b h7
        · exact Nat.le_trans K.le h7
      · repeat rw [upd_ne _ (by omega)]
        exact he t ht
    · have t2' : ¬ (i : Int) < 30 := by omega
      simp (disch := first | assumption | ((try simp only [push_next, put_next, adv_next, List.length_cons, List.length_nil]); omega) | simp) [e0, e5, e6, t1, t2']
      exact hR _ _ M v fp (fun t ht => by repeat rw [upd_ne _ (by omega)]
                                          exact he t ht) (by simp [e5]) O K hl (by omega)
  · simp (disch := first | assumption | ((try simp only [push_next, put_next, adv_next, List.length_cons, List.length_nil]); omega) | simp) [e0, e5, e6, t1]
    exact hR _ _ M v fp (fun t ht => by repeat rw [upd_ne _ (by omega)]
                                        exact he t ht) (by simp [e5]) O K hl (by omega)
theorem parts_loop {h0 : Hp} {p p2 : Nat} {S : List Key} {fp fq : List Nat} {e : Env} {Q : Ex → Env → Hp → Prop} {k : List Fr} (hs : Sees encI g a1 ns) (K0 : Kp g h0) (hS : S.length ≤ 30) (hfp : ∀ b ∈ fp, g.next ≤ b ∧ b < h0.next) (hfq : ∀ b ∈ fq, b < h0.next ∧ b ≠ p) (hp : p ∈ fp)
    (P : PL h0 p S fp) (P2 : PL h0 p2 S fq) (e1 : e 1 = .slice a1 ns.length c1) (e7 : e 7 = ptr p 0) (e8 : e 8 = ptr p2 0) (e9 : e 9 = .slice none 0 0) (e10 : e 10 = .int .i64 0) (e11 : e 11 = .int .i64 0)
    (hR : ∀ e' h' D R v fo, D ++ R = S → Own encB8 h' v (D.map (·.b)) fo → (∀ b ∈ fo, h0.next ≤ b) → PL h' p R fp → PL h' p2 S fq → h0.next ≤ h'.next → e' 7 = ptr p 0 → e' 8 = ptr p2 0 → e' 9 = v → GR T Q k (.x 2) e' h') : G T Q (.loop c4_pianolalaw24_InputParts) k e h0 := by
  refine G_loop (fun m e h => ∃ (i : Nat) (D R : List Key) (v : Value) (fo : List Nat) (now : Int), m = 20 - i ∧ i ≤ 20 ∧ D ++ R = S ∧ Own encB8 h v (D.map (·.b)) fo ∧ (∀ b ∈ fo, h0.next ≤ b) ∧ PL h p R fp ∧ PL h p2 S fq ∧ h0.next ≤ h.next ∧ Kp g h ∧ e 1 = .slice a1 ns.length c1 ∧ e 7 = ptr p 0 ∧ e 8 = ptr p2 0 ∧ e 9 = v ∧ e 10 = .int .i64 now ∧ e 11 = .int .i64 i) ?_ 20 _ _
    ⟨0, [], S, _, [], 0, rfl, by omega, rfl, by simpa using Own.nul, by simp, P, P2, Nat.le_refl _, K0, e1, e7, e8, e9, e10, e11⟩
  clear e1 e7 e8 e9 e10 e11
  rintro m ih e h ⟨i, D, R, v, fo, now, rfl, hi, hDR, O, hfo, P', P2', hle, K, e1, e7, e8, e9, e10, e11⟩
  have fin : ∀ e', e' 7 = ptr p 0 → e' 8 = ptr p2 0 → e' 9 = v → GR T Q k (.x 2) e' h := fun e' f7 f8 f9 => hR e' h D R v fo hDR O hfo P' P2' hle f7 f8 f9
  by_cases t1 : i < ns.length
  · by_cases t2 : i < 20
    · have t2' : (i : Int) < 20 := by omega
      obtain ⟨A, rfl, hr⟩ := hs.at' i t1
      have hri := rdn_kp hr (K.get _ (lt_of_rdn hr))
      obtain ⟨ro, C, hg, hC⟩ := rdn_cells hri
      have c0 : C[A.off + i]? = some (.int .i64 ns[i]) := by simpa [encI] using hC 0 (by simp)
      obtain ⟨m1, m2, m3, m4⟩ := mod100 ns[i]
      have hmx : ∃ w, (if (ns[i].tmod 100 + 100).tmod 100 > now then (ns[i].tmod 100 + 100).tmod 100 else now) = w := ⟨_, rfl⟩
      obtain ⟨w, hw⟩ := hmx
      have hw' : (if now < (ns[i].tmod 100 + 100).tmod 100 then (ns[i].tmod 100 + 100).tmod 100 else now) = w := hw
      have hRl : R.length ≤ 30 := by rw [← hDR] at hS; simp at hS; omega
      have hDl : D.length + R.length ≤ 30 := by rw [← hDR] at hS; simpa using hS
      simp (disch := first | assumption | ((try simp only [push_next, put_next, adv_next, List.length_cons, List.length_nil]); omega) | simp) [e1, e7, e10, e11, e9, t1, t2', hg, c0, hw']
      refine GC_intro (itake P' (by omega) (fun b hb => Nat.lt_of_lt_of_le (hfp b hb).2 hle) fun v1 h1 f1 O1 hf1 Q1 U1 => ?_) fun v h2 hh => hh
      obtain ⟨l, r, rfl, hl, hr'⟩ := tw_ex (fun x => decide (x.at' ≤ w)) R
      obtain ⟨w1, w2⟩ := tw_eq hl hr'
      rw [w1] at O1
      rw [w2] at Q1
      have w3 := tw_eq (P := fun x => decide (x.at' ≤ w)) (l := []) (r := r) (by simp) hr'
      simp only [List.nil_append] at w3
      obtain ⟨a2, c2, rfl, s2, -, -⟩ := O1.len
      have hpl := P'.lt
      have hp0 := (hfp p hp)
      have O2 : Own encB8 h1 v (D.map (·.b)) fo := O.keep fun b hb => U1.get b (O.live b hb) (by have := hfo b hb; simp; omega)
      simp at hRl hDl
      simp (disch := first | assumption | ((try simp only [push_next, put_next, adv_next, List.length_cons, List.length_nil]); omega) | simp) [e7, e9]
      refine GV_app (E := encB8) O2 s2 (by simp) (by simp; omega) (by simp; omega) fun v2 h2 fo2 O3 U2 => ?_
      have hfpn : ∀ b ∈ fp, h2.get b = h1.get b := fun b hb => U2.get b (by have := (hfp b hb).2; have := U1.le; omega) fun hh => by have := hfo b hh; have := (hfp b hb).2; omega
      have Q2 := Q1.keep hfpn
      simp (disch := first | assumption | ((try simp only [push_next, put_next, adv_next, List.length_cons, List.length_nil]); omega) | simp) [e7]
      refine GC_intro (itake Q2 (by simp; omega) (fun b hb => by have := (hfp b hb).2; have := U1.le; have := U2.le; omega) fun v3 h3 f3 O4 hf3 Q3 U3 => ?_) fun v h2 hh => hh
      rw [w3.1] at O4
      rw [w3.2] at Q3
      obtain ⟨a4, c4, rfl, s4, -, -⟩ := O4.len
      have hfo2 : ∀ b ∈ fo2, h0.next ≤ b := fun b hb => by
        rcases U2.sub b hb with h5 | h5
        · exact hfo b h5
        · have := U1.le; omega
      simp (disch := first | assumption | ((try simp only [push_next, put_next, adv_next, List.length_cons, List.length_nil]); omega) | simp) [e11]
      apply ih (20 - (i + 1)) (by omega)
      refine ⟨i + 1, D ++ l, r, v2, fo2, w, rfl, by omega, by rw [← hDR]; simp, ?_, hfo2, Q3, ?_, by have := U1.le; have := U2.le; have := U3.le; omega, ?_, by simp [e1], by simp [e7], by simp [e8], by simp, by simp, by simp⟩
      · rw [List.map_append]
        exact O3.keep fun b hb => U3.get b (O3.live b hb) (by have := hfo2 b hb; simp; omega)
      · refine P2'.keep fun b hb => ?_
        obtain ⟨q1, q2⟩ := hfq b hb
        rw [U3.get b (by have := U1.le; have := U2.le; omega) (by simpa using q2), U2.get b (by have := U1.le; omega) (fun hh => by have := hfo b hh; omega), U1.get b (by omega) (by simpa using q2)]
      · have k1 := U1.kp' K (by simpa using hp0.1)
        have k2 := U2.kp' k1 (fun b hb => Nat.le_trans K0.le (hfo b hb))
        exact U3.kp' k2 (by simpa using hp0.1)
    · have t2' : ¬ (i : Int) < 20 := by omega
      simp (disch := first | assumption | ((try simp only [push_next, put_next, adv_next, List.length_cons, List.length_nil]); omega) | simp) [e1, e11, t1, t2']
      exact fin _ (by simp [e7]) (by simp [e8]) (by simp [e9])
  · simp (disch := first | assumption | ((try simp only [push_next, put_next, adv_next, List.length_cons, List.length_nil]); omega) | simp) [e1, e11, t1]
    exact fin _ (by simp [e7]) (by simp [e8]) (by simp [e9])
theorem tw_all {P : Key → Bool} {l : List Key} (h1 : ∀ x ∈ l, P x = true) : l.takeWhile P = l ∧ l.dropWhile P = [] := by
  have := tw_eq (P := P) (l := l) (r := []) h1 (by simp)
  rwa [List.append_nil] at this
theorem iparts (hs0 : Sees encKey g a xs) (hs1 : Sees encI g a1 ns) : WC T n_pianolalaw24_InputParts [.slice a xs.length c, .slice a1 ns.length c1] g fun v h' => v = .bool true := by
  rw [w_pianolalaw24_InputParts]
  simp (disch := first | assumption | ((try simp only [push_next, put_next, adv_next, List.length_cons, List.length_nil]); omega) | simp) [-g1_pianolalaw24_InputParts]
  refine near_loop hs0 (c := c) (by simp) (by simp) (by simp) ?_
  intro e h M v fM he e5 O K hl hM
  obtain ⟨a2, c2, rfl, s2, hc2, -⟩ := O.len
  have e1 := he 1 (by omega)
  simp at e1
  have hT : List.take 256 M = M := List.take_of_length_le (by omega)
  simp (disch := first | assumption | ((try simp only [push_next, put_next, adv_next, List.length_cons, List.length_nil]); omega) | simp) [e5, -g4_pianolalaw24_InputParts]
  refine GC_intro (inew s2 hc2 (by omega) fun h1 p fp f1 f1' P K1 => ?_) fun v h2 hh => hh
  simp (disch := first | assumption | ((try simp only [push_next, put_next, adv_next, List.length_cons, List.length_nil]); omega) | simp) [e5, -g4_pianolalaw24_InputParts]
  refine GC_intro (inew (s2.kp K1) hc2 (by omega) fun h2 p2 fq f2 f2' P2 K2 => ?_) fun v h2 hh => hh
  rw [hT] at P P2
  have P1 := P.keep fun b hb => K2.get b (f1' b hb)
  have hp : p ∈ fp := by obtain ⟨_, _, _, _, _, hp, _⟩ := P; exact hp
  have hlS : ∀ x ∈ isort (·.at') M, x.at' ≤ 100 := fun x hx => hl x ((mem_isort _).1 hx)
  have hSl : (isort (·.at') M).length ≤ 30 := by simpa using hM
  generalize isort (·.at') M = S at P1 P2 hlS hSl
  clear P
  simp (disch := first | assumption | ((try simp only [push_next, put_next, adv_next, List.length_cons, List.length_nil]); omega) | simp) [-g4_pianolalaw24_InputParts]
  refine parts_loop (h0 := h2) (S := S) (c1 := c1) (p2 := p2) hs1 (K.trans (K1.trans K2)) hSl (fun b hb => ⟨Nat.le_trans K.le (f1 b hb), Nat.lt_of_lt_of_le (f1' b hb) K2.le⟩) (fun b hb => ⟨f2' b hb, by have := f2 b hb; have := f1' p hp; omega⟩) hp P1 P2 (by simp [e1]) (by simp) (by simp) (by simp) (by simp) (by simp) ?_
  intro e3 h3 D R v fo hDR O3 hfo Q1 Q2 hle e7 e8 e9
  have hlen : D.length + R.length ≤ 30 := by rw [← hDR] at hSl; simpa using hSl
  simp (disch := first | assumption | ((try simp only [push_next, put_next, adv_next, List.length_cons, List.length_nil]); omega) | simp) [e7, e8, e9]
  have hfp3 : ∀ b ∈ fp, b < h3.next := fun b hb => by have := f1' b hb; have := K2.le; omega
  refine GC_intro (itake Q1 (by omega) hfp3 fun v1 h4 f4 O4 hf4 Q3 U4 => ?_) fun v h2 hh => hh
  obtain ⟨w1, w2⟩ := tw_all (P := fun x : Key => decide (x.at' ≤ 100)) (l := R) (fun x hx => by simpa using hlS x (by rw [← hDR]; simp [hx]))
  rw [w1] at O4
  rw [w2] at Q3
  obtain ⟨a4, c4, rfl, s4, -, -⟩ := O4.len
  have hpb : p < h2.next := Nat.lt_of_lt_of_le (f1' p hp) K2.le
  have O5 : Own encB8 h4 v (D.map (·.b)) fo := O3.keep fun b hb => U4.get b (O3.live b hb) (by have := hfo b hb; simp; omega)
  simp (disch := first | assumption | ((try simp only [push_next, put_next, adv_next, List.length_cons, List.length_nil]); omega) | simp) [e9]
  refine GV_app (E := encB8) O5 s4 (by simp) (by simp; omega) (by simp; omega) fun v5 h5 fo5 O6 U5 => ?_
  have hfo5 : ∀ b ∈ fo5, h2.next ≤ b := fun b hb => by
    rcases U5.sub b hb with h7 | h7
    · exact hfo b h7
    · have := U4.le; omega
  have Q4 : PL h5 p2 S fq := Q2.keep fun b hb => by
    have q1 := f2' b hb
    have q2 := f2 b hb
    have q3 := f1' p hp
    rw [U5.get b (by have := U4.le; omega) (fun hh => by have := hfo b hh; omega), U4.get b (by omega) (by simp; omega)]
  have Q5 : PL h5 p [] fp := Q3.keep fun b hb => U5.get b (by have := hfp3 b hb; have := U4.le; omega) (fun hh => by have := hfo b hh; have := f1' b hb; have := K2.le; omega)
  obtain ⟨a6, c6, rfl, s6, -, -⟩ := O6.len
  rw [← List.map_append, hDR] at s6
  have hb1 : b2sV h5 (.slice a6 S.length c6) = some (.string (bstr (S.map (·.b))), h5) := b2sV_sees s6 (by simp)
  have hSS : D.length + R.length = S.length := by rw [← hDR]; simp
  simp (disch := first | assumption | ((try simp only [push_next, put_next, adv_next, List.length_cons, List.length_nil]); omega) | simp) [e7, e8, hSS, hb1]
  refine itake Q4 (by omega) (fun b hb => by have := f2' b hb; have := U4.le; have := U5.le; omega) fun v7 h7 f7 O7 hf7 Q7 U7 => ?_
  obtain ⟨w3, w4⟩ := tw_all (P := fun x : Key => decide (x.at' ≤ 100)) (l := S) (fun x hx => by simpa using hlS x hx)
  rw [w3] at O7
  rw [w4] at Q7
  obtain ⟨a7, c7, rfl, s7, -, -⟩ := O7.len
  have hp2 : p2 ∈ fq := by obtain ⟨_, _, _, _, _, hp, _⟩ := Q4; exact hp
  have hp2l : p2 < h2.next := f2' p2 hp2
  have s8 : Sees encB8 h7 (a6) (S.map (·.b)) := by
    have o6 := O6.keep (h' := h7) fun b hb => U7.get b (O6.live b hb) (by have := hfo5 b hb; simp; omega)
    obtain ⟨a8, c8, he, s8, -, -⟩ := o6.len
    rw [← List.map_append, hDR] at s8
    cases he
    exact s8
  have hb2 : b2sV h7 (.slice a6 S.length c6) = some (.string (bstr (S.map (·.b))), h7) := b2sV_sees s8 (by simp)
  have hb3 : b2sV h7 (.slice a7 S.length c7) = some (.string (bstr (S.map (·.b))), h7) := b2sV_sees (by simpa using s7) (by simp)
  have hse : binV .eql (.string (bstr (S.map (·.b)))) (.string (bstr (S.map (·.b)))) = some (.bool true) := by simp [binV, binS]
  have Q8 : PL h7 p [] fp := Q5.keep fun b hb => by
    have q1 := hfp3 b hb
    have q2 := f1' b hb
    have q3 := f2 p2 hp2
    rw [U7.get b (by have := U4.le; have := U5.le; omega) (by simp; omega)]
  generalize bstr (S.map (·.b)) = w at *
  have hvq : veq (.string w) (.string w) = true := by simp [veq, veqF]
  simp (disch := first | assumption | ((try simp only [push_next, put_next, adv_next, List.length_cons, List.length_nil]); omega) | simp) [e7, e8, hb2, hb3, hse, hvq]
  refine (ileft Q8).2 ?_
  simp (disch := first | assumption | ((try simp only [push_next, put_next, adv_next, List.length_cons, List.length_nil]); omega) | simp) [e7, e8]
  refine (ileft Q7).2 ?_
  simp (disch := first | assumption | ((try simp only [push_next, put_next, adv_next, List.length_cons, List.length_nil]); omega) | simp)
  refine iknown fun h9 K9 => ?_
  simp (disch := first | assumption | ((try simp only [push_next, put_next, adv_next, List.length_cons, List.length_nil]); omega) | simp)
end
end Go.Proofs.Ytppgoobhlcdbbaa.Cd
