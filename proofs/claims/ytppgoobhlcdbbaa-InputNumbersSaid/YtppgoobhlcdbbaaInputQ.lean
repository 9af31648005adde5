/- Plans are what the document says. -/
import Derived.Test.YtppgoobhlcdbbaaInputS
import Derived.Test.YtppgoobhlcdbbaaInputP
set_option maxRecDepth 1000000
set_option linter.unusedSimpArgs false
set_option linter.unusedVariables false
namespace Go.Proofs.Ytppgoobhlcdbbaa.Cd
open Go Go.Dx
section
variable {g h : Hp} {a a1 : Option Addr} {c c1 : Nat} {L : List Key} {ns : List Int}
theorem take_loop {e : Env} {Q : Ex → Env → Hp → Prop} {k : List Fr} {am : Option Addr} {cm : Nat} {M : List Key} {now : Int} (hs : Sees encKey h am M) (hc : M.length ≤ cm) (hb : M.length < 2 ^ 39) (h7 : e 7 = .slice am M.length cm) (h12 : e 12 = .int .i64 now) (h13 : e 13 = .slice none 0 0)
    (hR : ∀ (e' : Env) h' am' cm' (M' : List Key) v fo, (∀ t, t ≤ 6 ∨ (8 ≤ t ∧ t ≤ 12) → e' t = e t) → e' 7 = .slice am' M'.length cm' → e' 13 = v → M' = (M.dropWhile fun x => decide (x.at' ≤ now)) → Sees encKey h' am' M' → M'.length ≤ cm' → (∀ A', am' = some A' → ∃ A, am = some A ∧ A'.block = A.block) →
      Own encB8 h' v ((M.takeWhile fun x => decide (x.at' ≤ now)).map (·.b)) fo → (∀ b ∈ fo, h.next ≤ b) → Kp h h' → GR T Q k (.x 2) e' h') : G T Q (.loop c1_pianolalaw24_InputPlays) k e h := by
  refine G_loop (fun m e' h' => ∃ (l r : List Key) (v : Value) (fo : List Nat) (am' : Option Addr) (cm' : Nat), m = r.length ∧ M = l ++ r ∧ (∀ x ∈ l, x.at' ≤ now) ∧ (∀ t, t ≤ 6 ∨ (8 ≤ t ∧ t ≤ 12) → e' t = e t) ∧ e' 7 = .slice am' r.length cm' ∧ e' 13 = v ∧ Own encB8 h' v (l.map (·.b)) fo ∧ (∀ b ∈ fo, h.next ≤ b) ∧ Sees encKey h' am' r ∧ r.length ≤ cm' ∧ (∀ A', am' = some A' → ∃ A, am = some A ∧ A'.block = A.block) ∧ Kp h h') ?_ M.length _ _
    ⟨[], M, _, [], am, cm, rfl, rfl, by simp, fun _ _ => rfl, h7, h13, by simpa using Own.nul, by simp, hs, hc, fun A hA => ⟨A, hA, rfl⟩, .refl _⟩
  rintro m ih e' h' ⟨l, r, v, fo, am', cm', rfl, rfl, hl, he, e7, e13, O, hfo, s, hcm, hbk, K⟩
  have e12 := (he 12 (by omega)).trans h12
  have out : ∀ e' : Env, (∀ t, t ≤ 6 ∨ (8 ≤ t ∧ t ≤ 12) → e' t = e t) → e' 7 = .slice am' r.length cm' → e' 13 = v → (∀ x, r.head? = some x → ¬ x.at' ≤ now) → GR T Q k (.x 2) e' h' := fun e' f1 f2 f3 hh => by
    obtain ⟨t1, t2⟩ := tw_eq (P := fun x => decide (x.at' ≤ now)) (l := l) (r := r) (by simpa using hl) (by simpa using hh)
    exact hR e' h' am' cm' r v fo f1 f2 f3 t2.symm s hcm hbk (by rw [t1]; exact O) hfo K
  cases r with
  | nil =>
    simp (disch := first | assumption | ((try simp only [push_next, put_next, adv_next, List.length_cons, List.length_nil]); omega) | simp) [e7, e12, e13]
    exact out _ (fun t ht => by repeat rw [upd_ne _ (by omega)]
                                exact he t ht) (by simp [e7]) (by simp [e13]) (by simp)
  | cons x r =>
    obtain ⟨A, rfl, hr⟩ := s.at' 0 (by simp)
    obtain ⟨ro, C, gA, hC⟩ := rdn_cells hr
    have c0 : C[A.off]? = some (.int .i64 x.at') := hC 0 (by simp)
    have c1 : C[A.off + 1]? = some (u8 x.b) := hC 1 (by simp)
    by_cases t : x.at' ≤ now
    · simp (disch := first | assumption | ((try simp only [push_next, put_next, adv_next, List.length_cons, List.length_nil]); omega) | simp) [e7, e12, e13, gA, c0, c1, t]
      simp at hb
      refine GV_app1 (E := encB8) (x := x.b) O (by simp; omega) (by simp; omega) fun v' h2 fp' O' U' => ?_
      have K' := U'.kp' K hfo
      have s2 : Sees encKey h2 (some A) (x :: r) := Sees.keep s fun B hB => by
        cases hB
        obtain ⟨A0, hA0, hAb⟩ := hbk A rfl
        have h9 := lt_of_rdn (hs.get A0 hA0)
        exact U'.get _ (lt_of_get gA) fun hh => by have := hfo _ hh; omega
      obtain ⟨a3, c3, hsl, hc3, s3⟩ := s2.part (c := cm') (lo := 1) (hi := r.length + 1) (by omega) (by simp) hcm (l := some (.int .i64 1)) (u := none) (.inr ⟨_, rfl⟩) (.inl ⟨rfl, rfl⟩)
      simp at hsl s3 hc3
      have hbk3 := sliceV_block hsl
      simp (disch := first | assumption | ((try simp only [push_next, put_next, adv_next, List.length_cons, List.length_nil]); omega) | simp) [e7, hsl]
      apply ih r.length (by simp)
      refine ⟨l ++ [x], r, v', fp', a3, c3, rfl, by simp, fun y hy => ?_, fun t ht => ?_, by simp, by simp, by rw [List.map_append]; exact O', fun b hb1 => ?_, s3, hc3, fun B hB => ?_, K'⟩
      · rcases List.mem_append.1 hy with hy | hy
        · exact hl y hy
        · simp at hy; subst hy; exact t
      · repeat rw [upd_ne _ (by omega)]
        exact he t ht
      · rcases U'.sub b hb1 with h5 | h5
        · exact hfo b h5
        · have := K.le; omega
      · obtain ⟨A', hA', hAb⟩ := hbk3 B hB
        cases hA'
        obtain ⟨A0, h1, h2⟩ := hbk A rfl
        exact ⟨A0, h1, hAb.trans h2⟩
    · simp (disch := first | assumption | ((try simp only [push_next, put_next, adv_next, List.length_cons, List.length_nil]); omega) | simp) [e7, e12, e13, gA, c0, t]
      exact out _ (fun t ht => by repeat rw [upd_ne _ (by omega)]
                                  exact he t ht) (by simp [e7]) (by simp [e13]) (by simpa using t)
theorem round2 {e : Env} {Q : Ex → Env → Hp → Prop} {k : List Fr} {p : Nat} {fp fo : List Nat} {M : List Key} {now : Int} {v : Value} (P : PL h p M fp) (hb : M.length < 2 ^ 39) (hfp : ∀ b ∈ fp, b < h.next) (O : Own encB8 h v ((M.takeWhile fun x => decide (x.at' ≤ now)).map (·.b)) fo) (hfo : p ∉ fo)
    (h6 : e 6 = ptr p 0) (h12 : e 12 = .int .i64 now) (h13 : e 13 = v)
    (hR : ∀ e' h', (∀ t, t ≤ 13 → e' t = e t) → PL h' p (M.dropWhile fun x => decide (x.at' ≤ now)) fp → (∀ b, b < h.next → b ≠ p → h'.get b = h.get b) → h.next ≤ h'.next → GR T Q k .n e' h') : G T Q c2_pianolalaw24_InputPlays k e h := by
  generalize hW : (M.takeWhile fun x => decide (x.at' ≤ now)).map (·.b) = W at O
  obtain ⟨a2, c2, rfl, s2, -, -⟩ := O.len
  have hb1 : b2sV h (.slice a2 W.length c2) = some (.string (bstr W), h) := b2sV_sees s2 rfl
  simp (disch := first | assumption | ((try simp only [push_next, put_next, adv_next, List.length_cons, List.length_nil]); omega) | simp) [h6, h12, h13, hb1]
  refine itake P hb hfp fun v1 h1 f1 O1 hf1 P1 U1 => ?_
  rw [hW] at O1
  obtain ⟨a3, c3, rfl, s3, -, -⟩ := O1.len
  have s4 : Sees encB8 h1 a2 W := by
    have o6 := O.keep (h' := h1) fun b hb => U1.get b (O.live b hb) (by simp; intro hh; subst hh; exact hfo hb)
    obtain ⟨a8, c8, he, s8, -, -⟩ := o6.len
    cases he
    exact s8
  have hb2 : b2sV h1 (.slice a2 W.length c2) = some (.string (bstr W), h1) := b2sV_sees s4 rfl
  have hb3 : b2sV h1 (.slice a3 W.length c3) = some (.string (bstr W), h1) := b2sV_sees s3 rfl
  generalize bstr W = w at *
  have hse : binV .neq (.string w) (.string w) = some (.bool false) := by simp [binV, binS]
  have hvq : veq (.string w) (.string w) = true := by simp [veq, veqF]
  simp (disch := first | assumption | ((try simp only [push_next, put_next, adv_next, List.length_cons, List.length_nil]); omega) | simp) [hb2, hb3, hse, hvq]
  exact hR _ _ (fun t ht => by repeat rw [upd_ne _ (by omega)]) P1 (fun b hb hne => U1.get b hb (by simpa using hne)) U1.le
theorem round3 {e : Env} {Q : Ex → Env → Hp → Prop} {k : List Fr} {p i : Nat} {fp : List Nat} {am : Option Addr} {cm : Nat} {M : List Key} {now : Int} (P : PL h p M fp) (hs : Sees encKey h am M) (hc : M.length ≤ cm) (hb : M.length < 2 ^ 39) (hA : ∀ A, am = some A → A.block ≠ p) (hfp : ∀ b ∈ fp, b < h.next)
    (h6 : e 6 = ptr p 0) (h7 : e 7 = .slice am M.length cm) (h8 : e 8 = .int .i64 i) (h12 : e 12 = .int .i64 now)
    (hR : ∀ (e' : Env) h' am' cm' (M' : List Key), (∀ t, t ≤ 6 ∨ t = 8 → e' t = e t) → e' 7 = .slice am' M'.length cm' → PL h' p M' fp → Sees encKey h' am' M' → M'.length ≤ cm' → M'.length ≤ M.length → (∀ A, am' = some A → A.block ≠ p) → (∀ b, b < h.next → b ≠ p → h'.get b = h.get b) → h.next ≤ h'.next → GR T Q k .n e' h') :
    G T Q c3_pianolalaw24_InputPlays k e h := by
  have rest : ∀ (e1 e' : Env) (h' : Hp) (now : Int) (am' : Option Addr) (cm' : Nat) (M' : List Key) (v : Value) (fo : List Nat), (∀ t, t ≤ 6 ∨ t = 8 → e1 t = e t) → e1 12 = .int .i64 now → (∀ t, t ≤ 6 ∨ (8 ≤ t ∧ t ≤ 12) → e' t = e1 t) → e' 7 = .slice am' M'.length cm' → e' 13 = v → M' = (M.dropWhile fun x => decide (x.at' ≤ now)) → Sees encKey h' am' M' → M'.length ≤ cm' → (∀ A', am' = some A' → ∃ A, am = some A ∧ A'.block = A.block) →
      Own encB8 h' v ((M.takeWhile fun x => decide (x.at' ≤ now)).map (·.b)) fo → (∀ b ∈ fo, h.next ≤ b) → Kp h h' → G T Q c2_pianolalaw24_InputPlays k e' h' := by
    intro e1 e' h' now am' cm' M' v fo h1 h12 he e7 e13 hM s hcm hbk O hfo K
    have hp := P.lt
    refine round2 (P.keep fun b hb => K.get b (hfp b hb)) hb (fun b hb => Nat.lt_of_lt_of_le (hfp b hb) K.le) O (fun hh => by have := hfo p hh; omega) ((he 6 (by omega)).trans ((h1 6 (by omega)).trans h6)) ((he 12 (by omega)).trans h12) e13 ?_
    intro e2 h2 he2 P2 U2 n2
    rw [← hM] at P2
    have hnp : ∀ A, am' = some A → A.block ≠ p := fun A hA' => by
      obtain ⟨A0, h3, h4⟩ := hbk A hA'
      rw [h4]
      exact hA A0 h3
    refine hR e2 h2 am' cm' M' (fun t ht => ?_) ((he2 7 (by omega)).trans e7) P2 (Sees.keep s fun A hA' => U2 _ (lt_of_rdn (s.get A hA')) (hnp A hA')) hcm ?_ hnp (fun b hb hne => by rw [U2 b (Nat.lt_of_lt_of_le hb K.le) hne, K.get b hb]) (Nat.le_trans K.le n2)
    · rw [he2 t (by omega), he t (by omega), h1 t ht]
    · rw [hM]
      exact (List.dropWhile_sublist _).length_le
  by_cases t : (i : Int).tmod 2 = 0
  · simp (disch := first | assumption | ((try simp only [push_next, put_next, adv_next, List.length_cons, List.length_nil]); omega) | simp) [h8, h12, t, -g1_pianolalaw24_InputPlays, -g2_pianolalaw24_InputPlays]
    refine take_loop (now := now.tmod 60) hs hc hb (by simp [h7]) (by simp) (by simp) ?_
    intro e' h' am' cm' M' v fo he e7 e13 hM s hcm hbk O hfo K
    simp (disch := first | assumption | ((try simp only [push_next, put_next, adv_next, List.length_cons, List.length_nil]); omega) | simp) [-g2_pianolalaw24_InputPlays]
    refine rest _ e' h' (now.tmod 60) am' cm' M' v fo (fun t ht => ?_) (by simp) he e7 e13 hM s hcm hbk O hfo K
    repeat rw [upd_ne _ (by omega)]
  · simp (disch := first | assumption | ((try simp only [push_next, put_next, adv_next, List.length_cons, List.length_nil]); omega) | simp) [h8, h12, t, -g1_pianolalaw24_InputPlays, -g2_pianolalaw24_InputPlays]
    refine take_loop (now := now) hs hc hb (by simp [h7]) (by simp [h12]) (by simp) ?_
    intro e' h' am' cm' M' v fo he e7 e13 hM s hcm hbk O hfo K
    simp (disch := first | assumption | ((try simp only [push_next, put_next, adv_next, List.length_cons, List.length_nil]); omega) | simp) [-g2_pianolalaw24_InputPlays]
    refine rest _ e' h' now am' cm' M' v fo (fun t ht => ?_) (by simp [h12]) he e7 e13 hM s hcm hbk O hfo K
    repeat rw [upd_ne _ (by omega)]
theorem iplays {q : Value → Hp → Prop} (hs0 : Sees encKey g a L) (hc0 : L.length ≤ c) (hb : L.length < 2 ^ 38) (hs1 : Sees encI g a1 ns) (hq : ∀ h', Kp g h' → q (.bool true) h') : WC T n_pianolalaw24_InputPlays [.slice a L.length c, .slice a1 ns.length c1] g q := by
  rw [w_pianolalaw24_InputPlays]
  simp (disch := first | assumption | ((try simp only [push_next, put_next, adv_next, List.length_cons, List.length_nil]); omega) | simp)
  refine GC_intro (roomy (x := ⟨165, 0⟩) hs0 (by omega) fun b h1 hb1 g1 K1 => ?_) fun v h2 hh => hh
  have sF : Sees encKey h1 (some ⟨b, 0, none⟩) (L ++ List.replicate 80 (⟨165, 0⟩ : Key)) := by
    refine ⟨fun hA => (by cases hA), fun B hB => ?_, fun B hB => (by cases hB; exact .inl rfl)⟩
    cases hB
    simp only [Hp.rdn, Hp.cells, g1, Option.bind_some]
    rw [if_pos (by rw [Enc.all_length, Nat.zero_add]; exact Nat.le_refl _), List.drop_zero, List.take_of_length_le (by rw [Enc.all_length]; exact Nat.le_refl _)]
  have hl1 := lt_of_get g1
  obtain ⟨a3, c3, hsl, hc3, s3⟩ := sF.part (c := L.length + 80) (lo := 0) (hi := L.length) (by omega) (by simp) (by simp) (l := none) (u := some (.int .i64 L.length)) (.inl ⟨rfl, rfl⟩) (.inr ⟨_, rfl⟩)
  simp at hsl s3 hc3
  simp (disch := first | assumption | ((try simp only [push_next, put_next, adv_next, List.length_cons, List.length_nil]); omega) | simp) [hsl]
  refine GC_intro (inew s3 hc3 (by omega) fun h2 p fp f1 f2 P K2 => ?_) fun v h2 hh => hh
  simp (disch := first | assumption | ((try simp only [push_next, put_next, adv_next, List.length_cons, List.length_nil]); omega) | simp)
  refine GC_intro (isorted (hs0.kp (K1.trans K2)) fun am cm h3 sm hcm K3 hAm => ?_) fun v h2 hh => hh
  have hp : p ∈ fp := by obtain ⟨_, _, _, _, _, hp, _⟩ := P; exact hp
  have P3 := P.keep fun b hb => K3.get b (f2 b hb)
  have hMl : (isort (·.at') (L.take 256)).length ≤ 256 := by simp; omega
  generalize isort (·.at') (L.take 256) = M at *
  have hgp : g.next ≤ p := Nat.le_trans K1.le (f1 p hp)
  have hbp : b ≠ p := fun hh => by have := f1 p hp; omega
  simp (disch := first | assumption | ((try simp only [push_next, put_next, adv_next, List.length_cons, List.length_nil]); omega) | simp) [-g8_pianolalaw24_InputPlays]
  refine G_loop (fun m e h => ∃ (i : Nat) (M : List Key) (am : Option Addr) (cm : Nat), m = 30 - i ∧ i ≤ 30 ∧ PL h p M fp ∧ Sees encKey h am M ∧ M.length ≤ cm ∧ M.length ≤ 256 ∧ (∀ A, am = some A → A.block ≠ p) ∧ Sees encKey h (some ⟨b, 0, none⟩) (L ++ List.replicate 80 (⟨165, 0⟩ : Key)) ∧ Kp g h ∧ h3.next ≤ h.next ∧
      e 0 = .slice a L.length c ∧ e 1 = .slice a1 ns.length c1 ∧ e 5 = .slice (some ⟨b, 0, none⟩) (L.length + 80) (L.length + 80) ∧ e 6 = ptr p 0 ∧ e 7 = .slice am M.length cm ∧ e 8 = .int .i64 i) ?_ 30 _ _
    ⟨0, M, am, cm, rfl, by omega, P3, sm, hcm, hMl, fun A hA => by have := hAm A hA; have := f2 p hp; omega, sF.kp (K2.trans K3), K1.trans (K2.trans K3), Nat.le_refl _, by simp, by simp, by simp, by simp, by simp, by simp⟩
  clear P P3 sm hcm hAm hMl
  rintro m ih e h ⟨i, M, am, cm, rfl, hi, P, sm, hcm, hMl, hA, sFh, K, hle, e0, e1, e5, e6, e7, e8⟩
  have out : ∀ e : Env, e 0 = .slice a L.length c → e 5 = .slice (some ⟨b, 0, none⟩) (L.length + 80) (L.length + 80) → e 6 = ptr p 0 → G T (fin [.t 4] (some []) g.next q) c9_pianolalaw24_InputPlays [] e h := fun e e0 e5 e6 => by
    simp (disch := first | assumption | ((try simp only [push_next, put_next, adv_next, List.length_cons, List.length_nil]); omega) | simp) [e0, e5, e6]
    refine GC_intro (intact (x := ⟨165, 0⟩) sFh (hs0.kp K) (by omega) (by omega) fun h5 K5 => ?_) fun v h2 hh => hh
    simp (disch := first | assumption | ((try simp only [push_next, put_next, adv_next, List.length_cons, List.length_nil]); omega) | simp)
    refine GC_intro (iknown fun h6 K6 => ?_) fun v h2 hh => hh
    simp (disch := first | assumption | ((try simp only [push_next, put_next, adv_next, List.length_cons, List.length_nil]); omega) | simp)
    exact hq _ (K.trans (K5.trans K6))
  by_cases t1 : i < ns.length
  · by_cases t2 : i < 30
    · have t2' : (i : Int) < 30 := by omega
      obtain ⟨A, rfl, hr⟩ := hs1.at' i t1
      have hri := rdn_kp hr (K.get _ (lt_of_rdn hr))
      obtain ⟨ro, C, hg, hC⟩ := rdn_cells hri
      have c0 : C[A.off + i]? = some (.int .i64 ns[i]) := by simpa [encI] using hC 0 (by simp)
      have next : ∀ (e' : Env) h' am' cm' (M' : List Key), (∀ t, t ≤ 6 ∨ t = 8 → e' t = e t) → e' 7 = .slice am' M'.length cm' → PL h' p M' fp → Sees encKey h' am' M' → M'.length ≤ cm' → M'.length ≤ M.length → (∀ A, am' = some A → A.block ≠ p) → (∀ b, b < h.next → b ≠ p → h'.get b = h.get b) → h.next ≤ h'.next →
          G T (fin [.t 4] (some []) g.next q) (.loop c8_pianolalaw24_InputPlays) [.block 0, .seq c9_pianolalaw24_InputPlays] (upd e' 8 (.int .i64 ((i : Int) + 1))) h' := by
        intro e' h' am' cm' M' he e7' P' s' hcm' hMM hA' U hn
        apply ih (30 - (i + 1)) (by omega)
        refine ⟨i + 1, M', am', cm', rfl, by omega, P', s', hcm', by omega, hA', Sees.keep sFh fun B hB => ?_, ⟨Nat.le_trans K.le hn, fun b hb => ?_⟩, Nat.le_trans hle hn, ?_, ?_, ?_, ?_, ?_, by simp⟩
        · cases hB
          exact U b (lt_of_rdn (sFh.get _ rfl)) hbp
        · rw [U b (Nat.lt_of_lt_of_le hb K.le) (by omega), K.get b hb]
        · rw [upd_ne _ (by omega), he 0 (by omega), e0]
        · rw [upd_ne _ (by omega), he 1 (by omega), e1]
        · rw [upd_ne _ (by omega), he 5 (by omega), e5]
        · rw [upd_ne _ (by omega), he 6 (by omega), e6]
        · rw [upd_ne _ (by omega), e7']
      have hfp : ∀ b ∈ fp, b < h.next := fun b hb => by have := f2 b hb; have := K3.le; omega
      cases M with
      | nil =>
        simp (disch := first | assumption | ((try simp only [push_next, put_next, adv_next, List.length_cons, List.length_nil]); omega) | simp) [e0, e1, e5, e6, e7, e8, t1, t2', GC_of (fun q => inext P), GC_of (fun q => ileft P), hg, c0, -g3_pianolalaw24_InputPlays]
        refine round3 (M := []) (now := ns[i]) (i := i) P sm hcm (by omega) hA hfp (by simp [e6]) (by simp [e7]) (by simp [e8]) (by simp) ?_
        intro e' h' am' cm' M' he e7' P' s' hcm' hMM hA' U hn
        have e8' := he 8 (by omega)
        simp [e8] at e8'
        simp (disch := first | assumption | ((try simp only [push_next, put_next, adv_next, List.length_cons, List.length_nil]); omega) | simp) [e8', -g8_pianolalaw24_InputPlays]
        refine next (upd (upd e' 32 _) 33 _) h' am' cm' M' (fun t ht => ?_) (by simp [e7']) P' s' hcm' hMM hA' U hn
        rw [upd_ne _ (by omega), upd_ne _ (by omega), he t ht]
        repeat rw [upd_ne _ (by omega)]
      | cons x M =>
        obtain ⟨A2, rfl, hr2⟩ := sm.at' 0 (by simp)
        obtain ⟨ro2, C2, hg2, hC2⟩ := rdn_cells hr2
        have d0 : C2[A2.off]? = some (.int .i64 x.at') := hC2 0 (by simp)
        have gt : (0 : Int) < (M.length : Int) + 1 := by omega
        simp (disch := first | assumption | ((try simp only [push_next, put_next, adv_next, List.length_cons, List.length_nil]); omega) | simp) [e0, e1, e5, e6, e7, e8, t1, t2', GC_of (fun q => inext P), GC_of (fun q => ileft P), hg, c0, hg2, d0, gt, -g3_pianolalaw24_InputPlays]
        refine round3 (M := x :: M) (now := ns[i]) (i := i) P sm hcm (by omega) hA hfp (by simp [e6]) (by simp [e7]) (by simp [e8]) (by simp) ?_
        intro e' h' am' cm' M' he e7' P' s' hcm' hMM hA' U hn
        have e8' := he 8 (by omega)
        simp [e8] at e8'
        simp (disch := first | assumption | ((try simp only [push_next, put_next, adv_next, List.length_cons, List.length_nil]); omega) | simp) [e8', -g8_pianolalaw24_InputPlays]
        refine next (upd (upd e' 32 _) 33 _) h' am' cm' M' (fun t ht => ?_) (by simp [e7']) P' s' hcm' hMM hA' U hn
        rw [upd_ne _ (by omega), upd_ne _ (by omega), he t ht]
        repeat rw [upd_ne _ (by omega)]
    · have t2' : ¬ (i : Int) < 30 := by omega
      simp (disch := first | assumption | ((try simp only [push_next, put_next, adv_next, List.length_cons, List.length_nil]); omega) | simp) [e1, e8, t1, t2', -g9_pianolalaw24_InputPlays]
      exact out _ (by simp [e0]) (by simp [e5]) (by simp [e6])
  · simp (disch := first | assumption | ((try simp only [push_next, put_next, adv_next, List.length_cons, List.length_nil]); omega) | simp) [e1, e8, t1, -g9_pianolalaw24_InputPlays]
    exact out _ (by simp [e0]) (by simp [e5]) (by simp [e6])
end
end Go.Proofs.Ytppgoobhlcdbbaa.Cd
