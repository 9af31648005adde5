/- Texts of one kind, one behind the other. -/
import Derived.Test.YtoiiphcbkejliaaGreatMeShellWrites0
import Derived.Test.YtoiiphcbkejliaaGreatMdz0
import Derived.Test.YtoiiphcbkejliaaGreatMd3
import Derived.Test.YtoiiphcbkejliaaGreatMcz0
/- shell.Encode. -/
set_option maxRecDepth 1000000
set_option maxHeartbeats 8000000
set_option linter.unusedSimpArgs false
set_option linter.unusedVariables false
namespace Go.Proofs.YtoiiphcbkejliaaGreat.Cd
open Go Go.Dx
structure ScF (h : Hp) (x : Scr) (ai ad at' : Option Addr) (ci cd ct : Nat) : Prop where
  i : Sees encB h ai x.im
  d : Sees encB h ad x.dk
  t : Sees encIt h at' x.it
  ic : x.im.length ≤ ci
  dc : x.dk.length ≤ cd
  tc : x.it.length ≤ ct
  il : x.im.length < 2 ^ 30
  dl : x.dk.length < 2 ^ 30
  tl : x.it.length < 2 ^ 30
/-- A script. -/
def isSc (h : Hp) (v : Value) (x : Scr) : Prop := ∃ ai ci ad cd at' ct, v = .agg #[.int .i64 x.p, .int .i64 x.m, .slice ai x.im.length ci, .slice ad x.dk.length cd, .slice at' x.it.length ct] ∧ ScF h x ai ad at' ci cd ct
section
variable {h h' : Hp} {v : Value} {x : Scr} {ai ad at' : Option Addr} {ci cd ct : Nat}
theorem ScF.kp (A : ScF h x ai ad at' ci cd ct) (K : Kp h h') : ScF h' x ai ad at' ci cd ct := ⟨A.i.kp K, A.d.kp K, A.t.kp K, A.ic, A.dc, A.tc, A.il, A.dl, A.tl⟩
theorem isSc.kp (A : isSc h v x) (K : Kp h h') : isSc h' v x := by
  obtain ⟨ai, ci, ad, cd, at', ct, e, F⟩ := A
  exact ⟨ai, ci, ad, cd, at', ct, e, F.kp K⟩
theorem rgt_long (c : 256 < x.it.length ∨ 65535 < x.im.length ∨ 4096 < x.dk.length) : rgt x = 3 := by unfold rgt; rw [if_pos c]
theorem rgt_arg (c : ¬ (256 < x.it.length ∨ 65535 < x.im.length ∨ 4096 < x.dk.length)) (c2 : x.p < 0 ∨ 255 < x.p ∨ x.m < 0 ∨ 255 < x.m) : rgt x = 1 := by unfold rgt; rw [if_neg c, if_pos c2]
theorem rgt_it (c : ¬ (256 < x.it.length ∨ 65535 < x.im.length ∨ 4096 < x.dk.length)) (c2 : ¬ (x.p < 0 ∨ 255 < x.p ∨ x.m < 0 ∨ 255 < x.m)) : rgt x = if x.it.all mayI then 0 else 1 := by unfold rgt; rw [if_neg c, if_neg c2]
theorem wr_len : ∀ l : List Itm, (l.flatMap wrI).length ≤ 3 * l.length
  | [] => by simp
  | y :: l => by
    have := wr_len l
    have h1 : (wrI y).length ≤ 3 := by unfold wrI; split <;> simp [by2]
    simp only [List.flatMap_cons, List.length_append, List.length_cons]
    omega
theorem s_enc (A : isSc h v x) : WC T n_87 [v] h fun w h' => Kp h h' ∧ ((rgt x = 0 ∧ ∃ o fp, w = .tuple #[o, .int .i64 0] ∧ Own encB h' o (wri x) fp ∧ ∀ b ∈ fp, h.next ≤ b) ∨ (rgt x ≠ 0 ∧ w = .tuple #[.slice none 0 0, .int .i64 (rgt x)])) := by
  obtain ⟨ai, ci, ad, cd, at', ct, rfl, F⟩ := A
  rw [w_87]
  simp (maxSteps:=9^7)(disch:=first|assumption|((try simp only[nX]);omega)|simp) [-g7_87]
  generalize hP : Hp.push h _ = P
  have gP : P.get h.next = some (.cells false [.int .i64 x.p, .int .i64 x.m, .slice ai x.im.length ci, .slice ad x.dk.length cd, .slice at' x.it.length ct]) := by rw [← hP]; exact get_push_self
  have KP : Kp h P := by rw [← hP]; exact (Kp.refl h).push _
  have nP : P.next = h.next + 1 := by rw [← hP]; rfl
  have FP := F.kp KP
  clear hP
  have fail : ∀ c : Prop, c → c := fun _ h => h
  by_cases c1 : 256 < x.it.length
  · have c1' : (256 : Int) < x.it.length := by omega
    have r := rgt_long (x := x) (.inl c1)
    simp (maxSteps:=9^7)(disch:=first|assumption|((try simp only[nX]);omega)|simp) [gP, c1', r, KP]
  have c1' : ¬ (256 : Int) < x.it.length := by omega
  by_cases c2 : 65535 < x.im.length
  · have c2' : (65535 : Int) < x.im.length := by omega
    have r := rgt_long (x := x) (.inr (.inl c2))
    simp (maxSteps:=9^7)(disch:=first|assumption|((try simp only[nX]);omega)|simp) [gP, c1', c2', r, KP]
  have c2' : ¬ (65535 : Int) < x.im.length := by omega
  by_cases c3 : 4096 < x.dk.length
  · have c3' : (4096 : Int) < x.dk.length := by omega
    have r := rgt_long (x := x) (.inr (.inr c3))
    simp (maxSteps:=9^7)(disch:=first|assumption|((try simp only[nX]);omega)|simp) [gP, c1', c2', c3', r, KP]
  have c3' : ¬ (4096 : Int) < x.dk.length := by omega
  have cn : ¬ (256 < x.it.length ∨ 65535 < x.im.length ∨ 4096 < x.dk.length) := by omega
  by_cases d1 : x.p < 0
  · have r := rgt_arg cn (.inl d1)
    simp (maxSteps:=9^7)(disch:=first|assumption|((try simp only[nX]);omega)|simp) [gP, c1', c2', c3', d1, r, KP]
  by_cases d2 : 255 < x.p
  · have r := rgt_arg cn (.inr (.inl d2))
    simp (maxSteps:=9^7)(disch:=first|assumption|((try simp only[nX]);omega)|simp) [gP, c1', c2', c3', d1, d2, r, KP]
  by_cases d3 : x.m < 0
  · have r := rgt_arg cn (.inr (.inr (.inl d3)))
    simp (maxSteps:=9^7)(disch:=first|assumption|((try simp only[nX]);omega)|simp) [gP, c1', c2', c3', d1, d2, d3, r, KP]
  by_cases d4 : 255 < x.m
  · have r := rgt_arg cn (.inr (.inr (.inr d4)))
    simp (maxSteps:=9^7)(disch:=first|assumption|((try simp only[nX]);omega)|simp) [gP, c1', c2', c3', d1, d2, d3, d4, r, KP]
  have ri := rgt_it cn (by omega)
  simp (maxSteps:=9^7)(disch:=first|assumption|((try simp only[nX]);omega)|simp) [gP, c1', c2', c3', d1, d2, d3, d4, -g5_87]
  generalize hQ : Hp.push P _ = Q
  have gQ : Q.get P.next = some (.cells false ([b8 x.p, b8 x.m].map u8)) := by rw [← hQ]; exact get_push_self
  have KQ : Kp P Q := by rw [← hQ]; exact (Kp.refl P).push _
  have nQ : Q.next = P.next + 1 := by rw [← hQ]; rfl
  have FQ := FP.kp KQ
  have gPQ := (KQ.get _ (lt_of_get gP)).trans gP
  clear hQ
  refine GCI_intro (s_text (xs := [b8 x.p, b8 x.m]) (.inl ⟨P.next, rfl, gQ, rfl⟩) FQ.i (by simp) (by have := F.il; omega) fun A hA => ?_) fun v1 h1 ⟨f1, O1, U1⟩ => ?_
  · have := sees_lt FP.i A hA
    simp; omega
  have KPQ : Kp h Q := KP.trans KQ
  have lP := lt_of_get gP
  have g1 := (U1.get h.next (by omega) (by simp; omega)).trans gPQ
  have b1 : ∀ b ∈ f1, h.next + 1 ≤ b := fun b hb => by
    rcases U1.sub b hb with h5 | h5
    · simp at h5; omega
    · omega
  have K1 : Kp h h1 := U1.kp' KPQ (by simp; omega)
  clear gQ U1 gPQ KQ
  simp (maxSteps:=9^7)(disch:=first|assumption|((try simp only[nX]);omega)|simp) [g1, -g5_87]
  refine GCI_intro (s_text (.inr O1) (F.d.kp K1) (by simp [by2]; have := F.il; omega) (by have := F.dl; omega) fun A hA hm => ?_) fun v2 h2 ⟨f2, O2, U2⟩ => ?_
  · have := sees_lt F.d A hA
    have := b1 _ hm
    omega
  have g2 := (U2.get h.next (lt_of_get g1) (fun hm => by have := b1 _ hm; omega)).trans g1
  have b2 : ∀ b ∈ f2, h.next + 1 ≤ b := fun b hb => by
    rcases U2.sub b hb with h5 | h5
    · exact b1 b h5
    · have := lt_of_get g1; omega
  have K2 : Kp h h2 := U2.kp' K1 fun b hb => by have := b1 b hb; omega
  have e2 : (([b8 x.p, b8 x.m] ++ (by2 x.im.length ++ x.im)) ++ (by2 x.dk.length ++ x.dk)) = [b8 x.p, b8 x.m] ++ by2 x.im.length ++ x.im ++ by2 x.dk.length ++ x.dk := by simp
  rw [e2] at O2
  clear U2 O1 g1 K1 e2
  simp (maxSteps:=9^7)(disch:=first|assumption|((try simp only[nX]);omega)|simp) [g2]
  have hl := F.il
  have hl2 := F.dl
  have hl3 := F.tl
  obtain ⟨D, hD⟩ : ∃ D, D = [b8 x.p, b8 x.m] ++ by2 x.im.length ++ x.im ++ by2 x.dk.length ++ x.dk := ⟨_, rfl⟩
  have hDl : D.length < 2 ^ 34 := by rw [hD]; simp [by2]; omega
  have hwr : wri x = D ++ x.it.flatMap wrI := by rw [hD]; rfl
  rw [← hD] at O2
  refine G_loop (fun j e H => ∃ (i : Nat) (fp : List Nat), j = x.it.length - i ∧ i ≤ x.it.length ∧ (x.it.take i).all mayI = true ∧ Own encB H (e 4) (D ++ (x.it.take i).flatMap wrI) fp ∧ (∀ b ∈ fp, h.next ≤ b) ∧ Kp h H ∧ e 57 = .slice at' x.it.length ct ∧ e 58 = .int .i64 x.it.length ∧ e 59 = .int .i64 i) ?_ x.it.length _ _ ⟨0, f2, rfl, by omega, rfl, by simpa using O2, fun b hb => by have := b2 b hb; omega, K2, by simp, by simp, by simp⟩
  clear K2 O2 b2 g2 b1
  rintro j ih e H ⟨i, fp, rfl, hi, hm, O, hb, K, e57, e58, e59⟩
  by_cases c : i < x.it.length
  case neg =>
    obtain rfl : i = x.it.length := by omega
    rw [List.take_length] at hm O
    have r0 : rgt x = 0 := by rw [ri, if_pos hm]
    simp (maxSteps:=9^7)(disch:=first|assumption|((try simp only[nX]);omega)|simp) [e57, e58, e59, r0]
    exact ⟨K, fp, by rw [hwr]; exact O, hb⟩
  have c' : (i : Int) < x.it.length := by omega
  obtain ⟨A, rfl, hr⟩ := (F.t.kp K).at' i c
  obtain ⟨y, hy⟩ : ∃ y, y = x.it[i] := ⟨_, rfl⟩
  rw [← hy] at hr
  simp only [encIt, Enc.enc] at hr
  have hr' : H.rdn A.block (A.off + i * 2) 2 = some [.int .i64 y.k, .int .i64 y.n] := hr
  have hmay := fun h q => s_may (h := h) (q := q) (x := y)
  have htk : x.it.take (i + 1) = x.it.take i ++ [y] := by rw [hy, List.take_succ_eq_append_getElem c]
  cases hq : mayI y with
  | false =>
    have r1 : rgt x = 1 := by
      rw [ri, if_neg]
      intro hall
      rw [List.all_eq_true] at hall
      have := hall y (by rw [hy]; exact List.getElem_mem c)
      rw [hq] at this
      cases this
    simp only [hq] at hmay
    simp (maxSteps:=9^7)(disch:=first|assumption|((try simp only[nX]);omega)|simp) [e57, e58, e59, c', hr', GC_of (hmay _), r1]
    exact (K.push _).push _
  | true =>
    simp only [hq] at hmay
    simp (maxSteps:=9^7)(disch:=first|assumption|((try simp only[nX]);omega)|simp) [e57, e58, e59, c', hr', GC_of (hmay _), -g2_87]
    generalize hH : Hp.push (Hp.push H _) _ = H2
    have gI : H2.get H.next = some (.cells false [.int .i64 y.k, .int .i64 y.n]) := by rw [← hH, get_push_ne (by simp only [push_next]; omega), get_push_self]
    have KH : Kp H H2 := by rw [← hH]; exact ((Kp.refl H).push _).push _
    clear hH
    have hfl := wr_len (x.it.take i)
    rw [List.length_take, Nat.min_eq_left hi] at hfl
    have hll : (D ++ (x.it.take i).flatMap wrI).length < 2 ^ 36 := by rw [List.length_append]; omega
    have hnx : D ++ (x.it.take (i + 1)).flatMap wrI = D ++ (x.it.take i).flatMap wrI ++ wrI y := by rw [htk]; simp
    generalize D ++ (x.it.take i).flatMap wrI = B at O hll hnx
    have lI := lt_of_get gI
    have live := O.live
    have hask := fun h q => s_asks (h := h) (q := q) (k := y.k)
    simp (maxSteps:=9^7)(disch:=first|assumption|((try simp only[nX]);omega)|simp) [gI, -g1_87]
    refine GV_app1 (E := encB) (bytes := 1) (x := b8 y.k) (O.kp KH) (by omega) (by omega) fun v3 h3 f3 O3 U3 => ?_
    have g3 := (U3.get H.next lI (fun hm => by have := live _ hm; omega)).trans gI
    have b3 : ∀ b ∈ f3, h.next ≤ b := fun b hb3 => by
      rcases U3.sub b hb3 with h5 | h5
      · exact hb b h5
      · have := K.le; have := KH.le; omega
    have K3 : Kp h h3 := U3.kp' (K.trans KH) hb
    have l3 : H.next ∉ f3 := fun hm => by
      rcases U3.sub _ hm with h5 | h5
      · have := live _ h5; omega
      · omega
    clear U3 gI
    cases hk : askk y.k with
    | false =>
      simp only [hk] at hask
      have hw : wrI y = [b8 y.k] := by simp [wrI, hk]
      simp (maxSteps:=9^7)(disch:=first|assumption|((try simp only[nX]);omega)|simp) [g3, GC_of (hask _), e59]
      exact ih (x.it.length - (i + 1)) (by omega) _ _ ⟨i + 1, f3, rfl, by omega, by rw [htk, List.all_append, hm]; simp [hq], by rw [hnx, hw]; simpa using O3, b3, K3, by simp [e57], by simp [e58], by simp⟩
    | true =>
      simp only [hk] at hask
      have hsh : y.n.fdiv 256 = y.n / 256 := Int.fdiv_eq_ediv_of_nonneg _ (by omega)
      have hw : wrI y = [b8 y.k] ++ by2 y.n := by simp [wrI, hk]
      simp (maxSteps:=9^7)(disch:=first|assumption|((try simp only[nX]);omega)|simp) [g3, GC_of (hask _), e59, hsh]
      have K4 := (Kp.refl h3).push (.cells false [u8 (BitVec.ofInt 8 (y.n / 256)), u8 (BitVec.ofInt 8 y.n)])
      refine GV_app (E := encB) (bytes := 1) (O3.kp K4) (ys := by2 y.n) (sees_b (ro := false) get_push_self) rfl (by simp [by2]; omega) (by simp [by2]; omega) fun v5 h5 f5 O5 U5 => ?_
      have U6 := (K4.upd f3).trans U5
      have b5 : ∀ b ∈ f5, h.next ≤ b := fun b hb5 => by
        rcases U6.sub b hb5 with h5 | h5
        · exact b3 b h5
        · have := K3.le; omega
      simp (maxSteps:=9^7)(disch:=first|assumption|((try simp only[nX]);omega)|simp) [e59]
      exact ih (x.it.length - (i + 1)) (by omega) _ _ ⟨i + 1, f5, rfl, by omega, by rw [htk, List.all_append, hm]; simp [hq], by rw [hnx, hw, ← List.append_assoc]; simpa using O5, b5, U6.kp' K3 b3, by simp [e57], by simp [e58], by simp⟩
end
end Go.Proofs.YtoiiphcbkejliaaGreat.Cd

/- The document's writing of a script. -/
set_option maxRecDepth 1000000
set_option maxHeartbeats 8000000
set_option linter.unusedSimpArgs false
set_option linter.unusedVariables false
namespace Go.Proofs.YtoiiphcbkejliaaGreat.Cd
open Go Go.Dx
section
variable {h h' : Hp} {v : Value} {x : Scr} {ai ad at' : Option Addr} {ci cd ct : Nat}
theorem p_right (A : isSc h v x) : WC T n_4w [v] h fun w h' => w = .int .i64 (rgt x) ∧ Kp h h' := by
  obtain ⟨ai, ci, ad, cd, at', ct, rfl, F⟩ := A
  rw [w_4w]
  simp (maxSteps:=9^7)(disch:=first|assumption|((try simp only[nX]);omega)|simp) [-g4_4w]
  generalize hP : Hp.push h _ = P
  have gP : P.get h.next = some (.cells false [.int .i64 x.p, .int .i64 x.m, .slice ai x.im.length ci, .slice ad x.dk.length cd, .slice at' x.it.length ct]) := by rw [← hP]; exact get_push_self
  have KP : Kp h P := by rw [← hP]; exact (Kp.refl h).push _
  clear hP
  by_cases c1 : 256 < x.it.length
  · have c1' : (256 : Int) < x.it.length := by omega
    have r := rgt_long (x := x) (.inl c1)
    simp (maxSteps:=9^7)(disch:=first|assumption|((try simp only[nX]);omega)|simp) [gP, c1', r, KP]
  have c1' : ¬ (256 : Int) < x.it.length := by omega
  by_cases c2 : 65535 < x.im.length
  · have c2' : (65535 : Int) < x.im.length := by omega
    have r := rgt_long (x := x) (.inr (.inl c2))
    simp (maxSteps:=9^7)(disch:=first|assumption|((try simp only[nX]);omega)|simp) [gP, c1', c2', r, KP]
  have c2' : ¬ (65535 : Int) < x.im.length := by omega
  by_cases c3 : 4096 < x.dk.length
  · have c3' : (4096 : Int) < x.dk.length := by omega
    have r := rgt_long (x := x) (.inr (.inr c3))
    simp (maxSteps:=9^7)(disch:=first|assumption|((try simp only[nX]);omega)|simp) [gP, c1', c2', c3', r, KP]
  have c3' : ¬ (4096 : Int) < x.dk.length := by omega
  have cn : ¬ (256 < x.it.length ∨ 65535 < x.im.length ∨ 4096 < x.dk.length) := by omega
  by_cases d1 : x.p < 0
  · have r := rgt_arg cn (.inl d1)
    simp (maxSteps:=9^7)(disch:=first|assumption|((try simp only[nX]);omega)|simp) [gP, c1', c2', c3', d1, r, KP]
  by_cases d2 : 255 < x.p
  · have r := rgt_arg cn (.inr (.inl d2))
    simp (maxSteps:=9^7)(disch:=first|assumption|((try simp only[nX]);omega)|simp) [gP, c1', c2', c3', d1, d2, r, KP]
  by_cases d3 : x.m < 0
  · have r := rgt_arg cn (.inr (.inr (.inl d3)))
    simp (maxSteps:=9^7)(disch:=first|assumption|((try simp only[nX]);omega)|simp) [gP, c1', c2', c3', d1, d2, d3, r, KP]
  by_cases d4 : 255 < x.m
  · have r := rgt_arg cn (.inr (.inr (.inr d4)))
    simp (maxSteps:=9^7)(disch:=first|assumption|((try simp only[nX]);omega)|simp) [gP, c1', c2', c3', d1, d2, d3, d4, r, KP]
  have ri := rgt_it cn (by omega)
  simp (maxSteps:=9^7)(disch:=first|assumption|((try simp only[nX]);omega)|simp) [gP, c1', c2', c3', d1, d2, d3, d4]
  have lP := lt_of_get gP
  refine G_loop (fun j e H => ∃ i : Nat, j = x.it.length - i ∧ i ≤ x.it.length ∧ (x.it.take i).all mayI = true ∧ Kp P H ∧ e 1 = ptr h.next 0 ∧ e 3 = .int .i64 i) ?_ x.it.length _ _ ⟨0, rfl, by omega, rfl, .refl _, by simp, by simp⟩
  rintro j ih e H ⟨i, rfl, hi, hm, K, e1, e3⟩
  have gH := (K.get _ lP).trans gP
  have KH := KP.trans K
  by_cases c : i < x.it.length
  case neg =>
    obtain rfl : i = x.it.length := by omega
    rw [List.take_length] at hm
    have r0 : rgt x = 0 := by rw [ri, if_pos hm]
    simp (maxSteps:=9^7)(disch:=first|assumption|((try simp only[nX]);omega)|simp) [e1, e3, gH, r0, KH]
  have c' : (i : Int) < x.it.length := by omega
  obtain ⟨A, rfl, hr⟩ := (F.t.kp KH).at' i c
  obtain ⟨y, hy⟩ : ∃ y, y = x.it[i] := ⟨_, rfl⟩
  rw [← hy] at hr
  have hr' : H.rdn A.block (A.off + i * 2) 2 = some [.int .i64 y.k, .int .i64 y.n] := hr
  have htk : x.it.take (i + 1) = x.it.take i ++ [y] := by rw [hy, List.take_succ_eq_append_getElem c]
  have hask := fun h q => p_asks (h := h) (q := q) (k := y.k)
  have bad : mayI y = false → rgt x = 1 := fun hq => by
    rw [ri, if_neg]
    intro hall
    rw [List.all_eq_true] at hall
    have := hall y (by rw [hy]; exact List.getElem_mem c)
    rw [hq] at this
    cases this
  have go : mayI y = true → (x.it.take (i + 1)).all mayI = true := fun hq => by rw [htk, List.all_append, hm]; simp [hq]
  simp (maxSteps:=9^7)(disch:=first|assumption|((try simp only[nX]);omega)|simp) [e1, e3, gH, c', hr', -g0_4w]
  generalize hH : Hp.push H _ = H2
  have gI : H2.get H.next = some (.cells false [.int .i64 y.k, .int .i64 y.n]) := by rw [← hH, get_push_self]
  have K2 : Kp P H2 := by rw [← hH]; exact K.push _
  have KH2 := KP.trans K2
  clear hH
  have next : ∀ e : Env, e 1 = ptr h.next 0 → e 3 = .int .i64 ((i : Int) + 1) → mayI y = true → ∃ i_1 : Nat, x.it.length - (i + 1) = x.it.length - i_1 ∧ i_1 ≤ x.it.length ∧ (x.it.take i_1).all mayI = true ∧ Kp P H2 ∧ e 1 = ptr h.next 0 ∧ e 3 = .int .i64 i_1 := fun e a1 a3 hq => ⟨i + 1, rfl, by omega, go hq, K2, a1, by rw [a3]; simp⟩
  by_cases t1 : y.k < 1
  · have r1 := bad (by simp [mayI, isk]; omega)
    simp (maxSteps:=9^7)(disch:=first|assumption|((try simp only[nX]);omega)|simp) [gI, t1, r1, KH2]
  by_cases t2 : 5 < y.k
  · have r1 := bad (by simp [mayI, isk]; omega)
    simp (maxSteps:=9^7)(disch:=first|assumption|((try simp only[nX]);omega)|simp) [gI, t1, t2, r1, KH2]
  have hik : isk y.k = true := by simp [isk]; omega
  cases hk : askk y.k with
  | false =>
    simp only [hk] at hask
    have hq : mayI y = true := by simp [mayI, hik, hk]
    simp (maxSteps:=9^7)(disch:=first|assumption|((try simp only[nX]);omega)|simp) [gI, t1, t2, GC_of (hask _), e3]
    exact ih (x.it.length - (i + 1)) (by omega) _ _ (next _ (by simp [e1]) (by simp) hq)
  | true =>
    simp only [hk] at hask
    by_cases t3 : y.n < 0
    · have r1 := bad (by simp [mayI, hk]; omega)
      simp (maxSteps:=9^7)(disch:=first|assumption|((try simp only[nX]);omega)|simp) [gI, t1, t2, t3, GC_of (hask _), r1, KH2]
    by_cases t4 : 65535 < y.n
    · have r1 := bad (by simp [mayI, hk]; omega)
      simp (maxSteps:=9^7)(disch:=first|assumption|((try simp only[nX]);omega)|simp) [gI, t1, t2, t3, t4, GC_of (hask _), r1, KH2]
    have hq : mayI y = true := by simp [mayI, hik, hk]; omega
    simp (maxSteps:=9^7)(disch:=first|assumption|((try simp only[nX]);omega)|simp) [gI, t1, t2, t3, t4, GC_of (hask _), e3]
    exact ih (x.it.length - (i + 1)) (by omega) _ _ (next _ (by simp [e1]) (by simp) hq)
theorem p_written (A : isSc h v x) : WC T n_50 [v] h fun w h' => Kp h h' ∧ ∃ fp, Own encB h' w (wri x) fp ∧ ∀ b ∈ fp, h.next ≤ b := by
  obtain ⟨ai, ci, ad, cd, at', ct, rfl, F⟩ := A
  rw [w_50]
  simp (maxSteps:=9^7)(disch:=first|assumption|((try simp only[nX]);omega)|simp) [-g4_50]
  generalize hP : Hp.push h _ = P
  have gP : P.get h.next = some (.cells false [.int .i64 x.p, .int .i64 x.m, .slice ai x.im.length ci, .slice ad x.dk.length cd, .slice at' x.it.length ct]) := by rw [← hP]; exact get_push_self
  have KP : Kp h P := by rw [← hP]; exact (Kp.refl h).push _
  have nP : P.next = h.next + 1 := by rw [← hP]; rfl
  clear hP
  have hl := F.il
  have hl2 := F.dl
  have hl3 := F.tl
  simp (maxSteps:=9^7)(disch:=first|assumption|((try simp only[nX]);omega)|simp) [gP, -g3_50]
  generalize hQ : Hp.push P _ = Q
  have gQ : Q.get P.next = some (.cells false ([b8 x.p, b8 x.m].map u8)) := by rw [← hQ]; exact get_push_self
  have KQ : Kp P Q := by rw [← hQ]; exact (Kp.refl P).push _
  have nQ : Q.next = P.next + 1 := by rw [← hQ]; rfl
  have gPQ := (KQ.get _ (lt_of_get gP)).trans gP
  clear hQ
  refine GCI_intro (p_two (xs := [b8 x.p, b8 x.m]) (.inl ⟨P.next, rfl, gQ, rfl⟩) (by simp)) fun v1 h1 ⟨f1, O1, U1⟩ => ?_
  have KPQ : Kp h Q := KP.trans KQ
  have lP := lt_of_get gP
  have g1 := (U1.get h.next (by omega) (by simp; omega)).trans gPQ
  have b1 : ∀ b ∈ f1, h.next + 1 ≤ b := fun b hb => by
    rcases U1.sub b hb with h5 | h5
    · simp at h5; omega
    · omega
  have K1 : Kp h h1 := U1.kp' KPQ (by simp; omega)
  clear gQ U1 gPQ KQ
  simp (maxSteps:=9^7)(disch:=first|assumption|((try simp only[nX]);omega)|simp) [g1, -g3_50]
  refine GVI_app (E := encB) (bytes := 1) O1 (F.i.kp K1) rfl (by simp [by2]; omega) (by simp [by2]; omega) fun v2 h2 f2 O2 U2 => ?_
  have g2 := (U2.get h.next (lt_of_get g1) (fun hm => by have := b1 _ hm; omega)).trans g1
  have b2 : ∀ b ∈ f2, h.next + 1 ≤ b := fun b hb => by
    rcases U2.sub b hb with h5 | h5
    · exact b1 b h5
    · have := lt_of_get g1; omega
  have K2 : Kp h h2 := U2.kp' K1 fun b hb => by have := b1 b hb; omega
  clear U2 O1 g1 K1
  simp (maxSteps:=9^7)(disch:=first|assumption|((try simp only[nX]);omega)|simp) [g2]
  refine GCI_intro (p_two (.inr O2) (by simp [by2]; omega)) fun v3 h3 ⟨f3, O3, U3⟩ => ?_
  have g3 := (U3.get h.next (lt_of_get g2) (fun hm => by have := b2 _ hm; omega)).trans g2
  have b3 : ∀ b ∈ f3, h.next + 1 ≤ b := fun b hb => by
    rcases U3.sub b hb with h5 | h5
    · exact b2 b h5
    · have := lt_of_get g2; omega
  have K3 : Kp h h3 := U3.kp' K2 fun b hb => by have := b2 b hb; omega
  clear U3 O2 g2 K2
  simp (maxSteps:=9^7)(disch:=first|assumption|((try simp only[nX]);omega)|simp) [g3]
  refine GVI_app (E := encB) (bytes := 1) O3 (F.d.kp K3) rfl (by simp [by2]; omega) (by simp [by2]; omega) fun v4 h4 f4 O4 U4 => ?_
  have g4 := (U4.get h.next (lt_of_get g3) (fun hm => by have := b3 _ hm; omega)).trans g3
  have b4 : ∀ b ∈ f4, h.next + 1 ≤ b := fun b hb => by
    rcases U4.sub b hb with h5 | h5
    · exact b3 b h5
    · have := lt_of_get g3; omega
  have K4 : Kp h h4 := U4.kp' K3 fun b hb => by have := b3 b hb; omega
  clear U4 O3 g3 K3
  obtain ⟨D, hD⟩ : ∃ D, D = [b8 x.p, b8 x.m] ++ by2 x.im.length ++ x.im ++ by2 x.dk.length ++ x.dk := ⟨_, rfl⟩
  have hDl : D.length < 2 ^ 34 := by rw [hD]; simp [by2]; omega
  have hwr : wri x = D ++ x.it.flatMap wrI := by rw [hD]; rfl
  rw [← hD] at O4
  simp (maxSteps:=9^7)(disch:=first|assumption|((try simp only[nX]);omega)|simp)
  refine G_loop (fun j e H => ∃ (i : Nat) (fp : List Nat), j = x.it.length - i ∧ i ≤ x.it.length ∧ Own encB H (e 3) (D ++ (x.it.take i).flatMap wrI) fp ∧ (∀ b ∈ fp, h.next + 1 ≤ b) ∧ Kp h H ∧ H.get h.next = some (.cells false [.int .i64 x.p, .int .i64 x.m, .slice ai x.im.length ci, .slice ad x.dk.length cd, .slice at' x.it.length ct]) ∧ e 1 = ptr h.next 0 ∧ e 4 = .int .i64 i) ?_ x.it.length _ _ ⟨0, f4, rfl, by omega, by simpa using O4, b4, K4, g4, by simp, by simp⟩
  clear K4 O4 b4 g4 b1 b2 b3
  rintro j ih e H ⟨i, fp, rfl, hi, O, hb, K, gH, e1, e4⟩
  by_cases c : i < x.it.length
  case neg =>
    obtain rfl : i = x.it.length := by omega
    rw [List.take_length] at O
    simp (maxSteps:=9^7)(disch:=first|assumption|((try simp only[nX]);omega)|simp) [e1, e4, gH]
    exact ⟨K, fp, by rw [hwr]; exact O, fun b hb' => by have := hb b hb'; omega⟩
  have c' : (i : Int) < x.it.length := by omega
  obtain ⟨A, rfl, hr⟩ := (F.t.kp K).at' i c
  obtain ⟨y, hy⟩ : ∃ y, y = x.it[i] := ⟨_, rfl⟩
  rw [← hy] at hr
  have htk : x.it.take (i + 1) = x.it.take i ++ [y] := by rw [hy, List.take_succ_eq_append_getElem c]
  have hfl := wr_len (x.it.take i)
  rw [List.length_take, Nat.min_eq_left hi] at hfl
  have hll : (D ++ (x.it.take i).flatMap wrI).length < 2 ^ 36 := by rw [List.length_append]; omega
  have hnx : D ++ (x.it.take (i + 1)).flatMap wrI = D ++ (x.it.take i).flatMap wrI ++ wrI y := by rw [htk]; simp
  generalize D ++ (x.it.take i).flatMap wrI = B at O hll hnx
  have hask := fun h q => p_asks (h := h) (q := q) (k := y.k)
  have cells : ∀ {H' : Hp}, Kp H H' ∨ Kp h H' → (F.t.kp K = F.t.kp K) → True := fun _ _ => trivial
  have rdk : ∀ {H' : Hp}, Kp h H' → ∃ ro C, H'.get A.block = some (.cells ro C) ∧ C[A.off + i * 2]? = some (.int .i64 y.k) ∧ C[A.off + i * 2 + 1]? = some (.int .i64 y.n) := fun {H'} K' => by
    obtain ⟨A', hA', hr'⟩ := (F.t.kp K').at' i c
    cases hA'
    rw [← hy] at hr'
    obtain ⟨ro, C, hg, hC⟩ := rdn_cells hr'
    have hC0 := hC 0 (by decide)
    have hC1 := hC 1 (by decide)
    exact ⟨ro, C, hg, by simpa [encIt] using hC0, by simpa [encIt] using hC1⟩
  obtain ⟨ro, C, hC, hC0, hC1⟩ := rdk K
  simp (maxSteps:=9^7)(disch:=first|assumption|((try simp only[nX]);omega)|simp) [e1, e4, gH, c', hC, hC0, -g0_50]
  refine GV_app1 (E := encB) (bytes := 1) (x := b8 y.k) O (by omega) (by omega) fun v3 h3 f3 O3 U3 => ?_
  have g3 := (U3.get h.next (lt_of_get gH) (fun hm => by have := hb _ hm; omega)).trans gH
  have b3 : ∀ b ∈ f3, h.next + 1 ≤ b := fun b hb3 => by
    rcases U3.sub b hb3 with h5 | h5
    · exact hb b h5
    · have := lt_of_get gH; omega
  have K3 : Kp h h3 := U3.kp' K fun b hb' => by have := hb b hb'; omega
  obtain ⟨ro3, C3, hC3, hC30, hC31⟩ := rdk K3
  cases hk : askk y.k with
  | false =>
    simp only [hk] at hask
    have hw : wrI y = [b8 y.k] := by simp [wrI, hk]
    simp (maxSteps:=9^7)(disch:=first|assumption|((try simp only[nX]);omega)|simp) [g3, e1, e4, hC3, hC30, c', GC_of (hask _)]
    exact ih (x.it.length - (i + 1)) (by omega) _ _ ⟨i + 1, f3, rfl, by omega, by rw [hnx, hw]; simpa using O3, b3, K3, g3, by simp [e1], by simp⟩
  | true =>
    simp only [hk] at hask
    have hw : wrI y = [b8 y.k] ++ by2 y.n := by simp [wrI, hk]
    simp (maxSteps:=9^7)(disch:=first|assumption|((try simp only[nX]);omega)|simp) [g3, e1, e4, hC3, hC30, hC31, c', GC_of (hask _)]
    refine GC_intro (p_two (.inr O3) (by simp; omega)) fun v5 h5 ⟨f5, O5, U5⟩ => ?_
    have g5 := (U5.get h.next (lt_of_get g3) (fun hm => by have := b3 _ hm; omega)).trans g3
    have b5 : ∀ b ∈ f5, h.next + 1 ≤ b := fun b hb5 => by
      rcases U5.sub b hb5 with h5 | h5
      · exact b3 b h5
      · have := lt_of_get g3; omega
    simp (maxSteps:=9^7)(disch:=first|assumption|((try simp only[nX]);omega)|simp) [e4]
    exact ih (x.it.length - (i + 1)) (by omega) _ _ ⟨i + 1, f5, rfl, by omega, by rw [hnx, hw, ← List.append_assoc]; simpa using O5, b5, U5.kp' K3 (fun b hb' => by have := b3 b hb'; omega), g5, by simp [e1], by simp⟩
end
end Go.Proofs.YtoiiphcbkejliaaGreat.Cd

/- Texts that are cut out. -/
set_option maxRecDepth 1000000
set_option maxHeartbeats 8000000
set_option linter.unusedSimpArgs false
set_option linter.unusedVariables false
namespace Go.Proofs.YtoiiphcbkejliaaGreat.Cd
open Go Go.Dx
section
variable {h h' : Hp} {a : Option Addr} {b l r : By} {c : Nat}
/-- A part of bytes. -/
theorem part_b (S : Sees encB h a b) (hc : b.length ≤ c) {lo hi : Nat} (h1 : lo ≤ hi) (h2 : hi ≤ b.length) {l u : Option Value} (hl : (l = none ∧ lo = 0) ∨ ∃ k, l = some (.int k lo)) (hu : (u = none ∧ hi = b.length) ∨ ∃ k, u = some (.int k hi)) :
    ∃ a' c', sliceV 1 (.slice a b.length c) l u none = some (.slice a' ((b.drop lo).take (hi - lo)).length c') ∧ ((b.drop lo).take (hi - lo)).length ≤ c' ∧ Sees encB h a' ((b.drop lo).take (hi - lo)) := by
  obtain ⟨a', c', h3, h4, h5⟩ := S.part h1 h2 hc hl hu
  have : ((b.drop lo).take (hi - lo)).length = hi - lo := by simp; omega
  exact ⟨a', c', by rw [this]; exact h3, by rw [this]; exact h4, h5⟩
theorem sliceV_blk {sz n c n' c' : Nat} {a a' : Option Addr} {l u m : Option Value} (h : sliceV sz (.slice a n c) l u m = some (.slice a' n' c')) : ∀ A', a' = some A' → ∃ A, a = some A ∧ A'.block = A.block := by
  intro A' hA
  subst hA
  unfold sliceV at h
  simp only [] at h
  cases hb : bounds n c l u m with
  | none => rw [hb] at h; cases h
  | some r =>
    obtain ⟨x, y, z⟩ := r
    rw [hb] at h
    cases a with
    | none => cases h
    | some A =>
      refine ⟨A, rfl, ?_⟩
      obtain ⟨b, o, sp⟩ := A
      cases sp with
      | none =>
        simp only [] at h
        split at h <;> (cases h; rfl)
      | some e =>
        simp only [] at h
        split at h
        · cases h
        · split at h
          · cases h; rfl
          · split at h <;> (cases h; rfl)
end
end Go.Proofs.YtoiiphcbkejliaaGreat.Cd

/- shell.Decode; the document's own reading. -/
set_option maxRecDepth 1000000
set_option maxHeartbeats 8000000
set_option linter.unusedSimpArgs false
set_option linter.unusedVariables false
namespace Go.Proofs.YtoiiphcbkejliaaGreat.Cd
open Go Go.Dx
section
variable {h h' : Hp} {a : Option Addr} {b l r : By} {c : Nat}
theorem one_cell {x : BitVec 8} (S : Sees encB h a (x :: r)) : ∃ A ro C, a = some A ∧ h.get A.block = some (.cells ro C) ∧ C[A.off]? = some (u8 x) := by
  obtain ⟨A, ro, C, hA, hg, h0⟩ := Sees.cell (E := encB) (f := fun x => u8 x) (fun _ => rfl) rfl (us := []) (x := x) (vs := r) S
  exact ⟨A, ro, C, hA, hg, by simpa using h0⟩
/-- Bytes do not lie where a script's fields lie. -/
theorem sees_put5 {xs : By} {p : Nat} {ro ro' : Bool} {C C' : List Value} (S : Sees encB h a xs) (hg : h.get p = some (.cells ro C)) (hC : ∀ (i : Nat) (x : BitVec 8), C[i]? ≠ some (u8 x)) (hl : C'.length = C.length) : Sees encB (h.put p (some (.cells ro' C'))) a xs := by
  refine ⟨S.nil, fun A hA => ?_, S.sp⟩
  have h1 := S.get A hA
  by_cases hp : A.block = p
  · subst hp
    cases xs with
    | nil =>
      simp only [List.length_nil, Nat.zero_mul, Hp.rdn, Hp.cells, hg, Option.bind_some] at h1
      simp only [List.length_nil, Nat.zero_mul, Hp.rdn, Hp.cells, get_put_self (lt_of_get hg), Option.bind_some]
      split at h1
      · rename_i hle
        rw [if_pos (by omega)]
        simp
      · cases h1
    | cons x xs =>
      obtain ⟨A', ro2, C2, hA', hg', h0⟩ := one_cell S
      rw [hA] at hA'
      cases hA'
      rw [hg] at hg'
      cases hg'
      exact absurd h0 (hC _ _)
  · rw [← h1]
    simp only [Hp.rdn, Hp.cells, get_put_ne hp]
theorem no_u8 {p m : Int} {a1 a2 a3 : Option Addr} {n1 n2 n3 c1 c2 c3 : Nat} : ∀ (i : Nat) (x : BitVec 8), [Value.int .i64 p, .int .i64 m, .slice a1 n1 c1, .slice a2 n2 c2, .slice a3 n3 c3][i]? ≠ some (u8 x)
  | 0, x => by simp [u8]
  | 1, x => by simp [u8]
  | 2, x => by simp [u8]
  | 3, x => by simp [u8]
  | 4, x => by simp [u8]
  | n + 5, x => by simp
end
end Go.Proofs.YtoiiphcbkejliaaGreat.Cd

/- The document's tables of instructions. -/
set_option maxRecDepth 1000000
set_option maxHeartbeats 8000000
set_option linter.unusedSimpArgs false
set_option linter.unusedVariables false
namespace Go.Proofs.YtoiiphcbkejliaaGreat.Cd
open Go Go.Dx
/-- A row of the table. -/
structure Rw where
  op : Int
  sub : Int
  k : Int
  f : ByteArray
def encRw : Enc Rw := ⟨4, fun x => [.int .i64 x.op, .int .i64 x.sub, .int .i64 x.k, .string x.f], fun _ => rfl, fun _ => rfl, by decide⟩
@[simp] theorem encRw_sz : encRw.sz = 4 := rfl
def spRows : List Rw := [⟨0, 0, 1, ⟨#[116, 100, 104]⟩⟩, ⟨0, 2, 2, ⟨#[116, 100, 104]⟩⟩, ⟨0, 3, 3, ⟨#[116, 100, 104]⟩⟩, ⟨0, 4, 4, ⟨#[115, 116, 100]⟩⟩, ⟨0, 6, 5, ⟨#[115, 116, 100]⟩⟩, ⟨0, 7, 6, ⟨#[115, 116, 100]⟩⟩, ⟨0, 8, 7, ⟨#[115]⟩⟩, ⟨0, 9, 8, ⟨#[115, 100]⟩⟩, ⟨0, 10, 9, ⟨#[115, 116, 100]⟩⟩, ⟨0, 11, 10, ⟨#[115, 116, 100]⟩⟩, ⟨0, 12, 11, .empty⟩, ⟨0, 13, 12, .empty⟩, ⟨0, 15, 13, .empty⟩, ⟨0, 16, 14, ⟨#[100]⟩⟩, ⟨0, 17, 15, ⟨#[115]⟩⟩, ⟨0, 18, 16, ⟨#[100]⟩⟩, ⟨0, 19, 17, ⟨#[115]⟩⟩, ⟨0, 24, 18, ⟨#[115, 116]⟩⟩, ⟨0, 25, 19, ⟨#[115, 116]⟩⟩, ⟨0, 26, 20, ⟨#[115, 116]⟩⟩, ⟨0, 27, 21, ⟨#[115, 116]⟩⟩, ⟨0, 32, 22, ⟨#[115, 116, 100]⟩⟩, ⟨0, 33, 23, ⟨#[115, 116, 100]⟩⟩, ⟨0, 34, 24, ⟨#[115, 116, 100]⟩⟩, ⟨0, 35, 25, ⟨#[115, 116, 100]⟩⟩, ⟨0, 36, 26, ⟨#[115, 116, 100]⟩⟩, ⟨0, 37, 27, ⟨#[115, 116, 100]⟩⟩, ⟨0, 38, 28, ⟨#[115, 116, 100]⟩⟩, ⟨0, 39, 29, ⟨#[115, 116, 100]⟩⟩, ⟨0, 42, 30, ⟨#[115, 116, 100]⟩⟩, ⟨0, 43, 31, ⟨#[115, 116, 100]⟩⟩, ⟨0, 48, 32, ⟨#[115, 116]⟩⟩, ⟨0, 50, 33, ⟨#[115, 116]⟩⟩, ⟨0, 52, 34, ⟨#[115, 116]⟩⟩, ⟨0, 54, 35, ⟨#[115, 116]⟩⟩]
def plRows : List Rw := [⟨2, 0, 40, ⟨#[106]⟩⟩, ⟨3, 0, 41, ⟨#[106]⟩⟩, ⟨4, 0, 42, ⟨#[115, 116, 105]⟩⟩, ⟨5, 0, 43, ⟨#[115, 116, 105]⟩⟩, ⟨6, 0, 44, ⟨#[115, 105]⟩⟩, ⟨7, 0, 45, ⟨#[115, 105]⟩⟩, ⟨8, 0, 46, ⟨#[115, 116, 105]⟩⟩, ⟨9, 0, 47, ⟨#[115, 116, 105]⟩⟩, ⟨10, 0, 48, ⟨#[115, 116, 105]⟩⟩, ⟨11, 0, 49, ⟨#[115, 116, 105]⟩⟩, ⟨12, 0, 50, ⟨#[115, 116, 105]⟩⟩, ⟨13, 0, 51, ⟨#[115, 116, 105]⟩⟩, ⟨14, 0, 52, ⟨#[115, 116, 105]⟩⟩, ⟨15, 0, 53, ⟨#[116, 105]⟩⟩, ⟨17, 0, 62, .empty⟩, ⟨32, 0, 66, ⟨#[115, 116, 105]⟩⟩, ⟨33, 0, 67, ⟨#[115, 116, 105]⟩⟩, ⟨35, 0, 68, ⟨#[115, 116, 105]⟩⟩, ⟨36, 0, 69, ⟨#[115, 116, 105]⟩⟩, ⟨37, 0, 70, ⟨#[115, 116, 105]⟩⟩, ⟨40, 0, 71, ⟨#[115, 116, 105]⟩⟩, ⟨41, 0, 72, ⟨#[115, 116, 105]⟩⟩, ⟨43, 0, 73, ⟨#[115, 116, 105]⟩⟩, ⟨47, 0, 76, .empty⟩, ⟨48, 0, 74, ⟨#[115, 116, 105]⟩⟩, ⟨51, 0, 77, .empty⟩, ⟨56, 0, 75, ⟨#[115, 116, 105]⟩⟩]
def otRows : List Rw := [⟨1, 0, 36, ⟨#[115, 105]⟩⟩, ⟨1, 1, 37, ⟨#[115, 105]⟩⟩, ⟨1, 16, 38, ⟨#[115, 105]⟩⟩, ⟨1, 17, 39, ⟨#[115, 105]⟩⟩, ⟨16, 0, 54, ⟨#[116, 100]⟩⟩, ⟨16, 4, 55, ⟨#[116, 100]⟩⟩, ⟨16, 65, 56, .empty⟩, ⟨16, 66, 57, .empty⟩, ⟨16, 70, 58, .empty⟩, ⟨16, 72, 59, .empty⟩, ⟨16, 88, 60, .empty⟩, ⟨16, 96, 61, .empty⟩, ⟨28, 2, 63, ⟨#[115, 116, 100]⟩⟩, ⟨28, 32, 64, ⟨#[115, 100]⟩⟩, ⟨28, 33, 65, ⟨#[115, 100]⟩⟩]
theorem opV_len0 {e : Env} {h : Hp} {x : Dx.X} : opV e h (.len 0 x) = (match x.ev e with | .string s => some (.int .i64 s.size, h) | _ => none) := by
  simp only [opV]
  generalize x.ev e = v
  cases v <;> rfl
/-- A truth; a word; an instruction; a row and a truth. -/
def isB (v : Value) : Prop := ∃ t : Bool, v = .bool t
def isW (v : Value) : Prop := ∃ t : BitVec 32, v = u32 t
def isI (v : Value) : Prop := ∃ i : Ins, v = .agg (encIns.enc i).toArray
def isR (v : Value) : Prop := ∃ (r : Rw) (t : Bool), r.f.size < 2 ^ 40 ∧ v = .tuple #[.agg (encRw.enc r).toArray, .bool t]
@[simp] theorem isB_b (t : Bool) : isB (.bool t) := ⟨t, rfl⟩
@[simp] theorem isW_w (t : BitVec 32) : isW (u32 t) := ⟨t, rfl⟩
@[simp] theorem isI_i (a b c d e : Int) (m : BitVec 32) : isI (.agg #[.int .i64 a, .int .i64 b, .int .i64 c, .int .i64 d, .int .i64 e, u32 m]) := ⟨⟨a, b, c, d, e, m⟩, rfl⟩
theorem all_get {α : Type} (E : Enc α) (xs : List α) (k j : Nat) (hk : k < xs.length) (hj : j < E.sz) : (E.all xs)[k * E.sz + j]? = (E.enc xs[k])[j]? := by
  have := E.at' xs [] k hk
  rw [List.append_nil] at this
  rw [← this, List.getElem?_take, if_pos hj, List.getElem?_drop]
theorem all_rdn {α : Type} (E : Enc α) {h : Hp} {b : Nat} {ro : Bool} {xs : List α} (hg : h.get b = some (.cells ro (E.all xs))) (k : Nat) (hk : k < xs.length) : h.rdn b (k * E.sz) E.sz = some (E.enc xs[k]) := by
  have := E.at' xs [] k hk
  rw [List.append_nil] at this
  have hm : (k + 1) * E.sz ≤ xs.length * E.sz := Nat.mul_le_mul_right _ hk
  rw [Nat.add_mul, Nat.one_mul] at hm
  simp only [Hp.rdn, Hp.cells, hg, Option.bind_some]
  rw [if_pos (by simp; omega), this]
section
variable {h : Hp} {q : Value → Hp → Prop}
theorem r_special : WC T n_6r [] h fun v h' => v = .slice (some ⟨h.next, 0, none⟩) 35 35 ∧ h' = h.push (.cells false (encRw.all spRows)) := by
  rw [w_6r]
  simp (maxSteps:=9^7)(disch:=first|assumption|((try simp only[nX]);omega)|simp) []
  rfl
theorem r_plain : WC T n_6o [] h fun v h' => v = .slice (some ⟨h.next, 0, none⟩) 27 27 ∧ h' = h.push (.cells false (encRw.all plRows)) := by
  rw [w_6o]
  simp (maxSteps:=9^7)(disch:=first|assumption|((try simp only[nX]);omega)|simp) []
  rfl
theorem r_others : WC T n_6n [] h fun v h' => v = .slice (some ⟨h.next, 0, none⟩) 15 15 ∧ h' = h.push (.cells false (encRw.all otRows)) := by
  rw [w_6n]
  simp (maxSteps:=9^7)(disch:=first|assumption|((try simp only[nX]);omega)|simp) []
  rfl
/-- Does a row of fields have one? -/
theorem r_has {f : ByteArray} {c : BitVec 8} (hf : f.size < 2 ^ 40) : WC T n_6m [.string f, u8 c] h fun v h' => isB v ∧ h' = h := by
  rw [w_6m]
  simp (maxSteps:=9^7)(disch:=first|assumption|((try simp only[nX]);omega)|simp)
  refine G_loop (fun j e h' => ∃ k : Nat, j = f.size - k ∧ k ≤ f.size ∧ h' = h ∧ e 0 = .string f ∧ e 1 = u8 c ∧ e 5 = .int .i64 k) ?_ f.size _ _ ⟨0, rfl, by omega, rfl, by simp, by simp, by simp⟩
  rintro j ih e h' ⟨k, rfl, hk, rfl, e0, e1, e5⟩
  by_cases c1 : k < f.size
  · have c1' : (k : Int) < f.size := by omega
    have hix : ∃ b : BitVec 8, ixsV (.int .i64 (k : Int)) (.string f) = some (u8 b) := by
      have hl : k < f.data.toList.length := by simpa using c1
      refine ⟨BitVec.ofNat 8 (f.data.toList[k]).toNat, ?_⟩
      simp only [ixsV]
      rw [indexA_int (by omega) (by omega)]
      simp only [Option.bind_some, Int.toNat_natCast]
      rw [List.getElem?_eq_getElem hl]
      have := (f.data.toList[k]).toNat_lt
      simp only [Option.map_some, u8, BitVec.toNat_ofNat]
      rw [Nat.mod_eq_of_lt (by omega)]
    obtain ⟨b, hix⟩ := hix
    by_cases hbc : b = c
    · simp (maxSteps:=9^7)(disch:=first|assumption|((try simp only[nX]);omega)|simp) [e0, e1, e5, c1', opV_len0, hix, hbc]
    · simp (maxSteps:=9^7)(disch:=first|assumption|((try simp only[nX]);omega)|simp) [e0, e1, e5, c1', opV_len0, hix, hbc]
      exact ih (f.size - (k + 1)) (by omega) _ _ ⟨k + 1, rfl, by omega, rfl, by simp [e0], by simp [e1], by simp⟩
  · have c1' : ¬ (k : Int) < f.size := by omega
    simp (maxSteps:=9^7)(disch:=first|assumption|((try simp only[nX]);omega)|simp) [e0, e1, e5, c1', opV_len0]
theorem r_small {n : Int} {t : Bool} : WC T n_6q [.int .i64 n, .bool t] h fun v h' => isB v ∧ h' = h := by
  rw [w_6q]
  by_cases c1 : n = 0
  · simp (maxSteps:=9^7)(disch:=first|assumption|((try simp only[nX]);omega)|simp) [c1]
  · cases t with
    | false => simp (maxSteps:=9^7)(disch:=first|assumption|((try simp only[nX]);omega)|simp) [c1]
    | true =>
      by_cases c2 : 0 < n
      · by_cases c3 : n < 32
        · simp (maxSteps:=9^7)(disch:=first|assumption|((try simp only[nX]);omega)|simp) [c1, c2, c3]
        · simp (maxSteps:=9^7)(disch:=first|assumption|((try simp only[nX]);omega)|simp) [c1, c2, c3]
      · simp (maxSteps:=9^7)(disch:=first|assumption|((try simp only[nX]);omega)|simp) [c1, c2]
theorem find_in {Q : Ex → Env → Hp → Prop} {e : Env} {F : List Fr} {rs : List Rw} {b p : Nat} {kind : Int} {H : Hp} {z : List Value} (hs : H.get b = some (.cells false (encRw.all rs))) (hl : rs.length < 2 ^ 30) (e0 : e 0 = .int .i64 kind) (e2 : e 2 = ptr p 0) (e5 : e 5 = .slice (some ⟨b, 0, none⟩) rs.length rs.length) (e6 : e 6 = .int .i64 0)
    (g2 : H.get p = some (.cells false z)) (hz : z.length = 4) (hk : ∀ e' : Env, e' 0 = e 0 → e' 2 = e 2 → e' 4 = e 4 → GR T Q F (.x 2) e' H) (hr : ∀ (e' : Env) (r : Rw), r ∈ rs → e' 2 = e 2 → e' 3 = .bool true → GR T Q F .r e' (H.put p (some (.cells false (encRw.enc r))))) : G T Q (.loop c1_6l) F e H := by
  refine G_loop (fun j e' h' => ∃ k : Nat, j = rs.length - k ∧ k ≤ rs.length ∧ h' = H ∧ e' 0 = e 0 ∧ e' 2 = e 2 ∧ e' 4 = e 4 ∧ e' 5 = e 5 ∧ e' 6 = .int .i64 k) ?_ rs.length _ _ ⟨0, rfl, by omega, rfl, rfl, rfl, rfl, rfl, e6⟩
  rintro j ih e' h' ⟨k, rfl, hkl, rfl, f0, f2, f4, f5, f6⟩
  have lb := lt_of_get g2
  by_cases c1 : k < rs.length
  · have c1' : (k : Int) < rs.length := by omega
    have hw := wr_all (vs := encRw.enc rs[k]) g2 (by rw [hz, encRw.len]; rfl) (encRw.one _)
    have h2 : (encRw.all rs)[k * 4 + 2]? = some (.int .i64 rs[k].k) := all_get encRw rs k 2 c1 (by decide)
    have h2' : ∀ hh : k * 4 + 2 < (encRw.all rs).length, (encRw.all rs)[k * 4 + 2]'hh = .int .i64 rs[k].k := fun hh => by rw [List.getElem?_eq_getElem hh] at h2; exact Option.some.inj h2
    have h4 : h'.rdn b (k * 4) 4 = some (encRw.enc rs[k]) := all_rdn encRw hs k c1
    have hal : (encRw.all rs).length = rs.length * 4 := by simp
    generalize encRw.all rs = C at *
    by_cases hq : rs[k].k = kind
    · simp only [encRw] at h4 hw
      have hd : z.drop 4 = [] := List.drop_eq_nil_of_le (by omega)
      have hrk := fun e' => hr e' rs[k] (List.getElem_mem c1)
      simp only [encRw, hq] at hrk h4
      simp (maxSteps:=9^7)(disch:=first|assumption|((try simp only[nX]);omega)|simp) [f0, f2, f5, f6, e0, e2, e5, c1, c1', hs, h2, h2', hal, h4, hq, g2, hz, hd]
      exact hrk _ (by simp [f2, e2]) (by simp)
    · simp (maxSteps:=9^7)(disch:=first|assumption|((try simp only[nX]);omega)|simp) [f0, f2, f5, f6, e0, e2, e5, c1, c1', hs, h2, h2', hal, h4, hq]
      exact ih (rs.length - (k + 1)) (by omega) _ _ ⟨k + 1, rfl, by omega, rfl, by simp [f0], by simp [f2], by simp [f4], by simp [f5], by simp⟩
  · have c1' : ¬ (k : Int) < rs.length := by omega
    simp (maxSteps:=9^7)(disch:=first|assumption|((try simp only[nX]);omega)|simp) [f0, f2, f5, f6, e0, e2, e5, c1']
    exact hk _ (by simp [f0, e0]) (by simp [f2, e2]) (by simp [f4])
theorem rows_f : (∀ r ∈ spRows, r.f.size < 2 ^ 40) ∧ (∀ r ∈ plRows, r.f.size < 2 ^ 40) ∧ (∀ r ∈ otRows, r.f.size < 2 ^ 40) := by
  refine ⟨?_, ?_, ?_⟩ <;> decide +kernel
theorem r_find {kind : Int} : WC T n_6l [.int .i64 kind] h fun v h' => isR v ∧ Kp h h' := by
  rw [w_6l]
  simp (maxSteps:=9^7)(disch:=first|assumption|((try simp only[nX]);omega)|simp) []
  refine G_loop (fun j e h' => ∃ k : Nat, j = 3 - k ∧ k ≤ 3 ∧ Kp h h' ∧ h'.get h.next = some (.cells false [.int .i64 0, .int .i64 0, .int .i64 0, .string .empty]) ∧ e 0 = .int .i64 kind ∧ e 2 = ptr h.next 0 ∧ e 4 = .int .i64 k) ?_ 3 _ _ ⟨0, rfl, by omega, by simp (maxSteps:=9^7)(disch:=first|assumption|((try simp only[nX]);omega)|simp) [], by simp (maxSteps:=9^7)(disch:=first|assumption|((try simp only[nX]);omega)|simp) [], by simp, by simp, by simp⟩
  rintro j ih e h' ⟨k, rfl, hk, K, g2, e0, e2, e4⟩
  have l2 := lt_of_get g2
  by_cases c1 : k < 3
  case neg =>
    obtain rfl : k = 3 := by omega
    simp (maxSteps:=9^7)(disch:=first|assumption|((try simp only[nX]);omega)|simp) [e4, e2, g2]
    exact ⟨⟨0, 0, 0, .empty⟩, false, by decide, rfl⟩
  have c1' : (k : Int) < 3 := by omega
  simp (maxSteps:=9^7)(disch:=first|assumption|((try simp only[nX]);omega)|simp) [e4, c1', -g2_6l]
  refine GC_intro r_special fun v h1 ⟨hv, hh⟩ => ?_
  subst hv hh
  obtain ⟨f1, f2, f3⟩ := rows_f
  obtain rfl | rfl | rfl : k = 0 ∨ k = 1 ∨ k = 2 := by omega
  · simp (maxSteps:=9^7)(disch:=first|assumption|((try simp only[nX]);omega)|simp) [e4]
    refine find_in (rs := spRows) (kind := kind) (p := h.next) (b := h'.next) get_push_self (by decide) (by simp [e0]) (by simp [e2]) (by simp; rfl) (by simp) ((get_push_ne (by omega)).trans g2) rfl (fun e' k0 k2 k4 => ?_) fun e' r hr k2 k3 => ?_
    · have k4' : e' 4 = .int .i64 0 := by rw [k4]; simp [e4]
      simp (maxSteps:=9^7)(disch:=first|assumption|((try simp only[nX]);omega)|simp) [k4']
      exact ih 2 (by omega) _ _ ⟨1, rfl, by omega, K.push _, (get_push_ne (by omega)).trans g2, by simp [k0, e0], by simp [k2, e2], by simp⟩
    · have k2' : e' 2 = ptr h.next 0 := by rw [k2]; simp [e2]
      simp (maxSteps:=9^7)(disch:=first|assumption|((try simp only[nX]);omega)|simp) [k2', k3, encRw]
      exact ⟨⟨r, true, f1 r hr, rfl⟩, (K.put (Nat.le_refl _) _).push _⟩
  · simp (maxSteps:=9^7)(disch:=first|assumption|((try simp only[nX]);omega)|simp) [e4]
    refine GC_intro r_plain fun v h1 ⟨hv, hh⟩ => ?_
    subst hv hh
    simp (maxSteps:=9^7)(disch:=first|assumption|((try simp only[nX]);omega)|simp) [e4]
    refine find_in (rs := plRows) (kind := kind) (p := h.next) (b := h'.next + 1) get_push_self (by decide) (by simp [e0]) (by simp [e2]) (by simp; rfl) (by simp) ((get_push_ne (by rw [push_next]; omega)).trans ((get_push_ne (by omega)).trans g2)) rfl (fun e' k0 k2 k4 => ?_) fun e' r hr k2 k3 => ?_
    · have k4' : e' 4 = .int .i64 1 := by rw [k4]; simp [e4]
      simp (maxSteps:=9^7)(disch:=first|assumption|((try simp only[nX]);omega)|simp) [k4']
      exact ih 1 (by omega) _ _ ⟨2, rfl, by omega, (K.push _).push _, (get_push_ne (by rw [push_next]; omega)).trans ((get_push_ne (by omega)).trans g2), by simp [k0, e0], by simp [k2, e2], by simp⟩
    · have k2' : e' 2 = ptr h.next 0 := by rw [k2]; simp [e2]
      simp (maxSteps:=9^7)(disch:=first|assumption|((try simp only[nX]);omega)|simp) [k2', k3, encRw]
      exact ⟨⟨r, true, f2 r hr, rfl⟩, ((K.put (Nat.le_refl _) _).push _).push _⟩
  · simp (maxSteps:=9^7)(disch:=first|assumption|((try simp only[nX]);omega)|simp) [e4]
    refine GC_intro r_others fun v h1 ⟨hv, hh⟩ => ?_
    subst hv hh
    simp (maxSteps:=9^7)(disch:=first|assumption|((try simp only[nX]);omega)|simp) [e4]
    refine find_in (rs := otRows) (kind := kind) (p := h.next) (b := h'.next + 1) get_push_self (by decide) (by simp [e0]) (by simp [e2]) (by simp; rfl) (by simp) ((get_push_ne (by rw [push_next]; omega)).trans ((get_push_ne (by omega)).trans g2)) rfl (fun e' k0 k2 k4 => ?_) fun e' r hr k2 k3 => ?_
    · have k4' : e' 4 = .int .i64 2 := by rw [k4]; simp [e4]
      simp (maxSteps:=9^7)(disch:=first|assumption|((try simp only[nX]);omega)|simp) [k4']
      exact ih 0 (by omega) _ _ ⟨3, rfl, by omega, (K.push _).push _, (get_push_ne (by rw [push_next]; omega)).trans ((get_push_ne (by omega)).trans g2), by simp [k0, e0], by simp [k2, e2], by simp⟩
    · have k2' : e' 2 = ptr h.next 0 := by rw [k2]; simp [e2]
      simp (maxSteps:=9^7)(disch:=first|assumption|((try simp only[nX]);omega)|simp) [k2', k3, encRw]
      exact ⟨⟨r, true, f3 r hr, rfl⟩, ((K.put (Nat.le_refl _) _).push _).push _⟩
end
end Go.Proofs.YtoiiphcbkejliaaGreat.Cd

/- The document's words of instructions, as they are drawn: that they come. -/
set_option maxRecDepth 1000000
set_option maxHeartbeats 8000000
set_option linter.unusedSimpArgs false
set_option linter.unusedVariables false
namespace Go.Proofs.YtoiiphcbkejliaaGreat.Cd
open Go Go.Dx
def isT (v : Value) : Prop := ∃ (w : BitVec 32) (t : Bool), v = .tuple #[u32 w, .bool t]
@[simp] theorem isT_t (w : BitVec 32) (t : Bool) : isT (.tuple #[u32 w, .bool t]) := ⟨w, t, rfl⟩
section
variable {h : Hp} {q : Value → Hp → Prop} {i : Ins}
theorem r_right : WC T n_6j [.agg (encIns.enc i).toArray] h fun v h' => isB v ∧ Kp h h' := by
  rw [w_6j]
  simp (maxSteps:=9^7)(disch:=first|assumption|((try simp only[nX]);omega)|simp) [encIns]
  generalize hP : Hp.push h _ = P
  have gP : P.get h.next = some (.cells false [.int .i64 i.k, .int .i64 i.s, .int .i64 i.t, .int .i64 i.d, .int .i64 i.sh, u32 i.imm]) := by rw [← hP]; exact get_push_self
  have KP : Kp h P := by rw [← hP]; exact (Kp.refl h).push _
  clear hP
  refine GC_intro r_find fun v h1 ⟨⟨r, t, hf, hv⟩, K1⟩ => ?_
  subst hv
  have g1 := (K1.get _ (lt_of_get gP)).trans gP
  have K0 := KP.trans K1
  have l1 := lt_of_get g1
  clear K1 KP gP
  cases t with
  | false => simp (maxSteps:=9^7)(disch:=first|assumption|((try simp only[nX]);omega)|simp) [encRw]
  | true =>
  simp (maxSteps:=9^7)(disch:=first|assumption|((try simp only[nX]);omega)|simp) [encRw]
  refine GC_intro (r_has hf) fun v h2 ⟨⟨t1, hv⟩, hh⟩ => ?_
  subst hv hh
  have most : ∀ e : Env, e 1 = ptr h.next 0 → e 5 = .string r.f → isW (e 6) → G T (fin [RV.t 2] (some []) h.next fun v h' => isB v ∧ Kp h h') c0_6j [] e (h1.push (.cells false [.int .i64 r.op, .int .i64 r.sub, .int .i64 r.k, .string r.f])) := fun e e1 e5 ⟨mo, e6⟩ => by
    have K2 := K0.push (.cells false [.int .i64 r.op, .int .i64 r.sub, .int .i64 r.k, .string r.f])
    have g2 := (get_push_ne (h := h1) (o := .cells false [.int .i64 r.op, .int .i64 r.sub, .int .i64 r.k, .string r.f]) (b := h.next) (by omega)).trans g1
    generalize h1.push (.cells false [.int .i64 r.op, .int .i64 r.sub, .int .i64 r.k, .string r.f]) = h2 at *
    simp (maxSteps:=9^7)(disch:=first|assumption|((try simp only[nX]);omega)|simp) [e1, e5, g2]
    refine GCI_intro (r_has hf) fun v h3 ⟨⟨t2, hv⟩, hh⟩ => ?_
    subst hv hh
    simp (maxSteps:=9^7)(disch:=first|assumption|((try simp only[nX]);omega)|simp) [e1, e5, g2]
    refine GCI_intro r_small fun v h4 ⟨⟨t3, hv⟩, hh⟩ => ?_
    subst hv hh
    cases t3 with
    | false => simp (maxSteps:=9^7)(disch:=first|assumption|((try simp only[nX]);omega)|simp) [e1, e5, g2, K2]
    | true =>
    simp (maxSteps:=9^7)(disch:=first|assumption|((try simp only[nX]);omega)|simp) [e1, e5, g2]
    refine GCI_intro (r_has hf) fun v h3 ⟨⟨t2, hv⟩, hh⟩ => ?_
    subst hv hh
    simp (maxSteps:=9^7)(disch:=first|assumption|((try simp only[nX]);omega)|simp) [e1, e5, g2]
    refine GCI_intro r_small fun v h4 ⟨⟨t3, hv⟩, hh⟩ => ?_
    subst hv hh
    cases t3 with
    | false => simp (maxSteps:=9^7)(disch:=first|assumption|((try simp only[nX]);omega)|simp) [e1, e5, g2, K2]
    | true =>
    simp (maxSteps:=9^7)(disch:=first|assumption|((try simp only[nX]);omega)|simp) [e1, e5, g2]
    refine GCI_intro (r_has hf) fun v h3 ⟨⟨t2, hv⟩, hh⟩ => ?_
    subst hv hh
    simp (maxSteps:=9^7)(disch:=first|assumption|((try simp only[nX]);omega)|simp) [e1, e5, g2]
    refine GCI_intro r_small fun v h4 ⟨⟨t3, hv⟩, hh⟩ => ?_
    subst hv hh
    cases t3 with
    | false => simp (maxSteps:=9^7)(disch:=first|assumption|((try simp only[nX]);omega)|simp) [e1, e5, g2, K2]
    | true =>
    simp (maxSteps:=9^7)(disch:=first|assumption|((try simp only[nX]);omega)|simp) [e1, e5, g2]
    refine GCI_intro (r_has hf) fun v h3 ⟨⟨t2, hv⟩, hh⟩ => ?_
    subst hv hh
    simp (maxSteps:=9^7)(disch:=first|assumption|((try simp only[nX]);omega)|simp) [e1, e5, g2]
    refine GCI_intro r_small fun v h4 ⟨⟨t3, hv⟩, hh⟩ => ?_
    subst hv hh
    cases t3 with
    | false => simp (maxSteps:=9^7)(disch:=first|assumption|((try simp only[nX]);omega)|simp) [e1, e5, g2, K2]
    | true => simp (maxSteps:=9^7)(disch:=first|assumption|((try simp only[nX]);omega)|simp) [e1, e5, e6, g2, K2]
  cases t1 with
  | true =>
    simp (maxSteps:=9^7)(disch:=first|assumption|((try simp only[nX]);omega)|simp) [-g0_6j]
    exact most _ (by simp) (by simp) (by simp)
  | false =>
    simp (maxSteps:=9^7)(disch:=first|assumption|((try simp only[nX]);omega)|simp) [-g0_6j]
    refine GC_intro (r_has hf) fun v h2 ⟨⟨t1, hv⟩, hh⟩ => ?_
    subst hv hh
    cases t1 with
    | true =>
      simp (maxSteps:=9^7)(disch:=first|assumption|((try simp only[nX]);omega)|simp) [-g0_6j]
      exact most _ (by simp) (by simp) (by simp)
    | false =>
      simp (maxSteps:=9^7)(disch:=first|assumption|((try simp only[nX]);omega)|simp) [-g0_6j]
      exact most _ (by simp) (by simp) (by simp)
theorem r_word : WC T n_6k [.agg (encIns.enc i).toArray] h fun v h' => isT v ∧ Kp h h' := by
  rw [w_6k]
  simp (maxSteps:=9^7)(disch:=first|assumption|((try simp only[nX]);omega)|simp) [encIns]
  generalize hP : Hp.push h _ = P
  have gP : P.get h.next = some (.cells false [.int .i64 i.k, .int .i64 i.s, .int .i64 i.t, .int .i64 i.d, .int .i64 i.sh, u32 i.imm]) := by rw [← hP]; exact get_push_self
  have KP : Kp h P := by rw [← hP]; exact (Kp.refl h).push _
  clear hP
  have hr := fun h => r_right (h := h) (i := i)
  simp only [encIns] at hr
  refine GC_intro (hr _) fun v h1 ⟨⟨t, hv⟩, K1⟩ => ?_
  subst hv
  have g1 := (K1.get _ (lt_of_get gP)).trans gP
  have K0 := KP.trans K1
  clear K1 KP gP
  cases t with
  | false => simp (maxSteps:=9^7)(disch:=first|assumption|((try simp only[nX]);omega)|simp) [K0]
  | true =>
  simp (maxSteps:=9^7)(disch:=first|assumption|((try simp only[nX]);omega)|simp) [g1]
  refine GC_intro r_find fun v h2 ⟨⟨r, t, hf, hv⟩, K2⟩ => ?_
  subst hv
  have g2 := (K2.get _ (lt_of_get g1)).trans g1
  have K0 := K0.trans K2
  have l2 := lt_of_get g2
  clear K2 g1
  by_cases c1 : r.op = 0
  · simp (maxSteps:=9^7)(disch:=first|assumption|((try simp only[nX]);omega)|simp) [encRw, g2, c1, K0]
  by_cases c2 : r.op = 28
  · simp (maxSteps:=9^7)(disch:=first|assumption|((try simp only[nX]);omega)|simp) [encRw, g2, c1, c2, K0]
  by_cases c3 : r.op = 1
  · simp (maxSteps:=9^7)(disch:=first|assumption|((try simp only[nX]);omega)|simp) [encRw, g2, c1, c2, c3, K0]
  by_cases c4 : r.op = 16
  · by_cases c5 : 64 ≤ r.sub
    · simp (maxSteps:=9^7)(disch:=first|assumption|((try simp only[nX]);omega)|simp) [encRw, g2, c1, c2, c3, c4, c5, K0]
    · simp (maxSteps:=9^7)(disch:=first|assumption|((try simp only[nX]);omega)|simp) [encRw, g2, c1, c2, c3, c4, c5, K0]
  · simp (maxSteps:=9^7)(disch:=first|assumption|((try simp only[nX]);omega)|simp) [encRw, g2, c1, c2, c3, c4, K0]
theorem k_word : WC T n_4j [.agg (encIns.enc i).toArray] h fun v h' => isW v ∧ Kp h h' := by
  rw [w_4j]
  simp (maxSteps:=9^7)(disch:=first|assumption|((try simp only[nX]);omega)|simp) [encIns]
  generalize hP : Hp.push h _ = P
  have KP : Kp h P := by rw [← hP]; exact (Kp.refl h).push _
  clear hP
  have hr := fun h => r_word (h := h) (i := i)
  simp only [encIns] at hr
  refine GC_intro (hr _) fun v h1 ⟨⟨w, t, hv⟩, K1⟩ => ?_
  subst hv
  simp (maxSteps:=9^7)(disch:=first|assumption|((try simp only[nX]);omega)|simp)
  exact KP.trans K1
theorem k_near {n : Int} : WC T n_4g [.int .i64 n] h fun v h' => (∃ m : Int, v = .int .i64 m) ∧ h' = h := by
  have hw := fun q => within_eq (h := h) (q := q) (n := n) (lo := 0) (hi := 1048576) (by omega) (by omega) (by omega)
  obtain ⟨w1, w2⟩ := wi_bound (n := n) (lo := 0) (hi := 1048576) (by omega)
  rw [w_4g]
  simp (maxSteps:=9^7)(disch:=first|assumption|((try simp only[nX]);omega)|simp) [GC_of hw]
theorem k_only {f : Int} : WC T n_4h [.agg (encIns.enc i).toArray, .int .i64 f] h fun v h' => isI v ∧ Kp h h' := by
  rw [w_4h]
  by_cases c0 : f = 0
  · simp (maxSteps:=9^7)(disch:=first|assumption|((try simp only[nX]);omega)|simp) [encIns, c0]
  by_cases c1 : f = 1
  · simp (maxSteps:=9^7)(disch:=first|assumption|((try simp only[nX]);omega)|simp) [encIns, c0, c1]
  by_cases c2 : f = 2
  · simp (maxSteps:=9^7)(disch:=first|assumption|((try simp only[nX]);omega)|simp) [encIns, c0, c1, c2]
  by_cases c3 : f = 3
  · simp (maxSteps:=9^7)(disch:=first|assumption|((try simp only[nX]);omega)|simp) [encIns, c0, c1, c2, c3]
  by_cases c4 : f = 4
  · simp (maxSteps:=9^7)(disch:=first|assumption|((try simp only[nX]);omega)|simp) [encIns, c0, c1, c2, c3, c4]
  · simp (maxSteps:=9^7)(disch:=first|assumption|((try simp only[nX]);omega)|simp) [encIns, c0, c1, c2, c3, c4]
/-- An instruction as it is drawn. -/
structure In7 where
  k : Int
  s : Int
  t : Int
  d : Int
  sh : Int
  imm : BitVec 32
  raw : BitVec 32
def encI7 : Enc In7 := ⟨7, fun x => [.int .i64 x.k, .int .i64 x.s, .int .i64 x.t, .int .i64 x.d, .int .i64 x.sh, u32 x.imm, u32 x.raw], fun _ => rfl, fun _ => rfl, by decide⟩
@[simp] theorem encI7_sz : encI7.sz = 7 := rfl
theorem k_inst {x : In7} {kind : Int} : WC T n_4e [.agg (encI7.enc x).toArray, .int .i64 kind] h fun v h' => isI v ∧ Kp h h' := by
  have hw := fun h q => within_eq (h := h) (q := q) (n := x.sh) (lo := 0) (hi := 31) (by omega) (by omega) (by omega)
  rw [w_4e]
  simp (maxSteps:=9^7)(disch:=first|assumption|((try simp only[nX]);omega)|simp) [encI7]
  refine GCI_intro k_near fun v h1 ⟨⟨m1, hv⟩, hh⟩ => ?_
  subst hv hh
  simp (maxSteps:=9^7)(disch:=first|assumption|((try simp only[nX]);omega)|simp) []
  refine GCI_intro k_near fun v h1 ⟨⟨m2, hv⟩, hh⟩ => ?_
  subst hv hh
  simp (maxSteps:=9^7)(disch:=first|assumption|((try simp only[nX]);omega)|simp) []
  refine GCI_intro k_near fun v h1 ⟨⟨m3, hv⟩, hh⟩ => ?_
  subst hv hh
  simp (maxSteps:=9^7)(disch:=first|assumption|((try simp only[nX]);omega)|simp) [GCI_of (hw _)]
  generalize hP : Hp.push (Hp.push (Hp.push h _) _) _ = P
  have KP : Kp h P := by rw [← hP]; exact (((Kp.refl h).push _).push _).push _
  have g4 : P.get (h.next + 1) = some (.cells false [.int .i64 0, .int .i64 0, .int .i64 0, .int .i64 0, .int .i64 0, u32 0#32]) := by rw [← hP, get_push_ne (by simp only [push_next]; omega)]; exact get_push_self
  have g5 : P.get (h.next + 2) = some (.cells false (encIns.enc ⟨kind, m1, m2, m3, wi x.sh 0 31, x.imm &&& 67108863#32⟩)) := by rw [← hP]; exact get_push_self
  clear hP
  refine G_loop (fun j e H => ∃ (k : Nat) (i : Ins), j = 6 - k ∧ k ≤ 6 ∧ Kp h H ∧ H.get (h.next + 1) = some (.cells false [.int .i64 0, .int .i64 0, .int .i64 0, .int .i64 0, .int .i64 0, u32 0#32]) ∧ H.get (h.next + 2) = some (.cells false (encIns.enc i)) ∧ e 4 = ptr (h.next + 1) 0 ∧ e 5 = ptr (h.next + 2) 0 ∧ e 6 = .int .i64 k) ?_ 6 _ _ ⟨0, _, rfl, by omega, KP, g4, g5, by simp, by simp, by simp⟩
  clear KP g4 g5 hw P
  rintro j ih e H ⟨k, i, rfl, hk, K, g4, g5, e4, e5, e6⟩
  have l5 := lt_of_get g5
  have r5 := rdn_all (n := 6) g5 rfl
  by_cases c1 : k < 6
  case neg =>
    obtain rfl : k = 6 := by omega
    simp only [encIns] at r5
    simp (maxSteps:=9^7)(disch:=first|assumption|((try simp only[nX]);omega)|simp) [e6, e5, e4, g4, r5]
  have c1' : (k : Int) < 6 := by omega
  have ho := fun h i f => k_only (h := h) (i := i) (f := f)
  have hrr := fun h i => r_right (h := h) (i := i)
  have rest : ∀ (e' : Env) (y : Ins) (h2 : Hp), Kp h h2 → h2.get (h.next + 1) = some (.cells false [.int .i64 0, .int .i64 0, .int .i64 0, .int .i64 0, .int .i64 0, u32 0#32]) → h2.get (h.next + 2) = some (.cells false (encIns.enc i)) → ∀ b, h2.get b = some (.cells false (encIns.enc y)) → h.next + 2 < b → e' 4 = ptr (h.next + 1) 0 → e' 5 = ptr (h.next + 2) 0 → e' 6 = .int .i64 k → e' 7 = ptr b 0 →
      G T (fin [RV.ldn 6 4] (some []) h.next fun v h' => isI v ∧ Kp h h') c3_4e [Fr.block 1, Fr.seq (C.ops [{ d := some 27, g := none, o := Op.mov (X.t 6) }, { d := some 28, g := none, o := Op.bin BinOp.add (X.t 27) (X.c (Value.int IntKind.i64 1)) }, { d := some 6, g := none, o := Op.mov (X.t 28) }]), Fr.loop c5_4e, Fr.block 0, Fr.seq ((C.ops [{ d := some 56, g := none, o := Op.ldn 6 (X.t 5) }, { d := none, g := none, o := Op.stn 6 (X.t 4) (X.t 56) }]).seq C.ret)] e' h2 := fun e' y h2 K2 g4 g5 b gb hb e4 e5 e6 e7 => by
    have r5 := rdn_all (n := 6) g5 rfl
    simp only [encIns] at r5
    simp (maxSteps:=9^7)(disch:=first|assumption|((try simp only[nX]);omega)|simp) [e5, e6, r5]
    have ho := fun h => k_only (h := h) (i := i) (f := (k : Int))
    simp only [encIns] at ho
    refine GC_intro (ho _) fun v h3 ⟨⟨z, hv⟩, K3⟩ => ?_
    subst hv
    simp (maxSteps:=9^7)(disch:=first|assumption|((try simp only[nX]);omega)|simp)
    refine GC_intro r_right fun v h4 ⟨⟨t, hv⟩, K4⟩ => ?_
    subst hv
    have K34 := K3.trans K4
    have f4 := (K34.get _ (lt_of_get g4)).trans g4
    have f5 := (K34.get _ (lt_of_get g5)).trans g5
    have fb := (K34.get _ (lt_of_get gb)).trans gb
    have K5 := K2.trans K34
    cases t with
    | true =>
      simp (maxSteps:=9^7)(disch:=first|assumption|((try simp only[nX]);omega)|simp) [e6]
      exact ih (6 - (k + 1)) (by omega) _ _ ⟨k + 1, i, rfl, by omega, K5, f4, f5, by simp [e4], by simp [e5], by simp⟩
    | false =>
      have rb := rdn_all (n := 6) fb rfl
      have l5 := lt_of_get f5
      have w5 := wr_all (vs := encIns.enc y) f5 rfl (encIns.one y)
      simp only [encIns] at rb f5
      simp (maxSteps:=9^7)(disch:=first|assumption|((try simp only[nX]);omega)|simp) [e6, e5, e7, rb, f5]
      refine ih (6 - (k + 1)) (by omega) _ _ ⟨k + 1, y, rfl, by omega, K5.put (by omega) _, (get_put_ne (by omega)).trans f4, get_put_self l5, by simp [e4], by simp [e5], by simp⟩
  have hl : h.next + 2 < H.next := l5
  simp only [encIns] at r5
  have gp : ∀ y : Ins, (H.push (.cells false (encIns.enc y))).get H.next = some (.cells false (encIns.enc y)) := fun y => get_push_self
  have done : ∀ (e' : Env) (y : Ins), e' 4 = ptr (h.next + 1) 0 → e' 5 = ptr (h.next + 2) 0 → e' 6 = .int .i64 k → e' 7 = ptr H.next 0 → _ := fun e' y f4 f5 f6 f7 => rest e' y (H.push (.cells false (encIns.enc y))) (K.push _) ((get_push_ne (by omega)).trans g4) ((get_push_ne (by omega)).trans g5) H.next get_push_self hl f4 f5 f6 f7
  obtain rfl | rfl | rfl | rfl | rfl | rfl : k = 0 ∨ k = 1 ∨ k = 2 ∨ k = 3 ∨ k = 4 ∨ k = 5 := by omega
  · simp (maxSteps:=9^7)(disch:=first|assumption|((try simp only[nX]);omega)|simp) [e4, e5, e6, r5, -g3_4e]
    exact done _ ⟨i.k, 0, i.t, i.d, i.sh, i.imm⟩ (by simp [e4]) (by simp [e5]) (by simp [e6]) (by simp)
  · simp (maxSteps:=9^7)(disch:=first|assumption|((try simp only[nX]);omega)|simp) [e4, e5, e6, r5, -g3_4e]
    exact done _ ⟨i.k, i.s, 0, i.d, i.sh, i.imm⟩ (by simp [e4]) (by simp [e5]) (by simp [e6]) (by simp)
  · simp (maxSteps:=9^7)(disch:=first|assumption|((try simp only[nX]);omega)|simp) [e4, e5, e6, r5, -g3_4e]
    exact done _ ⟨i.k, i.s, i.t, 0, i.sh, i.imm⟩ (by simp [e4]) (by simp [e5]) (by simp [e6]) (by simp)
  · simp (maxSteps:=9^7)(disch:=first|assumption|((try simp only[nX]);omega)|simp) [e4, e5, e6, r5, -g3_4e]
    exact done _ ⟨i.k, i.s, i.t, i.d, 0, i.imm⟩ (by simp [e4]) (by simp [e5]) (by simp [e6]) (by simp)
  · simp (maxSteps:=9^7)(disch:=first|assumption|((try simp only[nX]);omega)|simp) [e4, e5, e6, r5, -g3_4e]
    exact done _ ⟨i.k, i.s, i.t, i.d, i.sh, i.imm &&& 65535#32⟩ (by simp [e4]) (by simp [e5]) (by simp [e6]) (by simp)
  · simp (maxSteps:=9^7)(disch:=first|assumption|((try simp only[nX]);omega)|simp) [e4, e5, e6, r5, -g3_4e]
    exact done _ ⟨i.k, i.s, i.t, i.d, i.sh, 0#32⟩ (by simp [e4]) (by simp [e5]) (by simp [e6]) (by simp)
end
end Go.Proofs.YtoiiphcbkejliaaGreat.Cd

/- The document's words as they are drawn: rows of Kinds. -/
set_option maxRecDepth 1000000
set_option maxHeartbeats 8000000
set_option linter.unusedSimpArgs false
set_option linter.unusedVariables false
namespace Go.Proofs.YtoiiphcbkejliaaGreat.Cd
open Go Go.Dx
/-- A table of numbers. -/
def isZs (V : List Value) (n : Nat) : Prop := V.length = n ∧ ∀ j, j < n → ∃ c : Int, V[j]? = some (.int .i64 c)
theorem isZs_map (l : List Int) : isZs (l.map (Value.int .i64)) l.length := ⟨by simp, fun j hj => ⟨l[j], by simp [hj]⟩⟩
theorem tmod_ix {n : Int} {m : Nat} (h0 : 0 ≤ n) (hm : 0 < m) : ∃ j : Nat, n.tmod m = j ∧ j < m := ⟨(n % m).toNat, by
  rw [Int.tmod_eq_emod_of_nonneg h0, Int.toNat_of_nonneg (Int.emod_nonneg _ (by omega))], by
  have h1 := Int.emod_nonneg n (show (m : Int) ≠ 0 by omega)
  have h2 := Int.emod_lt_of_pos n (show (0 : Int) < m by omega)
  omega⟩
section
variable {h : Hp} {q : Value → Hp → Prop} {i : Ins}
theorem k_any {x : In7} : WC T n_4b [.agg (encI7.enc x).toArray] h fun v h' => isI v ∧ Kp h h' := by
  have hw := fun h q => within_eq (h := h) (q := q) (n := x.k) (lo := 0) (hi := 1048576) (by omega) (by omega) (by omega)
  obtain ⟨w1, w2⟩ := wi_bound (n := x.k) (lo := 0) (hi := 1048576) (by omega)
  rw [w_4b]
  have hi := fun h kind => k_inst (h := h) (x := x) (kind := kind)
  simp only [encI7] at hi
  simp (maxSteps:=9^7)(disch:=first|assumption|((try simp only[nX]);omega)|simp) [encI7, GCI_of (hw _)]
  refine GCI_intro (hi _ _) fun v h1 ⟨⟨j, hv⟩, K1⟩ => ?_
  subst hv
  have g1 := (K1.get (h.next + 1) (by simp)).trans get_push_self
  have l1 := lt_of_get g1
  have K0 : Kp h h1 := Kp.trans (((Kp.refl h).push _).push _) K1
  simp (maxSteps:=9^7)(disch:=first|assumption|((try simp only[nX]);omega)|simp) [encIns, g1]
theorem k_plain {x : In7} : WC T n_4f [.agg (encI7.enc x).toArray] h fun v h' => isI v ∧ Kp h h' := by
  have hw := fun h q => within_eq (h := h) (q := q) (n := x.k) (lo := 0) (hi := 1048576) (by omega) (by omega) (by omega)
  obtain ⟨w1, w2⟩ := wi_bound (n := x.k) (lo := 0) (hi := 1048576) (by omega)
  rw [w_4f]
  have hi := fun h kind => k_inst (h := h) (x := x) (kind := kind)
  simp only [encI7] at hi
  generalize wi x.k 0 1048576 = n at *
  obtain ⟨V, hV, hl, hz⟩ : ∃ V : List Value, V = [.int .i64 1, .int .i64 2, .int .i64 3, .int .i64 4, .int .i64 5, .int .i64 6, .int .i64 9, .int .i64 10, .int .i64 13, .int .i64 14, .int .i64 15, .int .i64 16, .int .i64 17, .int .i64 18, .int .i64 19, .int .i64 20, .int .i64 21, .int .i64 23, .int .i64 25, .int .i64 26, .int .i64 27, .int .i64 28, .int .i64 29, .int .i64 30, .int .i64 31, .int .i64 47, .int .i64 48, .int .i64 49, .int .i64 50, .int .i64 51, .int .i64 52, .int .i64 53, .int .i64 63, .int .i64 64, .int .i64 65, .int .i64 76, .int .i64 77] ∧ isZs V 37 := ⟨_, rfl, isZs_map [1, 2, 3, 4, 5, 6, 9, 10, 13, 14, 15, 16, 17, 18, 19, 20, 21, 23, 25, 26, 27, 28, 29, 30, 31, 47, 48, 49, 50, 51, 52, 53, 63, 64, 65, 76, 77]⟩
  obtain ⟨j, hj, hj2⟩ := tmod_ix (n := n) (m := 37) w1 (by omega)
  have hj : n.tmod 37 = (j : Int) := hj
  obtain ⟨c, hc⟩ := hz j hj2
  have hc2 : ∀ hh : j < V.length, V[j]'hh = .int .i64 c := fun hh => by rw [List.getElem?_eq_getElem hh] at hc; exact Option.some.inj hc
  simp (maxSteps:=9^7)(disch:=first|assumption|((try simp only[nX]);omega)|simp) [encI7, -g0_4f]
  rw [← hV]
  clear hV hz
  simp (maxSteps:=9^7)(disch:=first|assumption|((try simp only[nX]);omega)|simp) [GCI_of (hw _), hj, hj2, hc, hc2, hl]
  refine GCI_intro (hi _ _) fun v h1 ⟨⟨i, hv⟩, K1⟩ => ?_
  subst hv
  have g1 := (K1.get (h.next + 1) (by simp)).trans ((get_push_ne (by rw [push_next, push_next]; omega)).trans get_push_self)
  have l1 := lt_of_get g1
  have K0 : Kp h h1 := Kp.trans ((((Kp.refl h).push _).push _).push _) K1
  simp (maxSteps:=9^7)(disch:=first|assumption|((try simp only[nX]);omega)|simp) [encIns, g1]
theorem and_k {n : Int} {m : Nat} (hm : m < 64) : ∃ j : Nat, j ≤ m ∧ binV .and (.int .i64 n) (.int .i64 (m : Int)) = some (.int .i64 j) := by
  have h : (BitVec.ofInt 64 n &&& BitVec.ofInt 64 m).toNat ≤ m := by
    rw [BitVec.toNat_and, BitVec.ofInt_natCast, BitVec.toNat_ofNat]
    refine Nat.le_trans Nat.and_le_right ?_
    exact Nat.mod_le _ _
  refine ⟨_, h, ?_⟩
  rw [and_i64, wrap_i64 (by omega) (by omega)]
theorem k_code {x : In7} : WC T n_4c [.agg (encI7.enc x).toArray] h fun v h' => isW v ∧ Kp h h' := by
  have hw := fun h q => within_eq (h := h) (q := q) (n := x.k) (lo := 0) (hi := 1048576) (by omega) (by omega) (by omega)
  obtain ⟨w1, w2⟩ := wi_bound (n := x.k) (lo := 0) (hi := 1048576) (by omega)
  have hi := fun h kind => k_inst (h := h) (x := x) (kind := kind)
  have ha := fun h => k_any (h := h) (x := x)
  have hp := fun h => k_plain (h := h) (x := x)
  simp only [encI7] at hi ha hp
  generalize wi x.k 0 1048576 = n at *
  rw [w_4c]
  simp (maxSteps:=9^7)(disch:=first|assumption|((try simp only[nX]);omega)|simp) [encI7, GC_of (hw _)]
  generalize hP : Hp.push h _ = P
  have gP : P.get h.next = some (.cells false (encI7.enc x)) := by rw [← hP]; exact get_push_self
  have KP : Kp h P := by rw [← hP]; exact (Kp.refl h).push _
  clear hP
  refine GC_intro (hp _) fun v h1 ⟨⟨i, hv⟩, K1⟩ => ?_
  subst hv
  have g1 := (K1.get _ (lt_of_get gP)).trans gP
  have K0 := KP.trans K1
  have l1 := lt_of_get g1
  clear K1 KP gP
  have fini : ∀ (e : Env) (h2 : Hp) (i : Ins) (p : Nat), h2.get p = some (.cells false (encIns.enc i)) → Kp h h2 → e 4 = ptr p 0 → G T (fin [RV.t 2] (some []) h.next fun v h' => isW v ∧ Kp h h') c14_4c [] e h2 := fun e h2 i p g K e4 => by
    have r := rdn_all (n := 6) g rfl
    have hr := fun h => r_word (h := h) (i := i)
    simp only [encIns] at r hr
    simp (maxSteps:=9^7)(disch:=first|assumption|((try simp only[nX]);omega)|simp) [e4, r]
    refine GC_intro (hr _) fun v h3 ⟨⟨w, t, hv⟩, K3⟩ => ?_
    subst hv
    simp (maxSteps:=9^7)(disch:=first|assumption|((try simp only[nX]);omega)|simp)
    exact K.trans K3
  simp (maxSteps:=9^7)(disch:=first|assumption|((try simp only[nX]);omega)|simp) [encIns, -g13_4c]
  have r1 := rdn_all (n := 7) g1 rfl
  have wq : IntKind.i64.wrap (n.tdiv 16) = n.tdiv 16 := by
    rw [Int.tdiv_eq_ediv_of_nonneg (by omega)]
    exact wrap_i64 (by omega) (by omega)
  have q0 : 0 ≤ n.tdiv 16 := by rw [Int.tdiv_eq_ediv_of_nonneg (by omega)]; omega
  obtain ⟨p, hp0'⟩ : ∃ p, p = h1.next := ⟨_, rfl⟩
  generalize hH : Hp.push h1 _ = H
  have gp : H.get p = some (.cells false (encIns.enc i)) := by rw [← hH, hp0']; exact get_push_self
  have gB : H.get h.next = some (.cells false [.int .i64 x.k, .int .i64 x.s, .int .i64 x.t, .int .i64 x.d, .int .i64 x.sh, u32 x.imm, u32 x.raw]) := by rw [← hH]; exact (get_push_ne (by omega)).trans g1
  have K : Kp h H := by rw [← hH]; exact K0.push _
  have hp0 : h.next ≤ p := by omega
  rw [← hp0']
  have hpB : p ≠ h.next := by omega
  clear hH r1 g1 l1
  obtain ⟨a, _, ax⟩ := and_k (n := x.s) (m := 3) (by omega)
  have ax : binV .and (.int .i64 x.s) (.int .i64 3) = some (.int .i64 (a : Int)) := ax
  obtain ⟨b, hb7, bx⟩ := and_k (n := x.d) (m := 7) (by omega)
  have bx : binV .and (.int .i64 x.d) (.int .i64 7) = some (.int .i64 (b : Int)) := bx
  have t2 : ∀ (e : Env), e 1 = ptr h.next 0 → e 3 = .int .i64 n → e 4 = ptr p 0 → G T (fin [RV.t 2] (some []) h.next fun v h' => isW v ∧ Kp h h') c2_4c [Fr.block 0, Fr.seq c14_4c] e H := fun e e1 e3 e4 => by
    obtain ⟨V, hV, hl, hz⟩ : ∃ V : List Value, V = [.int .i64 66, .int .i64 67, .int .i64 68, .int .i64 69, .int .i64 70, .int .i64 71, .int .i64 72, .int .i64 73, .int .i64 74, .int .i64 75, .int .i64 73, .int .i64 68] ∧ isZs V 12 := ⟨_, rfl, isZs_map [66, 67, 68, 69, 70, 71, 72, 73, 74, 75, 73, 68]⟩
    obtain ⟨j, hj, hj2⟩ := tmod_ix (n := n.tdiv 16) (m := 12) q0 (by omega)
    have hj : (n.tdiv 16).tmod 12 = (j : Int) := hj
    obtain ⟨c, hc⟩ := hz j hj2
    have hc2 : ∀ hh : j < V.length, V[j]'hh = .int .i64 c := fun hh => by rw [List.getElem?_eq_getElem hh] at hc; exact Option.some.inj hc
    simp (maxSteps:=9^7)(disch:=first|assumption|((try simp only[nX]);omega)|simp) [e1, e3, e4, -g1_4c]
    rw [← hV]
    clear hV hz
    generalize hP : Hp.push H _ = P
    have gP : P.get H.next = some (.cells false V) := by rw [← hP]; exact get_push_self
    have KP : Kp H P := by rw [← hP]; exact (Kp.refl H).push _
    clear hP
    have rB' := rdn_all (n := 7) ((KP.get _ (lt_of_get gB)).trans gB) rfl
    simp (maxSteps:=9^7)(disch:=first|assumption|((try simp only[nX]);omega)|simp) [e1, e3, e4, wq, hj, hj2, hc, hc2, hl, gP, rB']
    refine GC_intro (hi _ _) fun v h2 ⟨⟨i2, hv⟩, K2⟩ => ?_
    subst hv
    have K3 := KP.trans K2
    have gB2 := (K3.get _ (lt_of_get gB)).trans gB
    have gp2 := (K3.get _ (lt_of_get gp)).trans gp
    have lp2 := lt_of_get gp2
    have K4 := K.trans K3
    simp (maxSteps:=9^7)(disch:=first|assumption|((try simp only[nX]);omega)|simp) [encIns, e1, e4, gp2, lp2, gB2, ax, -g14_4c]
    exact fini _ _ ⟨i2.k, 28 + (a : Int), i2.t, i2.d, i2.sh, i2.imm &&& 2044#32⟩ p (by rw [get_put_self lp2]; rfl) (K4.put hp0 _) (by simp [e4])
  have t5 : ∀ (e : Env), e 1 = ptr h.next 0 → e 3 = .int .i64 n → e 4 = ptr p 0 → G T (fin [RV.t 2] (some []) h.next fun v h' => isW v ∧ Kp h h') c5_4c [Fr.block 0, Fr.seq c14_4c] e H := fun e e1 e3 e4 => by
    obtain ⟨V, hV, hl, hz⟩ : ∃ V : List Value, V = [.int .i64 42, .int .i64 43, .int .i64 44, .int .i64 45, .int .i64 36, .int .i64 37, .int .i64 39, .int .i64 42] ∧ isZs V 8 := ⟨_, rfl, isZs_map [42, 43, 44, 45, 36, 37, 39, 42]⟩
    obtain ⟨j, hj, hj2⟩ := tmod_ix (n := n.tdiv 16) (m := 8) q0 (by omega)
    have hj : (n.tdiv 16).tmod 8 = (j : Int) := hj
    obtain ⟨c, hc⟩ := hz j hj2
    have hc2 : ∀ hh : j < V.length, V[j]'hh = .int .i64 c := fun hh => by rw [List.getElem?_eq_getElem hh] at hc; exact Option.some.inj hc
    simp (maxSteps:=9^7)(disch:=first|assumption|((try simp only[nX]);omega)|simp) [e1, e3, e4, -g4_4c]
    rw [← hV]
    clear hV hz
    generalize hP : Hp.push H _ = P
    have gP : P.get H.next = some (.cells false V) := by rw [← hP]; exact get_push_self
    have KP : Kp H P := by rw [← hP]; exact (Kp.refl H).push _
    clear hP
    have rB' := rdn_all (n := 7) ((KP.get _ (lt_of_get gB)).trans gB) rfl
    simp (maxSteps:=9^7)(disch:=first|assumption|((try simp only[nX]);omega)|simp) [e1, e3, e4, wq, hj, hj2, hc, hc2, hl, gP, rB']
    refine GC_intro (hi _ _) fun v h2 ⟨⟨i2, hv⟩, K2⟩ => ?_
    subst hv
    have K3 := KP.trans K2
    have gB2 := (K3.get _ (lt_of_get gB)).trans gB
    have gp2 := (K3.get _ (lt_of_get gp)).trans gp
    have lp2 := lt_of_get gp2
    have K4 := K.trans K3
    have sx : ∀ y : Int, binV .sub (.int .i32 y) (.int .i32 6) = some (.int .i32 (IntKind.i32.wrap (y - 6))) := fun y => rfl
    simp (maxSteps:=9^7)(disch:=first|assumption|((try simp only[nX]);omega)|simp) [encIns, e1, e4, gp2, lp2, gB2, sx, -g14_4c]
    exact fini _ _ ⟨i2.k, i2.s, i2.t, i2.d, i2.sh, BitVec.ofInt 32 (IntKind.i32.wrap ((x.imm % 16#32).toInt - 6)) &&& 65535#32⟩ p (get_put_self lp2) (K4.put hp0 _) (by simp [e4])
  have t9 : ∀ (e : Env), e 1 = ptr h.next 0 → e 3 = .int .i64 n → e 4 = ptr p 0 → G T (fin [RV.t 2] (some []) h.next fun v h' => isW v ∧ Kp h h') c9_4c [Fr.block 0, Fr.seq c14_4c] e H := fun e e1 e3 e4 => by
    obtain ⟨V, hV, hl, hz⟩ : ∃ V : List Value, V = [.int .i64 55, .int .i64 54, .int .i64 55, .int .i64 57, .int .i64 59, .int .i64 56, .int .i64 58, .int .i64 60, .int .i64 11, .int .i64 61] ∧ isZs V 10 := ⟨_, rfl, isZs_map [55, 54, 55, 57, 59, 56, 58, 60, 11, 61]⟩
    obtain ⟨j, hj, hj2⟩ := tmod_ix (n := n.tdiv 16) (m := 10) q0 (by omega)
    have hj : (n.tdiv 16).tmod 10 = (j : Int) := hj
    obtain ⟨c, hc⟩ := hz j hj2
    have hc2 : ∀ hh : j < V.length, V[j]'hh = .int .i64 c := fun hh => by rw [List.getElem?_eq_getElem hh] at hc; exact Option.some.inj hc
    simp (maxSteps:=9^7)(disch:=first|assumption|((try simp only[nX]);omega)|simp) [e1, e3, e4, -g8_4c]
    rw [← hV]
    clear hV hz
    generalize hP : Hp.push H _ = P
    have gP : P.get H.next = some (.cells false V) := by rw [← hP]; exact get_push_self
    have KP : Kp H P := by rw [← hP]; exact (Kp.refl H).push _
    clear hP
    have rB' := rdn_all (n := 7) ((KP.get _ (lt_of_get gB)).trans gB) rfl
    simp (maxSteps:=9^7)(disch:=first|assumption|((try simp only[nX]);omega)|simp) [e1, e3, e4, wq, hj, hj2, hc, hc2, hl, gP, rB']
    refine GC_intro (hi _ _) fun v h2 ⟨⟨i2, hv⟩, K2⟩ => ?_
    subst hv
    have K3 := KP.trans K2
    have gB2 := (K3.get _ (lt_of_get gB)).trans gB
    have gp2 := (K3.get _ (lt_of_get gp)).trans gp
    have lp2 := lt_of_get gp2
    have K4 := K.trans K3
    by_cases k5 : i2.k = 55
    · have bx := bx
      obtain rfl | rfl | rfl | rfl | rfl | rfl | rfl | rfl : b = 0 ∨ b = 1 ∨ b = 2 ∨ b = 3 ∨ b = 4 ∨ b = 5 ∨ b = 6 ∨ b = 7 := by omega
      · simp (maxSteps:=9^7)(disch:=first|assumption|((try simp only[nX]);omega)|simp) [encIns, e1, e4, gp2, lp2, gB2, k5, bx, -g14_4c]
        exact fini _ _ ⟨55, i2.s, i2.t, 12, i2.sh, i2.imm⟩ p ((get_push_ne (by rw [put_next]; omega)).trans (get_put_self lp2)) ((K4.put hp0 _).push _) (by simp [e4])
      · simp (maxSteps:=9^7)(disch:=first|assumption|((try simp only[nX]);omega)|simp) [encIns, e1, e4, gp2, lp2, gB2, k5, bx, -g14_4c]
        exact fini _ _ ⟨55, i2.s, i2.t, 13, i2.sh, i2.imm⟩ p ((get_push_ne (by rw [put_next]; omega)).trans (get_put_self lp2)) ((K4.put hp0 _).push _) (by simp [e4])
      · simp (maxSteps:=9^7)(disch:=first|assumption|((try simp only[nX]);omega)|simp) [encIns, e1, e4, gp2, lp2, gB2, k5, bx, -g14_4c]
        exact fini _ _ ⟨55, i2.s, i2.t, 11, i2.sh, i2.imm⟩ p ((get_push_ne (by rw [put_next]; omega)).trans (get_put_self lp2)) ((K4.put hp0 _).push _) (by simp [e4])
      · simp (maxSteps:=9^7)(disch:=first|assumption|((try simp only[nX]);omega)|simp) [encIns, e1, e4, gp2, lp2, gB2, k5, bx, -g14_4c]
        exact fini _ _ ⟨55, i2.s, i2.t, 9, i2.sh, i2.imm⟩ p ((get_push_ne (by rw [put_next]; omega)).trans (get_put_self lp2)) ((K4.put hp0 _).push _) (by simp [e4])
      · simp (maxSteps:=9^7)(disch:=first|assumption|((try simp only[nX]);omega)|simp) [encIns, e1, e4, gp2, lp2, gB2, k5, bx, -g14_4c]
        exact fini _ _ ⟨55, i2.s, i2.t, 10, i2.sh, i2.imm⟩ p ((get_push_ne (by rw [put_next]; omega)).trans (get_put_self lp2)) ((K4.put hp0 _).push _) (by simp [e4])
      · simp (maxSteps:=9^7)(disch:=first|assumption|((try simp only[nX]);omega)|simp) [encIns, e1, e4, gp2, lp2, gB2, k5, bx, -g14_4c]
        exact fini _ _ ⟨55, i2.s, i2.t, 2, i2.sh, i2.imm⟩ p ((get_push_ne (by rw [put_next]; omega)).trans (get_put_self lp2)) ((K4.put hp0 _).push _) (by simp [e4])
      · simp (maxSteps:=9^7)(disch:=first|assumption|((try simp only[nX]);omega)|simp) [encIns, e1, e4, gp2, lp2, gB2, k5, bx, -g14_4c]
        exact fini _ _ ⟨55, i2.s, i2.t, 0, i2.sh, i2.imm⟩ p ((get_push_ne (by rw [put_next]; omega)).trans (get_put_self lp2)) ((K4.put hp0 _).push _) (by simp [e4])
      · simp (maxSteps:=9^7)(disch:=first|assumption|((try simp only[nX]);omega)|simp) [encIns, e1, e4, gp2, lp2, gB2, k5, bx, -g14_4c]
        exact fini _ _ ⟨55, i2.s, i2.t, 14, i2.sh, i2.imm⟩ p ((get_push_ne (by rw [put_next]; omega)).trans (get_put_self lp2)) ((K4.put hp0 _).push _) (by simp [e4])
    · by_cases k4 : i2.k = 54
      · have bx := bx
        obtain rfl | rfl | rfl | rfl | rfl | rfl | rfl | rfl : b = 0 ∨ b = 1 ∨ b = 2 ∨ b = 3 ∨ b = 4 ∨ b = 5 ∨ b = 6 ∨ b = 7 := by omega
        · simp (maxSteps:=9^7)(disch:=first|assumption|((try simp only[nX]);omega)|simp) [encIns, e1, e4, gp2, lp2, gB2, k4, k5, bx, -g14_4c]
          exact fini _ _ ⟨54, i2.s, i2.t, 12, i2.sh, i2.imm⟩ p ((get_push_ne (by rw [put_next]; omega)).trans (get_put_self lp2)) ((K4.put hp0 _).push _) (by simp [e4])
        · simp (maxSteps:=9^7)(disch:=first|assumption|((try simp only[nX]);omega)|simp) [encIns, e1, e4, gp2, lp2, gB2, k4, k5, bx, -g14_4c]
          exact fini _ _ ⟨54, i2.s, i2.t, 13, i2.sh, i2.imm⟩ p ((get_push_ne (by rw [put_next]; omega)).trans (get_put_self lp2)) ((K4.put hp0 _).push _) (by simp [e4])
        · simp (maxSteps:=9^7)(disch:=first|assumption|((try simp only[nX]);omega)|simp) [encIns, e1, e4, gp2, lp2, gB2, k4, k5, bx, -g14_4c]
          exact fini _ _ ⟨54, i2.s, i2.t, 11, i2.sh, i2.imm⟩ p ((get_push_ne (by rw [put_next]; omega)).trans (get_put_self lp2)) ((K4.put hp0 _).push _) (by simp [e4])
        · simp (maxSteps:=9^7)(disch:=first|assumption|((try simp only[nX]);omega)|simp) [encIns, e1, e4, gp2, lp2, gB2, k4, k5, bx, -g14_4c]
          exact fini _ _ ⟨54, i2.s, i2.t, 9, i2.sh, i2.imm⟩ p ((get_push_ne (by rw [put_next]; omega)).trans (get_put_self lp2)) ((K4.put hp0 _).push _) (by simp [e4])
        · simp (maxSteps:=9^7)(disch:=first|assumption|((try simp only[nX]);omega)|simp) [encIns, e1, e4, gp2, lp2, gB2, k4, k5, bx, -g14_4c]
          exact fini _ _ ⟨54, i2.s, i2.t, 10, i2.sh, i2.imm⟩ p ((get_push_ne (by rw [put_next]; omega)).trans (get_put_self lp2)) ((K4.put hp0 _).push _) (by simp [e4])
        · simp (maxSteps:=9^7)(disch:=first|assumption|((try simp only[nX]);omega)|simp) [encIns, e1, e4, gp2, lp2, gB2, k4, k5, bx, -g14_4c]
          exact fini _ _ ⟨54, i2.s, i2.t, 2, i2.sh, i2.imm⟩ p ((get_push_ne (by rw [put_next]; omega)).trans (get_put_self lp2)) ((K4.put hp0 _).push _) (by simp [e4])
        · simp (maxSteps:=9^7)(disch:=first|assumption|((try simp only[nX]);omega)|simp) [encIns, e1, e4, gp2, lp2, gB2, k4, k5, bx, -g14_4c]
          exact fini _ _ ⟨54, i2.s, i2.t, 0, i2.sh, i2.imm⟩ p ((get_push_ne (by rw [put_next]; omega)).trans (get_put_self lp2)) ((K4.put hp0 _).push _) (by simp [e4])
        · simp (maxSteps:=9^7)(disch:=first|assumption|((try simp only[nX]);omega)|simp) [encIns, e1, e4, gp2, lp2, gB2, k4, k5, bx, -g14_4c]
          exact fini _ _ ⟨54, i2.s, i2.t, 14, i2.sh, i2.imm⟩ p ((get_push_ne (by rw [put_next]; omega)).trans (get_put_self lp2)) ((K4.put hp0 _).push _) (by simp [e4])
      · simp (maxSteps:=9^7)(disch:=first|assumption|((try simp only[nX]);omega)|simp) [encIns, e1, e4, gp2, lp2, gB2, k4, k5, -g14_4c]
        exact fini _ _ ⟨i2.k, i2.s, i2.t, i2.d, i2.sh, i2.imm⟩ p (get_put_self lp2) (K4.put hp0 _) (by simp [e4])
  obtain ⟨j, hj, hj2⟩ := tmod_ix (n := n) (m := 16) w1 (by omega)
  have hj : n.tmod 16 = (j : Int) := hj
  rw [hj]
  by_cases j1 : j = 0 ∨ j = 1
  · rcases j1 with rfl | rfl <;> simp (maxSteps:=9^7)(disch:=first|assumption|((try simp only[nX]);omega)|simp) [gB, K]
  by_cases j2 : j = 2 ∨ j = 3
  · have rB' := rdn_all (n := 7) gB rfl
    rcases j2 with rfl | rfl
    all_goals
      simp (maxSteps:=9^7)(disch:=first|assumption|((try simp only[nX]);omega)|simp) [rB', -g14_4c]
      refine GC_intro (ha _) fun v h2 ⟨⟨i2, hv⟩, K2⟩ => ?_
      subst hv
      have gp2 := (K2.get _ (lt_of_get gp)).trans gp
      have lp2 := lt_of_get gp2
      simp (maxSteps:=9^7)(disch:=first|assumption|((try simp only[nX]);omega)|simp) [encIns, gp2, lp2, -g14_4c]
      exact fini _ _ i2 p (get_put_self lp2) ((K.trans K2).put hp0 _) (by simp)
  by_cases j4 : j = 4 ∨ j = 5 ∨ j = 6
  · rcases j4 with rfl | rfl | rfl
    all_goals
      simp (maxSteps:=9^7)(disch:=first|assumption|((try simp only[nX]);omega)|simp) [-g14_4c, -g2_4c]
      exact t2 _ (by simp) (by simp) (by simp)
  by_cases j7 : j = 7 ∨ j = 8
  · rcases j7 with rfl | rfl
    all_goals
      simp (maxSteps:=9^7)(disch:=first|assumption|((try simp only[nX]);omega)|simp) [-g14_4c, -g5_4c]
      exact t5 _ (by simp) (by simp) (by simp)
  by_cases j9 : j = 9
  · subst j9
    simp (maxSteps:=9^7)(disch:=first|assumption|((try simp only[nX]);omega)|simp) [-g14_4c, -g9_4c]
    exact t9 _ (by simp) (by simp) (by simp)
  have n0 : ¬ (j : Int) = 0 := by omega
  have n1 : ¬ (j : Int) = 1 := by omega
  have n2 : ¬ (j : Int) = 2 := by omega
  have n3 : ¬ (j : Int) = 3 := by omega
  have n4 : ¬ (j : Int) = 4 := by omega
  have n5 : ¬ (j : Int) = 5 := by omega
  have n6 : ¬ (j : Int) = 6 := by omega
  have n7 : ¬ (j : Int) = 7 := by omega
  have n8 : ¬ (j : Int) = 8 := by omega
  have n9 : ¬ (j : Int) = 9 := by omega
  have z0 : ¬ j = 0 := by omega
  have z1 : ¬ j = 1 := by omega
  simp (maxSteps:=9^7)(disch:=first|assumption|((try simp only[nX]);omega)|simp) [z0, z1, n0, n1, n2, n3, n4, n5, n6, n7, n8, n9, -g14_4c]
  exact fini _ _ i p gp K (by simp)
end
end Go.Proofs.YtoiiphcbkejliaaGreat.Cd

/- The document's programs: an image comes, whatever is drawn. -/
set_option maxRecDepth 1000000
set_option maxHeartbeats 8000000
set_option linter.unusedSimpArgs false
set_option linter.unusedVariables false
namespace Go.Proofs.YtoiiphcbkejliaaGreat.Cd
open Go Go.Dx
section
variable {h h' : Hp} {q : Value → Hp → Prop}
/-- Bytes in a block. -/
def Bb (h : Hp) (b N : Nat) : Prop := ∃ B : By, B.length = N ∧ h.get b = some (.cells false (B.map u8))
theorem Bb.set {b N i : Nat} (A : Bb h b N) (hi : i < N) (c : BitVec 8) : ∃ h', h.wr b i [u8 c] = some h' ∧ Bb h' b N ∧ Upd h h' [b] [b] := by
  obtain ⟨B, hl, hg⟩ := A
  refine ⟨_, wr_ok hg (by simp; omega) rfl, ⟨B.set i c, by simp [hl], ?_⟩, ?_⟩
  · rw [get_put_self (lt_of_get hg), over_set (by simp; omega), List.map_set]
  · exact (Kp.upd (.refl h) _).put1
theorem Bb.kp {b N : Nat} (A : Bb h b N) (K : Kp h h') : Bb h' b N := by
  obtain ⟨B, hl, hg⟩ := A
  exact ⟨B, hl, (K.get _ (lt_of_get hg)).trans hg⟩
theorem k_put {bb N a : Nat} {l : List (BitVec 32)} {al : Option Addr} {cl : Nat} (A : Bb h bb N) (S : Sees encW h al l) (hN : N < 2 ^ 40) (ha : a < 2 ^ 40) (hl : l.length < 2 ^ 40) (hne : ∀ D, al = some D → D.block ≠ bb) :
    WC T n_4i [.slice (some ⟨bb, 0, none⟩) N N, .int .i64 (a : Int), .slice al l.length cl] h fun v h' => v = .tuple #[] ∧ Bb h' bb N ∧ Upd h h' [bb] [bb] := by
  rw [w_4i]
  simp (maxSteps:=9^7)(disch:=first|assumption|((try simp only[nX]);omega)|simp)
  refine G_loop (fun j e h' => ∃ i : Nat, j = l.length - i ∧ i ≤ l.length ∧ e 0 = .slice (some ⟨bb, 0, none⟩) N N ∧ e 1 = .int .i64 (a : Int) ∧ e 2 = .slice al l.length cl ∧ e 6 = .int .i64 i ∧ Bb h' bb N ∧ Upd h h' [bb] [bb]) ?_ l.length _ _ ⟨0, rfl, by omega, by simp, by simp, by simp, by simp, A, .refl⟩
  rintro j ih e h' ⟨i, rfl, hi, e0, e1, e2, e6, A', U'⟩
  by_cases c1 : i < l.length
  case neg =>
    have c1' : ¬ (i : Int) < l.length := by omega
    simp (maxSteps:=9^7)(disch:=first|assumption|((try simp only[nX]);omega)|simp) [e0, e1, e2, e6, c1']
    exact ⟨A', U'⟩
  have c1' : (i : Int) < l.length := by omega
  by_cases c2 : a + 4 * i + 4 ≤ N
  case neg =>
    have c2' : ¬ (a : Int) + 4 * i + 4 ≤ N := by omega
    simp (maxSteps:=9^7)(disch:=first|assumption|((try simp only[nX]);omega)|simp) [e0, e1, e2, e6, c1', c2']
    exact ⟨A', U'⟩
  have c2' : (a : Int) + 4 * i + 4 ≤ N := by omega
  simp (maxSteps:=9^7)(disch:=first|assumption|((try simp only[nX]);omega)|simp) [e0, e1, e2, e6, c1', c2']
  refine G_loop (fun j e' h'' => ∃ k : Nat, j = 4 - k ∧ k ≤ 4 ∧ e' 0 = e 0 ∧ e' 1 = e 1 ∧ e' 2 = e 2 ∧ e' 6 = e 6 ∧ e' 7 = .int .i64 k ∧ Bb h'' bb N ∧ Upd h h'' [bb] [bb]) ?_ 4 _ _ ⟨0, rfl, by omega, by simp, by simp, by simp, by simp, by simp, A', U'⟩
  rintro j ih2 e' h'' ⟨k, rfl, hk, f0, f1, f2, f6, f7, A2, U2⟩
  by_cases c3 : k < 4
  case neg =>
    obtain rfl : k = 4 := by omega
    simp (maxSteps:=9^7)(disch:=first|assumption|((try simp only[nX]);omega)|simp) [f0, f1, f2, f6, f7, e6]
    exact ih (l.length - (i + 1)) (by omega) _ _ ⟨i + 1, rfl, by omega, by simp [f0, e0], by simp [f1, e1], by simp [f2, e2], by simp, A2, U2⟩
  have c3' : (k : Int) < 4 := by omega
  have S2 := S.upd U2 fun D hD hm => hne D hD (by simpa using hm)
  have hx : l = l.take i ++ l[i] :: l.drop (i + 1) := by rw [List.getElem_cons_drop, List.take_append_drop]
  obtain ⟨D, ro, C, rfl, hg, hC⟩ := Sees.cell (E := encW) (f := u32) (fun _ => rfl) rfl (us := l.take i) (x := l[i]) (vs := l.drop (i + 1)) (by rw [← hx]; exact S2)
  rw [List.length_take, Nat.min_eq_left (by omega)] at hC
  have hix : ((a : Int) + 4 * i + k).toNat = a + 4 * i + k := by omega
  simp (maxSteps:=9^7)(disch:=first|assumption|((try simp only[nX]);omega)|simp) [f0, f1, f2, f6, f7, e0, e1, e2, e6, c3', c1, c1', hg, hC, hix, -Hp.wr]
  obtain ⟨h3, hw, A3, U3⟩ := A2.set (i := a + 4 * i + k) (by omega) (BitVec.setWidth 8 (l[i] >>> ((24 - 8 * (k : Int)) % 18446744073709551616).toNat))
  rw [hw]
  simp (maxSteps:=9^7)(disch:=first|assumption|((try simp only[nX]);omega)|simp) [f7]
  exact ih2 (4 - (k + 1)) (by omega) _ _ ⟨k + 1, rfl, by omega, by simp [f0], by simp [f1], by simp [f2], by simp [f6], by simp, A3, U2.trans U3⟩
/-- A row of words that grows: a table at first, its own block later; all at or behind lo. -/
def Rz (h : Hp) (lo : Nat) (v : Value) (xs : List (BitVec 32)) : Prop :=
  (∃ b, v = .slice (some ⟨b, 0, none⟩) xs.length xs.length ∧ lo ≤ b ∧ Sees encW h (some ⟨b, 0, none⟩) xs) ∨ (∃ fp, Own encW h v xs fp ∧ ∀ b ∈ fp, lo ≤ b)
/-- What lies ahead of lo is as it was. -/
structure KL (lo : Nat) (h h' : Hp) : Prop where
  le : h.next ≤ h'.next
  get : ∀ b, b < lo → h'.get b = h.get b
theorem KL.trans {lo : Nat} {a b c : Hp} (x : KL lo a b) (y : KL lo b c) : KL lo a c := ⟨Nat.le_trans x.le y.le, fun k hk => (y.get k hk).trans (x.get k hk)⟩
theorem _root_.Go.Dx.Kp.kl {lo : Nat} (K : Kp h h') (hl : lo ≤ h.next) : KL lo h h' := ⟨K.le, fun b hb => K.get b (by omega)⟩
theorem Rz.kp {lo : Nat} {v : Value} {xs : List (BitVec 32)} (R : Rz h lo v xs) (K : Kp h h') : Rz h' lo v xs := by
  rcases R with ⟨b, h1, h2, h3⟩ | ⟨fp, h1, h2⟩
  · exact .inl ⟨b, h1, h2, h3.kp K⟩
  · exact .inr ⟨fp, h1.kp K, h2⟩
theorem Rz.sees {lo : Nat} {v : Value} {xs : List (BitVec 32)} (R : Rz h lo v xs) : ∃ a c, v = .slice a xs.length c ∧ Sees encW h a xs ∧ ∀ A, a = some A → lo ≤ A.block := by
  rcases R with ⟨b, h1, h2, h3⟩ | ⟨fp, h1, h2⟩
  · exact ⟨_, _, h1, h3, fun A hA => by cases hA; exact h2⟩
  · obtain ⟨a, c, e, s, _, m⟩ := h1.len
    exact ⟨a, c, e, s, fun A hA => h2 _ (m A hA)⟩
theorem Rz.app {Q : Ex → Env → Hp → Prop} {k : List Fr} {e : Env} {d : Option Nat} {l : List O} {lo : Nat} {v : Value} {xs : List (BitVec 32)} {x : BitVec 32} (R : Rz h lo v xs) (hlo : lo ≤ h.next) (hl : xs.length < 2 ^ 30)
    (H : ∀ v' h', Rz h' lo v' (xs ++ [x]) → KL lo h h' → GO T Q l k (put e d v') h') : GV T Q (appendV (h.push (.cells false [u32 x])) 1 4 v (.slice (some ⟨h.next, 0, none⟩) 1 1)) d l k e := by
  rcases R with ⟨b, rfl, h2, h3⟩ | ⟨fp, h1, h2⟩
  · have hr := (h3.kp ((Kp.refl h).push (.cells false [u32 x]))).get _ rfl
    simp only [encW_sz, Nat.mul_one] at hr
    have ha : appendV (h.push (.cells false [u32 x])) 1 4 (.slice (some ⟨b, 0, none⟩) xs.length xs.length) (.slice (some ⟨h.next, 0, none⟩) 1 1) = some (.slice (some ⟨h.next + 1, 0, some 1⟩) (xs.length + 1) (xs.length + 1), (h.push (.cells false [u32 x])).push (.cells false (encW.all xs ++ [u32 x]))) := by
      have e2 : elems (h.push (.cells false [u32 x])) 1 1 (.slice (some ⟨h.next, 0, none⟩) 1 1) = some [u32 x] := elems_one (E := encW) (x := x) get_push_self
      simp only [appendV, lenV, e2]
      rw [if_pos (show [u32 x].length = 1 * 1 from rfl), if_neg (by omega), if_pos ⟨by omega, by omega⟩]
      simp only [Nat.mul_one, hr]
      rfl
    rw [ha]
    refine H _ _ (.inr ⟨[h.next + 1], ?_, by simp; omega⟩) ⟨by simp; omega, fun c hc => by rw [get_push_ne (by rw [push_next]; omega), get_push_ne (by omega)]⟩
    have := Own.blk (E := encW) (h := (h.push (.cells false [u32 x])).push (.cells false (encW.all xs ++ [u32 x]))) (b := h.next + 1) (n := xs.length + 1) (c := xs.length + 1) (xs := xs ++ [x]) (r := []) (by
      have : (h.push (.cells false [u32 x])).next = h.next + 1 := rfl
      rw [← this, get_push_self]
      simp [encW]) (by simp) (Nat.le_refl _) (by omega) (by simp)
    exact this
  · refine GV_app1 (E := encW) (bytes := 4) (x := x) h1 (by omega) (by omega) fun v' h' fp' O U => ?_
    refine H v' h' (.inr ⟨fp', O, fun b hb => ?_⟩) ⟨U.le, fun b hb => U.get b (by omega) fun hm => by have := h2 b hm; omega⟩
    rcases U.sub b hb with h5 | h5
    · exact h2 b h5
    · omega
theorem k_image {pg : Nat} {l : List In7} {al : Option Addr} {cl : Nat} (S : Sees encI7 h al l) (hp : 2 ≤ pg ∧ pg ≤ 64) (hl : l.length < 2 ^ 63) :
    WC T n_4d [.slice al l.length cl, .int .i64 (pg : Int)] h fun v h' => (∃ bb, v = .slice (some ⟨bb, 0, none⟩) (1024 * pg) (1024 * pg) ∧ h.next ≤ bb ∧ Bb h' bb (1024 * pg)) ∧ Kp h h' := by
  have e2 : ((pg : Int) * 1024).toNat = 1024 * pg := by omega
  have kw := fun h i => k_word (h := h) (i := i)
  simp only [encIns] at kw
  rw [w_4d]
  simp (maxSteps:=9^7)(disch:=first|assumption|((try simp only[nX]);omega)|simp) [e2]
  generalize hP : Hp.push h _ = P
  have nP : P.next = h.next + 1 := by rw [← hP]; rfl
  have KP : Kp h P := by rw [← hP]; exact (Kp.refl h).push _
  have A : Bb P h.next (1024 * pg) := ⟨List.replicate (1024 * pg) 0#8, List.length_replicate, by rw [← hP, get_push_self]; simp⟩
  clear hP
  refine GC_intro (kw _ ⟨60, 0, 0, 0, 0, 0#32⟩) fun v h1 ⟨⟨w1, hv⟩, K1⟩ => ?_
  subst hv
  have KP := KP.trans K1
  have A := A.kp K1
  simp (maxSteps:=9^7)(disch:=first|assumption|((try simp only[nX]);omega)|simp)
  refine GC_intro (k_put (a := 0) (l := [w1]) (A.kp ((Kp.refl h1).push _)) (sees_new get_push_self rfl) (by omega) (by omega) (by simp) fun D hD => ?_) fun v h2 ⟨hv, A, U2⟩ => ?_
  · cases hD
    have := KP.le
    show h1.next ≠ h.next
    obtain ⟨B, _, hg⟩ := A
    have := lt_of_get hg
    omega
  subst hv
  have KP : Kp h h2 := U2.kp' (KP.push _) (by simp)
  simp (maxSteps:=9^7)(disch:=first|assumption|((try simp only[nX]);omega)|simp)
  refine GC_intro (kw _ ⟨54, 0, 26, 14, 0, 0#32⟩) fun v h3 ⟨⟨w3, hv⟩, K3⟩ => ?_
  subst hv
  have KP := KP.trans K3
  have A := A.kp K3
  simp (maxSteps:=9^7)(disch:=first|assumption|((try simp only[nX]);omega)|simp)
  refine GC_intro (kw _ ⟨47, 26, 26, 0, 0, 4#32⟩) fun v h4 ⟨⟨w4, hv⟩, K4⟩ => ?_
  subst hv
  have KP := KP.trans K4
  have A := A.kp K4
  simp (maxSteps:=9^7)(disch:=first|assumption|((try simp only[nX]);omega)|simp)
  refine GC_intro (kw _ ⟨55, 0, 26, 14, 0, 0#32⟩) fun v h5 ⟨⟨w5, hv⟩, K5⟩ => ?_
  subst hv
  have KP := KP.trans K5
  have A := A.kp K5
  simp (maxSteps:=9^7)(disch:=first|assumption|((try simp only[nX]);omega)|simp)
  refine GC_intro (kw _ ⟨60, 0, 0, 0, 0, 0#32⟩) fun v h6 ⟨⟨w6, hv⟩, K6⟩ => ?_
  subst hv
  have KP := KP.trans K6
  have A := A.kp K6
  simp (maxSteps:=9^7)(disch:=first|assumption|((try simp only[nX]);omega)|simp)
  refine GC_intro (k_put (a := 384) (l := [w3, w4, w5, w6]) (A.kp ((Kp.refl h6).push _)) (sees_new get_push_self rfl) (by omega) (by omega) (by simp) fun D hD => ?_) fun v h7 ⟨hv, A, U7⟩ => ?_
  · cases hD
    show h6.next ≠ h.next
    obtain ⟨B, _, hg⟩ := A
    have := lt_of_get hg
    omega
  subst hv
  have KP : Kp h h7 := U7.kp' (KP.push _) (by simp)
  simp (maxSteps:=9^7)(disch:=first|assumption|((try simp only[nX]);omega)|simp)
  refine GC_intro (kw _ ⟨53, 0, 28, 0, 0, 32768#32⟩) fun v h8 ⟨⟨w8, hv⟩, K8⟩ => ?_
  subst hv
  have KP := KP.trans K8
  have A := A.kp K8
  simp (maxSteps:=9^7)(disch:=first|assumption|((try simp only[nX]);omega)|simp)
  refine GC_intro (kw _ ⟨51, 28, 29, 0, 0, 1024#32⟩) fun v h9 ⟨⟨w9, hv⟩, K9⟩ => ?_
  subst hv
  have KP := KP.trans K9
  have A := A.kp K9
  simp (maxSteps:=9^7)(disch:=first|assumption|((try simp only[nX]);omega)|simp)
  refine GC_intro (kw _ ⟨53, 0, 30, 0, 0, 48896#32⟩) fun v h10 ⟨⟨w10, hv⟩, K10⟩ => ?_
  subst hv
  have KP := KP.trans K10
  have A := A.kp K10
  simp (maxSteps:=9^7)(disch:=first|assumption|((try simp only[nX]);omega)|simp)
  refine GC_intro (kw _ ⟨51, 28, 31, 0, 0, 1536#32⟩) fun v h11 ⟨⟨w11, hv⟩, K11⟩ => ?_
  subst hv
  have KP := KP.trans K11
  have A := A.kp K11
  simp (maxSteps:=9^7)(disch:=first|assumption|((try simp only[nX]);omega)|simp)
  have l11 : h.next < h11.next := by
    obtain ⟨B, _, hg⟩ := A
    exact lt_of_get hg
  obtain ⟨lo, hlo⟩ : ∃ lo, lo = h11.next := ⟨_, rfl⟩
  have R0 : Rz (h11.push (.cells false [u32 w8, u32 w9, u32 w10, u32 w11])) lo (.slice (some ⟨h11.next, 0, none⟩) 4 4) [w8, w9, w10, w11] := .inl ⟨h11.next, rfl, by omega, sees_new get_push_self rfl⟩
  have KP := KP.push (.cells false [u32 w8, u32 w9, u32 w10, u32 w11])
  have A := A.kp ((Kp.refl h11).push (.cells false [u32 w8, u32 w9, u32 w10, u32 w11]))
  have l0 : lo ≤ (h11.push (.cells false [u32 w8, u32 w9, u32 w10, u32 w11])).next := by rw [push_next]; omega
  generalize h11.push (.cells false [u32 w8, u32 w9, u32 w10, u32 w11]) = H0 at *
  rw [← hlo]
  rw [← hlo] at R0 l11
  have hsl := sees_lt S
  refine G_loop (fun j e H => ∃ (i : Nat) (v : Value) (xs : List (BitVec 32)), j = 200 - i ∧ i ≤ l.length ∧ i ≤ 200 ∧ e 0 = .slice al l.length cl ∧ e 5 = .slice (some ⟨h.next, 0, none⟩) (1024 * pg) (1024 * pg) ∧ e 6 = v ∧ e 7 = .int .i64 i ∧ xs.length = i + 4 ∧ Rz H lo v xs ∧ KL lo H0 H) ?_ 200 _ _ ⟨0, _, _, rfl, by omega, by omega, by simp, by simp, by simp, by simp, rfl, R0, ⟨Nat.le_refl _, fun b _ => rfl⟩⟩
  clear R0
  rintro j ih e H ⟨i, v, xs, rfl, i1, i2, e0, e5, e6, e7, hxl, R, KL0⟩
  have hle := KL0.le
  have KH : Kp h H := ⟨by have := KP.le; omega, fun b hb => (KL0.get b (by omega)).trans (KP.get b hb)⟩
  have AH : Bb H h.next (1024 * pg) := by
    obtain ⟨B, hl, hg⟩ := A
    exact ⟨B, hl, (KL0.get _ l11).trans hg⟩
  have SH := S.kp KH
  by_cases c : i < l.length ∧ i < 200
  · obtain ⟨c1, c2⟩ := c
    have c1' : (i : Int) < l.length := by omega
    have c2' : (i : Int) < 200 := by omega
    have hx : l = l.take i ++ l[i] :: l.drop (i + 1) := by rw [List.getElem_cons_drop, List.take_append_drop]
    obtain ⟨D, rfl, hr⟩ := Sees.mid (A := l.take i) (x := l[i]) (B := l.drop (i + 1)) (by rw [← hx]; exact SH)
    rw [List.length_take, Nat.min_eq_left (by omega)] at hr
    have hc := fun h => k_code (h := h) (x := l[i])
    have hr' : H.rdn D.block (D.off + i * 7) 7 = some (encI7.enc l[i]) := hr
    generalize l[i] = x at *
    simp (maxSteps:=9^7)(disch:=first|assumption|((try simp only[nX]);omega)|simp) [e0, e6, e7, c1, c1', c2', hr']
    refine GC_intro (hc _) fun v2 h2 ⟨⟨w, hv⟩, K2⟩ => ?_
    subst hv
    simp (maxSteps:=9^7)(disch:=first|assumption|((try simp only[nX]);omega)|simp)
    have K2l := K2.kl (lo := lo) (by omega)
    refine (R.kp K2).app (by have := K2l.le; omega) (by omega) fun v3 h3 R3 K3 => ?_
    simp (maxSteps:=9^7)(disch:=first|assumption|((try simp only[nX]);omega)|simp) [e7]
    exact ih (200 - (i + 1)) (by omega) _ _ ⟨i + 1, v3, xs ++ [w], rfl, by omega, by omega, by simp [e0], by simp [e5], by simp, by simp, by simp [hxl], R3, (KL0.trans K2l).trans K3⟩
  · have fin2 : ∀ e' : Env, e' 5 = .slice (some ⟨h.next, 0, none⟩) (1024 * pg) (1024 * pg) → e' 6 = v → G T (fin [RV.t 4] (some []) h.next fun v h' => (∃ bb, v = .slice (some ⟨bb, 0, none⟩) (1024 * pg) (1024 * pg) ∧ h.next ≤ bb ∧ Bb h' bb (1024 * pg)) ∧ Kp h h') c2_4d [] e' H := fun e' f5 f6 => by
      obtain ⟨ac, cc, rfl, Sc, hb⟩ := R.sees
      by_cases c3 : xs.length * 4 + 1024 ≤ 1024 * pg
      · have c3' : (xs.length : Int) * 4 + 1024 ≤ 1024 * (pg : Int) := by omega
        simp (maxSteps:=9^7)(disch:=first|assumption|((try simp only[nX]);omega)|simp) [f5, f6, c3']
        refine GC_intro (k_put (a := 1024) AH Sc (by omega) (by omega) (by omega) fun D hD => by have := hb D hD; omega) fun v h2 ⟨hv, A2, U2⟩ => ?_
        subst hv
        simp (maxSteps:=9^7)(disch:=first|assumption|((try simp only[nX]);omega)|simp) [f5]
        exact ⟨A2, U2.kp' KH (by simp)⟩
      · have c3' : ¬ (xs.length : Int) * 4 + 1024 ≤ 1024 * (pg : Int) := by omega
        simp (maxSteps:=9^7)(disch:=first|assumption|((try simp only[nX]);omega)|simp) [f5, f6, c3']
        exact ⟨AH, KH⟩
    by_cases c1 : i < l.length
    · have c1' : (i : Int) < l.length := by omega
      have c2' : ¬ (i : Int) < 200 := by omega
      simp (maxSteps:=9^7)(disch:=first|assumption|((try simp only[nX]);omega)|simp) [e0, e7, c1', c2', -g2_4d]
      exact fin2 _ (by simp [e5]) (by simp [e6])
    · have c1' : ¬ (i : Int) < l.length := by omega
      simp (maxSteps:=9^7)(disch:=first|assumption|((try simp only[nX]);omega)|simp) [e0, e7, c1', -g2_4d]
      exact fin2 _ (by simp [e5]) (by simp [e6])
end
end Go.Proofs.YtoiiphcbkejliaaGreat.Cd
