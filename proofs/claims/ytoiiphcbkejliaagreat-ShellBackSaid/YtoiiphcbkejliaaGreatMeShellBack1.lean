/- Texts of one kind, one behind the other. -/
import Derived.Test.YtoiiphcbkejliaaGreatMeShellBack0
import Derived.Test.YtoiiphcbkejliaaGreatMdz0
import Derived.Test.YtoiiphcbkejliaaGreatMd3
import Derived.Test.YtoiiphcbkejliaaGreatMcz0
/- shell.Encode. -/
set_option maxRecDepth 1000000
set_option maxHeartbeats 8000000
set_option linter.unusedSimpArgs false
set_option linter.unusedVariables false
namespace Go.Proofs.YtoiiphcbkejliaaGreat.Cd
open Go Go.Dx
structure ScF (h : Hp) (x : Scr) (ai ad at' : Option Addr) (ci cd ct : Nat) : Prop where
  i : Sees encB h ai x.im
  d : Sees encB h ad x.dk
  t : Sees encIt h at' x.it
  ic : x.im.length ≤ ci
  dc : x.dk.length ≤ cd
  tc : x.it.length ≤ ct
  il : x.im.length < 2 ^ 30
  dl : x.dk.length < 2 ^ 30
  tl : x.it.length < 2 ^ 30
/-- A script. -/
def isSc (h : Hp) (v : Value) (x : Scr) : Prop := ∃ ai ci ad cd at' ct, v = .agg #[.int .i64 x.p, .int .i64 x.m, .slice ai x.im.length ci, .slice ad x.dk.length cd, .slice at' x.it.length ct] ∧ ScF h x ai ad at' ci cd ct
section
variable {h h' : Hp} {v : Value} {x : Scr} {ai ad at' : Option Addr} {ci cd ct : Nat}
theorem ScF.kp (A : ScF h x ai ad at' ci cd ct) (K : Kp h h') : ScF h' x ai ad at' ci cd ct := ⟨A.i.kp K, A.d.kp K, A.t.kp K, A.ic, A.dc, A.tc, A.il, A.dl, A.tl⟩
theorem isSc.kp (A : isSc h v x) (K : Kp h h') : isSc h' v x := by
  obtain ⟨ai, ci, ad, cd, at', ct, e, F⟩ := A
  exact ⟨ai, ci, ad, cd, at', ct, e, F.kp K⟩
theorem rgt_long (c : 256 < x.it.length ∨ 65535 < x.im.length ∨ 4096 < x.dk.length) : rgt x = 3 := by unfold rgt; rw [if_pos c]
theorem rgt_arg (c : ¬ (256 < x.it.length ∨ 65535 < x.im.length ∨ 4096 < x.dk.length)) (c2 : x.p < 0 ∨ 255 < x.p ∨ x.m < 0 ∨ 255 < x.m) : rgt x = 1 := by unfold rgt; rw [if_neg c, if_pos c2]
theorem rgt_it (c : ¬ (256 < x.it.length ∨ 65535 < x.im.length ∨ 4096 < x.dk.length)) (c2 : ¬ (x.p < 0 ∨ 255 < x.p ∨ x.m < 0 ∨ 255 < x.m)) : rgt x = if x.it.all mayI then 0 else 1 := by unfold rgt; rw [if_neg c, if_neg c2]
theorem wr_len : ∀ l : List Itm, (l.flatMap wrI).length ≤ 3 * l.length
  | [] => by simp
  | y :: l => by
    have := wr_len l
    have h1 : (wrI y).length ≤ 3 := by unfold wrI; split <;> simp [by2]
    simp only [List.flatMap_cons, List.length_append, List.length_cons]
    omega
theorem s_enc (A : isSc h v x) : WC T n_87 [v] h fun w h' => Kp h h' ∧ ((rgt x = 0 ∧ ∃ o fp, w = .tuple #[o, .int .i64 0] ∧ Own encB h' o (wri x) fp ∧ ∀ b ∈ fp, h.next ≤ b) ∨ (rgt x ≠ 0 ∧ w = .tuple #[.slice none 0 0, .int .i64 (rgt x)])) := by
  obtain ⟨ai, ci, ad, cd, at', ct, rfl, F⟩ := A
  rw [w_87]
  simp (maxSteps:=9^7)(disch:=first|assumption|((try simp only[nX]);omega)|simp) [-g7_87]
  generalize hP : Hp.push h _ = P
  have gP : P.get h.next = some (.cells false [.int .i64 x.p, .int .i64 x.m, .slice ai x.im.length ci, .slice ad x.dk.length cd, .slice at' x.it.length ct]) := by rw [← hP]; exact get_push_self
  have KP : Kp h P := by rw [← hP]; exact (Kp.refl h).push _
  have nP : P.next = h.next + 1 := by rw [← hP]; rfl
  have FP := F.kp KP
  clear hP
  have fail : ∀ c : Prop, c → c := fun _ h => h
  by_cases c1 : 256 < x.it.length
  · have c1' : (256 : Int) < x.it.length := by omega
    have r := rgt_long (x := x) (.inl c1)
    simp (maxSteps:=9^7)(disch:=first|assumption|((try simp only[nX]);omega)|simp) [gP, c1', r, KP]
  have c1' : ¬ (256 : Int) < x.it.length := by omega
  by_cases c2 : 65535 < x.im.length
  · have c2' : (65535 : Int) < x.im.length := by omega
    have r := rgt_long (x := x) (.inr (.inl c2))
    simp (maxSteps:=9^7)(disch:=first|assumption|((try simp only[nX]);omega)|simp) [gP, c1', c2', r, KP]
  have c2' : ¬ (65535 : Int) < x.im.length := by omega
  by_cases c3 : 4096 < x.dk.length
  · have c3' : (4096 : Int) < x.dk.length := by omega
    have r := rgt_long (x := x) (.inr (.inr c3))
    simp (maxSteps:=9^7)(disch:=first|assumption|((try simp only[nX]);omega)|simp) [gP, c1', c2', c3', r, KP]
  have c3' : ¬ (4096 : Int) < x.dk.length := by omega
  have cn : ¬ (256 < x.it.length ∨ 65535 < x.im.length ∨ 4096 < x.dk.length) := by omega
  by_cases d1 : x.p < 0
  · have r := rgt_arg cn (.inl d1)
    simp (maxSteps:=9^7)(disch:=first|assumption|((try simp only[nX]);omega)|simp) [gP, c1', c2', c3', d1, r, KP]
  by_cases d2 : 255 < x.p
  · have r := rgt_arg cn (.inr (.inl d2))
    simp (maxSteps:=9^7)(disch:=first|assumption|((try simp only[nX]);omega)|simp) [gP, c1', c2', c3', d1, d2, r, KP]
  by_cases d3 : x.m < 0
  · have r := rgt_arg cn (.inr (.inr (.inl d3)))
    simp (maxSteps:=9^7)(disch:=first|assumption|((try simp only[nX]);omega)|simp) [gP, c1', c2', c3', d1, d2, d3, r, KP]
  by_cases d4 : 255 < x.m
  · have r := rgt_arg cn (.inr (.inr (.inr d4)))
    simp (maxSteps:=9^7)(disch:=first|assumption|((try simp only[nX]);omega)|simp) [gP, c1', c2', c3', d1, d2, d3, d4, r, KP]
  have ri := rgt_it cn (by omega)
  simp (maxSteps:=9^7)(disch:=first|assumption|((try simp only[nX]);omega)|simp) [gP, c1', c2', c3', d1, d2, d3, d4, -g5_87]
  generalize hQ : Hp.push P _ = Q
  have gQ : Q.get P.next = some (.cells false ([b8 x.p, b8 x.m].map u8)) := by rw [← hQ]; exact get_push_self
  have KQ : Kp P Q := by rw [← hQ]; exact (Kp.refl P).push _
  have nQ : Q.next = P.next + 1 := by rw [← hQ]; rfl
  have FQ := FP.kp KQ
  have gPQ := (KQ.get _ (lt_of_get gP)).trans gP
  clear hQ
  refine GCI_intro (s_text (xs := [b8 x.p, b8 x.m]) (.inl ⟨P.next, rfl, gQ, rfl⟩) FQ.i (by simp) (by have := F.il; omega) fun A hA => ?_) fun v1 h1 ⟨f1, O1, U1⟩ => ?_
  · have := sees_lt FP.i A hA
    simp; omega
  have KPQ : Kp h Q := KP.trans KQ
  have lP := lt_of_get gP
  have g1 := (U1.get h.next (by omega) (by simp; omega)).trans gPQ
  have b1 : ∀ b ∈ f1, h.next + 1 ≤ b := fun b hb => by
    rcases U1.sub b hb with h5 | h5
    · simp at h5; omega
    · omega
  have K1 : Kp h h1 := U1.kp' KPQ (by simp; omega)
  clear gQ U1 gPQ KQ
  simp (maxSteps:=9^7)(disch:=first|assumption|((try simp only[nX]);omega)|simp) [g1, -g5_87]
  refine GCI_intro (s_text (.inr O1) (F.d.kp K1) (by simp [by2]; have := F.il; omega) (by have := F.dl; omega) fun A hA hm => ?_) fun v2 h2 ⟨f2, O2, U2⟩ => ?_
  · have := sees_lt F.d A hA
    have := b1 _ hm
    omega
  have g2 := (U2.get h.next (lt_of_get g1) (fun hm => by have := b1 _ hm; omega)).trans g1
  have b2 : ∀ b ∈ f2, h.next + 1 ≤ b := fun b hb => by
    rcases U2.sub b hb with h5 | h5
    · exact b1 b h5
    · have := lt_of_get g1; omega
  have K2 : Kp h h2 := U2.kp' K1 fun b hb => by have := b1 b hb; omega
  have e2 : (([b8 x.p, b8 x.m] ++ (by2 x.im.length ++ x.im)) ++ (by2 x.dk.length ++ x.dk)) = [b8 x.p, b8 x.m] ++ by2 x.im.length ++ x.im ++ by2 x.dk.length ++ x.dk := by simp
  rw [e2] at O2
  clear U2 O1 g1 K1 e2
  simp (maxSteps:=9^7)(disch:=first|assumption|((try simp only[nX]);omega)|simp) [g2]
  have hl := F.il
  have hl2 := F.dl
  have hl3 := F.tl
  obtain ⟨D, hD⟩ : ∃ D, D = [b8 x.p, b8 x.m] ++ by2 x.im.length ++ x.im ++ by2 x.dk.length ++ x.dk := ⟨_, rfl⟩
  have hDl : D.length < 2 ^ 34 := by rw [hD]; simp [by2]; omega
  have hwr : wri x = D ++ x.it.flatMap wrI := by rw [hD]; rfl
  rw [← hD] at O2
  refine G_loop (fun j e H => ∃ (i : Nat) (fp : List Nat), j = x.it.length - i ∧ i ≤ x.it.length ∧ (x.it.take i).all mayI = true ∧ Own encB H (e 4) (D ++ (x.it.take i).flatMap wrI) fp ∧ (∀ b ∈ fp, h.next ≤ b) ∧ Kp h H ∧ e 57 = .slice at' x.it.length ct ∧ e 58 = .int .i64 x.it.length ∧ e 59 = .int .i64 i) ?_ x.it.length _ _ ⟨0, f2, rfl, by omega, rfl, by simpa using O2, fun b hb => by have := b2 b hb; omega, K2, by simp, by simp, by simp⟩
  clear K2 O2 b2 g2 b1
  rintro j ih e H ⟨i, fp, rfl, hi, hm, O, hb, K, e57, e58, e59⟩
  by_cases c : i < x.it.length
  case neg =>
    obtain rfl : i = x.it.length := by omega
    rw [List.take_length] at hm O
    have r0 : rgt x = 0 := by rw [ri, if_pos hm]
    simp (maxSteps:=9^7)(disch:=first|assumption|((try simp only[nX]);omega)|simp) [e57, e58, e59, r0]
    exact ⟨K, fp, by rw [hwr]; exact O, hb⟩
  have c' : (i : Int) < x.it.length := by omega
  obtain ⟨A, rfl, hr⟩ := (F.t.kp K).at' i c
  obtain ⟨y, hy⟩ : ∃ y, y = x.it[i] := ⟨_, rfl⟩
  rw [← hy] at hr
  simp only [encIt, Enc.enc] at hr
  have hr' : H.rdn A.block (A.off + i * 2) 2 = some [.int .i64 y.k, .int .i64 y.n] := hr
  have hmay := fun h q => s_may (h := h) (q := q) (x := y)
  have htk : x.it.take (i + 1) = x.it.take i ++ [y] := by rw [hy, List.take_succ_eq_append_getElem c]
  cases hq : mayI y with
  | false =>
    have r1 : rgt x = 1 := by
      rw [ri, if_neg]
      intro hall
      rw [List.all_eq_true] at hall
      have := hall y (by rw [hy]; exact List.getElem_mem c)
      rw [hq] at this
      cases this
    simp only [hq] at hmay
    simp (maxSteps:=9^7)(disch:=first|assumption|((try simp only[nX]);omega)|simp) [e57, e58, e59, c', hr', GC_of (hmay _), r1]
    exact (K.push _).push _
  | true =>
    simp only [hq] at hmay
    simp (maxSteps:=9^7)(disch:=first|assumption|((try simp only[nX]);omega)|simp) [e57, e58, e59, c', hr', GC_of (hmay _), -g2_87]
    generalize hH : Hp.push (Hp.push H _) _ = H2
    have gI : H2.get H.next = some (.cells false [.int .i64 y.k, .int .i64 y.n]) := by rw [← hH, get_push_ne (by simp only [push_next]; omega), get_push_self]
    have KH : Kp H H2 := by rw [← hH]; exact ((Kp.refl H).push _).push _
    clear hH
    have hfl := wr_len (x.it.take i)
    rw [List.length_take, Nat.min_eq_left hi] at hfl
    have hll : (D ++ (x.it.take i).flatMap wrI).length < 2 ^ 36 := by rw [List.length_append]; omega
    have hnx : D ++ (x.it.take (i + 1)).flatMap wrI = D ++ (x.it.take i).flatMap wrI ++ wrI y := by rw [htk]; simp
    generalize D ++ (x.it.take i).flatMap wrI = B at O hll hnx
    have lI := lt_of_get gI
    have live := O.live
    have hask := fun h q => s_asks (h := h) (q := q) (k := y.k)
    simp (maxSteps:=9^7)(disch:=first|assumption|((try simp only[nX]);omega)|simp) [gI, -g1_87]
    refine GV_app1 (E := encB) (bytes := 1) (x := b8 y.k) (O.kp KH) (by omega) (by omega) fun v3 h3 f3 O3 U3 => ?_
    have g3 := (U3.get H.next lI (fun hm => by have := live _ hm; omega)).trans gI
    have b3 : ∀ b ∈ f3, h.next ≤ b := fun b hb3 => by
      rcases U3.sub b hb3 with h5 | h5
      · exact hb b h5
      · have := K.le; have := KH.le; omega
    have K3 : Kp h h3 := U3.kp' (K.trans KH) hb
    have l3 : H.next ∉ f3 := fun hm => by
      rcases U3.sub _ hm with h5 | h5
      · have := live _ h5; omega
      · omega
    clear U3 gI
    cases hk : askk y.k with
    | false =>
      simp only [hk] at hask
      have hw : wrI y = [b8 y.k] := by simp [wrI, hk]
      simp (maxSteps:=9^7)(disch:=first|assumption|((try simp only[nX]);omega)|simp) [g3, GC_of (hask _), e59]
      exact ih (x.it.length - (i + 1)) (by omega) _ _ ⟨i + 1, f3, rfl, by omega, by rw [htk, List.all_append, hm]; simp [hq], by rw [hnx, hw]; simpa using O3, b3, K3, by simp [e57], by simp [e58], by simp⟩
    | true =>
      simp only [hk] at hask
      have hsh : y.n.fdiv 256 = y.n / 256 := Int.fdiv_eq_ediv_of_nonneg _ (by omega)
      have hw : wrI y = [b8 y.k] ++ by2 y.n := by simp [wrI, hk]
      simp (maxSteps:=9^7)(disch:=first|assumption|((try simp only[nX]);omega)|simp) [g3, GC_of (hask _), e59, hsh]
      have K4 := (Kp.refl h3).push (.cells false [u8 (BitVec.ofInt 8 (y.n / 256)), u8 (BitVec.ofInt 8 y.n)])
      refine GV_app (E := encB) (bytes := 1) (O3.kp K4) (ys := by2 y.n) (sees_b (ro := false) get_push_self) rfl (by simp [by2]; omega) (by simp [by2]; omega) fun v5 h5 f5 O5 U5 => ?_
      have U6 := (K4.upd f3).trans U5
      have b5 : ∀ b ∈ f5, h.next ≤ b := fun b hb5 => by
        rcases U6.sub b hb5 with h5 | h5
        · exact b3 b h5
        · have := K3.le; omega
      simp (maxSteps:=9^7)(disch:=first|assumption|((try simp only[nX]);omega)|simp) [e59]
      exact ih (x.it.length - (i + 1)) (by omega) _ _ ⟨i + 1, f5, rfl, by omega, by rw [htk, List.all_append, hm]; simp [hq], by rw [hnx, hw, ← List.append_assoc]; simpa using O5, b5, U6.kp' K3 b3, by simp [e57], by simp [e58], by simp⟩
end
end Go.Proofs.YtoiiphcbkejliaaGreat.Cd

/- The document's writing of a script. -/
set_option maxRecDepth 1000000
set_option maxHeartbeats 8000000
set_option linter.unusedSimpArgs false
set_option linter.unusedVariables false
namespace Go.Proofs.YtoiiphcbkejliaaGreat.Cd
open Go Go.Dx
section
variable {h h' : Hp} {v : Value} {x : Scr} {ai ad at' : Option Addr} {ci cd ct : Nat}
theorem p_right (A : isSc h v x) : WC T n_4w [v] h fun w h' => w = .int .i64 (rgt x) ∧ Kp h h' := by
  obtain ⟨ai, ci, ad, cd, at', ct, rfl, F⟩ := A
  rw [w_4w]
  simp (maxSteps:=9^7)(disch:=first|assumption|((try simp only[nX]);omega)|simp) [-g4_4w]
  generalize hP : Hp.push h _ = P
  have gP : P.get h.next = some (.cells false [.int .i64 x.p, .int .i64 x.m, .slice ai x.im.length ci, .slice ad x.dk.length cd, .slice at' x.it.length ct]) := by rw [← hP]; exact get_push_self
  have KP : Kp h P := by rw [← hP]; exact (Kp.refl h).push _
  clear hP
  by_cases c1 : 256 < x.it.length
  · have c1' : (256 : Int) < x.it.length := by omega
    have r := rgt_long (x := x) (.inl c1)
    simp (maxSteps:=9^7)(disch:=first|assumption|((try simp only[nX]);omega)|simp) [gP, c1', r, KP]
  have c1' : ¬ (256 : Int) < x.it.length := by omega
  by_cases c2 : 65535 < x.im.length
  · have c2' : (65535 : Int) < x.im.length := by omega
    have r := rgt_long (x := x) (.inr (.inl c2))
    simp (maxSteps:=9^7)(disch:=first|assumption|((try simp only[nX]);omega)|simp) [gP, c1', c2', r, KP]
  have c2' : ¬ (65535 : Int) < x.im.length := by omega
  by_cases c3 : 4096 < x.dk.length
  · have c3' : (4096 : Int) < x.dk.length := by omega
    have r := rgt_long (x := x) (.inr (.inr c3))
    simp (maxSteps:=9^7)(disch:=first|assumption|((try simp only[nX]);omega)|simp) [gP, c1', c2', c3', r, KP]
  have c3' : ¬ (4096 : Int) < x.dk.length := by omega
  have cn : ¬ (256 < x.it.length ∨ 65535 < x.im.length ∨ 4096 < x.dk.length) := by omega
  by_cases d1 : x.p < 0
  · have r := rgt_arg cn (.inl d1)
    simp (maxSteps:=9^7)(disch:=first|assumption|((try simp only[nX]);omega)|simp) [gP, c1', c2', c3', d1, r, KP]
  by_cases d2 : 255 < x.p
  · have r := rgt_arg cn (.inr (.inl d2))
    simp (maxSteps:=9^7)(disch:=first|assumption|((try simp only[nX]);omega)|simp) [gP, c1', c2', c3', d1, d2, r, KP]
  by_cases d3 : x.m < 0
  · have r := rgt_arg cn (.inr (.inr (.inl d3)))
    simp (maxSteps:=9^7)(disch:=first|assumption|((try simp only[nX]);omega)|simp) [gP, c1', c2', c3', d1, d2, d3, r, KP]
  by_cases d4 : 255 < x.m
  · have r := rgt_arg cn (.inr (.inr (.inr d4)))
    simp (maxSteps:=9^7)(disch:=first|assumption|((try simp only[nX]);omega)|simp) [gP, c1', c2', c3', d1, d2, d3, d4, r, KP]
  have ri := rgt_it cn (by omega)
  simp (maxSteps:=9^7)(disch:=first|assumption|((try simp only[nX]);omega)|simp) [gP, c1', c2', c3', d1, d2, d3, d4]
  have lP := lt_of_get gP
  refine G_loop (fun j e H => ∃ i : Nat, j = x.it.length - i ∧ i ≤ x.it.length ∧ (x.it.take i).all mayI = true ∧ Kp P H ∧ e 1 = ptr h.next 0 ∧ e 3 = .int .i64 i) ?_ x.it.length _ _ ⟨0, rfl, by omega, rfl, .refl _, by simp, by simp⟩
  rintro j ih e H ⟨i, rfl, hi, hm, K, e1, e3⟩
  have gH := (K.get _ lP).trans gP
  have KH := KP.trans K
  by_cases c : i < x.it.length
  case neg =>
    obtain rfl : i = x.it.length := by omega
    rw [List.take_length] at hm
    have r0 : rgt x = 0 := by rw [ri, if_pos hm]
    simp (maxSteps:=9^7)(disch:=first|assumption|((try simp only[nX]);omega)|simp) [e1, e3, gH, r0, KH]
  have c' : (i : Int) < x.it.length := by omega
  obtain ⟨A, rfl, hr⟩ := (F.t.kp KH).at' i c
  obtain ⟨y, hy⟩ : ∃ y, y = x.it[i] := ⟨_, rfl⟩
  rw [← hy] at hr
  have hr' : H.rdn A.block (A.off + i * 2) 2 = some [.int .i64 y.k, .int .i64 y.n] := hr
  have htk : x.it.take (i + 1) = x.it.take i ++ [y] := by rw [hy, List.take_succ_eq_append_getElem c]
  have hask := fun h q => p_asks (h := h) (q := q) (k := y.k)
  have bad : mayI y = false → rgt x = 1 := fun hq => by
    rw [ri, if_neg]
    intro hall
    rw [List.all_eq_true] at hall
    have := hall y (by rw [hy]; exact List.getElem_mem c)
    rw [hq] at this
    cases this
  have go : mayI y = true → (x.it.take (i + 1)).all mayI = true := fun hq => by rw [htk, List.all_append, hm]; simp [hq]
  simp (maxSteps:=9^7)(disch:=first|assumption|((try simp only[nX]);omega)|simp) [e1, e3, gH, c', hr', -g0_4w]
  generalize hH : Hp.push H _ = H2
  have gI : H2.get H.next = some (.cells false [.int .i64 y.k, .int .i64 y.n]) := by rw [← hH, get_push_self]
  have K2 : Kp P H2 := by rw [← hH]; exact K.push _
  have KH2 := KP.trans K2
  clear hH
  have next : ∀ e : Env, e 1 = ptr h.next 0 → e 3 = .int .i64 ((i : Int) + 1) → mayI y = true → ∃ i_1 : Nat, x.it.length - (i + 1) = x.it.length - i_1 ∧ i_1 ≤ x.it.length ∧ (x.it.take i_1).all mayI = true ∧ Kp P H2 ∧ e 1 = ptr h.next 0 ∧ e 3 = .int .i64 i_1 := fun e a1 a3 hq => ⟨i + 1, rfl, by omega, go hq, K2, a1, by rw [a3]; simp⟩
  by_cases t1 : y.k < 1
  · have r1 := bad (by simp [mayI, isk]; omega)
    simp (maxSteps:=9^7)(disch:=first|assumption|((try simp only[nX]);omega)|simp) [gI, t1, r1, KH2]
  by_cases t2 : 5 < y.k
  · have r1 := bad (by simp [mayI, isk]; omega)
    simp (maxSteps:=9^7)(disch:=first|assumption|((try simp only[nX]);omega)|simp) [gI, t1, t2, r1, KH2]
  have hik : isk y.k = true := by simp [isk]; omega
  cases hk : askk y.k with
  | false =>
    simp only [hk] at hask
    have hq : mayI y = true := by simp [mayI, hik, hk]
    simp (maxSteps:=9^7)(disch:=first|assumption|((try simp only[nX]);omega)|simp) [gI, t1, t2, GC_of (hask _), e3]
    exact ih (x.it.length - (i + 1)) (by omega) _ _ (next _ (by simp [e1]) (by simp) hq)
  | true =>
    simp only [hk] at hask
    by_cases t3 : y.n < 0
    · have r1 := bad (by simp [mayI, hk]; omega)
      simp (maxSteps:=9^7)(disch:=first|assumption|((try simp only[nX]);omega)|simp) [gI, t1, t2, t3, GC_of (hask _), r1, KH2]
    by_cases t4 : 65535 < y.n
    · have r1 := bad (by simp [mayI, hk]; omega)
      simp (maxSteps:=9^7)(disch:=first|assumption|((try simp only[nX]);omega)|simp) [gI, t1, t2, t3, t4, GC_of (hask _), r1, KH2]
    have hq : mayI y = true := by simp [mayI, hik, hk]; omega
    simp (maxSteps:=9^7)(disch:=first|assumption|((try simp only[nX]);omega)|simp) [gI, t1, t2, t3, t4, GC_of (hask _), e3]
    exact ih (x.it.length - (i + 1)) (by omega) _ _ (next _ (by simp [e1]) (by simp) hq)
end
end Go.Proofs.YtoiiphcbkejliaaGreat.Cd

/- Texts that are cut out. -/
set_option maxRecDepth 1000000
set_option maxHeartbeats 8000000
set_option linter.unusedSimpArgs false
set_option linter.unusedVariables false
namespace Go.Proofs.YtoiiphcbkejliaaGreat.Cd
open Go Go.Dx
/-- What a cut tells. -/
def isCut (h' : Hp) (w : Value) : Option (By × By) → Prop
  | none => w = .tuple #[.slice none 0 0, .slice none 0 0, .bool false]
  | some (l, r) => ∃ al cl ar cr, w = .tuple #[.slice al l.length cl, .slice ar r.length cr, .bool true] ∧ (Sees encB h' al l ∧ l.length ≤ cl) ∧ (Sees encB h' ar r ∧ r.length ≤ cr)
section
variable {h h' : Hp} {a : Option Addr} {b l r : By} {c : Nat}
theorem clone_b (S : Sees encB h a b) (hl : b.length < 2 ^ 40) : WC T n_8e [.slice a b.length c] h fun v h' => ∃ a' c', v = .slice a' b.length c' ∧ (Sees encB h' a' b ∧ b.length ≤ c') ∧ Kp h h' :=
  clone_by S hl fun a' c' h' S' K _ ho => ⟨a', c', rfl, ⟨S', by
    rcases ho with rfl | ⟨fp, O, _⟩
    · simp
    · obtain ⟨a2, c2, e, _, hle, _⟩ := O.len
      cases e
      exact hle⟩, K⟩
/-- A part of bytes. -/
theorem part_b (S : Sees encB h a b) (hc : b.length ≤ c) {lo hi : Nat} (h1 : lo ≤ hi) (h2 : hi ≤ b.length) {l u : Option Value} (hl : (l = none ∧ lo = 0) ∨ ∃ k, l = some (.int k lo)) (hu : (u = none ∧ hi = b.length) ∨ ∃ k, u = some (.int k hi)) :
    ∃ a' c', sliceV 1 (.slice a b.length c) l u none = some (.slice a' ((b.drop lo).take (hi - lo)).length c') ∧ ((b.drop lo).take (hi - lo)).length ≤ c' ∧ Sees encB h a' ((b.drop lo).take (hi - lo)) := by
  obtain ⟨a', c', h3, h4, h5⟩ := S.part h1 h2 hc hl hu
  have : ((b.drop lo).take (hi - lo)).length = hi - lo := by simp; omega
  exact ⟨a', c', by rw [this]; exact h3, by rw [this]; exact h4, h5⟩
/-- Behind the first ones. -/
theorem drop_b (S : Sees encB h a b) (hc : b.length ≤ c) {lo : Nat} (h1 : lo ≤ b.length) : ∃ a' c', sliceV 1 (.slice a b.length c) (some (.int .i64 lo)) none none = some (.slice a' (b.drop lo).length c') ∧ (b.drop lo).length ≤ c' ∧ Sees encB h a' (b.drop lo) := by
  obtain ⟨a', c', h3, h4, h5⟩ := part_b S hc (lo := lo) (hi := b.length) h1 (Nat.le_refl _) (l := some (.int .i64 lo)) (u := none) (.inr ⟨_, rfl⟩) (.inl ⟨rfl, rfl⟩)
  have e : (b.drop lo).take (b.length - lo) = b.drop lo := List.take_of_length_le (by simp)
  rw [e] at h3 h4 h5
  exact ⟨a', c', h3, h4, h5⟩
theorem sliceV_blk {sz n c n' c' : Nat} {a a' : Option Addr} {l u m : Option Value} (h : sliceV sz (.slice a n c) l u m = some (.slice a' n' c')) : ∀ A', a' = some A' → ∃ A, a = some A ∧ A'.block = A.block := by
  intro A' hA
  subst hA
  unfold sliceV at h
  simp only [] at h
  cases hb : bounds n c l u m with
  | none => rw [hb] at h; cases h
  | some r =>
    obtain ⟨x, y, z⟩ := r
    rw [hb] at h
    cases a with
    | none => cases h
    | some A =>
      refine ⟨A, rfl, ?_⟩
      obtain ⟨b, o, sp⟩ := A
      cases sp with
      | none =>
        simp only [] at h
        split at h <;> (cases h; rfl)
      | some e =>
        simp only [] at h
        split at h
        · cases h
        · split at h
          · cases h; rfl
          · split at h <;> (cases h; rfl)
theorem two_cells {x y : BitVec 8} (S : Sees encB h a (x :: y :: r)) : ∃ A ro C, a = some A ∧ h.get A.block = some (.cells ro C) ∧ C[A.off]? = some (u8 x) ∧ C[A.off + 1]? = some (u8 y) := by
  obtain ⟨A, ro, C, hA, hg, h0⟩ := Sees.cell (E := encB) (f := fun x => u8 x) (fun _ => rfl) rfl (us := []) (x := x) (vs := y :: r) S
  obtain ⟨A', ro', C', hA', hg', h1⟩ := Sees.cell (E := encB) (f := fun x => u8 x) (fun _ => rfl) rfl (us := [x]) (x := y) (vs := r) S
  rw [hA] at hA'
  cases hA'
  rw [hg] at hg'
  cases hg'
  exact ⟨A, ro, C, hA, hg, by simpa using h0, by simpa using h1⟩
theorem or_b2 (x y : BitVec 8) : binV .or (.int .i64 ((x.toNat : Int) * 256)) (.int .i64 (y.toNat : Int)) = some (.int .i64 (two x y : Nat)) := by
  rw [show (x.toNat : Int) * 256 = ((256 * x.toNat : Nat) : Int) by omega]
  exact or_b x y
theorem s_cut (S : Sees encB h a b) (hc : b.length ≤ c) (hl : b.length < 2 ^ 40) : WC T n_89 [.slice a b.length c] h fun w h' => isCut h' w (txt b) ∧ Kp h h' := by
  rw [w_89]
  by_cases c1 : b.length < 2
  · have c1' : (b.length : Int) < 2 := by omega
    have e : txt b = none := by
      match b, c1 with
      | [], _ => rfl
      | [_], _ => rfl
    simp (maxSteps:=9^7)(disch:=first|assumption|((try simp only[nX]);omega)|simp) [c1', e]
    rfl
  have c1' : ¬ (b.length : Int) < 2 := by omega
  obtain ⟨x, y, r, hb⟩ : ∃ x y r, b = x :: y :: r := by
    match b, c1 with
    | [], h => simp at h
    | [_], h => simp at h
    | x :: y :: r, _ => exact ⟨x, y, r, rfl⟩
  obtain ⟨A, ro, C, rfl, hg, h0, h1⟩ := two_cells (by rw [← hb]; exact S)
  obtain ⟨a2, c2, s2, q2, S2⟩ := drop_b S hc (lo := 2) (by omega)
  have e2 : b.drop 2 = r := by rw [hb]; rfl
  rw [e2, show ((2 : Nat) : Int) = 2 from rfl] at s2
  rw [e2] at q2 S2
  have hlt0 : (0 : Int) < b.length := by omega
  have hlt1 : (1 : Int) < b.length := by omega
  have ht : txt b = if r.length < two x y then none else some (r.take (two x y), r.drop (two x y)) := by rw [hb]; rfl
  have hr : r.length < 2 ^ 40 := by rw [hb] at hl; simp at hl; omega
  by_cases c3 : r.length < two x y
  · have c3' : (r.length : Int) < (two x y : Nat) := by omega
    rw [if_pos c3] at ht
    simp (maxSteps:=9^7)(disch:=first|assumption|((try simp only[nX]);omega)|simp) [c1', hg, h0, h1, s2, hlt0, hlt1, or_b2, c3', ht]
    rfl
  have c3' : ¬ (r.length : Int) < (two x y : Nat) := by omega
  rw [if_neg c3] at ht
  obtain ⟨a3, c4, s3, q3, S3⟩ := part_b S2 q2 (lo := 0) (hi := two x y) (by omega) (by omega) (l := none) (u := some (.int .i64 (two x y : Nat))) (.inl ⟨rfl, rfl⟩) (.inr ⟨_, rfl⟩)
  rw [List.drop_zero, Nat.sub_zero] at s3 q3 S3
  obtain ⟨a4, c5, s4, q4, S4⟩ := drop_b S2 q2 (lo := two x y) (by omega)
  have hlt : (r.take (two x y)).length < 2 ^ 40 := by simp; omega
  rw [ht]
  generalize r.take (two x y) = l1 at *
  generalize r.drop (two x y) = l2 at *
  simp (maxSteps:=9^7)(disch:=first|assumption|((try simp only[nX]);omega)|simp) [c1', hg, h0, h1, s2, hlt0, hlt1, or_b2, c3', s3]
  refine GC_intro (clone_b S3 hlt) fun v h2 ⟨a6, c6, hv, S6, K⟩ => ?_
  subst hv
  simp (maxSteps:=9^7)(disch:=first|assumption|((try simp only[nX]);omega)|simp) [s4]
  exact ⟨⟨a6, c6, a4, c5, rfl, S6, S4.kp K, q4⟩, K⟩
end
end Go.Proofs.YtoiiphcbkejliaaGreat.Cd

/- shell.Decode; the document's own reading. -/
set_option maxRecDepth 1000000
set_option maxHeartbeats 8000000
set_option linter.unusedSimpArgs false
set_option linter.unusedVariables false
namespace Go.Proofs.YtoiiphcbkejliaaGreat.Cd
open Go Go.Dx
/-- What a reading tells. -/
def itA : Value → Option Addr
  | .agg #[_, _, _, _, .slice a _ _] => a
  | _ => none
/-- Its items lie behind a place. -/
def freshI (v : Value) (n : Nat) : Prop := ∀ A, itA v = some A → n ≤ A.block
def isDec (n : Nat) (h' : Hp) (w bad good : Value) : Option Scr → Prop
  | none => w = .tuple #[.agg #[.int .i64 0, .int .i64 0, .slice none 0 0, .slice none 0 0, .slice none 0 0], bad]
  | some x => ∃ v, w = .tuple #[v, good] ∧ isSc h' v x ∧ freshI v n
section
variable {h h' : Hp} {a : Option Addr} {b l r : By} {c : Nat}
theorem one_cell {x : BitVec 8} (S : Sees encB h a (x :: r)) : ∃ A ro C, a = some A ∧ h.get A.block = some (.cells ro C) ∧ C[A.off]? = some (u8 x) := by
  obtain ⟨A, ro, C, hA, hg, h0⟩ := Sees.cell (E := encB) (f := fun x => u8 x) (fun _ => rfl) rfl (us := []) (x := x) (vs := r) S
  exact ⟨A, ro, C, hA, hg, by simpa using h0⟩
/-- Bytes do not lie where a script's fields lie. -/
theorem sees_put5 {xs : By} {p : Nat} {ro ro' : Bool} {C C' : List Value} (S : Sees encB h a xs) (hg : h.get p = some (.cells ro C)) (hC : ∀ (i : Nat) (x : BitVec 8), C[i]? ≠ some (u8 x)) (hl : C'.length = C.length) : Sees encB (h.put p (some (.cells ro' C'))) a xs := by
  refine ⟨S.nil, fun A hA => ?_, S.sp⟩
  have h1 := S.get A hA
  by_cases hp : A.block = p
  · subst hp
    cases xs with
    | nil =>
      simp only [List.length_nil, Nat.zero_mul, Hp.rdn, Hp.cells, hg, Option.bind_some] at h1
      simp only [List.length_nil, Nat.zero_mul, Hp.rdn, Hp.cells, get_put_self (lt_of_get hg), Option.bind_some]
      split at h1
      · rename_i hle
        rw [if_pos (by omega)]
        simp
      · cases h1
    | cons x xs =>
      obtain ⟨A', ro2, C2, hA', hg', h0⟩ := one_cell S
      rw [hA] at hA'
      cases hA'
      rw [hg] at hg'
      cases hg'
      exact absurd h0 (hC _ _)
  · rw [← h1]
    simp only [Hp.rdn, Hp.cells, get_put_ne hp]
theorem no_u8 {p m : Int} {a1 a2 a3 : Option Addr} {n1 n2 n3 c1 c2 c3 : Nat} : ∀ (i : Nat) (x : BitVec 8), [Value.int .i64 p, .int .i64 m, .slice a1 n1 c1, .slice a2 n2 c2, .slice a3 n3 c3][i]? ≠ some (u8 x)
  | 0, x => by simp [u8]
  | 1, x => by simp [u8]
  | 2, x => by simp [u8]
  | 3, x => by simp [u8]
  | 4, x => by simp [u8]
  | n + 5, x => by simp
/-- A script that was read. -/
theorem dec_done {H : Hp} {lo : Nat} {x y : BitVec 8} {al ad : Option Addr} {im dk : By} {cl cd : Nat} {ov : Value} {acc : List Itm} {fp : List Nat} (K : Kp h H) (hlo : h.next ≤ lo) (gR : H.get lo = some (.cells false [.int .i64 0, .int .i64 0, .slice none 0 0, .slice none 0 0, .slice none 0 0])) (Si : Sees encB H al im) (qi : im.length ≤ cl) (hi : im.length ≤ 65535) (Sd : Sees encB H ad dk) (qd : dk.length ≤ cd) (hd : dk.length ≤ 65535)
    (O : Own encIt H ov acc fp) (hfp : ∀ b ∈ fp, lo < b) (ha : acc.length ≤ 256) :
    isSc (H.put lo (some (.cells false [.int .i64 x.toNat, .int .i64 y.toNat, .slice al im.length cl, .slice ad dk.length cd, ov]))) (.agg #[.int .i64 x.toNat, .int .i64 y.toNat, .slice al im.length cl, .slice ad dk.length cd, ov]) ⟨x.toNat, y.toNat, im, dk, acc⟩ ∧ freshI (.agg #[.int .i64 x.toNat, .int .i64 y.toNat, .slice al im.length cl, .slice ad dk.length cd, ov]) h.next ∧ Kp h (H.put lo (some (.cells false [.int .i64 x.toNat, .int .i64 y.toNat, .slice al im.length cl, .slice ad dk.length cd, ov]))) := by
  have O' := O.keep (h' := H.put lo (some (.cells false [.int .i64 x.toNat, .int .i64 y.toNat, .slice al im.length cl, .slice ad dk.length cd, ov]))) fun b hb => get_put_ne (by have := hfp b hb; omega)
  obtain ⟨at', ct, rfl, St, qt, hm⟩ := O'.len
  exact ⟨⟨al, cl, ad, cd, at', ct, rfl, sees_put5 Si gR no_u8 rfl, sees_put5 Sd gR no_u8 rfl, St, qi, qd, qt, by simp; omega, by simp; omega, by simp; omega⟩, fun A hA => by have := hfp _ (hm A hA); omega, K.put hlo _⟩
theorem s_dec (S : Sees encB h a b) (hc : b.length ≤ c) (hl : b.length < 2 ^ 40) : WC T n_85 [.slice a b.length c] h fun w h' => isDec h.next h' w (.int .i64 12) (.int .i64 0) (prs b) ∧ Kp h h' := by
  rw [w_85]
  by_cases c1 : b.length < 2
  · have c1' : (b.length : Int) < 2 := by omega
    have e : prs b = none := by
      match b, c1 with
      | [], _ => rfl
      | [_], _ => rfl
    simp (maxSteps:=9^7)(disch:=first|assumption|((try simp only[nX]);omega)|simp) [c1', e, isDec]
  have c1' : ¬ (b.length : Int) < 2 := by omega
  obtain ⟨x, y, r, hb⟩ : ∃ x y r, b = x :: y :: r := by
    match b, c1 with
    | [], h => simp at h
    | [_], h => simp at h
    | x :: y :: r, _ => exact ⟨x, y, r, rfl⟩
  obtain ⟨A, ro, C, rfl, hg, h0, h1⟩ := two_cells (by rw [← hb]; exact S)
  obtain ⟨a2, c2, s2, q2, S2⟩ := drop_b S hc (lo := 2) (by omega)
  have e2 : b.drop 2 = r := by rw [hb]; rfl
  rw [e2, show ((2 : Nat) : Int) = 2 from rfl] at s2
  rw [e2] at q2 S2
  have hr : r.length < 2 ^ 40 := by rw [hb] at hl; simp at hl; omega
  have hlt0 : (0 : Int) < b.length := by omega
  have hlt1 : (1 : Int) < b.length := by omega
  have lA := lt_of_get hg
  have hp : prs b = match txt r with | none => none | some (im, r1) => match txt r1 with | none => none | some (dk, r2) => if 4096 < dk.length then none else some ⟨x.toNat, y.toNat, im, dk, rdI r2 []⟩ := by rw [hb]; rfl
  simp (maxSteps:=9^7)(disch:=first|assumption|((try simp only[nX]);omega)|simp) [c1', hg, h0, h1, hlt0, hlt1, -g8_85]
  generalize hP : Hp.push (Hp.push h _) _ = P
  have gR : P.get h.next = some (.cells false [.int .i64 0, .int .i64 0, .slice none 0 0, .slice none 0 0, .slice none 0 0]) := by rw [← hP, get_push_ne (by simp only [push_next]; omega), get_push_self]
  have gS : P.get (h.next + 1) = some (.cells false [.int .i64 x.toNat, .int .i64 y.toNat, .slice none 0 0, .slice none 0 0, .slice none 0 0]) := by rw [← hP, show h.next + 1 = (h.push (.cells false [.int .i64 0, .int .i64 0, .slice none 0 0, .slice none 0 0, .slice none 0 0])).next from rfl]; exact get_push_self
  have KP : Kp h P := by rw [← hP]; exact ((Kp.refl h).push _).push _
  clear hP
  have lR := lt_of_get gR
  have lS := lt_of_get gS
  simp (maxSteps:=9^7)(disch:=first|assumption|((try simp only[nX]);omega)|simp) [s2, -g7_85]
  refine GC_intro (s_cut (S2.kp KP) q2 hr) fun v h2 ⟨hv, K2⟩ => ?_
  have gR2 := (K2.get _ lR).trans gR
  have gS2 := (K2.get _ lS).trans gS
  have KP2 := KP.trans K2
  cases ht1 : txt r with
  | none =>
    rw [ht1] at hv hp
    have hv' : v = .tuple #[.slice none 0 0, .slice none 0 0, .bool false] := hv
    subst hv'
    simp (maxSteps:=9^7)(disch:=first|assumption|((try simp only[nX]);omega)|simp) [-g6_85]
    refine GC_intro (s_cut (h := h2) (b := []) (c := 0) Sees.nul (by simp) (by simp)) fun v h3 ⟨hv, K3⟩ => ?_
    have hv' : v = .tuple #[.slice none 0 0, .slice none 0 0, .bool false] := hv
    subst hv'
    have gR3 := (K3.get _ (lt_of_get gR2)).trans gR2
    have hp' : prs b = none := hp
    have KP3 := KP2.trans K3
    have l3 := lt_of_get gR3
    simp (maxSteps:=9^7)(disch:=first|assumption|((try simp only[nX]);omega)|simp) [gR3, hp', isDec, KP3]
  | some lr =>
    obtain ⟨im, r1⟩ := lr
    rw [ht1] at hv hp
    obtain ⟨al, cl, ar, cr, rfl, ⟨Si, qi⟩, ⟨Sr, qr⟩⟩ := hv
    have hlen := txt_len ht1
    simp (maxSteps:=9^7)(disch:=first|assumption|((try simp only[nX]);omega)|simp) [-g6_85]
    refine GC_intro (s_cut Sr qr (by omega)) fun v h3 ⟨hv, K3⟩ => ?_
    have gR3 := (K3.get _ (lt_of_get gR2)).trans gR2
    have gS3 := (K3.get _ (lt_of_get gS2)).trans gS2
    have KP3 := KP2.trans K3
    have l3 := lt_of_get gR3
    have l4 := lt_of_get gS3
    cases ht2 : txt r1 with
    | none =>
      rw [ht2] at hv
      simp only [ht2] at hp
      have hv' : v = .tuple #[.slice none 0 0, .slice none 0 0, .bool false] := hv
      subst hv'
      simp (maxSteps:=9^7)(disch:=first|assumption|((try simp only[nX]);omega)|simp) [gR3, hp, isDec, KP3]
    | some lr =>
      obtain ⟨dk, r2⟩ := lr
      rw [ht2] at hv
      simp only [ht2] at hp
      obtain ⟨ad, cd, aq, cs, rfl, ⟨Sd, qd⟩, ⟨Ss, qs⟩⟩ := hv
      have hlen2 := txt_len ht2
      by_cases c4 : 4096 < dk.length
      · have c4' : (4096 : Int) < dk.length := by omega
        rw [if_pos c4] at hp
        simp (maxSteps:=9^7)(disch:=first|assumption|((try simp only[nX]);omega)|simp) [gR3, hp, isDec, c4', KP3]
      have c4' : ¬ (4096 : Int) < dk.length := by omega
      rw [if_neg c4] at hp
      simp (maxSteps:=9^7)(disch:=first|assumption|((try simp only[nX]);omega)|simp) [c4', gS3, gR3]
      generalize hH : Hp.put h3 _ _ = H4
      have gS4 : H4.get (h.next + 1) = some (.cells false [.int .i64 x.toNat, .int .i64 y.toNat, .slice al im.length cl, .slice ad dk.length cd, .slice none 0 0]) := by rw [← hH]; exact get_put_self l4
      have gR4 : H4.get h.next = some (.cells false [.int .i64 0, .int .i64 0, .slice none 0 0, .slice none 0 0, .slice none 0 0]) := by rw [← hH, get_put_ne (by omega)]; exact gR3
      have K4 : Kp h H4 := by rw [← hH]; exact KP3.put (by omega) _
      have Si4 : Sees encB H4 al im := by rw [← hH]; exact sees_put5 (Si.kp K3) gS3 no_u8 rfl
      have Sd4 : Sees encB H4 ad dk := by rw [← hH]; exact sees_put5 Sd gS3 no_u8 rfl
      have Ss4 : Sees encB H4 aq r2 := by rw [← hH]; exact sees_put5 Ss gS3 no_u8 rfl
      have hd5 : dk.length ≤ 65535 := by omega
      have bi := sees_lt Si4
      have bd := sees_lt Sd4
      have bs := sees_lt Ss4
      have hlo := lt_of_get gS4
      obtain ⟨lo, hlo4⟩ : ∃ lo, lo = H4.next := ⟨_, rfl⟩
      rw [← hlo4] at bi bd bs hlo
      clear hH Sd Ss Si gS3 gR3 KP3 K3 gS2 gR2 KP2 K2 gR gS KP
      refine G_loop (fun j e H => ∃ (rest : By) (acc : List Itm) (fp : List Nat) (ar : Option Addr) (cr : Nat) (ov : Value), j = rest.length ∧ Sees encB H ar rest ∧ rest.length ≤ cr ∧ rest.length < 2 ^ 40 ∧ e 0 = .slice ar rest.length cr ∧ Own encIt H ov acc fp ∧ (∀ b ∈ fp, lo ≤ b) ∧ lo ≤ H.next ∧ (∀ A, ar = some A → A.block < lo) ∧ H.get (h.next + 1) = some (.cells false [.int .i64 x.toNat, .int .i64 y.toNat, .slice al im.length cl, .slice ad dk.length cd, ov]) ∧ H.get h.next = some (.cells false [.int .i64 0, .int .i64 0, .slice none 0 0, .slice none 0 0, .slice none 0 0]) ∧ e 2 = ptr h.next 0 ∧ e 4 = ptr (h.next + 1) 0 ∧ Kp h H ∧ Sees encB H al im ∧ Sees encB H ad dk ∧ acc.length ≤ 256 ∧ rdI rest acc = rdI r2 []) ?_ r2.length _ _
        ⟨r2, [], [], aq, cs, .slice none 0 0, rfl, Ss4, qs, by omega, by simp, .nul, by simp, by omega, bs, gS4, gR4, by simp, by simp, K4, Si4, Sd4, by simp, rfl⟩
      clear K4 Si4 Sd4 Ss4 gS4 gR4 l3 l4 qs hlen2 bs hlo4 H4
      rintro j ih e H ⟨rest, acc, fp, ar, cr, ov, rfl, Ss, qs, hrl, e0, O, hfp, hln, br, gS, gR, e2, e4, K, Si, Sd, hacc, hrd⟩
      have lS := lt_of_get gS
      have lR := lt_of_get gR
      obtain ⟨ao, co, hov, So, qo, _⟩ := O.len
      have fin : rdI rest acc = acc → isSc (H.put h.next (some (.cells false [.int .i64 x.toNat, .int .i64 y.toNat, .slice al im.length cl, .slice ad dk.length cd, ov]))) (.agg #[.int .i64 x.toNat, .int .i64 y.toNat, .slice al im.length cl, .slice ad dk.length cd, ov]) ⟨x.toNat, y.toNat, im, dk, rdI r2 []⟩ ∧ freshI (.agg #[.int .i64 x.toNat, .int .i64 y.toNat, .slice al im.length cl, .slice ad dk.length cd, ov]) h.next ∧ Kp h (H.put h.next (some (.cells false [.int .i64 x.toNat, .int .i64 y.toNat, .slice al im.length cl, .slice ad dk.length cd, ov]))) := fun hr => by
        rw [← hrd, hr]
        exact dec_done K (Nat.le_refl _) gR Si qi hlen.1 Sd qd hd5 O (fun b hb => by have := hfp b hb; omega) hacc
      subst hov
      have r5 := rdn_all (n := 5) gS rfl
      cases rest with
      | nil =>
        have f := fin rfl
        simp (maxSteps:=9^7)(disch:=first|assumption|((try simp only[nX]);omega)|simp) [e0, e2, e4, gS, gR, r5, hp, isDec, f]
      | cons k t =>
      obtain ⟨A, ro, C, rfl, hg, h0⟩ := one_cell Ss
      obtain ⟨a5, c6, s5, q5, S5⟩ := drop_b Ss qs (lo := 1) (by simp)
      rw [show (k :: t).drop 1 = t from rfl, show ((1 : Nat) : Int) = 1 from rfl] at s5
      rw [show (k :: t).drop 1 = t from rfl] at q5 S5
      have b5 : ∀ B, a5 = some B → B.block < lo := fun B hB => by
        obtain ⟨A1, hA1, e1⟩ := sliceV_blk s5 B hB
        rw [e1]
        exact br A1 hA1
      have htl : t.length < 2 ^ 40 := by simp at hrl; omega
      obtain ⟨m, hm⟩ : ∃ m, m = (k :: t).length := ⟨_, rfl⟩
      rw [← hm] at e0 s5 ih
      have hm1 : t.length + 1 = m := by rw [hm]; rfl
      have t0 : 0 < m := by omega
      by_cases c5 : 256 ≤ acc.length
      · have c5' : ¬ (acc.length : Int) < 256 := by omega
        have f := fin (rdI_full c5)
        simp (maxSteps:=9^7)(disch:=first|assumption|((try simp only[nX]);omega)|simp) [e0, e2, e4, gS, gR, r5, hp, isDec, f, t0, c5']
      have c5' : (acc.length : Int) < 256 := by omega
      have his := fun h q => s_is (h := h) (q := q) (k := (k.toNat : Int))
      have hask := fun h q => s_asks (h := h) (q := q) (k := (k.toNat : Int))
      simp (maxSteps:=9^7)(disch:=first|assumption|((try simp only[nX]);omega)|simp) [e0, e2, e4, gS, t0, c5', hg, h0, -g2_85]
      generalize hH : Hp.push H _ = H2
      have gI : H2.get H.next = some (.cells false [.int .i64 k.toNat, .int .i64 0]) := by rw [← hH, get_push_self]
      have KH : Kp H H2 := by rw [← hH]; exact (Kp.refl H).push _
      clear hH
      have lI := lt_of_get gI
      have gS2 := (KH.get _ lS).trans gS
      have gR2 := (KH.get _ lR).trans gR
      have lS2 := lt_of_get gS2
      have K2 := K.trans KH
      have O2 := O.kp KH
      have S5' := S5.kp KH
      have live := O.live
      cases hk1 : isk k.toNat with
      | false =>
        simp only [hk1] at his
        simp (maxSteps:=9^7)(disch:=first|assumption|((try simp only[nX]);omega)|simp) [e0, s5, gI, GC_of (his _)]
        exact ih t.length (by omega) _ _ ⟨t, acc, fp, a5, c6, _, rfl, S5', q5, htl, by simp, O2, hfp, by have := KH.le; omega, b5, gS2, gR2, by simp [e2], by simp [e4], K2, Si.kp KH, Sd.kp KH, hacc, by rw [← hrd, rdI_skip c5 hk1]⟩
      | true =>
      simp only [hk1] at his
      -- what is done behind an item
      have app : ∀ (n : Int) (t' : By) (a' : Option Addr) (c' : Nat) (e' : Env) (v : Value) (H5 : Hp) (f5 : List Nat), t'.length < 2 ^ 40 → Sees encB H5 a' t' → t'.length ≤ c' → Own encIt H5 v (acc ++ [⟨k.toNat, n⟩]) f5 → (∀ b ∈ f5, lo ≤ b) → lo ≤ H5.next → (∀ A, a' = some A → A.block < lo) → H5.get (h.next + 1) = some (.cells false [.int .i64 x.toNat, .int .i64 y.toNat, .slice al im.length cl, .slice ad dk.length cd, .slice ao acc.length co]) → H5.get h.next = some (.cells false [.int .i64 0, .int .i64 0, .slice none 0 0, .slice none 0 0, .slice none 0 0]) → Kp h H5 → Sees encB H5 al im → Sees encB H5 ad dk → rdI t' (acc ++ [⟨k.toNat, n⟩]) = rdI r2 [] → e' 0 = .slice a' t'.length c' → e' 2 = ptr h.next 0 → e' 4 = ptr (h.next + 1) 0 →
          ∃ (rest : By) (acc : List Itm) (fp : List Nat) (ar : Option Addr) (cr : Nat) (ov : Value), t'.length = rest.length ∧ Sees encB (H5.put (h.next + 1) (some (.cells false [.int .i64 x.toNat, .int .i64 y.toNat, .slice al im.length cl, .slice ad dk.length cd, v]))) ar rest ∧ rest.length ≤ cr ∧ rest.length < 2 ^ 40 ∧ e' 0 = .slice ar rest.length cr ∧ Own encIt (H5.put (h.next + 1) (some (.cells false [.int .i64 x.toNat, .int .i64 y.toNat, .slice al im.length cl, .slice ad dk.length cd, v]))) ov acc fp ∧ (∀ b ∈ fp, lo ≤ b) ∧ lo ≤ (H5.put (h.next + 1) (some (.cells false [.int .i64 x.toNat, .int .i64 y.toNat, .slice al im.length cl, .slice ad dk.length cd, v]))).next ∧ (∀ A, ar = some A → A.block < lo) ∧ (H5.put (h.next + 1) (some (.cells false [.int .i64 x.toNat, .int .i64 y.toNat, .slice al im.length cl, .slice ad dk.length cd, v]))).get (h.next + 1) = some (.cells false [.int .i64 x.toNat, .int .i64 y.toNat, .slice al im.length cl, .slice ad dk.length cd, ov]) ∧ (H5.put (h.next + 1) (some (.cells false [.int .i64 x.toNat, .int .i64 y.toNat, .slice al im.length cl, .slice ad dk.length cd, v]))).get h.next = some (.cells false [.int .i64 0, .int .i64 0, .slice none 0 0, .slice none 0 0, .slice none 0 0]) ∧ e' 2 = ptr h.next 0 ∧ e' 4 = ptr (h.next + 1) 0 ∧ Kp h (H5.put (h.next + 1) (some (.cells false [.int .i64 x.toNat, .int .i64 y.toNat, .slice al im.length cl, .slice ad dk.length cd, v]))) ∧ Sees encB (H5.put (h.next + 1) (some (.cells false [.int .i64 x.toNat, .int .i64 y.toNat, .slice al im.length cl, .slice ad dk.length cd, v]))) al im ∧ Sees encB (H5.put (h.next + 1) (some (.cells false [.int .i64 x.toNat, .int .i64 y.toNat, .slice al im.length cl, .slice ad dk.length cd, v]))) ad dk ∧ acc.length ≤ 256 ∧ rdI rest acc = rdI r2 [] :=
        fun n t' a' c' e' v H5 f5 ht2 St ct' O5 hf hn5 hb5 gS5 gR5 K5 Si5 Sd5 hr e0' e2' e4' => ⟨t', _, f5, a', c', v, rfl, sees_put5 St gS5 no_u8 rfl, ct', ht2, e0', O5.keep fun b hb => get_put_ne (by have := hf b hb; omega), hf, hn5, hb5, get_put_self (lt_of_get gS5), by rw [get_put_ne (by omega)]; exact gR5, e2', e4', K5.put (by omega) _, sees_put5 Si5 gS5 no_u8 rfl, sees_put5 Sd5 gS5 no_u8 rfl, by simp; omega, hr⟩
      -- an item is appended, and what lies as it did
      have grow : ∀ {H3 H5 : Hp} {f5 : List Nat}, Kp H H3 → Upd H3 H5 fp f5 → (∀ b ∈ f5, lo ≤ b) ∧ lo ≤ H5.next ∧ H5.get (h.next + 1) = some (.cells false [.int .i64 x.toNat, .int .i64 y.toNat, .slice al im.length cl, .slice ad dk.length cd, .slice ao acc.length co]) ∧ H5.get h.next = some (.cells false [.int .i64 0, .int .i64 0, .slice none 0 0, .slice none 0 0, .slice none 0 0]) ∧ Kp h H5 ∧ (∀ {B : By} {a' : Option Addr}, Sees encB H a' B → (∀ A, a' = some A → A.block < lo) → Sees encB H5 a' B) := fun {H3 H5 f5} K3 U => by
        have U1 := (K3.upd fp).trans U
        refine ⟨fun b hb => ?_, by have := U1.le; omega, (U1.get _ lS fun hm => by have := hfp _ hm; omega).trans gS, (U1.get _ lR fun hm => by have := hfp _ hm; omega).trans gR, U1.kp' K fun b hb => by have := hfp b hb; omega, fun S' hb => S'.upd U1 fun A hA hm => by have := hfp _ hm; have := hb A hA; omega⟩
        rcases U1.sub b hb with h5 | h5
        · exact hfp b h5
        · omega
      cases hk2 : askk k.toNat with
      | false =>
        simp only [hk2] at hask
        have r2 := rdn_all (n := 2) gI rfl
        simp (maxSteps:=9^7)(disch:=first|assumption|((try simp only[nX]);omega)|simp) [e0, e4, s5, gI, gS2, r2, GC_of (his _), GC_of (hask _)]
        refine GV_app1 (E := encIt) (bytes := 16) (x := ⟨k.toNat, 0⟩) O2 (by omega) (by omega) fun v5 H5 f5 O5 U5 => ?_
        obtain ⟨f1, n1, gS5, gR5, K5, up⟩ := grow KH U5
        have lS5 := lt_of_get gS5
        have hone : one v5 = true := by obtain ⟨_, _, e9, _⟩ := O5.len; rw [e9]; rfl
        simp (maxSteps:=9^7)(disch:=first|assumption|((try simp only[nX]);omega)|simp) [e4, gS5, hone]
        refine ih t.length (by omega) _ _ (app 0 t a5 c6 _ v5 H5 f5 htl (up S5 b5) q5 O5 f1 n1 b5 gS5 gR5 K5 (up Si bi) (up Sd bd) (by rw [← hrd, rdI_no c5 hk1 (by rw [hk2]; decide)]) ?_ ?_ ?_)
        · simp
        · simp [e2]
        · simp [e4]
      | true =>
        simp only [hk2] at hask
        by_cases c7 : t.length < 2
        · have c7' : (t.length : Int) < 2 := by omega
          have gS2' := gS2
          have r52 := rdn_all (n := 5) gS2 rfl
          have hr : rdI (k :: t) acc = acc := by
            match t, c7 with
            | [], _ => exact rdI_cut1 c5 hk1 hk2
            | [z], _ => exact rdI_cut2 c5 hk1 hk2
          have f := dec_done (x := x) (y := y) K2 (Nat.le_refl _) gR2 (Si.kp KH) qi hlen.1 (Sd.kp KH) qd hd5 O2 (fun b hb => by have := hfp b hb; omega) hacc
          rw [← hrd, hr] at hp
          simp (maxSteps:=9^7)(disch:=first|assumption|((try simp only[nX]);omega)|simp) [e0, e2, e4, s5, gI, gS2, gR2, r52, c7', GC_of (his _), GC_of (hask _), hp, isDec]
          exact ⟨f.1, f.2.1⟩
        have c7' : ¬ (t.length : Int) < 2 := by omega
        obtain ⟨u, w, t2, ht⟩ : ∃ u w t2, t = u :: w :: t2 := by
          match t, c7 with
          | [], h => simp at h
          | [_], h => simp at h
          | u :: w :: t2, _ => exact ⟨u, w, t2, rfl⟩
        obtain ⟨A7, ro7, C7, hA7, hg7, h70, h71⟩ := two_cells (by rw [← ht]; exact S5')
        subst hA7
        obtain ⟨a8, c8, s8, q8, S8⟩ := drop_b S5 q5 (lo := 2) (by omega)
        have e8 : t.drop 2 = t2 := by rw [ht]; rfl
        rw [e8, show ((2 : Nat) : Int) = 2 from rfl] at s8
        rw [e8] at q8 S8
        have b8' : ∀ B, a8 = some B → B.block < lo := fun B hB => by
          obtain ⟨A1, hA1, e1⟩ := sliceV_blk s8 B hB
          rw [e1]
          exact b5 A1 hA1
        have hlt0 : 0 < t.length := by omega
        have hlt1 : (1 : Int) < t.length := by omega
        have ht2 : t2.length + 2 = t.length := by rw [ht]; rfl
        have hrd2 : rdI t2 (acc ++ [⟨k.toNat, two u w⟩]) = rdI r2 [] := by rw [← hrd, ht, rdI_as c5 hk1 hk2]
        simp (maxSteps:=9^7)(disch:=first|assumption|((try simp only[nX]);omega)|simp) [e0, e4, s5, gI, gS2, c7', hlt0, hlt1, hg7, h70, h71, or_b2, GC_of (his _), GC_of (hask _)]
        generalize hH3 : Hp.put H2 _ _ = H3
        have gI3 : H3.get H.next = some (.cells false [.int .i64 k.toNat, .int .i64 (two u w : Nat)]) := by rw [← hH3]; exact get_put_self lI
        have KH3 : Kp H H3 := by rw [← hH3]; exact KH.put (Nat.le_refl _) _
        clear hH3
        have r3 := rdn_all (n := 2) gI3 rfl
        have gS3 := (KH3.get _ lS).trans gS
        simp (maxSteps:=9^7)(disch:=first|assumption|((try simp only[nX]);omega)|simp) [s8, e4, gS3, r3]
        refine GV_app1 (E := encIt) (bytes := 16) (x := ⟨k.toNat, (two u w : Nat)⟩) (O.kp KH3) (by omega) (by omega) fun v5 H5 f5 O5 U5 => ?_
        obtain ⟨f1, n1, gS5, gR5, K5, up⟩ := grow KH3 U5
        have lS5 := lt_of_get gS5
        have hone : one v5 = true := by obtain ⟨_, _, e9, _⟩ := O5.len; rw [e9]; rfl
        simp (maxSteps:=9^7)(disch:=first|assumption|((try simp only[nX]);omega)|simp) [e4, gS5, hone]
        refine ih t2.length (by omega) _ _ (app (two u w : Nat) t2 a8 c8 _ v5 H5 f5 (by omega) (up S8 b8') q8 O5 f1 n1 b8' gS5 gR5 K5 (up Si bi) (up Sd bd) hrd2 ?_ ?_ ?_)
        · simp
        · simp [e2]
        · simp [e4]
end
end Go.Proofs.YtoiiphcbkejliaaGreat.Cd

/- The document's tables of instructions. -/
set_option maxRecDepth 1000000
set_option maxHeartbeats 8000000
set_option linter.unusedSimpArgs false
set_option linter.unusedVariables false
namespace Go.Proofs.YtoiiphcbkejliaaGreat.Cd
open Go Go.Dx
/-- A row of the table. -/
structure Rw where
  op : Int
  sub : Int
  k : Int
  f : ByteArray
def encRw : Enc Rw := ⟨4, fun x => [.int .i64 x.op, .int .i64 x.sub, .int .i64 x.k, .string x.f], fun _ => rfl, fun _ => rfl, by decide⟩
@[simp] theorem encRw_sz : encRw.sz = 4 := rfl
def spRows : List Rw := [⟨0, 0, 1, ⟨#[116, 100, 104]⟩⟩, ⟨0, 2, 2, ⟨#[116, 100, 104]⟩⟩, ⟨0, 3, 3, ⟨#[116, 100, 104]⟩⟩, ⟨0, 4, 4, ⟨#[115, 116, 100]⟩⟩, ⟨0, 6, 5, ⟨#[115, 116, 100]⟩⟩, ⟨0, 7, 6, ⟨#[115, 116, 100]⟩⟩, ⟨0, 8, 7, ⟨#[115]⟩⟩, ⟨0, 9, 8, ⟨#[115, 100]⟩⟩, ⟨0, 10, 9, ⟨#[115, 116, 100]⟩⟩, ⟨0, 11, 10, ⟨#[115, 116, 100]⟩⟩, ⟨0, 12, 11, .empty⟩, ⟨0, 13, 12, .empty⟩, ⟨0, 15, 13, .empty⟩, ⟨0, 16, 14, ⟨#[100]⟩⟩, ⟨0, 17, 15, ⟨#[115]⟩⟩, ⟨0, 18, 16, ⟨#[100]⟩⟩, ⟨0, 19, 17, ⟨#[115]⟩⟩, ⟨0, 24, 18, ⟨#[115, 116]⟩⟩, ⟨0, 25, 19, ⟨#[115, 116]⟩⟩, ⟨0, 26, 20, ⟨#[115, 116]⟩⟩, ⟨0, 27, 21, ⟨#[115, 116]⟩⟩, ⟨0, 32, 22, ⟨#[115, 116, 100]⟩⟩, ⟨0, 33, 23, ⟨#[115, 116, 100]⟩⟩, ⟨0, 34, 24, ⟨#[115, 116, 100]⟩⟩, ⟨0, 35, 25, ⟨#[115, 116, 100]⟩⟩, ⟨0, 36, 26, ⟨#[115, 116, 100]⟩⟩, ⟨0, 37, 27, ⟨#[115, 116, 100]⟩⟩, ⟨0, 38, 28, ⟨#[115, 116, 100]⟩⟩, ⟨0, 39, 29, ⟨#[115, 116, 100]⟩⟩, ⟨0, 42, 30, ⟨#[115, 116, 100]⟩⟩, ⟨0, 43, 31, ⟨#[115, 116, 100]⟩⟩, ⟨0, 48, 32, ⟨#[115, 116]⟩⟩, ⟨0, 50, 33, ⟨#[115, 116]⟩⟩, ⟨0, 52, 34, ⟨#[115, 116]⟩⟩, ⟨0, 54, 35, ⟨#[115, 116]⟩⟩]
def plRows : List Rw := [⟨2, 0, 40, ⟨#[106]⟩⟩, ⟨3, 0, 41, ⟨#[106]⟩⟩, ⟨4, 0, 42, ⟨#[115, 116, 105]⟩⟩, ⟨5, 0, 43, ⟨#[115, 116, 105]⟩⟩, ⟨6, 0, 44, ⟨#[115, 105]⟩⟩, ⟨7, 0, 45, ⟨#[115, 105]⟩⟩, ⟨8, 0, 46, ⟨#[115, 116, 105]⟩⟩, ⟨9, 0, 47, ⟨#[115, 116, 105]⟩⟩, ⟨10, 0, 48, ⟨#[115, 116, 105]⟩⟩, ⟨11, 0, 49, ⟨#[115, 116, 105]⟩⟩, ⟨12, 0, 50, ⟨#[115, 116, 105]⟩⟩, ⟨13, 0, 51, ⟨#[115, 116, 105]⟩⟩, ⟨14, 0, 52, ⟨#[115, 116, 105]⟩⟩, ⟨15, 0, 53, ⟨#[116, 105]⟩⟩, ⟨17, 0, 62, .empty⟩, ⟨32, 0, 66, ⟨#[115, 116, 105]⟩⟩, ⟨33, 0, 67, ⟨#[115, 116, 105]⟩⟩, ⟨35, 0, 68, ⟨#[115, 116, 105]⟩⟩, ⟨36, 0, 69, ⟨#[115, 116, 105]⟩⟩, ⟨37, 0, 70, ⟨#[115, 116, 105]⟩⟩, ⟨40, 0, 71, ⟨#[115, 116, 105]⟩⟩, ⟨41, 0, 72, ⟨#[115, 116, 105]⟩⟩, ⟨43, 0, 73, ⟨#[115, 116, 105]⟩⟩, ⟨47, 0, 76, .empty⟩, ⟨48, 0, 74, ⟨#[115, 116, 105]⟩⟩, ⟨51, 0, 77, .empty⟩, ⟨56, 0, 75, ⟨#[115, 116, 105]⟩⟩]
def otRows : List Rw := [⟨1, 0, 36, ⟨#[115, 105]⟩⟩, ⟨1, 1, 37, ⟨#[115, 105]⟩⟩, ⟨1, 16, 38, ⟨#[115, 105]⟩⟩, ⟨1, 17, 39, ⟨#[115, 105]⟩⟩, ⟨16, 0, 54, ⟨#[116, 100]⟩⟩, ⟨16, 4, 55, ⟨#[116, 100]⟩⟩, ⟨16, 65, 56, .empty⟩, ⟨16, 66, 57, .empty⟩, ⟨16, 70, 58, .empty⟩, ⟨16, 72, 59, .empty⟩, ⟨16, 88, 60, .empty⟩, ⟨16, 96, 61, .empty⟩, ⟨28, 2, 63, ⟨#[115, 116, 100]⟩⟩, ⟨28, 32, 64, ⟨#[115, 100]⟩⟩, ⟨28, 33, 65, ⟨#[115, 100]⟩⟩]
theorem opV_len0 {e : Env} {h : Hp} {x : Dx.X} : opV e h (.len 0 x) = (match x.ev e with | .string s => some (.int .i64 s.size, h) | _ => none) := by
  simp only [opV]
  generalize x.ev e = v
  cases v <;> rfl
/-- A truth; a word; an instruction; a row and a truth. -/
def isB (v : Value) : Prop := ∃ t : Bool, v = .bool t
def isW (v : Value) : Prop := ∃ t : BitVec 32, v = u32 t
def isI (v : Value) : Prop := ∃ i : Ins, v = .agg (encIns.enc i).toArray
def isR (v : Value) : Prop := ∃ (r : Rw) (t : Bool), r.f.size < 2 ^ 40 ∧ v = .tuple #[.agg (encRw.enc r).toArray, .bool t]
@[simp] theorem isB_b (t : Bool) : isB (.bool t) := ⟨t, rfl⟩
@[simp] theorem isW_w (t : BitVec 32) : isW (u32 t) := ⟨t, rfl⟩
@[simp] theorem isI_i (a b c d e : Int) (m : BitVec 32) : isI (.agg #[.int .i64 a, .int .i64 b, .int .i64 c, .int .i64 d, .int .i64 e, u32 m]) := ⟨⟨a, b, c, d, e, m⟩, rfl⟩
theorem all_get {α : Type} (E : Enc α) (xs : List α) (k j : Nat) (hk : k < xs.length) (hj : j < E.sz) : (E.all xs)[k * E.sz + j]? = (E.enc xs[k])[j]? := by
  have := E.at' xs [] k hk
  rw [List.append_nil] at this
  rw [← this, List.getElem?_take, if_pos hj, List.getElem?_drop]
theorem all_rdn {α : Type} (E : Enc α) {h : Hp} {b : Nat} {ro : Bool} {xs : List α} (hg : h.get b = some (.cells ro (E.all xs))) (k : Nat) (hk : k < xs.length) : h.rdn b (k * E.sz) E.sz = some (E.enc xs[k]) := by
  have := E.at' xs [] k hk
  rw [List.append_nil] at this
  have hm : (k + 1) * E.sz ≤ xs.length * E.sz := Nat.mul_le_mul_right _ hk
  rw [Nat.add_mul, Nat.one_mul] at hm
  simp only [Hp.rdn, Hp.cells, hg, Option.bind_some]
  rw [if_pos (by simp; omega), this]
section
variable {h : Hp} {q : Value → Hp → Prop}
theorem r_special : WC T n_6r [] h fun v h' => v = .slice (some ⟨h.next, 0, none⟩) 35 35 ∧ h' = h.push (.cells false (encRw.all spRows)) := by
  rw [w_6r]
  simp (maxSteps:=9^7)(disch:=first|assumption|((try simp only[nX]);omega)|simp) []
  rfl
theorem r_plain : WC T n_6o [] h fun v h' => v = .slice (some ⟨h.next, 0, none⟩) 27 27 ∧ h' = h.push (.cells false (encRw.all plRows)) := by
  rw [w_6o]
  simp (maxSteps:=9^7)(disch:=first|assumption|((try simp only[nX]);omega)|simp) []
  rfl
theorem r_others : WC T n_6n [] h fun v h' => v = .slice (some ⟨h.next, 0, none⟩) 15 15 ∧ h' = h.push (.cells false (encRw.all otRows)) := by
  rw [w_6n]
  simp (maxSteps:=9^7)(disch:=first|assumption|((try simp only[nX]);omega)|simp) []
  rfl
/-- Does a row of fields have one? -/
theorem r_has {f : ByteArray} {c : BitVec 8} (hf : f.size < 2 ^ 40) : WC T n_6m [.string f, u8 c] h fun v h' => isB v ∧ h' = h := by
  rw [w_6m]
  simp (maxSteps:=9^7)(disch:=first|assumption|((try simp only[nX]);omega)|simp)
  refine G_loop (fun j e h' => ∃ k : Nat, j = f.size - k ∧ k ≤ f.size ∧ h' = h ∧ e 0 = .string f ∧ e 1 = u8 c ∧ e 5 = .int .i64 k) ?_ f.size _ _ ⟨0, rfl, by omega, rfl, by simp, by simp, by simp⟩
  rintro j ih e h' ⟨k, rfl, hk, rfl, e0, e1, e5⟩
  by_cases c1 : k < f.size
  · have c1' : (k : Int) < f.size := by omega
    have hix : ∃ b : BitVec 8, ixsV (.int .i64 (k : Int)) (.string f) = some (u8 b) := by
      have hl : k < f.data.toList.length := by simpa using c1
      refine ⟨BitVec.ofNat 8 (f.data.toList[k]).toNat, ?_⟩
      simp only [ixsV]
      rw [indexA_int (by omega) (by omega)]
      simp only [Option.bind_some, Int.toNat_natCast]
      rw [List.getElem?_eq_getElem hl]
      have := (f.data.toList[k]).toNat_lt
      simp only [Option.map_some, u8, BitVec.toNat_ofNat]
      rw [Nat.mod_eq_of_lt (by omega)]
    obtain ⟨b, hix⟩ := hix
    by_cases hbc : b = c
    · simp (maxSteps:=9^7)(disch:=first|assumption|((try simp only[nX]);omega)|simp) [e0, e1, e5, c1', opV_len0, hix, hbc]
    · simp (maxSteps:=9^7)(disch:=first|assumption|((try simp only[nX]);omega)|simp) [e0, e1, e5, c1', opV_len0, hix, hbc]
      exact ih (f.size - (k + 1)) (by omega) _ _ ⟨k + 1, rfl, by omega, rfl, by simp [e0], by simp [e1], by simp⟩
  · have c1' : ¬ (k : Int) < f.size := by omega
    simp (maxSteps:=9^7)(disch:=first|assumption|((try simp only[nX]);omega)|simp) [e0, e1, e5, c1', opV_len0]
theorem r_small {n : Int} {t : Bool} : WC T n_6q [.int .i64 n, .bool t] h fun v h' => isB v ∧ h' = h := by
  rw [w_6q]
  by_cases c1 : n = 0
  · simp (maxSteps:=9^7)(disch:=first|assumption|((try simp only[nX]);omega)|simp) [c1]
  · cases t with
    | false => simp (maxSteps:=9^7)(disch:=first|assumption|((try simp only[nX]);omega)|simp) [c1]
    | true =>
      by_cases c2 : 0 < n
      · by_cases c3 : n < 32
        · simp (maxSteps:=9^7)(disch:=first|assumption|((try simp only[nX]);omega)|simp) [c1, c2, c3]
        · simp (maxSteps:=9^7)(disch:=first|assumption|((try simp only[nX]);omega)|simp) [c1, c2, c3]
      · simp (maxSteps:=9^7)(disch:=first|assumption|((try simp only[nX]);omega)|simp) [c1, c2]
theorem find_in {Q : Ex → Env → Hp → Prop} {e : Env} {F : List Fr} {rs : List Rw} {b p : Nat} {kind : Int} {H : Hp} {z : List Value} (hs : H.get b = some (.cells false (encRw.all rs))) (hl : rs.length < 2 ^ 30) (e0 : e 0 = .int .i64 kind) (e2 : e 2 = ptr p 0) (e5 : e 5 = .slice (some ⟨b, 0, none⟩) rs.length rs.length) (e6 : e 6 = .int .i64 0)
    (g2 : H.get p = some (.cells false z)) (hz : z.length = 4) (hk : ∀ e' : Env, e' 0 = e 0 → e' 2 = e 2 → e' 4 = e 4 → GR T Q F (.x 2) e' H) (hr : ∀ (e' : Env) (r : Rw), r ∈ rs → e' 2 = e 2 → e' 3 = .bool true → GR T Q F .r e' (H.put p (some (.cells false (encRw.enc r))))) : G T Q (.loop c1_6l) F e H := by
  refine G_loop (fun j e' h' => ∃ k : Nat, j = rs.length - k ∧ k ≤ rs.length ∧ h' = H ∧ e' 0 = e 0 ∧ e' 2 = e 2 ∧ e' 4 = e 4 ∧ e' 5 = e 5 ∧ e' 6 = .int .i64 k) ?_ rs.length _ _ ⟨0, rfl, by omega, rfl, rfl, rfl, rfl, rfl, e6⟩
  rintro j ih e' h' ⟨k, rfl, hkl, rfl, f0, f2, f4, f5, f6⟩
  have lb := lt_of_get g2
  by_cases c1 : k < rs.length
  · have c1' : (k : Int) < rs.length := by omega
    have hw := wr_all (vs := encRw.enc rs[k]) g2 (by rw [hz, encRw.len]; rfl) (encRw.one _)
    have h2 : (encRw.all rs)[k * 4 + 2]? = some (.int .i64 rs[k].k) := all_get encRw rs k 2 c1 (by decide)
    have h2' : ∀ hh : k * 4 + 2 < (encRw.all rs).length, (encRw.all rs)[k * 4 + 2]'hh = .int .i64 rs[k].k := fun hh => by rw [List.getElem?_eq_getElem hh] at h2; exact Option.some.inj h2
    have h4 : h'.rdn b (k * 4) 4 = some (encRw.enc rs[k]) := all_rdn encRw hs k c1
    have hal : (encRw.all rs).length = rs.length * 4 := by simp
    generalize encRw.all rs = C at *
    by_cases hq : rs[k].k = kind
    · simp only [encRw] at h4 hw
      have hd : z.drop 4 = [] := List.drop_eq_nil_of_le (by omega)
      have hrk := fun e' => hr e' rs[k] (List.getElem_mem c1)
      simp only [encRw, hq] at hrk h4
      simp (maxSteps:=9^7)(disch:=first|assumption|((try simp only[nX]);omega)|simp) [f0, f2, f5, f6, e0, e2, e5, c1, c1', hs, h2, h2', hal, h4, hq, g2, hz, hd]
      exact hrk _ (by simp [f2, e2]) (by simp)
    · simp (maxSteps:=9^7)(disch:=first|assumption|((try simp only[nX]);omega)|simp) [f0, f2, f5, f6, e0, e2, e5, c1, c1', hs, h2, h2', hal, h4, hq]
      exact ih (rs.length - (k + 1)) (by omega) _ _ ⟨k + 1, rfl, by omega, rfl, by simp [f0], by simp [f2], by simp [f4], by simp [f5], by simp⟩
  · have c1' : ¬ (k : Int) < rs.length := by omega
    simp (maxSteps:=9^7)(disch:=first|assumption|((try simp only[nX]);omega)|simp) [f0, f2, f5, f6, e0, e2, e5, c1']
    exact hk _ (by simp [f0, e0]) (by simp [f2, e2]) (by simp [f4])
theorem rows_f : (∀ r ∈ spRows, r.f.size < 2 ^ 40) ∧ (∀ r ∈ plRows, r.f.size < 2 ^ 40) ∧ (∀ r ∈ otRows, r.f.size < 2 ^ 40) := by
  refine ⟨?_, ?_, ?_⟩ <;> decide +kernel
theorem r_find {kind : Int} : WC T n_6l [.int .i64 kind] h fun v h' => isR v ∧ Kp h h' := by
  rw [w_6l]
  simp (maxSteps:=9^7)(disch:=first|assumption|((try simp only[nX]);omega)|simp) []
  refine G_loop (fun j e h' => ∃ k : Nat, j = 3 - k ∧ k ≤ 3 ∧ Kp h h' ∧ h'.get h.next = some (.cells false [.int .i64 0, .int .i64 0, .int .i64 0, .string .empty]) ∧ e 0 = .int .i64 kind ∧ e 2 = ptr h.next 0 ∧ e 4 = .int .i64 k) ?_ 3 _ _ ⟨0, rfl, by omega, by simp (maxSteps:=9^7)(disch:=first|assumption|((try simp only[nX]);omega)|simp) [], by simp (maxSteps:=9^7)(disch:=first|assumption|((try simp only[nX]);omega)|simp) [], by simp, by simp, by simp⟩
  rintro j ih e h' ⟨k, rfl, hk, K, g2, e0, e2, e4⟩
  have l2 := lt_of_get g2
  by_cases c1 : k < 3
  case neg =>
    obtain rfl : k = 3 := by omega
    simp (maxSteps:=9^7)(disch:=first|assumption|((try simp only[nX]);omega)|simp) [e4, e2, g2]
    exact ⟨⟨0, 0, 0, .empty⟩, false, by decide, rfl⟩
  have c1' : (k : Int) < 3 := by omega
  simp (maxSteps:=9^7)(disch:=first|assumption|((try simp only[nX]);omega)|simp) [e4, c1', -g2_6l]
  refine GC_intro r_special fun v h1 ⟨hv, hh⟩ => ?_
  subst hv hh
  obtain ⟨f1, f2, f3⟩ := rows_f
  obtain rfl | rfl | rfl : k = 0 ∨ k = 1 ∨ k = 2 := by omega
  · simp (maxSteps:=9^7)(disch:=first|assumption|((try simp only[nX]);omega)|simp) [e4]
    refine find_in (rs := spRows) (kind := kind) (p := h.next) (b := h'.next) get_push_self (by decide) (by simp [e0]) (by simp [e2]) (by simp; rfl) (by simp) ((get_push_ne (by omega)).trans g2) rfl (fun e' k0 k2 k4 => ?_) fun e' r hr k2 k3 => ?_
    · have k4' : e' 4 = .int .i64 0 := by rw [k4]; simp [e4]
      simp (maxSteps:=9^7)(disch:=first|assumption|((try simp only[nX]);omega)|simp) [k4']
      exact ih 2 (by omega) _ _ ⟨1, rfl, by omega, K.push _, (get_push_ne (by omega)).trans g2, by simp [k0, e0], by simp [k2, e2], by simp⟩
    · have k2' : e' 2 = ptr h.next 0 := by rw [k2]; simp [e2]
      simp (maxSteps:=9^7)(disch:=first|assumption|((try simp only[nX]);omega)|simp) [k2', k3, encRw]
      exact ⟨⟨r, true, f1 r hr, rfl⟩, (K.put (Nat.le_refl _) _).push _⟩
  · simp (maxSteps:=9^7)(disch:=first|assumption|((try simp only[nX]);omega)|simp) [e4]
    refine GC_intro r_plain fun v h1 ⟨hv, hh⟩ => ?_
    subst hv hh
    simp (maxSteps:=9^7)(disch:=first|assumption|((try simp only[nX]);omega)|simp) [e4]
    refine find_in (rs := plRows) (kind := kind) (p := h.next) (b := h'.next + 1) get_push_self (by decide) (by simp [e0]) (by simp [e2]) (by simp; rfl) (by simp) ((get_push_ne (by rw [push_next]; omega)).trans ((get_push_ne (by omega)).trans g2)) rfl (fun e' k0 k2 k4 => ?_) fun e' r hr k2 k3 => ?_
    · have k4' : e' 4 = .int .i64 1 := by rw [k4]; simp [e4]
      simp (maxSteps:=9^7)(disch:=first|assumption|((try simp only[nX]);omega)|simp) [k4']
      exact ih 1 (by omega) _ _ ⟨2, rfl, by omega, (K.push _).push _, (get_push_ne (by rw [push_next]; omega)).trans ((get_push_ne (by omega)).trans g2), by simp [k0, e0], by simp [k2, e2], by simp⟩
    · have k2' : e' 2 = ptr h.next 0 := by rw [k2]; simp [e2]
      simp (maxSteps:=9^7)(disch:=first|assumption|((try simp only[nX]);omega)|simp) [k2', k3, encRw]
      exact ⟨⟨r, true, f2 r hr, rfl⟩, ((K.put (Nat.le_refl _) _).push _).push _⟩
  · simp (maxSteps:=9^7)(disch:=first|assumption|((try simp only[nX]);omega)|simp) [e4]
    refine GC_intro r_others fun v h1 ⟨hv, hh⟩ => ?_
    subst hv hh
    simp (maxSteps:=9^7)(disch:=first|assumption|((try simp only[nX]);omega)|simp) [e4]
    refine find_in (rs := otRows) (kind := kind) (p := h.next) (b := h'.next + 1) get_push_self (by decide) (by simp [e0]) (by simp [e2]) (by simp; rfl) (by simp) ((get_push_ne (by rw [push_next]; omega)).trans ((get_push_ne (by omega)).trans g2)) rfl (fun e' k0 k2 k4 => ?_) fun e' r hr k2 k3 => ?_
    · have k4' : e' 4 = .int .i64 2 := by rw [k4]; simp [e4]
      simp (maxSteps:=9^7)(disch:=first|assumption|((try simp only[nX]);omega)|simp) [k4']
      exact ih 0 (by omega) _ _ ⟨3, rfl, by omega, (K.push _).push _, (get_push_ne (by rw [push_next]; omega)).trans ((get_push_ne (by omega)).trans g2), by simp [k0, e0], by simp [k2, e2], by simp⟩
    · have k2' : e' 2 = ptr h.next 0 := by rw [k2]; simp [e2]
      simp (maxSteps:=9^7)(disch:=first|assumption|((try simp only[nX]);omega)|simp) [k2', k3, encRw]
      exact ⟨⟨r, true, f3 r hr, rfl⟩, ((K.put (Nat.le_refl _) _).push _).push _⟩
end
end Go.Proofs.YtoiiphcbkejliaaGreat.Cd

/- The document's words of instructions, as they are drawn: that they come. -/
set_option maxRecDepth 1000000
set_option maxHeartbeats 8000000
set_option linter.unusedSimpArgs false
set_option linter.unusedVariables false
namespace Go.Proofs.YtoiiphcbkejliaaGreat.Cd
open Go Go.Dx
def isT (v : Value) : Prop := ∃ (w : BitVec 32) (t : Bool), v = .tuple #[u32 w, .bool t]
@[simp] theorem isT_t (w : BitVec 32) (t : Bool) : isT (.tuple #[u32 w, .bool t]) := ⟨w, t, rfl⟩
section
variable {h : Hp} {q : Value → Hp → Prop} {i : Ins}
theorem r_right : WC T n_6j [.agg (encIns.enc i).toArray] h fun v h' => isB v ∧ Kp h h' := by
  rw [w_6j]
  simp (maxSteps:=9^7)(disch:=first|assumption|((try simp only[nX]);omega)|simp) [encIns]
  generalize hP : Hp.push h _ = P
  have gP : P.get h.next = some (.cells false [.int .i64 i.k, .int .i64 i.s, .int .i64 i.t, .int .i64 i.d, .int .i64 i.sh, u32 i.imm]) := by rw [← hP]; exact get_push_self
  have KP : Kp h P := by rw [← hP]; exact (Kp.refl h).push _
  clear hP
  refine GC_intro r_find fun v h1 ⟨⟨r, t, hf, hv⟩, K1⟩ => ?_
  subst hv
  have g1 := (K1.get _ (lt_of_get gP)).trans gP
  have K0 := KP.trans K1
  have l1 := lt_of_get g1
  clear K1 KP gP
  cases t with
  | false => simp (maxSteps:=9^7)(disch:=first|assumption|((try simp only[nX]);omega)|simp) [encRw]
  | true =>
  simp (maxSteps:=9^7)(disch:=first|assumption|((try simp only[nX]);omega)|simp) [encRw]
  refine GC_intro (r_has hf) fun v h2 ⟨⟨t1, hv⟩, hh⟩ => ?_
  subst hv hh
  have most : ∀ e : Env, e 1 = ptr h.next 0 → e 5 = .string r.f → isW (e 6) → G T (fin [RV.t 2] (some []) h.next fun v h' => isB v ∧ Kp h h') c0_6j [] e (h1.push (.cells false [.int .i64 r.op, .int .i64 r.sub, .int .i64 r.k, .string r.f])) := fun e e1 e5 ⟨mo, e6⟩ => by
    have K2 := K0.push (.cells false [.int .i64 r.op, .int .i64 r.sub, .int .i64 r.k, .string r.f])
    have g2 := (get_push_ne (h := h1) (o := .cells false [.int .i64 r.op, .int .i64 r.sub, .int .i64 r.k, .string r.f]) (b := h.next) (by omega)).trans g1
    generalize h1.push (.cells false [.int .i64 r.op, .int .i64 r.sub, .int .i64 r.k, .string r.f]) = h2 at *
    simp (maxSteps:=9^7)(disch:=first|assumption|((try simp only[nX]);omega)|simp) [e1, e5, g2]
    refine GCI_intro (r_has hf) fun v h3 ⟨⟨t2, hv⟩, hh⟩ => ?_
    subst hv hh
    simp (maxSteps:=9^7)(disch:=first|assumption|((try simp only[nX]);omega)|simp) [e1, e5, g2]
    refine GCI_intro r_small fun v h4 ⟨⟨t3, hv⟩, hh⟩ => ?_
    subst hv hh
    cases t3 with
    | false => simp (maxSteps:=9^7)(disch:=first|assumption|((try simp only[nX]);omega)|simp) [e1, e5, g2, K2]
    | true =>
    simp (maxSteps:=9^7)(disch:=first|assumption|((try simp only[nX]);omega)|simp) [e1, e5, g2]
    refine GCI_intro (r_has hf) fun v h3 ⟨⟨t2, hv⟩, hh⟩ => ?_
    subst hv hh
    simp (maxSteps:=9^7)(disch:=first|assumption|((try simp only[nX]);omega)|simp) [e1, e5, g2]
    refine GCI_intro r_small fun v h4 ⟨⟨t3, hv⟩, hh⟩ => ?_
    subst hv hh
    cases t3 with
    | false => simp (maxSteps:=9^7)(disch:=first|assumption|((try simp only[nX]);omega)|simp) [e1, e5, g2, K2]
    | true =>
    simp (maxSteps:=9^7)(disch:=first|assumption|((try simp only[nX]);omega)|simp) [e1, e5, g2]
    refine GCI_intro (r_has hf) fun v h3 ⟨⟨t2, hv⟩, hh⟩ => ?_
    subst hv hh
    simp (maxSteps:=9^7)(disch:=first|assumption|((try simp only[nX]);omega)|simp) [e1, e5, g2]
    refine GCI_intro r_small fun v h4 ⟨⟨t3, hv⟩, hh⟩ => ?_
    subst hv hh
    cases t3 with
    | false => simp (maxSteps:=9^7)(disch:=first|assumption|((try simp only[nX]);omega)|simp) [e1, e5, g2, K2]
    | true =>
    simp (maxSteps:=9^7)(disch:=first|assumption|((try simp only[nX]);omega)|simp) [e1, e5, g2]
    refine GCI_intro (r_has hf) fun v h3 ⟨⟨t2, hv⟩, hh⟩ => ?_
    subst hv hh
    simp (maxSteps:=9^7)(disch:=first|assumption|((try simp only[nX]);omega)|simp) [e1, e5, g2]
    refine GCI_intro r_small fun v h4 ⟨⟨t3, hv⟩, hh⟩ => ?_
    subst hv hh
    cases t3 with
    | false => simp (maxSteps:=9^7)(disch:=first|assumption|((try simp only[nX]);omega)|simp) [e1, e5, g2, K2]
    | true => simp (maxSteps:=9^7)(disch:=first|assumption|((try simp only[nX]);omega)|simp) [e1, e5, e6, g2, K2]
  cases t1 with
  | true =>
    simp (maxSteps:=9^7)(disch:=first|assumption|((try simp only[nX]);omega)|simp) [-g0_6j]
    exact most _ (by simp) (by simp) (by simp)
  | false =>
    simp (maxSteps:=9^7)(disch:=first|assumption|((try simp only[nX]);omega)|simp) [-g0_6j]
    refine GC_intro (r_has hf) fun v h2 ⟨⟨t1, hv⟩, hh⟩ => ?_
    subst hv hh
    cases t1 with
    | true =>
      simp (maxSteps:=9^7)(disch:=first|assumption|((try simp only[nX]);omega)|simp) [-g0_6j]
      exact most _ (by simp) (by simp) (by simp)
    | false =>
      simp (maxSteps:=9^7)(disch:=first|assumption|((try simp only[nX]);omega)|simp) [-g0_6j]
      exact most _ (by simp) (by simp) (by simp)
theorem r_word : WC T n_6k [.agg (encIns.enc i).toArray] h fun v h' => isT v ∧ Kp h h' := by
  rw [w_6k]
  simp (maxSteps:=9^7)(disch:=first|assumption|((try simp only[nX]);omega)|simp) [encIns]
  generalize hP : Hp.push h _ = P
  have gP : P.get h.next = some (.cells false [.int .i64 i.k, .int .i64 i.s, .int .i64 i.t, .int .i64 i.d, .int .i64 i.sh, u32 i.imm]) := by rw [← hP]; exact get_push_self
  have KP : Kp h P := by rw [← hP]; exact (Kp.refl h).push _
  clear hP
  have hr := fun h => r_right (h := h) (i := i)
  simp only [encIns] at hr
  refine GC_intro (hr _) fun v h1 ⟨⟨t, hv⟩, K1⟩ => ?_
  subst hv
  have g1 := (K1.get _ (lt_of_get gP)).trans gP
  have K0 := KP.trans K1
  clear K1 KP gP
  cases t with
  | false => simp (maxSteps:=9^7)(disch:=first|assumption|((try simp only[nX]);omega)|simp) [K0]
  | true =>
  simp (maxSteps:=9^7)(disch:=first|assumption|((try simp only[nX]);omega)|simp) [g1]
  refine GC_intro r_find fun v h2 ⟨⟨r, t, hf, hv⟩, K2⟩ => ?_
  subst hv
  have g2 := (K2.get _ (lt_of_get g1)).trans g1
  have K0 := K0.trans K2
  have l2 := lt_of_get g2
  clear K2 g1
  by_cases c1 : r.op = 0
  · simp (maxSteps:=9^7)(disch:=first|assumption|((try simp only[nX]);omega)|simp) [encRw, g2, c1, K0]
  by_cases c2 : r.op = 28
  · simp (maxSteps:=9^7)(disch:=first|assumption|((try simp only[nX]);omega)|simp) [encRw, g2, c1, c2, K0]
  by_cases c3 : r.op = 1
  · simp (maxSteps:=9^7)(disch:=first|assumption|((try simp only[nX]);omega)|simp) [encRw, g2, c1, c2, c3, K0]
  by_cases c4 : r.op = 16
  · by_cases c5 : 64 ≤ r.sub
    · simp (maxSteps:=9^7)(disch:=first|assumption|((try simp only[nX]);omega)|simp) [encRw, g2, c1, c2, c3, c4, c5, K0]
    · simp (maxSteps:=9^7)(disch:=first|assumption|((try simp only[nX]);omega)|simp) [encRw, g2, c1, c2, c3, c4, c5, K0]
  · simp (maxSteps:=9^7)(disch:=first|assumption|((try simp only[nX]);omega)|simp) [encRw, g2, c1, c2, c3, c4, K0]
theorem k_word : WC T n_4j [.agg (encIns.enc i).toArray] h fun v h' => isW v ∧ Kp h h' := by
  rw [w_4j]
  simp (maxSteps:=9^7)(disch:=first|assumption|((try simp only[nX]);omega)|simp) [encIns]
  generalize hP : Hp.push h _ = P
  have KP : Kp h P := by rw [← hP]; exact (Kp.refl h).push _
  clear hP
  have hr := fun h => r_word (h := h) (i := i)
  simp only [encIns] at hr
  refine GC_intro (hr _) fun v h1 ⟨⟨w, t, hv⟩, K1⟩ => ?_
  subst hv
  simp (maxSteps:=9^7)(disch:=first|assumption|((try simp only[nX]);omega)|simp)
  exact KP.trans K1
theorem k_near {n : Int} : WC T n_4g [.int .i64 n] h fun v h' => (∃ m : Int, v = .int .i64 m) ∧ h' = h := by
  have hw := fun q => within_eq (h := h) (q := q) (n := n) (lo := 0) (hi := 1048576) (by omega) (by omega) (by omega)
  obtain ⟨w1, w2⟩ := wi_bound (n := n) (lo := 0) (hi := 1048576) (by omega)
  rw [w_4g]
  simp (maxSteps:=9^7)(disch:=first|assumption|((try simp only[nX]);omega)|simp) [GC_of hw]
theorem k_only {f : Int} : WC T n_4h [.agg (encIns.enc i).toArray, .int .i64 f] h fun v h' => isI v ∧ Kp h h' := by
  rw [w_4h]
  by_cases c0 : f = 0
  · simp (maxSteps:=9^7)(disch:=first|assumption|((try simp only[nX]);omega)|simp) [encIns, c0]
  by_cases c1 : f = 1
  · simp (maxSteps:=9^7)(disch:=first|assumption|((try simp only[nX]);omega)|simp) [encIns, c0, c1]
  by_cases c2 : f = 2
  · simp (maxSteps:=9^7)(disch:=first|assumption|((try simp only[nX]);omega)|simp) [encIns, c0, c1, c2]
  by_cases c3 : f = 3
  · simp (maxSteps:=9^7)(disch:=first|assumption|((try simp only[nX]);omega)|simp) [encIns, c0, c1, c2, c3]
  by_cases c4 : f = 4
  · simp (maxSteps:=9^7)(disch:=first|assumption|((try simp only[nX]);omega)|simp) [encIns, c0, c1, c2, c3, c4]
  · simp (maxSteps:=9^7)(disch:=first|assumption|((try simp only[nX]);omega)|simp) [encIns, c0, c1, c2, c3, c4]
/-- An instruction as it is drawn. -/
structure In7 where
  k : Int
  s : Int
  t : Int
  d : Int
  sh : Int
  imm : BitVec 32
  raw : BitVec 32
def encI7 : Enc In7 := ⟨7, fun x => [.int .i64 x.k, .int .i64 x.s, .int .i64 x.t, .int .i64 x.d, .int .i64 x.sh, u32 x.imm, u32 x.raw], fun _ => rfl, fun _ => rfl, by decide⟩
@[simp] theorem encI7_sz : encI7.sz = 7 := rfl
theorem k_inst {x : In7} {kind : Int} : WC T n_4e [.agg (encI7.enc x).toArray, .int .i64 kind] h fun v h' => isI v ∧ Kp h h' := by
  have hw := fun h q => within_eq (h := h) (q := q) (n := x.sh) (lo := 0) (hi := 31) (by omega) (by omega) (by omega)
  rw [w_4e]
  simp (maxSteps:=9^7)(disch:=first|assumption|((try simp only[nX]);omega)|simp) [encI7]
  refine GCI_intro k_near fun v h1 ⟨⟨m1, hv⟩, hh⟩ => ?_
  subst hv hh
  simp (maxSteps:=9^7)(disch:=first|assumption|((try simp only[nX]);omega)|simp) []
  refine GCI_intro k_near fun v h1 ⟨⟨m2, hv⟩, hh⟩ => ?_
  subst hv hh
  simp (maxSteps:=9^7)(disch:=first|assumption|((try simp only[nX]);omega)|simp) []
  refine GCI_intro k_near fun v h1 ⟨⟨m3, hv⟩, hh⟩ => ?_
  subst hv hh
  simp (maxSteps:=9^7)(disch:=first|assumption|((try simp only[nX]);omega)|simp) [GCI_of (hw _)]
  generalize hP : Hp.push (Hp.push (Hp.push h _) _) _ = P
  have KP : Kp h P := by rw [← hP]; exact (((Kp.refl h).push _).push _).push _
  have g4 : P.get (h.next + 1) = some (.cells false [.int .i64 0, .int .i64 0, .int .i64 0, .int .i64 0, .int .i64 0, u32 0#32]) := by rw [← hP, get_push_ne (by simp only [push_next]; omega)]; exact get_push_self
  have g5 : P.get (h.next + 2) = some (.cells false (encIns.enc ⟨kind, m1, m2, m3, wi x.sh 0 31, x.imm &&& 67108863#32⟩)) := by rw [← hP]; exact get_push_self
  clear hP
  refine G_loop (fun j e H => ∃ (k : Nat) (i : Ins), j = 6 - k ∧ k ≤ 6 ∧ Kp h H ∧ H.get (h.next + 1) = some (.cells false [.int .i64 0, .int .i64 0, .int .i64 0, .int .i64 0, .int .i64 0, u32 0#32]) ∧ H.get (h.next + 2) = some (.cells false (encIns.enc i)) ∧ e 4 = ptr (h.next + 1) 0 ∧ e 5 = ptr (h.next + 2) 0 ∧ e 6 = .int .i64 k) ?_ 6 _ _ ⟨0, _, rfl, by omega, KP, g4, g5, by simp, by simp, by simp⟩
  clear KP g4 g5 hw P
  rintro j ih e H ⟨k, i, rfl, hk, K, g4, g5, e4, e5, e6⟩
  have l5 := lt_of_get g5
  have r5 := rdn_all (n := 6) g5 rfl
  by_cases c1 : k < 6
  case neg =>
    obtain rfl : k = 6 := by omega
    simp only [encIns] at r5
    simp (maxSteps:=9^7)(disch:=first|assumption|((try simp only[nX]);omega)|simp) [e6, e5, e4, g4, r5]
  have c1' : (k : Int) < 6 := by omega
  have ho := fun h i f => k_only (h := h) (i := i) (f := f)
  have hrr := fun h i => r_right (h := h) (i := i)
  have rest : ∀ (e' : Env) (y : Ins) (h2 : Hp), Kp h h2 → h2.get (h.next + 1) = some (.cells false [.int .i64 0, .int .i64 0, .int .i64 0, .int .i64 0, .int .i64 0, u32 0#32]) → h2.get (h.next + 2) = some (.cells false (encIns.enc i)) → ∀ b, h2.get b = some (.cells false (encIns.enc y)) → h.next + 2 < b → e' 4 = ptr (h.next + 1) 0 → e' 5 = ptr (h.next + 2) 0 → e' 6 = .int .i64 k → e' 7 = ptr b 0 →
      G T (fin [RV.ldn 6 4] (some []) h.next fun v h' => isI v ∧ Kp h h') c3_4e [Fr.block 1, Fr.seq (C.ops [{ d := some 27, g := none, o := Op.mov (X.t 6) }, { d := some 28, g := none, o := Op.bin BinOp.add (X.t 27) (X.c (Value.int IntKind.i64 1)) }, { d := some 6, g := none, o := Op.mov (X.t 28) }]), Fr.loop c5_4e, Fr.block 0, Fr.seq ((C.ops [{ d := some 56, g := none, o := Op.ldn 6 (X.t 5) }, { d := none, g := none, o := Op.stn 6 (X.t 4) (X.t 56) }]).seq C.ret)] e' h2 := fun e' y h2 K2 g4 g5 b gb hb e4 e5 e6 e7 => by
    have r5 := rdn_all (n := 6) g5 rfl
    simp only [encIns] at r5
    simp (maxSteps:=9^7)(disch:=first|assumption|((try simp only[nX]);omega)|simp) [e5, e6, r5]
    have ho := fun h => k_only (h := h) (i := i) (f := (k : Int))
    simp only [encIns] at ho
    refine GC_intro (ho _) fun v h3 ⟨⟨z, hv⟩, K3⟩ => ?_
    subst hv
    simp (maxSteps:=9^7)(disch:=first|assumption|((try simp only[nX]);omega)|simp)
    refine GC_intro r_right fun v h4 ⟨⟨t, hv⟩, K4⟩ => ?_
    subst hv
    have K34 := K3.trans K4
    have f4 := (K34.get _ (lt_of_get g4)).trans g4
    have f5 := (K34.get _ (lt_of_get g5)).trans g5
    have fb := (K34.get _ (lt_of_get gb)).trans gb
    have K5 := K2.trans K34
    cases t with
    | true =>
      simp (maxSteps:=9^7)(disch:=first|assumption|((try simp only[nX]);omega)|simp) [e6]
      exact ih (6 - (k + 1)) (by omega) _ _ ⟨k + 1, i, rfl, by omega, K5, f4, f5, by simp [e4], by simp [e5], by simp⟩
    | false =>
      have rb := rdn_all (n := 6) fb rfl
      have l5 := lt_of_get f5
      have w5 := wr_all (vs := encIns.enc y) f5 rfl (encIns.one y)
      simp only [encIns] at rb f5
      simp (maxSteps:=9^7)(disch:=first|assumption|((try simp only[nX]);omega)|simp) [e6, e5, e7, rb, f5]
      refine ih (6 - (k + 1)) (by omega) _ _ ⟨k + 1, y, rfl, by omega, K5.put (by omega) _, (get_put_ne (by omega)).trans f4, get_put_self l5, by simp [e4], by simp [e5], by simp⟩
  have hl : h.next + 2 < H.next := l5
  simp only [encIns] at r5
  have gp : ∀ y : Ins, (H.push (.cells false (encIns.enc y))).get H.next = some (.cells false (encIns.enc y)) := fun y => get_push_self
  have done : ∀ (e' : Env) (y : Ins), e' 4 = ptr (h.next + 1) 0 → e' 5 = ptr (h.next + 2) 0 → e' 6 = .int .i64 k → e' 7 = ptr H.next 0 → _ := fun e' y f4 f5 f6 f7 => rest e' y (H.push (.cells false (encIns.enc y))) (K.push _) ((get_push_ne (by omega)).trans g4) ((get_push_ne (by omega)).trans g5) H.next get_push_self hl f4 f5 f6 f7
  obtain rfl | rfl | rfl | rfl | rfl | rfl : k = 0 ∨ k = 1 ∨ k = 2 ∨ k = 3 ∨ k = 4 ∨ k = 5 := by omega
  · simp (maxSteps:=9^7)(disch:=first|assumption|((try simp only[nX]);omega)|simp) [e4, e5, e6, r5, -g3_4e]
    exact done _ ⟨i.k, 0, i.t, i.d, i.sh, i.imm⟩ (by simp [e4]) (by simp [e5]) (by simp [e6]) (by simp)
  · simp (maxSteps:=9^7)(disch:=first|assumption|((try simp only[nX]);omega)|simp) [e4, e5, e6, r5, -g3_4e]
    exact done _ ⟨i.k, i.s, 0, i.d, i.sh, i.imm⟩ (by simp [e4]) (by simp [e5]) (by simp [e6]) (by simp)
  · simp (maxSteps:=9^7)(disch:=first|assumption|((try simp only[nX]);omega)|simp) [e4, e5, e6, r5, -g3_4e]
    exact done _ ⟨i.k, i.s, i.t, 0, i.sh, i.imm⟩ (by simp [e4]) (by simp [e5]) (by simp [e6]) (by simp)
  · simp (maxSteps:=9^7)(disch:=first|assumption|((try simp only[nX]);omega)|simp) [e4, e5, e6, r5, -g3_4e]
    exact done _ ⟨i.k, i.s, i.t, i.d, 0, i.imm⟩ (by simp [e4]) (by simp [e5]) (by simp [e6]) (by simp)
  · simp (maxSteps:=9^7)(disch:=first|assumption|((try simp only[nX]);omega)|simp) [e4, e5, e6, r5, -g3_4e]
    exact done _ ⟨i.k, i.s, i.t, i.d, i.sh, i.imm &&& 65535#32⟩ (by simp [e4]) (by simp [e5]) (by simp [e6]) (by simp)
  · simp (maxSteps:=9^7)(disch:=first|assumption|((try simp only[nX]);omega)|simp) [e4, e5, e6, r5, -g3_4e]
    exact done _ ⟨i.k, i.s, i.t, i.d, i.sh, 0#32⟩ (by simp [e4]) (by simp [e5]) (by simp [e6]) (by simp)
end
end Go.Proofs.YtoiiphcbkejliaaGreat.Cd

/- The document's words as they are drawn: rows of Kinds. -/
set_option maxRecDepth 1000000
set_option maxHeartbeats 8000000
set_option linter.unusedSimpArgs false
set_option linter.unusedVariables false
namespace Go.Proofs.YtoiiphcbkejliaaGreat.Cd
open Go Go.Dx
/-- A table of numbers. -/
def isZs (V : List Value) (n : Nat) : Prop := V.length = n ∧ ∀ j, j < n → ∃ c : Int, V[j]? = some (.int .i64 c)
theorem isZs_map (l : List Int) : isZs (l.map (Value.int .i64)) l.length := ⟨by simp, fun j hj => ⟨l[j], by simp [hj]⟩⟩
theorem tmod_ix {n : Int} {m : Nat} (h0 : 0 ≤ n) (hm : 0 < m) : ∃ j : Nat, n.tmod m = j ∧ j < m := ⟨(n % m).toNat, by
  rw [Int.tmod_eq_emod_of_nonneg h0, Int.toNat_of_nonneg (Int.emod_nonneg _ (by omega))], by
  have h1 := Int.emod_nonneg n (show (m : Int) ≠ 0 by omega)
  have h2 := Int.emod_lt_of_pos n (show (0 : Int) < m by omega)
  omega⟩
section
variable {h : Hp} {q : Value → Hp → Prop} {i : Ins}
theorem k_any {x : In7} : WC T n_4b [.agg (encI7.enc x).toArray] h fun v h' => isI v ∧ Kp h h' := by
  have hw := fun h q => within_eq (h := h) (q := q) (n := x.k) (lo := 0) (hi := 1048576) (by omega) (by omega) (by omega)
  obtain ⟨w1, w2⟩ := wi_bound (n := x.k) (lo := 0) (hi := 1048576) (by omega)
  rw [w_4b]
  have hi := fun h kind => k_inst (h := h) (x := x) (kind := kind)
  simp only [encI7] at hi
  simp (maxSteps:=9^7)(disch:=first|assumption|((try simp only[nX]);omega)|simp) [encI7, GCI_of (hw _)]
  refine GCI_intro (hi _ _) fun v h1 ⟨⟨j, hv⟩, K1⟩ => ?_
  subst hv
  have g1 := (K1.get (h.next + 1) (by simp)).trans get_push_self
  have l1 := lt_of_get g1
  have K0 : Kp h h1 := Kp.trans (((Kp.refl h).push _).push _) K1
  simp (maxSteps:=9^7)(disch:=first|assumption|((try simp only[nX]);omega)|simp) [encIns, g1]
theorem k_plain {x : In7} : WC T n_4f [.agg (encI7.enc x).toArray] h fun v h' => isI v ∧ Kp h h' := by
  have hw := fun h q => within_eq (h := h) (q := q) (n := x.k) (lo := 0) (hi := 1048576) (by omega) (by omega) (by omega)
  obtain ⟨w1, w2⟩ := wi_bound (n := x.k) (lo := 0) (hi := 1048576) (by omega)
  rw [w_4f]
  have hi := fun h kind => k_inst (h := h) (x := x) (kind := kind)
  simp only [encI7] at hi
  generalize wi x.k 0 1048576 = n at *
  obtain ⟨V, hV, hl, hz⟩ : ∃ V : List Value, V = [.int .i64 1, .int .i64 2, .int .i64 3, .int .i64 4, .int .i64 5, .int .i64 6, .int .i64 9, .int .i64 10, .int .i64 13, .int .i64 14, .int .i64 15, .int .i64 16, .int .i64 17, .int .i64 18, .int .i64 19, .int .i64 20, .int .i64 21, .int .i64 23, .int .i64 25, .int .i64 26, .int .i64 27, .int .i64 28, .int .i64 29, .int .i64 30, .int .i64 31, .int .i64 47, .int .i64 48, .int .i64 49, .int .i64 50, .int .i64 51, .int .i64 52, .int .i64 53, .int .i64 63, .int .i64 64, .int .i64 65, .int .i64 76, .int .i64 77] ∧ isZs V 37 := ⟨_, rfl, isZs_map [1, 2, 3, 4, 5, 6, 9, 10, 13, 14, 15, 16, 17, 18, 19, 20, 21, 23, 25, 26, 27, 28, 29, 30, 31, 47, 48, 49, 50, 51, 52, 53, 63, 64, 65, 76, 77]⟩
  obtain ⟨j, hj, hj2⟩ := tmod_ix (n := n) (m := 37) w1 (by omega)
  have hj : n.tmod 37 = (j : Int) := hj
  obtain ⟨c, hc⟩ := hz j hj2
  have hc2 : ∀ hh : j < V.length, V[j]'hh = .int .i64 c := fun hh => by rw [List.getElem?_eq_getElem hh] at hc; exact Option.some.inj hc
  simp (maxSteps:=9^7)(disch:=first|assumption|((try simp only[nX]);omega)|simp) [encI7, -g0_4f]
  rw [← hV]
  clear hV hz
  simp (maxSteps:=9^7)(disch:=first|assumption|((try simp only[nX]);omega)|simp) [GCI_of (hw _), hj, hj2, hc, hc2, hl]
  refine GCI_intro (hi _ _) fun v h1 ⟨⟨i, hv⟩, K1⟩ => ?_
  subst hv
  have g1 := (K1.get (h.next + 1) (by simp)).trans ((get_push_ne (by rw [push_next, push_next]; omega)).trans get_push_self)
  have l1 := lt_of_get g1
  have K0 : Kp h h1 := Kp.trans ((((Kp.refl h).push _).push _).push _) K1
  simp (maxSteps:=9^7)(disch:=first|assumption|((try simp only[nX]);omega)|simp) [encIns, g1]
theorem and_k {n : Int} {m : Nat} (hm : m < 64) : ∃ j : Nat, j ≤ m ∧ binV .and (.int .i64 n) (.int .i64 (m : Int)) = some (.int .i64 j) := by
  have h : (BitVec.ofInt 64 n &&& BitVec.ofInt 64 m).toNat ≤ m := by
    rw [BitVec.toNat_and, BitVec.ofInt_natCast, BitVec.toNat_ofNat]
    refine Nat.le_trans Nat.and_le_right ?_
    exact Nat.mod_le _ _
  refine ⟨_, h, ?_⟩
  rw [and_i64, wrap_i64 (by omega) (by omega)]
theorem k_code {x : In7} : WC T n_4c [.agg (encI7.enc x).toArray] h fun v h' => isW v ∧ Kp h h' := by
  have hw := fun h q => within_eq (h := h) (q := q) (n := x.k) (lo := 0) (hi := 1048576) (by omega) (by omega) (by omega)
  obtain ⟨w1, w2⟩ := wi_bound (n := x.k) (lo := 0) (hi := 1048576) (by omega)
  have hi := fun h kind => k_inst (h := h) (x := x) (kind := kind)
  have ha := fun h => k_any (h := h) (x := x)
  have hp := fun h => k_plain (h := h) (x := x)
  simp only [encI7] at hi ha hp
  generalize wi x.k 0 1048576 = n at *
  rw [w_4c]
  simp (maxSteps:=9^7)(disch:=first|assumption|((try simp only[nX]);omega)|simp) [encI7, GC_of (hw _)]
  generalize hP : Hp.push h _ = P
  have gP : P.get h.next = some (.cells false (encI7.enc x)) := by rw [← hP]; exact get_push_self
  have KP : Kp h P := by rw [← hP]; exact (Kp.refl h).push _
  clear hP
  refine GC_intro (hp _) fun v h1 ⟨⟨i, hv⟩, K1⟩ => ?_
  subst hv
  have g1 := (K1.get _ (lt_of_get gP)).trans gP
  have K0 := KP.trans K1
  have l1 := lt_of_get g1
  clear K1 KP gP
  have fini : ∀ (e : Env) (h2 : Hp) (i : Ins) (p : Nat), h2.get p = some (.cells false (encIns.enc i)) → Kp h h2 → e 4 = ptr p 0 → G T (fin [RV.t 2] (some []) h.next fun v h' => isW v ∧ Kp h h') c14_4c [] e h2 := fun e h2 i p g K e4 => by
    have r := rdn_all (n := 6) g rfl
    have hr := fun h => r_word (h := h) (i := i)
    simp only [encIns] at r hr
    simp (maxSteps:=9^7)(disch:=first|assumption|((try simp only[nX]);omega)|simp) [e4, r]
    refine GC_intro (hr _) fun v h3 ⟨⟨w, t, hv⟩, K3⟩ => ?_
    subst hv
    simp (maxSteps:=9^7)(disch:=first|assumption|((try simp only[nX]);omega)|simp)
    exact K.trans K3
  simp (maxSteps:=9^7)(disch:=first|assumption|((try simp only[nX]);omega)|simp) [encIns, -g13_4c]
  have r1 := rdn_all (n := 7) g1 rfl
  have wq : IntKind.i64.wrap (n.tdiv 16) = n.tdiv 16 := by
    rw [Int.tdiv_eq_ediv_of_nonneg (by omega)]
    exact wrap_i64 (by omega) (by omega)
  have q0 : 0 ≤ n.tdiv 16 := by rw [Int.tdiv_eq_ediv_of_nonneg (by omega)]; omega
  obtain ⟨p, hp0'⟩ : ∃ p, p = h1.next := ⟨_, rfl⟩
  generalize hH : Hp.push h1 _ = H
  have gp : H.get p = some (.cells false (encIns.enc i)) := by rw [← hH, hp0']; exact get_push_self
  have gB : H.get h.next = some (.cells false [.int .i64 x.k, .int .i64 x.s, .int .i64 x.t, .int .i64 x.d, .int .i64 x.sh, u32 x.imm, u32 x.raw]) := by rw [← hH]; exact (get_push_ne (by omega)).trans g1
  have K : Kp h H := by rw [← hH]; exact K0.push _
  have hp0 : h.next ≤ p := by omega
  rw [← hp0']
  have hpB : p ≠ h.next := by omega
  clear hH r1 g1 l1
  obtain ⟨a, _, ax⟩ := and_k (n := x.s) (m := 3) (by omega)
  have ax : binV .and (.int .i64 x.s) (.int .i64 3) = some (.int .i64 (a : Int)) := ax
  obtain ⟨b, hb7, bx⟩ := and_k (n := x.d) (m := 7) (by omega)
  have bx : binV .and (.int .i64 x.d) (.int .i64 7) = some (.int .i64 (b : Int)) := bx
  have t2 : ∀ (e : Env), e 1 = ptr h.next 0 → e 3 = .int .i64 n → e 4 = ptr p 0 → G T (fin [RV.t 2] (some []) h.next fun v h' => isW v ∧ Kp h h') c2_4c [Fr.block 0, Fr.seq c14_4c] e H := fun e e1 e3 e4 => by
    obtain ⟨V, hV, hl, hz⟩ : ∃ V : List Value, V = [.int .i64 66, .int .i64 67, .int .i64 68, .int .i64 69, .int .i64 70, .int .i64 71, .int .i64 72, .int .i64 73, .int .i64 74, .int .i64 75, .int .i64 73, .int .i64 68] ∧ isZs V 12 := ⟨_, rfl, isZs_map [66, 67, 68, 69, 70, 71, 72, 73, 74, 75, 73, 68]⟩
    obtain ⟨j, hj, hj2⟩ := tmod_ix (n := n.tdiv 16) (m := 12) q0 (by omega)
    have hj : (n.tdiv 16).tmod 12 = (j : Int) := hj
    obtain ⟨c, hc⟩ := hz j hj2
    have hc2 : ∀ hh : j < V.length, V[j]'hh = .int .i64 c := fun hh => by rw [List.getElem?_eq_getElem hh] at hc; exact Option.some.inj hc
    simp (maxSteps:=9^7)(disch:=first|assumption|((try simp only[nX]);omega)|simp) [e1, e3, e4, -g1_4c]
    rw [← hV]
    clear hV hz
    generalize hP : Hp.push H _ = P
    have gP : P.get H.next = some (.cells false V) := by rw [← hP]; exact get_push_self
    have KP : Kp H P := by rw [← hP]; exact (Kp.refl H).push _
    clear hP
    have rB' := rdn_all (n := 7) ((KP.get _ (lt_of_get gB)).trans gB) rfl
    simp (maxSteps:=9^7)(disch:=first|assumption|((try simp only[nX]);omega)|simp) [e1, e3, e4, wq, hj, hj2, hc, hc2, hl, gP, rB']
    refine GC_intro (hi _ _) fun v h2 ⟨⟨i2, hv⟩, K2⟩ => ?_
    subst hv
    have K3 := KP.trans K2
    have gB2 := (K3.get _ (lt_of_get gB)).trans gB
    have gp2 := (K3.get _ (lt_of_get gp)).trans gp
    have lp2 := lt_of_get gp2
    have K4 := K.trans K3
    simp (maxSteps:=9^7)(disch:=first|assumption|((try simp only[nX]);omega)|simp) [encIns, e1, e4, gp2, lp2, gB2, ax, -g14_4c]
    exact fini _ _ ⟨i2.k, 28 + (a : Int), i2.t, i2.d, i2.sh, i2.imm &&& 2044#32⟩ p (by rw [get_put_self lp2]; rfl) (K4.put hp0 _) (by simp [e4])
  have t5 : ∀ (e : Env), e 1 = ptr h.next 0 → e 3 = .int .i64 n → e 4 = ptr p 0 → G T (fin [RV.t 2] (some []) h.next fun v h' => isW v ∧ Kp h h') c5_4c [Fr.block 0, Fr.seq c14_4c] e H := fun e e1 e3 e4 => by
    obtain ⟨V, hV, hl, hz⟩ : ∃ V : List Value, V = [.int .i64 42, .int .i64 43, .int .i64 44, .int .i64 45, .int .i64 36, .int .i64 37, .int .i64 39, .int .i64 42] ∧ isZs V 8 := ⟨_, rfl, isZs_map [42, 43, 44, 45, 36, 37, 39, 42]⟩
    obtain ⟨j, hj, hj2⟩ := tmod_ix (n := n.tdiv 16) (m := 8) q0 (by omega)
    have hj : (n.tdiv 16).tmod 8 = (j : Int) := hj
    obtain ⟨c, hc⟩ := hz j hj2
    have hc2 : ∀ hh : j < V.length, V[j]'hh = .int .i64 c := fun hh => by rw [List.getElem?_eq_getElem hh] at hc; exact Option.some.inj hc
    simp (maxSteps:=9^7)(disch:=first|assumption|((try simp only[nX]);omega)|simp) [e1, e3, e4, -g4_4c]
    rw [← hV]
    clear hV hz
    generalize hP : Hp.push H _ = P
    have gP : P.get H.next = some (.cells false V) := by rw [← hP]; exact get_push_self
    have KP : Kp H P := by rw [← hP]; exact (Kp.refl H).push _
    clear hP
    have rB' := rdn_all (n := 7) ((KP.get _ (lt_of_get gB)).trans gB) rfl
    simp (maxSteps:=9^7)(disch:=first|assumption|((try simp only[nX]);omega)|simp) [e1, e3, e4, wq, hj, hj2, hc, hc2, hl, gP, rB']
    refine GC_intro (hi _ _) fun v h2 ⟨⟨i2, hv⟩, K2⟩ => ?_
    subst hv
    have K3 := KP.trans K2
    have gB2 := (K3.get _ (lt_of_get gB)).trans gB
    have gp2 := (K3.get _ (lt_of_get gp)).trans gp
    have lp2 := lt_of_get gp2
    have K4 := K.trans K3
    have sx : ∀ y : Int, binV .sub (.int .i32 y) (.int .i32 6) = some (.int .i32 (IntKind.i32.wrap (y - 6))) := fun y => rfl
    simp (maxSteps:=9^7)(disch:=first|assumption|((try simp only[nX]);omega)|simp) [encIns, e1, e4, gp2, lp2, gB2, sx, -g14_4c]
    exact fini _ _ ⟨i2.k, i2.s, i2.t, i2.d, i2.sh, BitVec.ofInt 32 (IntKind.i32.wrap ((x.imm % 16#32).toInt - 6)) &&& 65535#32⟩ p (get_put_self lp2) (K4.put hp0 _) (by simp [e4])
  have t9 : ∀ (e : Env), e 1 = ptr h.next 0 → e 3 = .int .i64 n → e 4 = ptr p 0 → G T (fin [RV.t 2] (some []) h.next fun v h' => isW v ∧ Kp h h') c9_4c [Fr.block 0, Fr.seq c14_4c] e H := fun e e1 e3 e4 => by
    obtain ⟨V, hV, hl, hz⟩ : ∃ V : List Value, V = [.int .i64 55, .int .i64 54, .int .i64 55, .int .i64 57, .int .i64 59, .int .i64 56, .int .i64 58, .int .i64 60, .int .i64 11, .int .i64 61] ∧ isZs V 10 := ⟨_, rfl, isZs_map [55, 54, 55, 57, 59, 56, 58, 60, 11, 61]⟩
    obtain ⟨j, hj, hj2⟩ := tmod_ix (n := n.tdiv 16) (m := 10) q0 (by omega)
    have hj : (n.tdiv 16).tmod 10 = (j : Int) := hj
    obtain ⟨c, hc⟩ := hz j hj2
    have hc2 : ∀ hh : j < V.length, V[j]'hh = .int .i64 c := fun hh => by rw [List.getElem?_eq_getElem hh] at hc; exact Option.some.inj hc
    simp (maxSteps:=9^7)(disch:=first|assumption|((try simp only[nX]);omega)|simp) [e1, e3, e4, -g8_4c]
    rw [← hV]
    clear hV hz
    generalize hP : Hp.push H _ = P
    have gP : P.get H.next = some (.cells false V) := by rw [← hP]; exact get_push_self
    have KP : Kp H P := by rw [← hP]; exact (Kp.refl H).push _
    clear hP
    have rB' := rdn_all (n := 7) ((KP.get _ (lt_of_get gB)).trans gB) rfl
    simp (maxSteps:=9^7)(disch:=first|assumption|((try simp only[nX]);omega)|simp) [e1, e3, e4, wq, hj, hj2, hc, hc2, hl, gP, rB']
    refine GC_intro (hi _ _) fun v h2 ⟨⟨i2, hv⟩, K2⟩ => ?_
    subst hv
    have K3 := KP.trans K2
    have gB2 := (K3.get _ (lt_of_get gB)).trans gB
    have gp2 := (K3.get _ (lt_of_get gp)).trans gp
    have lp2 := lt_of_get gp2
    have K4 := K.trans K3
    by_cases k5 : i2.k = 55
    · have bx := bx
      obtain rfl | rfl | rfl | rfl | rfl | rfl | rfl | rfl : b = 0 ∨ b = 1 ∨ b = 2 ∨ b = 3 ∨ b = 4 ∨ b = 5 ∨ b = 6 ∨ b = 7 := by omega
      · simp (maxSteps:=9^7)(disch:=first|assumption|((try simp only[nX]);omega)|simp) [encIns, e1, e4, gp2, lp2, gB2, k5, bx, -g14_4c]
        exact fini _ _ ⟨55, i2.s, i2.t, 12, i2.sh, i2.imm⟩ p ((get_push_ne (by rw [put_next]; omega)).trans (get_put_self lp2)) ((K4.put hp0 _).push _) (by simp [e4])
      · simp (maxSteps:=9^7)(disch:=first|assumption|((try simp only[nX]);omega)|simp) [encIns, e1, e4, gp2, lp2, gB2, k5, bx, -g14_4c]
        exact fini _ _ ⟨55, i2.s, i2.t, 13, i2.sh, i2.imm⟩ p ((get_push_ne (by rw [put_next]; omega)).trans (get_put_self lp2)) ((K4.put hp0 _).push _) (by simp [e4])
      · simp (maxSteps:=9^7)(disch:=first|assumption|((try simp only[nX]);omega)|simp) [encIns, e1, e4, gp2, lp2, gB2, k5, bx, -g14_4c]
        exact fini _ _ ⟨55, i2.s, i2.t, 11, i2.sh, i2.imm⟩ p ((get_push_ne (by rw [put_next]; omega)).trans (get_put_self lp2)) ((K4.put hp0 _).push _) (by simp [e4])
      · simp (maxSteps:=9^7)(disch:=first|assumption|((try simp only[nX]);omega)|simp) [encIns, e1, e4, gp2, lp2, gB2, k5, bx, -g14_4c]
        exact fini _ _ ⟨55, i2.s, i2.t, 9, i2.sh, i2.imm⟩ p ((get_push_ne (by rw [put_next]; omega)).trans (get_put_self lp2)) ((K4.put hp0 _).push _) (by simp [e4])
      · simp (maxSteps:=9^7)(disch:=first|assumption|((try simp only[nX]);omega)|simp) [encIns, e1, e4, gp2, lp2, gB2, k5, bx, -g14_4c]
        exact fini _ _ ⟨55, i2.s, i2.t, 10, i2.sh, i2.imm⟩ p ((get_push_ne (by rw [put_next]; omega)).trans (get_put_self lp2)) ((K4.put hp0 _).push _) (by simp [e4])
      · simp (maxSteps:=9^7)(disch:=first|assumption|((try simp only[nX]);omega)|simp) [encIns, e1, e4, gp2, lp2, gB2, k5, bx, -g14_4c]
        exact fini _ _ ⟨55, i2.s, i2.t, 2, i2.sh, i2.imm⟩ p ((get_push_ne (by rw [put_next]; omega)).trans (get_put_self lp2)) ((K4.put hp0 _).push _) (by simp [e4])
      · simp (maxSteps:=9^7)(disch:=first|assumption|((try simp only[nX]);omega)|simp) [encIns, e1, e4, gp2, lp2, gB2, k5, bx, -g14_4c]
        exact fini _ _ ⟨55, i2.s, i2.t, 0, i2.sh, i2.imm⟩ p ((get_push_ne (by rw [put_next]; omega)).trans (get_put_self lp2)) ((K4.put hp0 _).push _) (by simp [e4])
      · simp (maxSteps:=9^7)(disch:=first|assumption|((try simp only[nX]);omega)|simp) [encIns, e1, e4, gp2, lp2, gB2, k5, bx, -g14_4c]
        exact fini _ _ ⟨55, i2.s, i2.t, 14, i2.sh, i2.imm⟩ p ((get_push_ne (by rw [put_next]; omega)).trans (get_put_self lp2)) ((K4.put hp0 _).push _) (by simp [e4])
    · by_cases k4 : i2.k = 54
      · have bx := bx
        obtain rfl | rfl | rfl | rfl | rfl | rfl | rfl | rfl : b = 0 ∨ b = 1 ∨ b = 2 ∨ b = 3 ∨ b = 4 ∨ b = 5 ∨ b = 6 ∨ b = 7 := by omega
        · simp (maxSteps:=9^7)(disch:=first|assumption|((try simp only[nX]);omega)|simp) [encIns, e1, e4, gp2, lp2, gB2, k4, k5, bx, -g14_4c]
          exact fini _ _ ⟨54, i2.s, i2.t, 12, i2.sh, i2.imm⟩ p ((get_push_ne (by rw [put_next]; omega)).trans (get_put_self lp2)) ((K4.put hp0 _).push _) (by simp [e4])
        · simp (maxSteps:=9^7)(disch:=first|assumption|((try simp only[nX]);omega)|simp) [encIns, e1, e4, gp2, lp2, gB2, k4, k5, bx, -g14_4c]
          exact fini _ _ ⟨54, i2.s, i2.t, 13, i2.sh, i2.imm⟩ p ((get_push_ne (by rw [put_next]; omega)).trans (get_put_self lp2)) ((K4.put hp0 _).push _) (by simp [e4])
        · simp (maxSteps:=9^7)(disch:=first|assumption|((try simp only[nX]);omega)|simp) [encIns, e1, e4, gp2, lp2, gB2, k4, k5, bx, -g14_4c]
          exact fini _ _ ⟨54, i2.s, i2.t, 11, i2.sh, i2.imm⟩ p ((get_push_ne (by rw [put_next]; omega)).trans (get_put_self lp2)) ((K4.put hp0 _).push _) (by simp [e4])
        · simp (maxSteps:=9^7)(disch:=first|assumption|((try simp only[nX]);omega)|simp) [encIns, e1, e4, gp2, lp2, gB2, k4, k5, bx, -g14_4c]
          exact fini _ _ ⟨54, i2.s, i2.t, 9, i2.sh, i2.imm⟩ p ((get_push_ne (by rw [put_next]; omega)).trans (get_put_self lp2)) ((K4.put hp0 _).push _) (by simp [e4])
        · simp (maxSteps:=9^7)(disch:=first|assumption|((try simp only[nX]);omega)|simp) [encIns, e1, e4, gp2, lp2, gB2, k4, k5, bx, -g14_4c]
          exact fini _ _ ⟨54, i2.s, i2.t, 10, i2.sh, i2.imm⟩ p ((get_push_ne (by rw [put_next]; omega)).trans (get_put_self lp2)) ((K4.put hp0 _).push _) (by simp [e4])
        · simp (maxSteps:=9^7)(disch:=first|assumption|((try simp only[nX]);omega)|simp) [encIns, e1, e4, gp2, lp2, gB2, k4, k5, bx, -g14_4c]
          exact fini _ _ ⟨54, i2.s, i2.t, 2, i2.sh, i2.imm⟩ p ((get_push_ne (by rw [put_next]; omega)).trans (get_put_self lp2)) ((K4.put hp0 _).push _) (by simp [e4])
        · simp (maxSteps:=9^7)(disch:=first|assumption|((try simp only[nX]);omega)|simp) [encIns, e1, e4, gp2, lp2, gB2, k4, k5, bx, -g14_4c]
          exact fini _ _ ⟨54, i2.s, i2.t, 0, i2.sh, i2.imm⟩ p ((get_push_ne (by rw [put_next]; omega)).trans (get_put_self lp2)) ((K4.put hp0 _).push _) (by simp [e4])
        · simp (maxSteps:=9^7)(disch:=first|assumption|((try simp only[nX]);omega)|simp) [encIns, e1, e4, gp2, lp2, gB2, k4, k5, bx, -g14_4c]
          exact fini _ _ ⟨54, i2.s, i2.t, 14, i2.sh, i2.imm⟩ p ((get_push_ne (by rw [put_next]; omega)).trans (get_put_self lp2)) ((K4.put hp0 _).push _) (by simp [e4])
      · simp (maxSteps:=9^7)(disch:=first|assumption|((try simp only[nX]);omega)|simp) [encIns, e1, e4, gp2, lp2, gB2, k4, k5, -g14_4c]
        exact fini _ _ ⟨i2.k, i2.s, i2.t, i2.d, i2.sh, i2.imm⟩ p (get_put_self lp2) (K4.put hp0 _) (by simp [e4])
  obtain ⟨j, hj, hj2⟩ := tmod_ix (n := n) (m := 16) w1 (by omega)
  have hj : n.tmod 16 = (j : Int) := hj
  rw [hj]
  by_cases j1 : j = 0 ∨ j = 1
  · rcases j1 with rfl | rfl <;> simp (maxSteps:=9^7)(disch:=first|assumption|((try simp only[nX]);omega)|simp) [gB, K]
  by_cases j2 : j = 2 ∨ j = 3
  · have rB' := rdn_all (n := 7) gB rfl
    rcases j2 with rfl | rfl
    all_goals
      simp (maxSteps:=9^7)(disch:=first|assumption|((try simp only[nX]);omega)|simp) [rB', -g14_4c]
      refine GC_intro (ha _) fun v h2 ⟨⟨i2, hv⟩, K2⟩ => ?_
      subst hv
      have gp2 := (K2.get _ (lt_of_get gp)).trans gp
      have lp2 := lt_of_get gp2
      simp (maxSteps:=9^7)(disch:=first|assumption|((try simp only[nX]);omega)|simp) [encIns, gp2, lp2, -g14_4c]
      exact fini _ _ i2 p (get_put_self lp2) ((K.trans K2).put hp0 _) (by simp)
  by_cases j4 : j = 4 ∨ j = 5 ∨ j = 6
  · rcases j4 with rfl | rfl | rfl
    all_goals
      simp (maxSteps:=9^7)(disch:=first|assumption|((try simp only[nX]);omega)|simp) [-g14_4c, -g2_4c]
      exact t2 _ (by simp) (by simp) (by simp)
  by_cases j7 : j = 7 ∨ j = 8
  · rcases j7 with rfl | rfl
    all_goals
      simp (maxSteps:=9^7)(disch:=first|assumption|((try simp only[nX]);omega)|simp) [-g14_4c, -g5_4c]
      exact t5 _ (by simp) (by simp) (by simp)
  by_cases j9 : j = 9
  · subst j9
    simp (maxSteps:=9^7)(disch:=first|assumption|((try simp only[nX]);omega)|simp) [-g14_4c, -g9_4c]
    exact t9 _ (by simp) (by simp) (by simp)
  have n0 : ¬ (j : Int) = 0 := by omega
  have n1 : ¬ (j : Int) = 1 := by omega
  have n2 : ¬ (j : Int) = 2 := by omega
  have n3 : ¬ (j : Int) = 3 := by omega
  have n4 : ¬ (j : Int) = 4 := by omega
  have n5 : ¬ (j : Int) = 5 := by omega
  have n6 : ¬ (j : Int) = 6 := by omega
  have n7 : ¬ (j : Int) = 7 := by omega
  have n8 : ¬ (j : Int) = 8 := by omega
  have n9 : ¬ (j : Int) = 9 := by omega
  have z0 : ¬ j = 0 := by omega
  have z1 : ¬ j = 1 := by omega
  simp (maxSteps:=9^7)(disch:=first|assumption|((try simp only[nX]);omega)|simp) [z0, z1, n0, n1, n2, n3, n4, n5, n6, n7, n8, n9, -g14_4c]
  exact fini _ _ i p gp K (by simp)
end
end Go.Proofs.YtoiiphcbkejliaaGreat.Cd
