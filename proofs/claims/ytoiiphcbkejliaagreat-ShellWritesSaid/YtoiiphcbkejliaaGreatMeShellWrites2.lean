/- Texts of one kind, one behind the other. -/
import Derived.Test.YtoiiphcbkejliaaGreatMeShellWrites1
/- A script that is drawn. -/
set_option maxRecDepth 1000000
set_option maxHeartbeats 8000000
set_option linter.unusedSimpArgs false
set_option linter.unusedVariables false
namespace Go.Proofs.YtoiiphcbkejliaaGreat.Cd
open Go Go.Dx
/-- A script as it was made, its items in a row of their own. -/
def isMade (h h' : Hp) (v : Value) (s : Scr) : Prop := ∃ aim cim adk cdk ov fp lo, v = .agg #[.int .i64 s.p, .int .i64 s.m, .slice aim s.im.length cim, .slice adk s.dk.length cdk, ov] ∧ (Sees encB h' aim s.im ∧ s.im.length ≤ cim) ∧ (Sees encB h' adk s.dk ∧ s.dk.length ≤ cdk) ∧
  Own encIt h' ov s.it fp ∧ (∀ b ∈ fp, lo ≤ b) ∧ h.next ≤ lo ∧ (∀ A, aim = some A → A.block < lo) ∧ (∀ A, adk = some A → A.block < lo) ∧ s.im.length ≤ 3072 ∧ s.dk.length ≤ 150 ∧ s.it.length ≤ 30 ∧ Kp h h'
section
variable {h h' : Hp} {v : Value} {s : Scr}
theorem isMade.sc (M : isMade h h' v s) : isSc h' v s := by
  obtain ⟨aim, cim, adk, cdk, ov, fp, lo, rfl, ⟨Si, qi⟩, ⟨Sd, qd⟩, O, _, _, _, _, l1, l2, l3, _⟩ := M
  obtain ⟨at', ct, rfl, St, qt, _⟩ := O.len
  exact ⟨aim, cim, adk, cdk, at', ct, rfl, Si, Sd, St, qi, qd, qt, by omega, by omega, by omega⟩
theorem isMade.kp (M : isMade h h' v s) : Kp h h' := by
  obtain ⟨_, _, _, _, _, _, _, _, _, _, _, _, _, _, _, _, _, _, K⟩ := M
  exact K
theorem p_known {q : Value → Hp → Prop} : WC T n_4s [] h q ↔ q (.bool true) h := by
  rw [WC_spec T_4s]
  simp [sTrue]
variable {pg mo : Int} {tm : Bool} {L : List In7} {D : By} {I : List Itm} {al ad ai : Option Addr} {cl cd ci : Nat}
theorem p_made (SL : Sees encI7 h al L) (hL : L.length < 2 ^ 63) (SD : Sees encB h ad D) (hD : D.length < 2 ^ 63) (qD : D.length ≤ cd) (SI : Sees encIt h ai I) (hI : I.length < 2 ^ 63) :
    WC T n_4t [.agg #[.int .i64 pg, .int .i64 mo, .slice al L.length cl, .slice ad D.length cd, .slice ai I.length ci, .bool tm]] h fun v h' => ∃ s, isMade h h' v s := by
  have hw := fun h n q => within_eq (h := h) (n := n) (lo := 3) (hi := 5) (q := q) (by omega) (by omega) (by omega)
  have hw2 := fun h n q => within_eq (h := h) (n := n) (lo := 1) (hi := 20) (q := q) (by omega) (by omega) (by omega)
  have hw3 := fun h n q => within_eq (h := h) (n := n) (lo := 0) (hi := 1048576) (q := q) (by omega) (by omega) (by omega)
  have hw4 := fun h n q => within_eq (h := h) (n := n) (lo := 0) (hi := 150) (q := q) (by omega) (by omega) (by omega)
  rw [w_4t]
  simp (maxSteps:=9^7)(disch:=first|assumption|((try simp only[nX]);omega)|simp) [-g8_4t]
  generalize hP : Hp.push (Hp.push h _) _ = P
  have gA : P.get h.next = some (.cells false [.int .i64 pg, .int .i64 mo, .slice al L.length cl, .slice ad D.length cd, .slice ai I.length ci, .bool tm]) := by rw [← hP, get_push_ne (by simp only [push_next]; omega), get_push_self]
  have gR : P.get (h.next + 1) = some (.cells false [.int .i64 0, .int .i64 0, .slice none 0 0, .slice none 0 0, .slice none 0 0]) := by rw [← hP]; exact get_push_self (h := h.push _)
  have KP : Kp h P := by rw [← hP]; exact ((Kp.refl h).push _).push _
  clear hP
  have lA := lt_of_get gA
  have lR := lt_of_get gR
  have K1 : Kp h (P.adv 1) := KP.adv 1
  have ki : WC T n_4d [.slice al L.length cl, .int .i64 3] (P.adv 1) fun v h' => (∃ bb, v = .slice (some ⟨bb, 0, none⟩) 3072 3072 ∧ (P.adv 1).next ≤ bb ∧ Bb h' bb 3072) ∧ Kp (P.adv 1) h' := k_image (pg := 3) (SL.kp K1) (by omega) (by omega)
  simp (maxSteps:=9^7)(disch:=first|assumption|((try simp only[nX]);omega)|simp) [gA, -g7_4t]
  refine GCI_intro ki fun v h2 ⟨⟨bb, hv, hbb, B, hB, gB⟩, K2⟩ => ?_
  subst hv
  have KP2 : Kp P h2 := ((Kp.refl P).adv 1).trans K2
  have gA2 := (KP2.get _ lA).trans gA
  have gR2 := (KP2.get _ lR).trans gR
  have n2 : P.next + 1 ≤ h2.next := K2.le
  simp (maxSteps:=9^7)(disch:=first|assumption|((try simp only[nX]);omega)|simp) [gA2, -g7_4t]
  generalize hQ : Hp.put h2 _ _ = Q
  have l2 : P.next < h2.next := by omega
  have gS : Q.get P.next = some (.cells false [.int .i64 pg, .int .i64 mo, .slice (some ⟨bb, 0, none⟩) 3072 3072, .slice ad D.length cd, .slice none 0 0]) := by rw [← hQ]; exact get_put_self l2
  have gA3 : Q.get h.next = some (.cells false [.int .i64 pg, .int .i64 mo, .slice al L.length cl, .slice ad D.length cd, .slice ai I.length ci, .bool tm]) := by rw [← hQ, get_put_ne (by omega)]; exact gA2
  have gR3 : Q.get (h.next + 1) = some (.cells false [.int .i64 0, .int .i64 0, .slice none 0 0, .slice none 0 0, .slice none 0 0]) := by rw [← hQ, get_put_ne (by omega)]; exact gR2
  have KQ : Kp h Q := by rw [← hQ]; exact (KP.trans KP2).put KP.le _
  have hbb' : P.next + 1 ≤ bb := hbb
  have SB : Sees encB Q (some ⟨bb, 0, none⟩) B := by rw [← hQ]; exact sees_b (ro := false) (by rw [get_put_ne (by omega)]; exact gB)
  have hle := KP.le
  clear hQ gA2 gR2 gA gR gB l2
  obtain ⟨lo, hlo⟩ : ∃ lo, lo = Q.next := ⟨_, rfl⟩
  have lS0 := lt_of_get gS
  have hbl := sees_lt SB
  have hdl := sees_lt (SD.kp KQ)
  rw [← hlo] at lS0 hbl hdl
  -- the items, whatever the rest is
  have lp : ∀ (e : Env) (H : Hp) (p m : Int) (aim adk : Option Addr) (cim cdk : Nat) (im dk : By), e 1 = ptr h.next 0 → e 2 = ptr (h.next + 1) 0 → e 3 = ptr P.next 0 → e 4 = .int .i64 0 → H.get P.next = some (.cells false [.int .i64 p, .int .i64 m, .slice aim im.length cim, .slice adk dk.length cdk, .slice none 0 0]) →
      H.get h.next = some (.cells false [.int .i64 pg, .int .i64 mo, .slice al L.length cl, .slice ad D.length cd, .slice ai I.length ci, .bool tm]) → H.get (h.next + 1) = some (.cells false [.int .i64 0, .int .i64 0, .slice none 0 0, .slice none 0 0, .slice none 0 0]) → Kp h H → lo ≤ H.next → Sees encB H aim im → im.length ≤ cim → im.length ≤ 3072 → Sees encB H adk dk → dk.length ≤ cdk → dk.length ≤ 150 → (∀ A, aim = some A → A.block < lo) → (∀ A, adk = some A → A.block < lo) →
      G T (fin [RV.ldn 5 2] (some []) h.next fun v h' => ∃ s, isMade h h' v s) (.loop c5_4t) [Fr.block 0, Fr.seq ((C.ops [⟨some 80, none, .ldn 5 (.t 3)⟩, ⟨none, none, .stn 5 (.t 2) (.t 80)⟩]).seq C.ret)] e H := by
    intro e H p m aim adk cim cdk im dk e1 e2 e3 e4 gS gA gR K hln Si qi hi Sd qd hd bi bd
    refine G_loop (fun j e H => ∃ (i : Nat) (acc : List Itm) (fp : List Nat) (ov : Value), j = 30 - i ∧ i ≤ 30 ∧ acc.length = i ∧ Own encIt H ov acc fp ∧ (∀ b ∈ fp, lo ≤ b) ∧ e 1 = ptr h.next 0 ∧ e 2 = ptr (h.next + 1) 0 ∧ e 3 = ptr P.next 0 ∧ e 4 = .int .i64 i ∧ H.get P.next = some (.cells false [.int .i64 p, .int .i64 m, .slice aim im.length cim, .slice adk dk.length cdk, ov]) ∧
      H.get h.next = some (.cells false [.int .i64 pg, .int .i64 mo, .slice al L.length cl, .slice ad D.length cd, .slice ai I.length ci, .bool tm]) ∧ H.get (h.next + 1) = some (.cells false [.int .i64 0, .int .i64 0, .slice none 0 0, .slice none 0 0, .slice none 0 0]) ∧ Kp h H ∧ lo ≤ H.next ∧ Sees encB H aim im ∧ Sees encB H adk dk) ?_ 30 _ _
      ⟨0, [], [], .slice none 0 0, rfl, by omega, rfl, .nul, by simp, e1, e2, e3, by rw [e4]; rfl, gS, gA, gR, K, hln, Si, Sd⟩
    clear e1 e2 e3 e4 gS gA gR K hln Si Sd
    rintro j ih e H ⟨i, acc, fp, ov, rfl, hi30, hai, O, hfp, e1, e2, e3, e4, gS, gA, gR, K, hln, Si, Sd⟩
    have lS := lt_of_get gS
    have lA := lt_of_get gA
    have lR := lt_of_get gR
    have r5 := rdn_all (n := 5) gS rfl
    have fin : ∃ s, isMade h (H.put (h.next + 1) (some (.cells false [.int .i64 p, .int .i64 m, .slice aim im.length cim, .slice adk dk.length cdk, ov]))) (.agg #[.int .i64 p, .int .i64 m, .slice aim im.length cim, .slice adk dk.length cdk, ov]) s :=
      ⟨⟨p, m, im, dk, acc⟩, aim, cim, adk, cdk, ov, fp, lo, rfl, ⟨sees_put5 Si gR no_u8 rfl, qi⟩, ⟨sees_put5 Sd gR no_u8 rfl, qd⟩, O.keep fun b hb => get_put_ne (by have := hfp b hb; omega), hfp, by omega, bi, bd, hi, hd, by show acc.length ≤ 30; omega, K.put (by omega) _⟩
    have hone0 : one ov = true := by obtain ⟨_, _, e9, _⟩ := O.len; rw [e9]; rfl
    by_cases c1 : i < I.length
    case neg =>
      have c1' : ¬ (i : Int) < I.length := by omega
      simp (maxSteps:=9^7)(disch:=first|assumption|((try simp only[nX]);omega)|simp) [e1, e2, e3, e4, gA, gR, gS, r5, c1', hone0]
      exact fin
    have c1' : (i : Int) < I.length := by omega
    by_cases c2 : i < 30
    case neg =>
      have c2' : ¬ (i : Int) < 30 := by omega
      simp (maxSteps:=9^7)(disch:=first|assumption|((try simp only[nX]);omega)|simp) [e1, e2, e3, e4, gA, gR, gS, r5, c1', c2', hone0]
      exact fin
    have c2' : (i : Int) < 30 := by omega
    obtain ⟨A, hA, hr⟩ := (SI.kp K).at' i c1
    obtain ⟨y, hy⟩ : ∃ y, y = I[i] := ⟨_, rfl⟩
    rw [← hy] at hr
    have hr' : H.rdn A.block (A.off + i * 2) 2 = some [.int .i64 y.k, .int .i64 y.n] := hr
    obtain ⟨ao, co, hov, So, qo, _⟩ := O.len
    have next : ∀ (y' : Itm) (v : Value) (H5 : Hp) (f5 : List Nat) (e' : Env), Own encIt H5 v (acc ++ [y']) f5 → Upd H H5 fp f5 → H5.get P.next = some (.cells false [.int .i64 p, .int .i64 m, .slice aim im.length cim, .slice adk dk.length cdk, ov]) → e' 1 = ptr h.next 0 → e' 2 = ptr (h.next + 1) 0 → e' 3 = ptr P.next 0 → e' 4 = .int .i64 ((i : Int) + 1) →
        ∃ (i_1 : Nat) (acc : List Itm) (fp : List Nat) (ov : Value), 30 - (i + 1) = 30 - i_1 ∧ i_1 ≤ 30 ∧ acc.length = i_1 ∧ Own encIt (H5.put P.next (some (.cells false [.int .i64 p, .int .i64 m, .slice aim im.length cim, .slice adk dk.length cdk, v]))) ov acc fp ∧ (∀ b ∈ fp, lo ≤ b) ∧ e' 1 = ptr h.next 0 ∧ e' 2 = ptr (h.next + 1) 0 ∧ e' 3 = ptr P.next 0 ∧ e' 4 = .int .i64 i_1 ∧ (H5.put P.next (some (.cells false [.int .i64 p, .int .i64 m, .slice aim im.length cim, .slice adk dk.length cdk, v]))).get P.next = some (.cells false [.int .i64 p, .int .i64 m, .slice aim im.length cim, .slice adk dk.length cdk, ov]) ∧
          (H5.put P.next (some (.cells false [.int .i64 p, .int .i64 m, .slice aim im.length cim, .slice adk dk.length cdk, v]))).get h.next = some (.cells false [.int .i64 pg, .int .i64 mo, .slice al L.length cl, .slice ad D.length cd, .slice ai I.length ci, .bool tm]) ∧ (H5.put P.next (some (.cells false [.int .i64 p, .int .i64 m, .slice aim im.length cim, .slice adk dk.length cdk, v]))).get (h.next + 1) = some (.cells false [.int .i64 0, .int .i64 0, .slice none 0 0, .slice none 0 0, .slice none 0 0]) ∧ Kp h (H5.put P.next (some (.cells false [.int .i64 p, .int .i64 m, .slice aim im.length cim, .slice adk dk.length cdk, v]))) ∧ lo ≤ (H5.put P.next (some (.cells false [.int .i64 p, .int .i64 m, .slice aim im.length cim, .slice adk dk.length cdk, v]))).next ∧ Sees encB (H5.put P.next (some (.cells false [.int .i64 p, .int .i64 m, .slice aim im.length cim, .slice adk dk.length cdk, v]))) aim im ∧ Sees encB (H5.put P.next (some (.cells false [.int .i64 p, .int .i64 m, .slice aim im.length cim, .slice adk dk.length cdk, v]))) adk dk :=
      fun y' v H5 f5 e' O5 U gS5 a1 a2 a3 a4 => by
        have f5' : ∀ b ∈ f5, lo ≤ b := fun b hb => by
          rcases U.sub b hb with h5 | h5
          · exact hfp b h5
          · omega
        have hle5 := U.le
        refine ⟨i + 1, acc ++ [y'], f5, v, rfl, by omega, by simp [hai], O5.keep fun b hb => get_put_ne (by have := f5' b hb; omega), f5', a1, a2, a3, by rw [a4]; simp, get_put_self (lt_of_get gS5), ?_, ?_, (U.kp' K fun b hb => by have := hfp b hb; omega).put (by omega) _, ?_, ?_, ?_⟩
        · rw [get_put_ne (by omega), U.get _ lA fun hm => by have := hfp _ hm; omega]; exact gA
        · rw [get_put_ne (by omega), U.get _ lR fun hm => by have := hfp _ hm; omega]; exact gR
        · show lo ≤ H5.next; omega
        · subst hov
          exact sees_put5 (Si.upd U fun A hA hm => by have := hfp _ hm; have := bi A hA; omega) gS5 no_u8 rfl
        · subst hov
          exact sees_put5 (Sd.upd U fun A hA hm => by have := hfp _ hm; have := bd A hA; omega) gS5 no_u8 rfl
    subst hA
    cases tm with
    | false =>
      simp (maxSteps:=9^7)(disch:=first|assumption|((try simp only[nX]);omega)|simp) [e1, e3, e4, gA, gS, c1', c2', hr']
      generalize hH : Hp.push H _ = H2
      have gI2 : H2.get H.next = some (.cells false [.int .i64 y.k, .int .i64 y.n]) := by rw [← hH, get_push_self]
      have KH2 : Kp H H2 := by rw [← hH]; exact (Kp.refl H).push _
      have nH2 : H2.next = H.next + 1 := by rw [← hH]; rfl
      clear hH
      subst hov
      have lH2 := lt_of_get gI2
      have r2 := rdn_all (n := 2) gI2 rfl
      have gS2 := (KH2.get _ lS).trans gS
      rw [← nH2]
      refine GV_app1 (E := encIt) (bytes := 16) (x := y) (O.kp KH2) (by omega) (by omega) fun v5 H5 f5 O5 U5 => ?_
      have U6 := (KH2.upd fp).trans U5
      have gS5 := (U6.get _ lS fun hm => by have := hfp _ hm; omega).trans gS
      have lS5 := lt_of_get gS5
      have hone : one v5 = true := by obtain ⟨_, _, e9, _⟩ := O5.len; rw [e9]; rfl
      simp (maxSteps:=9^7)(disch:=first|assumption|((try simp only[nX]);omega)|simp) [e3, gS5, hone, e4]
      refine ih (30 - (i + 1)) (by omega) _ _ (next y v5 H5 f5 _ O5 U6 gS5 ?_ ?_ ?_ ?_)
      · simp [e1]
      · simp [e2]
      · simp [e3]
      · simp
    | true =>
      obtain ⟨w1, w2⟩ := wi_bound (n := y.k) (lo := 0) (hi := 1048576) (by omega)
      obtain ⟨w3, w4⟩ := wi_bound (n := y.n) (lo := 0) (hi := 150) (by omega)
      have h3 := fun h q => hw3 h y.k q
      have h4 := fun h q => hw4 h y.n q
      generalize wi y.k 0 1048576 = r at *
      generalize wi y.n 0 150 = r' at *
      have ht : r.tmod 5 = r % 5 := Int.tmod_eq_emod_of_nonneg w1
      simp (maxSteps:=9^7)(disch:=first|assumption|((try simp only[nX]);omega)|simp) [e1, e3, e4, gA, gS, c1', c2', hr']
      generalize hH : Hp.push H _ = H1
      have gI1 : H1.get H.next = some (.cells false [.int .i64 y.k, .int .i64 y.n]) := by rw [← hH, get_push_self]
      have KH1 : Kp H H1 := by rw [← hH]; exact (Kp.refl H).push _
      clear hH
      have lI1 := lt_of_get gI1
      have gA1 := (KH1.get _ lA).trans gA
      simp (maxSteps:=9^7)(disch:=first|assumption|((try simp only[nX]);omega)|simp) [e1, gA1, gI1, GCI_of (h3 _), GCI_of (h4 _), ht]
      generalize hH : Hp.put H1 _ _ = H2
      have gI2 : H2.get H.next = some (.cells false [.int .i64 (1 + r % 5), .int .i64 r']) := by rw [← hH]; exact get_put_self lI1
      have KH2 : Kp H H2 := by rw [← hH]; exact KH1.put (Nat.le_refl _) _
      clear hH
      subst hov
      have lH2 := lt_of_get gI2
      have r2 := rdn_all (n := 2) gI2 rfl
      have gS2 := (KH2.get _ lS).trans gS
      simp (maxSteps:=9^7)(disch:=first|assumption|((try simp only[nX]);omega)|simp) [e3, gS2, r2]
      refine GV_app1 (E := encIt) (bytes := 16) (x := ⟨1 + r % 5, r'⟩) (O.kp KH2) (by omega) (by omega) fun v5 H5 f5 O5 U5 => ?_
      have U6 := (KH2.upd fp).trans U5
      have gS5 := (U6.get _ lS fun hm => by have := hfp _ hm; omega).trans gS
      have lS5 := lt_of_get gS5
      have hone : one v5 = true := by obtain ⟨_, _, e9, _⟩ := O5.len; rw [e9]; rfl
      simp (maxSteps:=9^7)(disch:=first|assumption|((try simp only[nX]);omega)|simp) [e3, gS5, hone, e4]
      refine ih (30 - (i + 1)) (by omega) _ _ (next ⟨1 + r % 5, r'⟩ v5 H5 f5 _ O5 U6 gS5 ?_ ?_ ?_ ?_)
      · simp [e1]
      · simp [e2]
      · simp [e3]
      · simp
  have mid : ∀ (e : Env) (H : Hp) (adk : Option Addr) (cdk : Nat) (dk : By), e 1 = ptr h.next 0 → e 2 = ptr (h.next + 1) 0 → e 3 = ptr P.next 0 → H.get P.next = some (.cells false [.int .i64 pg, .int .i64 mo, .slice (some ⟨bb, 0, none⟩) 3072 3072, .slice adk dk.length cdk, .slice none 0 0]) →
      H.get h.next = some (.cells false [.int .i64 pg, .int .i64 mo, .slice al L.length cl, .slice ad D.length cd, .slice ai I.length ci, .bool tm]) → H.get (h.next + 1) = some (.cells false [.int .i64 0, .int .i64 0, .slice none 0 0, .slice none 0 0, .slice none 0 0]) → Kp h H → lo ≤ H.next → Sees encB H (some ⟨bb, 0, none⟩) B → Sees encB H adk dk → dk.length ≤ cdk → dk.length ≤ 150 → (∀ A, adk = some A → A.block < lo) →
      G T (fin [RV.ldn 5 2] (some []) h.next fun v h' => ∃ s, isMade h h' v s) c6_4t [] e H := by
    intro e H adk cdk dk e1 e2 e3 gS gA gR K hln Si Sd qd hd bd
    have lS := lt_of_get gS
    have lA := lt_of_get gA
    have lR := lt_of_get gR
    have fin2 : ∀ (e' : Env) (p m : Int) (aim : Option Addr) (cim : Nat) (im : By), e' 1 = ptr h.next 0 → e' 2 = ptr (h.next + 1) 0 → e' 3 = ptr P.next 0 → e' 4 = .int .i64 0 → Sees encB H aim im → im.length ≤ cim → im.length ≤ 3072 → (∀ A, aim = some A → A.block < lo) →
        G T (fin [RV.ldn 5 2] (some []) h.next fun v h' => ∃ s, isMade h h' v s) (.loop c5_4t) [Fr.block 0, Fr.seq ((C.ops [⟨some 80, none, .ldn 5 (.t 3)⟩, ⟨none, none, .stn 5 (.t 2) (.t 80)⟩]).seq C.ret)] e' (H.put P.next (some (.cells false [.int .i64 p, .int .i64 m, .slice aim im.length cim, .slice adk dk.length cdk, .slice none 0 0]))) :=
      fun e' p m aim cim im a1 a2 a3 a4 Si' qi hi bi => lp e' _ p m aim adk cim cdk im dk a1 a2 a3 a4 (get_put_self lS) (by rw [get_put_ne (by omega)]; exact gA) (by rw [get_put_ne (by omega)]; exact gR) (K.put (by omega) _) hln (sees_put5 Si' gS no_u8 rfl) qi hi (sees_put5 Sd gS no_u8 rfl) qd hd bi bd
    have hB' : B.length ≤ 3072 := by omega
    have fin2' : ∀ (e' : Env) (p m : Int), e' 1 = ptr h.next 0 → e' 2 = ptr (h.next + 1) 0 → e' 3 = ptr P.next 0 → e' 4 = .int .i64 0 → G T (fin [RV.ldn 5 2] (some []) h.next fun v h' => ∃ s, isMade h h' v s) (.loop c5_4t) [Fr.block 0, Fr.seq ((C.ops [⟨some 80, none, .ldn 5 (.t 3)⟩, ⟨none, none, .stn 5 (.t 2) (.t 80)⟩]).seq C.ret)] e' (H.put P.next (some (.cells false [.int .i64 p, .int .i64 m, .slice (some ⟨bb, 0, none⟩) B.length B.length, .slice adk dk.length cdk, .slice none 0 0]))) := fun e' p m a1 a2 a3 a4 => fin2 e' p m _ B.length B a1 a2 a3 a4 Si (Nat.le_refl _) hB' hbl
    cases tm with
    | true =>
      simp (maxSteps:=9^7)(disch:=first|assumption|((try simp only[nX]);omega)|simp) [e1, e3, gA, gS, GCI_of (hw _ pg), GCI_of (hw2 _ mo)]
      rw [hB] at fin2'
      exact fin2' _ _ _ (by simp [e1]) (by simp [e2]) (by simp [e3]) (by simp)
    | false =>
      by_cases c3 : L.length ≤ 3
      · have c3' : ¬ (3 : Int) < L.length := by omega
        simp (maxSteps:=9^7)(disch:=first|assumption|((try simp only[nX]);omega)|simp) [e1, e3, gA, gS, c3']
        exact lp _ _ pg mo (some ⟨bb, 0, none⟩) adk 3072 cdk B dk (by simp [e1]) (by simp [e2]) (by simp [e3]) (by simp) (by rw [hB]; exact gS) gA gR K hln Si (by omega) hB' Sd qd hd hbl bd
      · have c3' : (3 : Int) < L.length := by omega
        have cut : ∀ (w : Nat) (z : Int), w ≤ 400 → z = ((w * 7 : Nat) : Int) → ∃ a9 c9 im9, sliceV 1 (.slice (some ⟨bb, 0, none⟩) 3072 3072) none (some (.int .i64 z)) none = some (.slice a9 im9.length c9) ∧ im9.length ≤ c9 ∧ Sees encB H a9 im9 ∧ (∀ A, a9 = some A → A.block < lo) ∧ im9.length ≤ 3072 := fun w z hw hz => by
          obtain ⟨a9, c9, s9, q9, S9⟩ := part_b Si (c := 3072) (by omega) (lo := 0) (hi := w * 7) (by omega) (by omega) (l := none) (u := some (.int .i64 ((w * 7 : Nat) : Int))) (.inl ⟨rfl, rfl⟩) (.inr ⟨_, rfl⟩)
          rw [hB, ← hz] at s9
          exact ⟨a9, c9, _, s9, q9, S9, fun A hA => by
            obtain ⟨A1, hA1, e9⟩ := sliceV_blk s9 A hA
            rw [e9]
            exact hbl A1 hA1, by simp; omega⟩
        by_cases c6 : 400 < L.length
        · have c6' : (400 : Int) < L.length := by omega
          obtain ⟨a9, c9, im9, s9, q9, S9, b9, l9⟩ := cut 400 2800 (by omega) (by omega)
          simp (maxSteps:=9^7)(disch:=first|assumption|((try simp only[nX]);omega)|simp) [e1, e3, gA, gS, c3', c6', s9]
          refine fin2 _ pg mo a9 c9 im9 ?_ ?_ ?_ ?_ S9 q9 l9 b9
          · simp [e1]
          · simp [e2]
          · simp [e3]
          · simp
        · have c6' : ¬ (400 : Int) < L.length := by omega
          obtain ⟨a9, c9, im9, s9, q9, S9, b9, l9⟩ := cut L.length ((L.length : Int) * 7) (by omega) (by omega)
          simp (maxSteps:=9^7)(disch:=first|assumption|((try simp only[nX]);omega)|simp) [e1, e3, gA, gS, c3', c6', s9]
          refine fin2 _ pg mo a9 c9 im9 ?_ ?_ ?_ ?_ S9 q9 l9 b9
          · simp [e1]
          · simp [e2]
          · simp [e3]
          · simp
  by_cases c4 : D.length ≤ 150
  · have c4' : ¬ (150 : Int) < D.length := by omega
    simp (maxSteps:=9^7)(disch:=first|assumption|((try simp only[nX]);omega)|simp) [gS, c4', -g6_4t]
    exact mid _ Q ad cd D (by simp) (by simp) (by simp) gS gA3 gR3 KQ (by omega) SB (SD.kp KQ) qD c4 hdl
  · have c4' : (150 : Int) < D.length := by omega
    obtain ⟨a9, c9, s9, q9, S9⟩ := part_b (SD.kp KQ) (c := cd) qD (lo := 0) (hi := 150) (by omega) (by omega) (l := none) (u := some (.int .i64 150)) (.inl ⟨rfl, rfl⟩) (.inr ⟨_, rfl⟩)
    have b9 : ∀ A, a9 = some A → A.block < lo := fun A hA => by
      obtain ⟨A1, hA1, e9⟩ := sliceV_blk s9 A hA
      rw [e9]
      exact hdl A1 hA1
    have l9 : ((D.drop 0).take (150 - 0)).length ≤ 150 := by simp; omega
    generalize (D.drop 0).take (150 - 0) = dk9 at *
    have lQ := lt_of_get gS
    simp (maxSteps:=9^7)(disch:=first|assumption|((try simp only[nX]);omega)|simp) [gS, c4', s9, -g6_4t]
    exact mid _ _ a9 c9 dk9 (by simp) (by simp) (by simp) (get_put_self lQ) (by rw [get_put_ne (by omega)]; exact gA3) (by rw [get_put_ne (by omega)]; exact gR3) (KQ.put (by omega) _) (by show lo ≤ Q.next; omega) (sees_put5 SB gS no_u8 rfl) (sees_put5 S9 gS no_u8 rfl) q9 l9 b9
end
end Go.Proofs.YtoiiphcbkejliaaGreat.Cd

/- ShellWrites. -/
set_option maxRecDepth 1000000
set_option maxHeartbeats 8000000
set_option linter.unusedSimpArgs false
set_option linter.unusedVariables false
namespace Go.Proofs.YtoiiphcbkejliaaGreat.Cd
open Go Go.Dx
section
variable {h : Hp} {pg mo : Int} {tm : Bool} {L : List In7} {D : By} {I : List Itm} {al ad ai : Option Addr} {cl cd ci : Nat}
theorem swrites (SL : Sees encI7 h al L) (hL : L.length < 2 ^ 63) (SD : Sees encB h ad D) (hD : D.length < 2 ^ 63) (qD : D.length ≤ cd) (SI : Sees encIt h ai I) (hI : I.length < 2 ^ 63) :
    WC T n_4q [.agg #[.int .i64 pg, .int .i64 mo, .slice al L.length cl, .slice ad D.length cd, .slice ai I.length ci, .bool tm]] h fun v h' => v = .bool true := by
  rw [w_4q]
  simp (maxSteps:=9^7)(disch:=first|assumption|((try simp only[nX]);omega)|simp) [-g1_4q]
  generalize hP : Hp.push h _ = P
  have gA : P.get h.next = some (.cells false [.int .i64 pg, .int .i64 mo, .slice al L.length cl, .slice ad D.length cd, .slice ai I.length ci, .bool tm]) := by rw [← hP]; exact get_push_self
  have KP : Kp h P := by rw [← hP]; exact (Kp.refl h).push _
  clear hP
  refine GC_intro (p_made (SL.kp KP) hL (SD.kp KP) hD qD (SI.kp KP) hI) fun v h1 ⟨s, M⟩ => ?_
  have M0 := M.sc
  obtain ⟨ai', ci', ad', cd', at', ct', rfl, F⟩ := M0
  simp (maxSteps:=9^7)(disch:=first|assumption|((try simp only[nX]);omega)|simp) [-g1_4q]
  generalize hQ : Hp.push h1 _ = Q
  have gQ : Q.get h1.next = some (.cells false [.int .i64 s.p, .int .i64 s.m, .slice ai' s.im.length ci', .slice ad' s.dk.length cd', .slice at' s.it.length ct']) := by rw [← hQ]; exact get_push_self
  have KQ : Kp h1 Q := by rw [← hQ]; exact (Kp.refl h1).push _
  clear hQ
  have FQ := F.kp KQ
  have sc : ∀ {H : Hp}, Kp Q H → isSc H (.agg #[.int .i64 s.p, .int .i64 s.m, .slice ai' s.im.length ci', .slice ad' s.dk.length cd', .slice at' s.it.length ct']) s := fun K => ⟨ai', ci', ad', cd', at', ct', rfl, FQ.kp K⟩
  have r5 := rdn_all (n := 5) gQ rfl
  simp (maxSteps:=9^7)(disch:=first|assumption|((try simp only[nX]);omega)|simp) [r5, -g0_4q]
  refine GC_intro (s_enc (sc (.refl _))) fun v h2 ⟨K2, he⟩ => ?_
  have g2 := (K2.get _ (lt_of_get gQ)).trans gQ
  have r52 := rdn_all (n := 5) g2 rfl
  rcases he with ⟨hr, o, fp, rfl, O, hb⟩ | ⟨hr, rfl⟩
  · simp (maxSteps:=9^7)(disch:=first|assumption|((try simp only[nX]);omega)|simp) [r52, -g0_4q]
    refine GC_intro (p_right (sc K2)) fun v h3 ⟨hv, K3⟩ => ?_
    subst hv
    have K23 := K2.trans K3
    have r53 := rdn_all (n := 5) ((K3.get _ (lt_of_get g2)).trans g2) rfl
    obtain ⟨ao, co, rfl, So, qo, _⟩ := (O.kp K3).len
    have bs := b2sV_sees (c := co) So
    simp (maxSteps:=9^7)(disch:=first|assumption|((try simp only[nX]);omega)|simp) [hr, bs, r53]
    refine GCI_intro (p_written (sc K23)) fun v h4 ⟨K4, fq, O4, _⟩ => ?_
    obtain ⟨aw, cw, rfl, Sw, qw, _⟩ := O4.len
    have bs4 := b2sV_sees (c := co) (So.kp K4)
    have bw := b2sV_sees (c := cw) Sw
    have hv : veq (strB (wri s)) (strB (wri s)) = true := by simp [strB, veq, veqF]
    simp (maxSteps:=9^7)(disch:=first|assumption|((try simp only[nX]);omega)|simp) [bs4, bw, hv, GCI_of (fun q => p_known (q := q))]
  · simp (maxSteps:=9^7)(disch:=first|assumption|((try simp only[nX]);omega)|simp) [r52, -g0_4q]
    refine GC_intro (p_right (sc K2)) fun v h3 ⟨hv, K3⟩ => ?_
    subst hv
    simp (maxSteps:=9^7)(disch:=first|assumption|((try simp only[nX]);omega)|simp) [hr, GCI_of (fun q => p_known (q := q))]
end
end Go.Proofs.YtoiiphcbkejliaaGreat.Cd
