/- Texts of one kind, one behind the other. -/
import Derived.Test.YtjobkhnanbkcjaaMeOptFolds0
/- Shorter rows: what hangs on numbers alone. -/
set_option maxRecDepth 1000000
set_option maxHeartbeats 8000000
set_option linter.unusedSimpArgs false
set_option linter.unusedVariables false
namespace Go.Proofs.Ytjobkhnanbkcjaa.Cd
open Go Go.Dx
section
variable {h : Hp} {q : Value → Hp → Prop} {b c c' c'' : Nat} {o p : IOp} {R : Regs} {a a' a'' : Option Addr} {l m : List (BitVec 32)} {L A B D : List IOp} {f : Facts}
def fstep (f : Facts) (o : IOp) : Facts := match fold1 f o with
  | some x => fdone f x
  | none => f
def frun (f : Facts) (L : List IOp) : Facts := L.foldl fstep f
theorem ffold_snoc (f : Facts) (L : List IOp) (o : IOp) : ffold f (L ++ [o]) = ffold f L ++ (match fold1 (frun f L) o with | some x => [x] | none => []) := by
  induction L generalizing f with
  | nil => simp only [List.nil_append, ffold, frun, List.foldl_nil]; cases fold1 f o <;> rfl
  | cons y L ih =>
    simp only [List.cons_append, ffold, frun, List.foldl_cons]
    have e : fstep f y = (match fold1 f y with | some x => fdone f x | none => f) := rfl
    cases hf : fold1 f y with
    | some x =>
      simp only [hf] at e
      rw [e]
      have h1 := ih (fdone f x)
      simp only [frun] at h1
      simp only [List.cons_append, h1]
    | none => simp only [hf] at e; rw [e]; exact ih f
theorem frun_snoc (f : Facts) (L : List IOp) (o : IOp) : frun f (L ++ [o]) = fstep (frun f L) o := by simp [frun]
/-- What holds of a row whose operations hang on numbers alone. -/
structure NumRow (has : Live) (L : List IOp) : Prop where
  ok : oks L
  is : ∀ c, 0 ≤ c → c < 40 → has c = true → (frun facts0 L).is c = true
  one : ∀ x ∈ ifold L, x.k = 1
theorem numrow_nil : NumRow (fun c => decide (c = 0)) [] := ⟨fun o ho => (by cases ho), fun c _ _ hc => by simpa [frun, facts0] using hc, fun x hx => by simp [ifold, ffold] at hx⟩
theorem numrow_snoc {has : Live} (N : NumRow has L) (ho : o.ok) (k1 : 1 ≤ o.k) (k16 : o.k ≤ 16) (hd : o.d ≠ 0) (ha : o.k ≠ 1 → has o.a = true) (hb : o.k ≠ 1 → o.k ≠ 2 → o.k ≠ 15 → o.k ≠ 16 → has o.b = true) :
    NumRow (fun c => if c = o.d then true else has c) (L ++ [o]) := by
  obtain ⟨⟨d0, d1⟩, ⟨a0, a1⟩, ⟨b0, b1⟩, _, _⟩ := id ho
  have hw : iwrites o = [o.d] := by unfold iwrites; rw [if_neg (by simp [ho]; omega), if_neg (by omega), if_neg hd]
  have hs : isure o = true := by unfold isure; simp; omega
  have hk : knows (frun facts0 L) (ireads o) = true := knows_iff.2 fun c hc => by
    rw [mem_ireads ho] at hc
    obtain ⟨⟨h0, h1⟩, h2⟩ := hc
    rcases h2 with rfl | ⟨rfl, h3, h4, h5⟩ | ⟨rfl, h3⟩
    · exact N.is _ a0 a1 (ha h1)
    · exact N.is _ b0 b1 (hb h1 h3 h4 h5)
    · omega
  have e : fold1 (frun facts0 L) o = some ⟨1, o.d, 0, 0, rg (ido (frun facts0 L).v o) o.d⟩ := by
    unfold fold1
    rw [if_neg (by simp [hs]), if_neg (by simp [hs, hw, hk])]
  have hx : (⟨1, o.d, 0, 0, rg (ido (frun facts0 L).v o) o.d⟩ : IOp).ok := fold1_ok ho e
  have hr : ireads ⟨1, o.d, 0, 0, rg (ido (frun facts0 L).v o) o.d⟩ = [] := by unfold ireads; rw [if_pos (.inr (.inr rfl))]
  have hw2 : iwrites ⟨1, o.d, 0, 0, rg (ido (frun facts0 L).v o) o.d⟩ = [o.d] := by unfold iwrites; rw [if_neg (by simp [hx]), if_neg (by simp), if_neg hd]
  refine ⟨fun x hx => ?_, fun c c0 c1 hc => ?_, fun x hx => ?_⟩
  · rcases List.mem_append.1 hx with h1 | h1
    · exact N.ok x h1
    · simp at h1; subst h1; exact ho
  · rw [frun_snoc]
    unfold fstep
    rw [e]
    simp only [fdone, hw2, hr, knows, List.all_nil]
    by_cases hcd : c = o.d
    · simp [hcd]
    · simp only [hcd, if_false] at hc
      simp only [List.mem_singleton, hcd, if_false]
      exact N.is c c0 c1 hc
  · unfold ifold at hx
    rw [ffold_snoc, e] at hx
    rcases List.mem_append.1 hx with h1 | h1
    · exact N.one x h1
    · simp at h1; subst h1; rfl
theorem over5 {a b c d e v0 v1 v2 v3 v4 : Value} : over [a, b, c, d, e] 0 [v0, v1, v2, v3, v4] = [v0, v1, v2, v3, v4] := rfl
theorem optfolds (hL : Sees encOp h a' L) (hb' : L.length < 2 ^ 63) (hLc : L.length ≤ c') (hm : Sees encW h a'' m) (hbm : m.length < 2 ^ 63) :
    WC T n_pianolalaw20_OptFolds [.slice a' L.length c', .slice a'' m.length c''] h fun v _ => v = .bool true := by
  rw [w_pianolalaw20_OptFolds]
  simp (maxSteps := 1000000) (disch := first | assumption | ((try simp only [push_next, put_next, adv_next, List.length_cons, List.length_nil, List.length_map, List.length_set]); omega) | simp) [-List.reduceReplicate]
  have o1 := fun (l : List Value) n v => over_set (l := l) (i := n) (v := v)
  have hLa : ∀ A, a' = some A → A.block < h.next := fun A hA => lt_of_rdn (hL.get A hA)
  generalize hM0 : h.push _ = M0
  have g0 : M0.get h.next = some (.cells false (bls fun c => decide (c = 0))) := by
    rw [← hM0, get_push_self]
    have := bls_set (fun _ => false) (i := 0) true (by omega) (by omega)
    simp only [Int.toNat_zero] at this
    rw [bls_false] at this
    have e : bls (fun c => decide (c = 0)) = Value.bool true :: List.replicate 39 (.bool false) := by
      rw [show (Value.bool true :: List.replicate 39 (Value.bool false)) = (List.replicate 40 (Value.bool false)).set 0 (.bool true) from rfl, this]
      exact bls_congr fun c _ _ => by by_cases hc : c = 0 <;> simp [hc]
    rw [e]
  have K0 : Kp h M0 := by rw [← hM0]; exact (Kp.refl h).push _
  refine G_loop (fun n e h' => ∃ (i : Nat) (has : Live) (X : List IOp) (fp : List Nat), n = 5 - i ∧ 1 ≤ i ∧ i ≤ 5 ∧ NumRow has X ∧ X.length < i ∧ h'.get h.next = some (.cells false (bls has)) ∧ Own encOp h' (e 5) X fp ∧ (∀ b ∈ fp, h.next < b) ∧ Kp h h' ∧ e 0 = .slice a' L.length c' ∧ e 1 = .slice a'' m.length c'' ∧ e 6 = ptr h.next 0 ∧ e 7 = .int .i64 i) ?_ 4 _ _ ⟨1, _, [], [], rfl, by omega, by omega, numrow_nil, by simp, g0, by simp; exact .nul, by simp, K0, by simp, by simp, by simp, by simp⟩
  rintro n ih e h' ⟨i, has, X, fp, rfl, hi1, hi, NR, hX, gb, O, hfp, K, e0, e1, e6, e7⟩
  have lt := lt_of_get gb
  by_cases hgo : i < 5 ∧ i < m.length
  · obtain ⟨h5, hm5⟩ := hgo
    have h5' : (i : Int) < 5 := by omega
    have hm5' : (i : Int) < m.length := by omega
    have hi39 : (i : Int) ≤ 39 := by omega
    have hi39' : i ≤ 39 := by omega
    obtain ⟨us, w, vs, hx, hu⟩ : ∃ us w vs, m = us ++ w :: vs ∧ us.length = i := ⟨m.take i, m[i], m.drop (i + 1), by simp, by simp; omega⟩
    obtain ⟨A, ro, C, rfl, k1, k2⟩ := Sees.cell (f := u32) (fun _ => rfl) rfl (us := us) (x := w) (vs := vs) (by rw [← hx]; exact hm.kp K)
    rw [hu] at k2
    have okc : (⟨1, i, 0, 0, w⟩ : IOp).ok := by simp only [IOp.ok]; omega
    simp (maxSteps := 1000000) (disch := first | assumption | ((try simp only [push_next, put_next, adv_next, List.length_cons, List.length_nil, List.length_map, List.length_set]); omega) | simp) [e0, e1, e6, e7, h5, h5', hm5, hm5', hi39, k1, k2]
    refine GV_app1 (E := encOp) (bytes := 40) (x := ⟨1, i, 0, 0, w⟩) O (by omega) (by omega) fun v3 h3 fp3 O3 U3 => ?_
    have g3 : h3.get h.next = some (.cells false (bls has)) := by rw [U3.get _ lt (fun hh => by have := hfp _ hh; omega), gb]
    have hfp3 : ∀ b ∈ fp3, h.next < b := fun b hb => by
      rcases U3.sub b hb with h6 | h6
      · exact hfp b h6
      · omega
    have K3 := U3.kp' K (fun b hb => by have := hfp b hb; omega)
    simp (maxSteps := 1000000) (disch := first | assumption | ((try simp only [push_next, put_next, adv_next, List.length_cons, List.length_nil, List.length_map, List.length_set]); omega) | simp) [e6, e7, g3, hi39, hi39', -over, o1]
    refine ih (5 - (i + 1)) (by omega) _ _ ⟨i + 1, fun c => if c = (i : Int) then true else has c, X ++ [⟨1, i, 0, 0, w⟩], fp3, rfl, by omega, by omega, numrow_snoc NR okc (by simp) (by simp) (by simp; omega) (by simp) (by simp), by simp; omega, ?_, ?_, hfp3, K3.put (Nat.le_refl _) _, by simp [e0], by simp [e1], by simp [e6], by simp⟩
    · rw [get_put_self (lt_of_get g3)]
      have := bls_set has (i := i) true (by omega) (by omega)
      simp only [Int.toNat_natCast] at this
      rw [this]
    · have := O3.keep (h' := h3.put h.next (some (.cells false ((bls has).set i (.bool true))))) fun b hb => get_put_ne (by have := hfp3 b hb; omega)
      simpa using this
  have go9 : ∀ e' : Env, e' 0 = e 0 → e' 5 = e 5 → e' 6 = e 6 → G T (Dx.fin [RV.t 4] (some []) h.next fun v x => v = .bool true) c9_pianolalaw20_OptFolds [] e' h' := by
    clear ih hgo
    intro e' f0 f5 f6
    rw [e0] at f0
    rw [e6] at f6
    rw [← f5] at O
    clear e0 e1 e6 e7 f5 e
    simp (maxSteps := 1000000) (disch := first | assumption | ((try simp only [push_next, put_next, adv_next, List.length_cons, List.length_nil, List.length_map, List.length_set]); omega) | simp) []
    refine G_loop (fun n e h' => ∃ (i : Nat) (has : Live) (X : List IOp) (fp : List Nat), n = 20 - i ∧ i ≤ 20 ∧ i ≤ L.length ∧ NumRow has X ∧ X.length ≤ 5 + i ∧ h'.get h.next = some (.cells false (bls has)) ∧ Own encOp h' (e 5) X fp ∧ (∀ b ∈ fp, h.next < b) ∧ Kp h h' ∧ e 0 = .slice a' L.length c' ∧ e 6 = ptr h.next 0 ∧ e 8 = .int .i64 i) ?_ 20 _ _ ⟨0, has, X, fp, rfl, by omega, by omega, NR, by omega, gb, by simpa using O, hfp, K, by simp [f0], by simp [f6], by simp⟩
    clear gb O hfp K NR hX fp X has f0 f6 lt hi hi1
    rintro n ih e h' ⟨i, has, X, fp, rfl, hi, hiL, NR, hX, gb, O, hfp, K, e0, e6, e8⟩
    have lt := lt_of_get gb
    by_cases hgo : i < L.length ∧ i < 20
    case neg =>
      obtain ⟨ax, cx, hv5, sx, _, _⟩ := O.len
      rcases (show (¬ (i : Int) < L.length ∧ ¬ i < L.length) ∨ ((i : Int) < L.length ∧ ¬ (i : Int) < 20 ∧ i < L.length ∧ ¬ i < 20) by omega) with hh | hh <;>
      · simp (maxSteps := 1000000) (disch := first | assumption | ((try simp only [push_next, put_next, adv_next, List.length_cons, List.length_nil, List.length_map, List.length_set]); omega) | simp) [e0, e8, hv5, hh]
        refine GC_intro (opt_Fold sx (by omega)) fun v h2 ⟨O2, K2⟩ => ?_
        rw [if_pos NR.ok] at O2
        obtain ⟨a2, c2, rfl, s2, _, _⟩ := own_new_sees O2
        have fl : (ifold X).length ≤ X.length := ffold_len _ _
        simp (maxSteps := 1000000) (disch := first | assumption | ((try simp only [push_next, put_next, adv_next, List.length_cons, List.length_nil, List.length_map, List.length_set]); omega) | simp) [hv5]
        refine G_loop (fun n e h3 => ∃ us vs, n = vs.length ∧ ifold X = us ++ vs ∧ h3 = h2 ∧ e 5 = .slice ax X.length cx ∧ e 10 = .slice a2 (ifold X).length c2 ∧ e 11 = .int .i64 us.length) ?_ (ifold X).length _ _ ⟨[], ifold X, rfl, rfl, rfl, by simp [hv5], by simp, by simp⟩
        rintro n ih3 e2 h3 ⟨us, vs, rfl, hF, rfl, d5, d10, d11⟩
        cases vs with
        | nil =>
          have hl : ((ifold X).length : Int) = us.length := by rw [hF]; simp
          have fl' : (us.length : Int) ≤ X.length := by omega
          simp (maxSteps := 1000000) (disch := first | assumption | ((try simp only [push_next, put_next, adv_next, List.length_cons, List.length_nil, List.length_map, List.length_set]); omega) | simp) [d5, d10, d11, hl, fl']
          refine GC_intro known20 fun v h12 ⟨hv, _⟩ => ?_
          subst hv
          simp (maxSteps := 1000000) (disch := first | assumption | ((try simp only [push_next, put_next, adv_next, List.length_cons, List.length_nil, List.length_map, List.length_set]); omega) | simp)
        | cons x vs =>
          have hl : (us.length : Int) < (ifold X).length := by rw [hF]; simp; omega
          have hx1 : x.k = 1 := NR.one x (by rw [hF]; simp)
          obtain ⟨A, rfl, hr⟩ := Sees.mid (A := us) (x := x) (B := vs) (by rw [← hF]; exact s2)
          obtain ⟨ro, C, hgC, hC⟩ := rdn_cells hr
          have hC0 := hC 0 (by decide)
          simp [encOp, hx1] at hC0
          simp (maxSteps := 1000000) (disch := first | assumption | ((try simp only [push_next, put_next, adv_next, List.length_cons, List.length_nil, List.length_map, List.length_set]); omega) | simp) [d5, d10, d11, hl, hgC, hC0]
          exact ih3 vs.length (by simp) _ _ ⟨us ++ [x], vs, rfl, by rw [hF]; simp, rfl, by simp [d5], by simp [d10], by simp⟩
    obtain ⟨h1, h2⟩ := hgo
    have h1' : (i : Int) < L.length := by omega
    have h2' : (i : Int) < 20 := by omega
    obtain ⟨a2, c2, es, _, s2⟩ := (hL.kp K).part (lo := i) (hi := L.length) (by omega) (Nat.le_refl _) hLc (l := some (.int .i64 i)) (u := none) (.inr ⟨.i64, rfl⟩) (.inl ⟨rfl, rfl⟩)
    have s2' : Sees encOp h' a2 (L.drop i) := by
      have e : (L.drop i).take (L.length - i) = L.drop i := List.take_of_length_le (by simp)
      rw [e] at s2
      exact s2
    have es' : sliceV 5 (.slice a' L.length c') (some (.int .i64 i)) none none = some (.slice a2 (L.length - i) c2) := es
    have ld : (L.drop i).length = L.length - i := by simp
    simp (maxSteps := 1000000) (disch := first | assumption | ((try simp only [push_next, put_next, adv_next, List.length_cons, List.length_nil, List.length_map, List.length_set]); omega) | simp) [e0, e8, h1, h1', h2, h2', es']
    have nr := near20 (n := 1) (c := c2) s2' (by omega) (by omega)
    rw [ld] at nr
    refine GC_intro nr fun v h4 ⟨X1, fpn, On, hok1, hX1, hfpn, Kn⟩ => ?_
    obtain ⟨an, cn, rfl, sn, _, _⟩ := On.len
    have hX1' : X1.length = 1 := by rw [hX1]; omega
    obtain ⟨o, rfl⟩ : ∃ o, X1 = [o] := by
      match X1, hX1' with
      | [o], _ => exact ⟨o, rfl⟩
    have ho := hok1 o (by simp)
    obtain ⟨A, rfl, hr⟩ := sn.at' 0 (by simp)
    have hr' : h4.rdn A.block A.off 5 = some [.int .i64 o.k, .int .i64 o.d, .int .i64 o.a, .int .i64 o.b, u32 o.imm] := by simpa [encOp] using hr
    simp (maxSteps := 1000000) (disch := first | assumption | ((try simp only [push_next, put_next, adv_next, List.length_cons, List.length_nil, List.length_map, List.length_set]); omega) | simp) [hr', -g3_pianolalaw20_OptFolds]
    generalize hH5 : h4.push (.cells false [.int .i64 o.k, .int .i64 o.d, .int .i64 o.a, .int .i64 o.b, u32 o.imm]) = H5
    have K45 : Kp h4 H5 := by rw [← hH5]; exact (Kp.refl h4).push _
    have K'5 := Kn.trans K45
    have K5 := K.trans K'5
    have go : H5.get h4.next = some (.cells false [.int .i64 o.k, .int .i64 o.d, .int .i64 o.a, .int .i64 o.b, u32 o.imm]) := by rw [← hH5, get_push_self]
    have gb := (K'5.get _ lt).trans gb
    have O5 := O.kp K'5
    have ltH := lt_of_get gb
    have nb : h.next ≠ h4.next := by have := Kn.le; omega
    have nb' : h4.next ≠ h.next := fun hh => nb hh.symm
    have lgo := lt_of_get go
    obtain ⟨⟨d0, d1⟩, ⟨a0, a1⟩, ⟨b0, b1⟩, k0, k22⟩ := id ho
    have hAt := bls_at has a0 a1
    have hBt := bls_at has b0 b1
    have hA39 : o.a ≤ 39 := by omega
    have hB39 : o.b ≤ 39 := by omega
    have hD39 : o.d ≤ 39 := by omega
    have hd39 : o.d.toNat ≤ 39 := by omega
    have cs : 17 ≤ o.k ∨ o.k = 0 ∨ (o.d = 0 ∧ ¬ 17 ≤ o.k ∧ o.k ≠ 0) ∨ ((o.d ≠ 0 ∧ ¬ 17 ≤ o.k) ∧ o.k = 1) ∨ ((o.d ≠ 0 ∧ ¬ 17 ≤ o.k ∧ o.k ≠ 0 ∧ o.k ≠ 1) ∧ has o.a = false) ∨ ((o.d ≠ 0 ∧ ¬ 17 ≤ o.k) ∧ (o.k = 2 ∨ o.k = 15 ∨ o.k = 16) ∧ has o.a = true) ∨ ((o.d ≠ 0 ∧ ¬ 17 ≤ o.k ∧ o.k ≠ 0 ∧ o.k ≠ 1 ∧ o.k ≠ 2 ∧ o.k ≠ 15 ∧ o.k ≠ 16) ∧ has o.a = true ∧ has o.b = false) ∨ ((o.d ≠ 0 ∧ ¬ 17 ≤ o.k ∧ o.k ≠ 0 ∧ o.k ≠ 1 ∧ o.k ≠ 2 ∧ o.k ≠ 15 ∧ o.k ≠ 16) ∧ has o.a = true ∧ has o.b = true) := by
      cases has o.a <;> cases has o.b <;> simp <;> omega
    rcases cs with hk | hk | ⟨hd, hk⟩ | ⟨⟨hd, hk⟩, hk1⟩ | ⟨⟨hd, hk⟩, hA⟩ | ⟨⟨hd, hk⟩, hk1, hA⟩ | ⟨⟨hd, hk⟩, hA, hB⟩ | ⟨⟨hd, hk⟩, hA, hB⟩
    · simp (maxSteps := 1000000) (disch := first | assumption | ((try simp only [push_next, put_next, adv_next, List.length_cons, List.length_nil, List.length_map, List.length_set]); omega) | simp) [e6, e8, go, gb, hAt, hBt, hA39, hB39, hD39, hd39, Hp.rdn, -over, over5, o1, hk]
      refine ih (20 - (i + 1)) (by omega) _ _ ⟨i + 1, has, X, fp, rfl, by omega, by omega, NR, by omega, gb, O5, hfp, K5, by simp [e0], by simp [e6], by simp⟩
    · simp (maxSteps := 1000000) (disch := first | assumption | ((try simp only [push_next, put_next, adv_next, List.length_cons, List.length_nil, List.length_map, List.length_set]); omega) | simp) [e6, e8, go, gb, hAt, hBt, hA39, hB39, hD39, hd39, Hp.rdn, -over, over5, o1, hk]
      refine ih (20 - (i + 1)) (by omega) _ _ ⟨i + 1, has, X, fp, rfl, by omega, by omega, NR, by omega, gb, O5, hfp, K5, by simp [e0], by simp [e6], by simp⟩
    · simp (maxSteps := 1000000) (disch := first | assumption | ((try simp only [push_next, put_next, adv_next, List.length_cons, List.length_nil, List.length_map, List.length_set]); omega) | simp) [e6, e8, go, gb, hAt, hBt, hA39, hB39, hD39, hd39, Hp.rdn, -over, over5, o1, hk, hd]
      refine ih (20 - (i + 1)) (by omega) _ _ ⟨i + 1, has, X, fp, rfl, by omega, by omega, NR, by omega, gb, O5, hfp, K5, by simp [e0], by simp [e6], by simp⟩
    · have hk0 : ¬ o.k = 0 := by omega
      simp only [hk1] at go hk hk0
      simp (maxSteps := 1000000) (disch := first | assumption | ((try simp only [push_next, put_next, adv_next, List.length_cons, List.length_nil, List.length_map, List.length_set]); omega) | simp) [e6, e8, go, gb, hAt, hBt, hA39, hB39, hD39, hd39, Hp.rdn, -over, over5, o1, hk, hd, hk0, hk1]
      generalize hH6 : H5.put h.next (some (.cells false ((bls has).set o.d.toNat (.bool true)))) = H6
      have n6 : H5.next = H6.next := by rw [← hH6]; rfl
      have K6 : Kp h H6 := by rw [← hH6]; exact K5.put (Nat.le_refl _) _
      have O6 : Own encOp H6 (e 5) X fp := O5.keep fun b hb => by rw [← hH6, get_put_ne (by have := hfp b hb; omega)]
      have g6 : H6.get h.next = some (.cells false (bls fun c => if c = o.d then true else has c)) := by
        rw [← hH6, get_put_self (lt_of_get gb), bls_set has true ho.1.1 ho.1.2]
      rw [n6]
      refine GV_app1 (E := encOp) (bytes := 40) (x := ⟨1, o.d, o.a, o.b, o.imm⟩) O6 (by omega) (by omega) fun v7 h7 fp7 O7 U7 => ?_
      rw [show (⟨1, o.d, o.a, o.b, o.imm⟩ : IOp) = o from by rw [← hk1]] at O7
      simp (maxSteps := 1000000) (disch := first | assumption | ((try simp only [push_next, put_next, adv_next, List.length_cons, List.length_nil, List.length_map, List.length_set]); omega) | simp) [e8]
      refine ih (20 - (i + 1)) (by omega) _ _ ⟨i + 1, fun c => if c = o.d then true else has c, X ++ [o], fp7, rfl, by omega, by omega, numrow_snoc NR ho (by omega) (by omega) hd (by simp [hk1]) (by simp [hk1]), by simp; omega, ?_, by simpa using O7, fun b hb => ?_, U7.kp' K6 (fun b hb => by have := hfp b hb; omega), by simp [e0], by simp [e6], by simp⟩
      · rw [U7.get _ (lt_of_get g6) (fun hh => by have := hfp _ hh; omega), g6]
      · rcases U7.sub b hb with h8 | h8
        · exact hfp b h8
        · have := K6.le; have := lt_of_get g6; omega
    · rw [hA] at hAt
      simp (maxSteps := 1000000) (disch := first | assumption | ((try simp only [push_next, put_next, adv_next, List.length_cons, List.length_nil, List.length_map, List.length_set]); omega) | simp) [e6, e8, go, gb, hAt, hBt, hA39, hB39, hD39, hd39, Hp.rdn, -over, over5, o1, hk, hd, hA]
      refine ih (20 - (i + 1)) (by omega) _ _ ⟨i + 1, has, X, fp, rfl, by omega, by omega, NR, by omega, gb, O5, hfp, K5, by simp [e0], by simp [e6], by simp⟩
    · rw [hA] at hAt
      rcases hk1 with hk1 | hk1 | hk1
      · simp only [hk1] at go hk
        simp (maxSteps := 1000000) (disch := first | assumption | ((try simp only [push_next, put_next, adv_next, List.length_cons, List.length_nil, List.length_map, List.length_set]); omega) | simp) [e6, e8, go, gb, hAt, hBt, hA39, hB39, hD39, hd39, Hp.rdn, -over, over5, o1, hk, hd, hk1]
        generalize hH6 : H5.put h.next (some (.cells false ((bls has).set o.d.toNat (.bool true)))) = H6
        have n6 : H5.next = H6.next := by rw [← hH6]; rfl
        have K6 : Kp h H6 := by rw [← hH6]; exact K5.put (Nat.le_refl _) _
        have O6 : Own encOp H6 (e 5) X fp := O5.keep fun b hb => by rw [← hH6, get_put_ne (by have := hfp b hb; omega)]
        have g6 : H6.get h.next = some (.cells false (bls fun c => if c = o.d then true else has c)) := by
          rw [← hH6, get_put_self (lt_of_get gb), bls_set has true ho.1.1 ho.1.2]
        rw [n6]
        refine GV_app1 (E := encOp) (bytes := 40) (x := ⟨2, o.d, o.a, o.b, o.imm⟩) O6 (by omega) (by omega) fun v7 h7 fp7 O7 U7 => ?_
        rw [show (⟨2, o.d, o.a, o.b, o.imm⟩ : IOp) = o from by rw [← hk1]] at O7
        simp (maxSteps := 1000000) (disch := first | assumption | ((try simp only [push_next, put_next, adv_next, List.length_cons, List.length_nil, List.length_map, List.length_set]); omega) | simp) [e8]
        refine ih (20 - (i + 1)) (by omega) _ _ ⟨i + 1, fun c => if c = o.d then true else has c, X ++ [o], fp7, rfl, by omega, by omega, numrow_snoc NR ho (by omega) (by omega) hd (by simp [hA]) (by simp [hk1]), by simp; omega, ?_, by simpa using O7, fun b hb => ?_, U7.kp' K6 (fun b hb => by have := hfp b hb; omega), by simp [e0], by simp [e6], by simp⟩
        · rw [U7.get _ (lt_of_get g6) (fun hh => by have := hfp _ hh; omega), g6]
        · rcases U7.sub b hb with h8 | h8
          · exact hfp b h8
          · have := K6.le; have := lt_of_get g6; omega
      · simp only [hk1] at go hk
        simp (maxSteps := 1000000) (disch := first | assumption | ((try simp only [push_next, put_next, adv_next, List.length_cons, List.length_nil, List.length_map, List.length_set]); omega) | simp) [e6, e8, go, gb, hAt, hBt, hA39, hB39, hD39, hd39, Hp.rdn, -over, over5, o1, hk, hd, hk1]
        generalize hH6 : H5.put h.next (some (.cells false ((bls has).set o.d.toNat (.bool true)))) = H6
        have n6 : H5.next = H6.next := by rw [← hH6]; rfl
        have K6 : Kp h H6 := by rw [← hH6]; exact K5.put (Nat.le_refl _) _
        have O6 : Own encOp H6 (e 5) X fp := O5.keep fun b hb => by rw [← hH6, get_put_ne (by have := hfp b hb; omega)]
        have g6 : H6.get h.next = some (.cells false (bls fun c => if c = o.d then true else has c)) := by
          rw [← hH6, get_put_self (lt_of_get gb), bls_set has true ho.1.1 ho.1.2]
        rw [n6]
        refine GV_app1 (E := encOp) (bytes := 40) (x := ⟨15, o.d, o.a, o.b, o.imm⟩) O6 (by omega) (by omega) fun v7 h7 fp7 O7 U7 => ?_
        rw [show (⟨15, o.d, o.a, o.b, o.imm⟩ : IOp) = o from by rw [← hk1]] at O7
        simp (maxSteps := 1000000) (disch := first | assumption | ((try simp only [push_next, put_next, adv_next, List.length_cons, List.length_nil, List.length_map, List.length_set]); omega) | simp) [e8]
        refine ih (20 - (i + 1)) (by omega) _ _ ⟨i + 1, fun c => if c = o.d then true else has c, X ++ [o], fp7, rfl, by omega, by omega, numrow_snoc NR ho (by omega) (by omega) hd (by simp [hA]) (by simp [hk1]), by simp; omega, ?_, by simpa using O7, fun b hb => ?_, U7.kp' K6 (fun b hb => by have := hfp b hb; omega), by simp [e0], by simp [e6], by simp⟩
        · rw [U7.get _ (lt_of_get g6) (fun hh => by have := hfp _ hh; omega), g6]
        · rcases U7.sub b hb with h8 | h8
          · exact hfp b h8
          · have := K6.le; have := lt_of_get g6; omega
      · simp only [hk1] at go hk
        simp (maxSteps := 1000000) (disch := first | assumption | ((try simp only [push_next, put_next, adv_next, List.length_cons, List.length_nil, List.length_map, List.length_set]); omega) | simp) [e6, e8, go, gb, hAt, hBt, hA39, hB39, hD39, hd39, Hp.rdn, -over, over5, o1, hk, hd, hk1]
        generalize hH6 : H5.put h.next (some (.cells false ((bls has).set o.d.toNat (.bool true)))) = H6
        have n6 : H5.next = H6.next := by rw [← hH6]; rfl
        have K6 : Kp h H6 := by rw [← hH6]; exact K5.put (Nat.le_refl _) _
        have O6 : Own encOp H6 (e 5) X fp := O5.keep fun b hb => by rw [← hH6, get_put_ne (by have := hfp b hb; omega)]
        have g6 : H6.get h.next = some (.cells false (bls fun c => if c = o.d then true else has c)) := by
          rw [← hH6, get_put_self (lt_of_get gb), bls_set has true ho.1.1 ho.1.2]
        rw [n6]
        refine GV_app1 (E := encOp) (bytes := 40) (x := ⟨16, o.d, o.a, o.b, o.imm⟩) O6 (by omega) (by omega) fun v7 h7 fp7 O7 U7 => ?_
        rw [show (⟨16, o.d, o.a, o.b, o.imm⟩ : IOp) = o from by rw [← hk1]] at O7
        simp (maxSteps := 1000000) (disch := first | assumption | ((try simp only [push_next, put_next, adv_next, List.length_cons, List.length_nil, List.length_map, List.length_set]); omega) | simp) [e8]
        refine ih (20 - (i + 1)) (by omega) _ _ ⟨i + 1, fun c => if c = o.d then true else has c, X ++ [o], fp7, rfl, by omega, by omega, numrow_snoc NR ho (by omega) (by omega) hd (by simp [hA]) (by simp [hk1]), by simp; omega, ?_, by simpa using O7, fun b hb => ?_, U7.kp' K6 (fun b hb => by have := hfp b hb; omega), by simp [e0], by simp [e6], by simp⟩
        · rw [U7.get _ (lt_of_get g6) (fun hh => by have := hfp _ hh; omega), g6]
        · rcases U7.sub b hb with h8 | h8
          · exact hfp b h8
          · have := K6.le; have := lt_of_get g6; omega
    · rw [hA] at hAt
      rw [hB] at hBt
      simp (maxSteps := 1000000) (disch := first | assumption | ((try simp only [push_next, put_next, adv_next, List.length_cons, List.length_nil, List.length_map, List.length_set]); omega) | simp) [e6, e8, go, gb, hAt, hBt, hA39, hB39, hD39, hd39, Hp.rdn, -over, over5, o1, hk, hd]
      refine ih (20 - (i + 1)) (by omega) _ _ ⟨i + 1, has, X, fp, rfl, by omega, by omega, NR, by omega, gb, O5, hfp, K5, by simp [e0], by simp [e6], by simp⟩
    · rw [hA] at hAt
      rw [hB] at hBt
      simp (maxSteps := 1000000) (disch := first | assumption | ((try simp only [push_next, put_next, adv_next, List.length_cons, List.length_nil, List.length_map, List.length_set]); omega) | simp) [e6, e8, go, gb, hAt, hBt, hA39, hB39, hD39, hd39, Hp.rdn, -over, over5, o1, hk, hd]
      generalize hH6 : H5.put h.next (some (.cells false ((bls has).set o.d.toNat (.bool true)))) = H6
      have n6 : H5.next = H6.next := by rw [← hH6]; rfl
      have K6 : Kp h H6 := by rw [← hH6]; exact K5.put (Nat.le_refl _) _
      have O6 : Own encOp H6 (e 5) X fp := O5.keep fun b hb => by rw [← hH6, get_put_ne (by have := hfp b hb; omega)]
      have g6 : H6.get h.next = some (.cells false (bls fun c => if c = o.d then true else has c)) := by
        rw [← hH6, get_put_self (lt_of_get gb), bls_set has true ho.1.1 ho.1.2]
      rw [n6]
      refine GV_app1 (E := encOp) (bytes := 40) (x := o) O6 (by omega) (by omega) fun v7 h7 fp7 O7 U7 => ?_
      simp (maxSteps := 1000000) (disch := first | assumption | ((try simp only [push_next, put_next, adv_next, List.length_cons, List.length_nil, List.length_map, List.length_set]); omega) | simp) [e8]
      refine ih (20 - (i + 1)) (by omega) _ _ ⟨i + 1, fun c => if c = o.d then true else has c, X ++ [o], fp7, rfl, by omega, by omega, numrow_snoc NR ho (by omega) (by omega) hd (by simp [hA]) (by simp [hB]), by simp; omega, ?_, by simpa using O7, fun b hb => ?_, U7.kp' K6 (fun b hb => by have := hfp b hb; omega), by simp [e0], by simp [e6], by simp⟩
      · rw [U7.get _ (lt_of_get g6) (fun hh => by have := hfp _ hh; omega), g6]
      · rcases U7.sub b hb with h8 | h8
        · exact hfp b h8
        · have := K6.le; have := lt_of_get g6; omega
  by_cases h5 : i < 5
  · have hm5 : ¬ i < m.length := fun hh => hgo ⟨h5, hh⟩
    have h5' : (i : Int) < 5 := by omega
    have hm5' : ¬ (i : Int) < m.length := by omega
    simp (maxSteps := 1000000) (disch := first | assumption | ((try simp only [push_next, put_next, adv_next, List.length_cons, List.length_nil, List.length_map, List.length_set]); omega) | simp) [e1, e7, h5, h5', hm5, hm5', -g9_pianolalaw20_OptFolds]
    exact go9 _ (by simp) (by simp) (by simp)
  · have h5' : ¬ (i : Int) < 5 := by omega
    simp (maxSteps := 1000000) (disch := first | assumption | ((try simp only [push_next, put_next, adv_next, List.length_cons, List.length_nil, List.length_map, List.length_set]); omega) | simp) [e1, e7, h5, h5', -g9_pianolalaw20_OptFolds]
    exact go9 _ (by simp) (by simp) (by simp)
end
end Go.Proofs.Ytjobkhnanbkcjaa.Cd
