/- The wheel's laws. -/
import Derived.Test.YtppgoobhlcdbbaaWheelR
set_option maxRecDepth 1000000
set_option linter.unusedSimpArgs false
set_option linter.unusedVariables false
namespace Go.Proofs.Ytppgoobhlcdbbaa.Cd
open Go Go.Dx
section
variable {h : Hp}
theorem warmI {w : Nat} {L : List Ev} {s d t : Int} {fp : List Nat} {q : Value → Hp → Prop} (W : Wh h w L s fp) (I : WI L)
    (hno : wbad d t = true → q (.bool false) h) (hyes : wbad d t = false → ∀ h' fp', WI (insl (·.at') ⟨t, d, s⟩ (wcan d L)) → Wh h' w (insl (·.at') ⟨t, d, s⟩ (wcan d L)) (IntKind.i64.wrap (s + 1)) fp' → Upd h h' (w :: fp) (w :: fp') → q (.bool true) h') : WC T n_wheel_Wheel_Arm [ptr w 0, .int .i64 d, .int .i64 t] h q := by
  have h1 := I.len
  have h2 := (I.can d).len
  exact warm W (by omega) (by omega) I.srt hno fun hb h' fp' W' U' => hyes hb h' fp' (I.arm hb) W' U'
theorem wknown : WC T n_pianolalaw9_known [] h fun v h' => v = .bool true ∧ Kp h h' := by
  rw [w_pianolalaw9_known]
  simp (disch := first | assumption | ((try simp only [push_next, put_next, adv_next, List.length_cons, List.length_nil]); omega) | simp) [GC_of (fun q => wnew)]
  have W0 := Wh.new (h := h)
  have K0 : Kp h (h.push (.cells false [.slice none 0 0, .int .i64 0])) := (Kp.refl h).push _
  generalize h.push (.cells false [.slice none 0 0, .int .i64 0]) = h0 at *
  have e1 : insl (·.at') (⟨5, 1, 0⟩ : Ev) (wcan 1 []) = [⟨5, 1, 0⟩] := rfl
  have e2 : insl (·.at') (⟨5, 2, 1⟩ : Ev) (wcan 2 [⟨5, 1, 0⟩]) = [⟨5, 1, 0⟩, ⟨5, 2, 1⟩] := rfl
  refine warmI W0 .nil (fun hb => by simp [wbad] at hb) fun _ h1 fp1 I1 W1 U1 => ?_
  rw [e1] at I1 W1
  have W1' : Wh h1 h.next [⟨5, 1, 0⟩] 1 fp1 := W1
  have K1 := U1.kp' K0 (by simp)
  simp (disch := first | assumption | ((try simp only [push_next, put_next, adv_next, List.length_cons, List.length_nil]); omega) | simp)
  refine warmI W1' I1 (fun hb => by simp [wbad] at hb) fun _ h2 fp2 I2 W2 U2 => ?_
  rw [e2] at I2 W2
  have hf1 : ∀ b ∈ h.next :: fp1, h.next ≤ b := fun b hb => by
    rcases U1.sub b hb with h5 | h5
    · simp at h5; omega
    · have := K0.le; omega
  have K2 := U2.kp' K1 hf1
  have hf2 : ∀ b ∈ h.next :: fp2, h.next ≤ b := fun b hb => by
    rcases U2.sub b hb with h5 | h5
    · exact hf1 b h5
    · have := K1.le; omega
  simp (disch := first | assumption | ((try simp only [push_next, put_next, adv_next, List.length_cons, List.length_nil]); omega) | simp)
  refine warmI W2 I2 (fun hb => ?_) fun hb => by simp [wbad] at hb
  simp (disch := first | assumption | ((try simp only [push_next, put_next, adv_next, List.length_cons, List.length_nil]); omega) | simp)
  refine wtake W2 (by simp) (fun _ h3 K3 => ?_) fun x B hx hle => by simp at hx; obtain ⟨rfl, _⟩ := hx; simp at hle
  have K3' := K2.trans K3
  simp (disch := first | assumption | ((try simp only [push_next, put_next, adv_next, List.length_cons, List.length_nil]); omega) | simp)
  have K4 : Kp h ((h3.push (.cells false [.int .i64 0, .int .i64 0, .int .i64 0])).put h3.next (some (.cells false [.int .i64 0, .int .i64 0, .int .i64 0]))) := (K3'.push _).put K3'.le _
  have W4 : Wh ((h3.push (.cells false [.int .i64 0, .int .i64 0, .int .i64 0])).put h3.next (some (.cells false [.int .i64 0, .int .i64 0, .int .i64 0]))) h.next _ _ fp2 := (W2.kp K3).kp (((Kp.refl h3).push _).put (Nat.le_refl _) _)
  generalize (h3.push (.cells false [.int .i64 0, .int .i64 0, .int .i64 0])).put h3.next (some (.cells false [.int .i64 0, .int .i64 0, .int .i64 0])) = h4 at *
  refine wtake W4 (by simp) (fun hlt => by simp at hlt) fun x B hx hle h5 fp5 W5 U5 => ?_
  simp at hx
  obtain ⟨rfl, rfl⟩ := hx
  have K5 := U5.kp' K4 hf2
  simp (disch := first | assumption | ((try simp only [push_next, put_next, adv_next, List.length_cons, List.length_nil]); omega) | simp) [encEv]
  have K6 : Kp h5 ((h5.push (.cells false [.int .i64 0, .int .i64 0, .int .i64 0])).put h5.next (some (.cells false [.int .i64 5, .int .i64 1, .int .i64 0]))) := ((Kp.refl h5).push _).put (Nat.le_refl _) _
  have W6 := W5.kp K6
  have K6' := K5.trans K6
  generalize (h5.push (.cells false [.int .i64 0, .int .i64 0, .int .i64 0])).put h5.next (some (.cells false [.int .i64 5, .int .i64 1, .int .i64 0])) = h6 at *
  refine wall W6 (by simp) fun a c h7 s7 K7 => ?_
  simp (disch := first | assumption | ((try simp only [push_next, put_next, adv_next, List.length_cons, List.length_nil]); omega) | simp)
  exact K6'.trans K7
theorem mod50 (a : Int) : -50 < a.tmod 50 ∧ a.tmod 50 < 50 ∧ 0 ≤ (a.tmod 50 + 50).tmod 50 ∧ (a.tmod 50 + 50).tmod 50 < 50 := by
  have h1 := Int.tmod_lt_of_pos a (show (0 : Int) < 50 by decide)
  have h2 := Int.tmod_lt_of_pos (-a) (show (0 : Int) < 50 by decide)
  rw [Int.neg_tmod] at h2
  exact ⟨by omega, h1, Int.tmod_nonneg _ (by omega), Int.tmod_lt_of_pos _ (by decide)⟩
theorem fpUp {g h h' : Hp} {w : Nat} {fp fp' : List Nat} (hf : ∀ b ∈ w :: fp, g.next ≤ b) (K : Kp g h) (U : Upd h h' (w :: fp) (w :: fp')) : (∀ b ∈ w :: fp', g.next ≤ b) ∧ Kp g h' := ⟨fun b hb => by
  rcases U.sub b hb with h5 | h5
  · exact hf b h5
  · have := K.le; omega, U.kp' K hf⟩
/-- A struct laid anew: what it takes. -/
theorem kp_laid {g h : Hp} (K : Kp g h) (o p : Ob) : Kp g ((h.push o).put h.next (some p)) := (K.push _).put K.le _
theorem Wh.laid {h : Hp} {w : Nat} {L : List Ev} {s : Int} {fp : List Nat} (W : Wh h w L s fp) (o p : Ob) : Wh ((h.push o).put h.next (some p)) w L s fp := W.kp (kp_laid (Kp.refl h) o p)
theorem anew {a b : Int} {cancel : Bool} : WC T n_pianolalaw9_WheelAnew [.int .i64 a, .int .i64 b, .bool cancel] h fun v h' => v = .bool true := by
  obtain ⟨a1, a2, a3, a4⟩ := mod50 a
  obtain ⟨b1, b2, b3, b4⟩ := mod50 b
  rw [w_pianolalaw9_WheelAnew]
  simp (disch := first | assumption | ((try simp only [push_next, put_next, adv_next, List.length_cons, List.length_nil]); omega) | simp) [GC_of (fun q => wnew)]
  generalize (a.tmod 50 + 50).tmod 50 = x at *
  generalize (b.tmod 50 + 50).tmod 50 = y at *
  have W0 := Wh.new (h := h)
  have K0 : Kp h (h.push (.cells false [.slice none 0 0, .int .i64 0])) := (Kp.refl h).push _
  have f0 : ∀ b ∈ h.next :: ([] : List Nat), h.next ≤ b := by simp
  generalize h.push (.cells false [.slice none 0 0, .int .i64 0]) = h0 at *
  refine warmI W0 .nil (fun hb => by simp [wbad] at hb; omega) fun _ h1 fp1 I1 W1 U1 => ?_
  have e1 : insl (·.at') (⟨x, 1, 0⟩ : Ev) (wcan 1 []) = [⟨x, 1, 0⟩] := rfl
  rw [e1] at I1 W1
  obtain ⟨f1, K1⟩ := fpUp f0 K0 U1
  simp (disch := first | assumption | ((try simp only [push_next, put_next, adv_next, List.length_cons, List.length_nil]); omega) | simp)
  refine warmI W1 I1 (fun hb => by simp [wbad] at hb; omega) fun _ h2 fp2 I2 W2 U2 => ?_
  obtain ⟨f2, K2⟩ := fpUp f1 K1 U2
  have e2 : wcan 1 (insl (·.at') (⟨y, 2, IntKind.i64.wrap (0 + 1)⟩ : Ev) (wcan 2 [⟨x, 1, 0⟩])) = [⟨y, 2, 1⟩] := by
    have : wcan 2 [(⟨x, 1, 0⟩ : Ev)] = [⟨x, 1, 0⟩] := rfl
    rw [this]
    by_cases hxy : y < x
    · rw [show [(⟨x, 1, 0⟩ : Ev)] = [] ++ [⟨x, 1, 0⟩] from rfl, insl_lt (key := fun e : Ev => e.at') (x := ⟨y, 2, IntKind.i64.wrap (0 + 1)⟩) [] hxy]
      rfl
    · rw [show [(⟨x, 1, 0⟩ : Ev)] = [] ++ [⟨x, 1, 0⟩] from rfl, insl_le (key := fun e : Ev => e.at') (x := ⟨y, 2, IntKind.i64.wrap (0 + 1)⟩) [] hxy]
      rfl
  simp (disch := first | assumption | ((try simp only [push_next, put_next, adv_next, List.length_cons, List.length_nil]); omega) | simp)
  refine warmI W2 I2 (fun hb => by simp [wbad] at hb; omega) fun _ h3 fp3 I3 W3 U3 => ?_
  obtain ⟨f3, K3⟩ := fpUp f2 K2 U3
  rw [e2] at I3 W3
  have e3 : insl (·.at') (⟨y, 1, IntKind.i64.wrap (IntKind.i64.wrap (0 + 1) + 1)⟩ : Ev) [⟨y, 2, 1⟩] = [⟨y, 2, 1⟩, ⟨y, 1, 2⟩] := by
    rw [show [(⟨y, 2, 1⟩ : Ev)] = [] ++ [⟨y, 2, 1⟩] from rfl, insl_le (key := fun e : Ev => e.at') (x := ⟨y, 1, IntKind.i64.wrap (IntKind.i64.wrap (0 + 1) + 1)⟩) [] (by simp)]
    rfl
  rw [e3] at I3 W3
  generalize IntKind.i64.wrap (IntKind.i64.wrap (IntKind.i64.wrap (0 + 1) + 1) + 1) = s3 at W3
  simp (disch := first | assumption | ((try simp only [push_next, put_next, adv_next, List.length_cons, List.length_nil]); omega) | simp)
  have y60 : y ≤ 60 := by omega
  have last : ∀ (e : Env) (h6 : Hp) (L : List Ev) (fp6 : List Nat) (c : Bool), Wh h6 h.next L s3 fp6 → L = (if c = true then [⟨y, 2, 1⟩] else [⟨y, 2, 1⟩, ⟨y, 1, 2⟩]) → e 2 = .bool c → e 7 = ptr h.next 0 → e 8 = .int .i64 x → e 9 = .int .i64 y → G T (fin [RV.t 6] (some []) h.next fun v h' => v = .bool true) c3_pianolalaw9_WheelAnew [] e h6 := by
    intro e h6 L fp6 c W6 hL e2 e7 e8 e9
    simp (disch := first | assumption | ((try simp only [push_next, put_next, adv_next, List.length_cons, List.length_nil]); omega) | simp) [e7]
    have hlen : L.length < 2 ^ 40 := by rw [hL]; split <;> simp
    refine wtake W6 hlen (fun hno => ?_) fun z B hz hle h7 fp7 W7 U7 => ?_
    · have := hno ⟨y, 2, 1⟩ (by rw [hL]; split <;> simp)
      simp at this
      omega
    · have hzy : z = ⟨y, 2, 1⟩ := by rw [hL] at hz; split at hz <;> simp at hz <;> exact hz.1.symm
      subst hzy
      simp (disch := first | assumption | ((try simp only [push_next, put_next, adv_next, List.length_cons, List.length_nil]); omega) | simp) [e2, e7, e8, e9, encEv]
      have W8 := W7.laid (.cells false [.int .i64 0, .int .i64 0, .int .i64 0]) (.cells false [.int .i64 y, .int .i64 2, .int .i64 1])
      have z8 : ((h7.push (.cells false [.int .i64 0, .int .i64 0, .int .i64 0])).put h7.next (some (.cells false [.int .i64 y, .int .i64 2, .int .i64 1]))).get h7.next = some (.cells false [.int .i64 y, .int .i64 2, .int .i64 1]) := get_put_self (by simp)
      generalize (h7.push (.cells false [.int .i64 0, .int .i64 0, .int .i64 0])).put h7.next (some (.cells false [.int .i64 y, .int .i64 2, .int .i64 1])) = h8 at *
      have hBl : B.length < 2 ^ 40 := by rw [hz] at hlen; simp at hlen; omega
      cases c with
      | true =>
        have hB : B = [] := by simp [hz] at hL; exact hL
        subst hB
        refine wtake W8 (by simp) (fun hno h9 K9 => ?_) fun z B hz' => by simp at hz'
        have W9 := (W8.kp K9).laid (.cells false [.int .i64 0, .int .i64 0, .int .i64 0]) (.cells false [.int .i64 0, .int .i64 0, .int .i64 0])
        simp (disch := first | assumption | ((try simp only [push_next, put_next, adv_next, List.length_cons, List.length_nil]); omega) | simp) [e2, e7, e8, e9]
        generalize (h9.push (.cells false [.int .i64 0, .int .i64 0, .int .i64 0])).put h9.next (some (.cells false [.int .i64 0, .int .i64 0, .int .i64 0])) = h10 at *
        refine wall W9 (by simp) fun a c h7 s7 K7 => ?_
        simp (disch := first | assumption | ((try simp only [push_next, put_next, adv_next, List.length_cons, List.length_nil]); omega) | simp)
        exact GC_intro wknown fun v h hv => by simp (disch := first | assumption | ((try simp only [push_next, put_next, adv_next, List.length_cons, List.length_nil]); omega) | simp) [hv.1]
      | false =>
        have hB : B = [⟨y, 1, 2⟩] := by simp [hz] at hL; exact hL
        subst hB
        refine wtake W8 (by simp) (fun hno => ?_) fun z B hz hle h9 fp9 W9 U9 => ?_
        · have := hno ⟨y, 1, 2⟩ (by simp)
          simp at this
          omega
        · simp at hz
          obtain ⟨rfl, rfl⟩ := hz
          have W10 := W9.laid (.cells false [.int .i64 0, .int .i64 0, .int .i64 0]) (.cells false [.int .i64 y, .int .i64 1, .int .i64 2])
          simp (disch := first | assumption | ((try simp only [push_next, put_next, adv_next, List.length_cons, List.length_nil]); omega) | simp) [e2, e7, e8, e9, encEv]
          generalize (h9.push (.cells false [.int .i64 0, .int .i64 0, .int .i64 0])).put h9.next (some (.cells false [.int .i64 y, .int .i64 1, .int .i64 2])) = h10 at *
          refine wall W10 (by simp) fun a c h7 s7 K7 => ?_
          simp (disch := first | assumption | ((try simp only [push_next, put_next, adv_next, List.length_cons, List.length_nil]); omega) | simp)
          exact GC_intro wknown fun v h hv => by simp (disch := first | assumption | ((try simp only [push_next, put_next, adv_next, List.length_cons, List.length_nil]); omega) | simp) [hv.1]
  cases cancel with
  | false =>
    simp (disch := first | assumption | ((try simp only [push_next, put_next, adv_next, List.length_cons, List.length_nil]); omega) | simp) [-g3_pianolalaw9_WheelAnew]
    exact last _ _ _ _ false W3 (by simp) (by simp) (by simp) (by simp) (by simp)
  | true =>
    simp (disch := first | assumption | ((try simp only [push_next, put_next, adv_next, List.length_cons, List.length_nil]); omega) | simp) [-g3_pianolalaw9_WheelAnew]
    refine wcancel W3 (by simp) fun h4 fp4 W4 U4 => ?_
    have e4 : wcan 1 [(⟨y, 2, 1⟩ : Ev), ⟨y, 1, 2⟩] = [⟨y, 2, 1⟩] ∧ whas 1 [(⟨y, 2, 1⟩ : Ev), ⟨y, 1, 2⟩] = true := ⟨rfl, rfl⟩
    rw [e4.1] at W4
    rw [e4.2]
    simp (disch := first | assumption | ((try simp only [push_next, put_next, adv_next, List.length_cons, List.length_nil]); omega) | simp) [-g3_pianolalaw9_WheelAnew]
    refine wcancel W4 (by simp) fun h5 fp5 W5 U5 => ?_
    have e5 : wcan 1 [(⟨y, 2, 1⟩ : Ev)] = [⟨y, 2, 1⟩] ∧ whas 1 [(⟨y, 2, 1⟩ : Ev)] = false := ⟨rfl, rfl⟩
    rw [e5.1] at W5
    rw [e5.2]
    simp (disch := first | assumption | ((try simp only [push_next, put_next, adv_next, List.length_cons, List.length_nil]); omega) | simp) [-g3_pianolalaw9_WheelAnew]
    exact last _ _ _ _ true W5 (by simp) (by simp) (by simp) (by simp) (by simp)
end
end Go.Proofs.Ytppgoobhlcdbbaa.Cd
