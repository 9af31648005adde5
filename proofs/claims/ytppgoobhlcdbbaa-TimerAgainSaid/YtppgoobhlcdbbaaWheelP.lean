/- The wheel against the document, for any calls. -/
import Derived.Test.YtppgoobhlcdbbaaWheelL
set_option maxRecDepth 1000000
set_option linter.unusedSimpArgs false
set_option linter.unusedVariables false
namespace Go.Proofs.Ytppgoobhlcdbbaa.Cd
open Go Go.Dx
structure WAsk where
  k : Int
  d : Int
  t : Int
def encWA : Enc WAsk := ⟨3, fun x => [.int .i64 x.k, .int .i64 x.d, .int .i64 x.t], fun _ => rfl, fun _ => rfl, by decide⟩
/-- Two wheels side by side. -/
structure WP (g h : Hp) (w m : Nat) (L M : List Ev) (s u : Int) (fw fm : List Nat) : Prop where
  ww : Wh h w L s fw
  mm : Wh h m M u fm
  dis : ∀ b ∈ w :: fw, b ∉ m :: fm
  kp : Kp g h
  gw : ∀ b ∈ w :: fw, g.next ≤ b
  gm : ∀ b ∈ m :: fm, g.next ≤ b
section
variable {g h h' : Hp} {w m : Nat} {L M L' : List Ev} {s u s' : Int} {fw fm fw' : List Nat}
theorem WP.sym (P : WP g h w m L M s u fw fm) : WP g h m w M L u s fm fw := ⟨P.mm, P.ww, fun b hb hc => P.dis b hc hb, P.kp, P.gm, P.gw⟩
theorem WP.step (P : WP g h w m L M s u fw fm) (W : Wh h' w L' s' fw') (U : Upd h h' (w :: fw) (w :: fw')) : WP g h' w m L' M s' u fw' fm := by
  obtain ⟨f1, K1⟩ := fpUp P.gw P.kp U
  refine ⟨W, P.mm.keep fun b hb => U.get b (P.mm.live b hb) fun hc => P.dis b hc hb, fun b hb hc => ?_, K1, f1, P.gm⟩
  rcases U.sub b hb with h5 | h5
  · exact P.dis b h5 hc
  · have := P.mm.live b hc; omega
theorem WP.more (P : WP g h w m L M s u fw fm) (K : Kp h h') : WP g h' w m L M s u fw fm := ⟨P.ww.kp K, P.mm.kp K, P.dis, P.kp.trans K, P.gw, P.gm⟩
/-- A place beside both. -/
def Off (h : Hp) (w m : Nat) (fw fm : List Nat) (y : Nat) (o : Ob) : Prop := h.get y = some o ∧ y ∉ w :: fw ∧ y ∉ m :: fm
theorem Off.sym {y : Nat} {o : Ob} (F : Off h w m fw fm y o) : Off h m w fm fw y o := ⟨F.1, F.2.2, F.2.1⟩
theorem Off.step {y : Nat} {o : Ob} (F : Off h w m fw fm y o) (U : Upd h h' (w :: fw) (w :: fw')) : Off h' w m fw' fm y o := by
  have hy := lt_of_get F.1
  refine ⟨by rw [U.get y hy F.2.1, F.1], fun hc => ?_, F.2.2⟩
  rcases U.sub y hc with h5 | h5
  · exact F.2.1 h5
  · omega
theorem Off.more {y : Nat} {o : Ob} (F : Off h w m fw fm y o) (K : Kp h h') : Off h' w m fw fm y o := ⟨by rw [K.get y (lt_of_get F.1), F.1], F.2⟩
theorem WP.put {y : Nat} {o : Ob} (P : WP g h w m L M s u fw fm) (F : Off h w m fw fm y o) (hy : g.next ≤ y) (p : Ob) : WP g (h.put y (some p)) w m L M s u fw fm ∧ Off (h.put y (some p)) w m fw fm y p :=
  ⟨⟨P.ww.keep fun b hb => get_put_ne fun e => F.2.1 (e ▸ hb), P.mm.keep fun b hb => get_put_ne fun e => F.2.2 (e ▸ hb), P.dis, P.kp.put hy _, P.gw, P.gm⟩, get_put_self (lt_of_get F.1), F.2⟩
theorem play {a : Option Addr} {c : Nat} {xs : List WAsk} {near : Bool} (hs : Sees encWA g a xs) (hb : xs.length ≤ 9223372036854775807) : WC T n_pianolalaw9_play [.slice a xs.length c, .bool near] g fun v h' => v = .bool true ∧ Kp g h' := by
  rw [w_pianolalaw9_play]
  simp (disch := first | assumption | ((try simp only [push_next, put_next, adv_next, List.length_cons, List.length_nil]); omega) | simp) [GC_of (fun q => wnew)]
  have P0 : WP g ((g.push (.cells false [.slice none 0 0, .int .i64 0])).push (.cells false [.slice none 0 0, .int .i64 0])) g.next (g.next + 1) [] [] 0 0 [] [] :=
    ⟨Wh.new.kp ((Kp.refl _).push _), Wh.new, by simp, ((Kp.refl g).push _).push _, by simp, by simp⟩
  generalize (g.push (.cells false [.slice none 0 0, .int .i64 0])).push (.cells false [.slice none 0 0, .int .i64 0]) = h0 at *
  refine G_loop (fun n e h => ∃ (i : Nat) (L : List Ev) (s : Int) (fw fm : List Nat), n = 80 - i ∧ i ≤ 80 ∧ i ≤ xs.length ∧ WP g h g.next (g.next + 1) L L s s fw fm ∧ WI L ∧ e 0 = .slice a xs.length c ∧ e 1 = .bool near ∧ e 5 = ptr g.next 0 ∧ e 6 = ptr (g.next + 1) 0 ∧ e 7 = .int .i64 i) ?_ 80 _ _ ⟨0, [], 0, [], [], rfl, by omega, by omega, P0, .nil, by simp, by simp, by simp, by simp, by simp⟩
  rintro n ih e h ⟨i, L, s, fw, fm, rfl, hi, hl, P, I, e0, e1, e5, e6, e7⟩
  by_cases hlt : i < xs.length
  case neg =>
    have hlt' : ¬ ((i : Int) < xs.length) := by omega
    simp (disch := first | assumption | ((try simp only [push_next, put_next, adv_next, List.length_cons, List.length_nil]); omega) | simp) [e0, e7, hlt', e5]
    exact P.kp
  by_cases h80 : i < 80
  case neg =>
    have hlt' : ((i : Int) < xs.length) := by omega
    have h80' : ¬ ((i : Int) < 80) := by omega
    simp (disch := first | assumption | ((try simp only [push_next, put_next, adv_next, List.length_cons, List.length_nil]); omega) | simp) [e0, e7, hlt', h80', e5]
    exact P.kp
  have hlt' : ((i : Int) < xs.length) := by omega
  have h80' : (i : Int) < 80 := by omega
  obtain ⟨A, rfl, hr⟩ := hs.at' i hlt
  generalize xs[i] = x at hr
  have hr' : h.rdn A.block (A.off + i * 3) 3 = some (encWA.enc x) := rdn_kp hr (P.kp.get _ (lt_of_rdn hr))
  obtain ⟨k, d, t⟩ := x
  simp (disch := first | assumption | ((try simp only [push_next, put_next, adv_next, List.length_cons, List.length_nil]); omega) | simp) [e0, e5, e7, hlt', h80', -g12_pianolalaw9_play]
  refine G_mid (fun e h => ∃ (L : List Ev) (s : Int) (fw fm : List Nat), WP g h g.next (g.next + 1) L L s s fw fm ∧ WI L ∧ e 0 = .slice (some A) xs.length c ∧ e 1 = .bool near ∧ e 5 = ptr g.next 0 ∧ e 6 = ptr (g.next + 1) 0 ∧ e 7 = .int .i64 i) ?_ ?_
  case refine_2 =>
    rintro e h ⟨L, s, fw, fm, P, I, e0, e1, e5, e6, e7⟩
    simp (disch := first | assumption | ((try simp only [push_next, put_next, adv_next, List.length_cons, List.length_nil]); omega) | simp) [e7]
    apply ih (80 - (i + 1)) (by omega)
    exact ⟨i + 1, L, s, fw, fm, rfl, by omega, by omega, P, I, by simp [e0], by simp [e1], by simp [e5], by simp [e6], by simp⟩
  intro S hS
  have hxx := hr'
  clear hxx
  have tail : ∀ (e : Env) (h : Hp) (y : Nat) (k d t : Int) (L : List Ev) (s : Int) (fw fm : List Nat), WP g h g.next (g.next + 1) L L s s fw fm → WI L → Off h g.next (g.next + 1) fw fm y (.cells false [.int .i64 k, .int .i64 d, .int .i64 t]) → e 0 = .slice (some A) xs.length c → e 1 = .bool near → e 5 = ptr g.next 0 → e 6 = ptr (g.next + 1) 0 → e 7 = .int .i64 i → e 8 = ptr y 0 → G T (EndN S) c11_pianolalaw9_play [] e h := by
    intro e h y k d t L s fw fm P I F e0 e1 e5 e6 e7 e8
    have hlen := I.len
    simp (disch := first | assumption | ((try simp only [push_next, put_next, adv_next, List.length_cons, List.length_nil]); omega) | simp) [e5, e8, F.1]
    refine wat P.ww (by omega) fun h1 K1 => ?_
    have P1 := P.more K1
    have F1 := F.more K1
    simp (disch := first | assumption | ((try simp only [push_next, put_next, adv_next, List.length_cons, List.length_nil]); omega) | simp) [e5, e6, e8, F1.1]
    refine rat P1.mm (by omega) ?_
    simp (disch := first | assumption | ((try simp only [push_next, put_next, adv_next, List.length_cons, List.length_nil]); omega) | simp) [e5, e6, e8, F1.1, GC_of (fun q => wnext P1.ww)]
    obtain ⟨sl, g1, o1⟩ := P1.mm.ex
    obtain ⟨a1, c1, rfl, hsee, hc1, _⟩ := o1.len
    have fin : ∀ e, e 0 = .slice (some A) xs.length c → e 1 = .bool near → e 5 = ptr g.next 0 → e 6 = ptr (g.next + 1) 0 → e 7 = .int .i64 i → e 13 = e 15 → e 14 = e 16 → e 17 = .int .i64 (L.head?.elim 0 (·.at')) → e 19 = .int .i64 (L.head?.elim 0 (·.at')) → e 18 = .bool (!L.isEmpty) → e 13 = .int .i64 ((L.find? fun x => decide (x.dev = d)).elim 0 (·.at')) → e 14 = .bool (whas d L) → G T (EndN S) c8_pianolalaw9_play [] e h1 := by
      intro e e0 e1 e5 e6 e7 e13 e14 e17 e19 e18 f13 f14
      have hem : (0 : Int) < L.length ↔ L.isEmpty = false := by cases L <;> simp <;> omega
      have e15 := e13.symm.trans f13
      have e16 := e14.symm.trans f14
      have hnn : L ≠ [] → (0 : Int) < L.length := fun hne => by
        have := List.length_pos_iff.2 hne
        omega
      have key : WC T n_wheel_Wheel_All [ptr g.next 0] h1 fun v h2 => ∃ a2 c2, v = .slice a2 L.length c2 ∧ Sees encEv h2 a2 L ∧ Kp h1 h2 := wall P1.ww (by omega) fun a2 c2 h2 s2 K2 => ⟨a2, c2, rfl, s2, K2⟩
      have rest : ∀ (v : Value) (h2 : Hp), (∃ a2 c2, v = .slice a2 L.length c2 ∧ Sees encEv h2 a2 L ∧ Kp h1 h2) → h2.get (g.next + 1) = some (.cells false [.slice a1 L.length c1, .int .i64 s]) ∧ WC T n_pianolabook_Same_api_Event [v, .slice a1 L.length c1] h2 fun u h3 => u = .bool true ∧ h3 = h2 := by
        rintro v h2 ⟨a2, c2, rfl, s2, K2⟩
        exact ⟨by rw [K2.get _ (lt_of_get g1), g1], same_ev s2 (hsee.kp K2) (by omega) (by simp)⟩
      rcases L with _ | ⟨x, B⟩
      · simp (disch := first | assumption | ((try simp only [push_next, put_next, adv_next, List.length_cons, List.length_nil]); omega) | simp) [e5, e6, f13, e15, f14, e16, e17, e19, e18, g1]
        refine GCI_intro key fun v h2 hv => ?_
        obtain ⟨g2, hsame⟩ := rest v h2 hv
        simp at g2 hsame
        simp (disch := first | assumption | ((try simp only [push_next, put_next, adv_next, List.length_cons, List.length_nil]); omega) | simp) [e6, g2]
        refine GCI_intro hsame fun u h3 hu => ?_
        obtain ⟨rfl, rfl⟩ := hu
        obtain ⟨a2, c2, rfl, s2, K2⟩ := hv
        simp (disch := first | assumption | ((try simp only [push_next, put_next, adv_next, List.length_cons, List.length_nil]); omega) | simp)
        exact hS _ _ ⟨[], s, fw, fm, P1.more K2, I, by simp [e0], by simp [e1], by simp [e5], by simp [e6], by simp [e7]⟩
      · have hn : (0 : Int) < (B.length : Int) + 1 := by omega
        simp (disch := first | assumption | ((try simp only [push_next, put_next, adv_next, List.length_cons, List.length_nil]); omega) | simp) [e5, e6, f13, e15, f14, e16, e17, e19, e18, g1, hn]
        refine GCI_intro key fun v h2 hv => ?_
        obtain ⟨g2, hsame⟩ := rest v h2 hv
        simp at g2 hsame
        simp (disch := first | assumption | ((try simp only [push_next, put_next, adv_next, List.length_cons, List.length_nil]); omega) | simp) [e6, g2]
        refine GCI_intro hsame fun u h3 hu => ?_
        obtain ⟨rfl, rfl⟩ := hu
        obtain ⟨a2, c2, rfl, s2, K2⟩ := hv
        simp (disch := first | assumption | ((try simp only [push_next, put_next, adv_next, List.length_cons, List.length_nil]); omega) | simp)
        exact hS _ _ ⟨x :: B, s, fw, fm, P1.more K2, I, by simp [e0], by simp [e1], by simp [e5], by simp [e6], by simp [e7]⟩
    cases L with
    | nil =>
      simp (disch := first | assumption | ((try simp only [push_next, put_next, adv_next, List.length_cons, List.length_nil]); omega) | simp) [e6, g1, -g8_pianolalaw9_play]
      exact fin _ (by simp [e0]) (by simp [e1]) (by simp [e5]) (by simp [e6]) (by simp [e7]) (by simp) (by simp) (by simp) (by simp) (by simp) (by simp) (by simp)
    | cons x B =>
      have hnn : (0 : Int) < (B.length : Int) + 1 := by omega
      obtain ⟨A1, rfl, hr1⟩ := hsee.mid (A := [])
      obtain ⟨ro, C, hg, hC⟩ := rdn_cells hr1
      have hC0 := hC 0 (by simp)
      simp [encEv] at hC0
      simp (disch := first | assumption | ((try simp only [push_next, put_next, adv_next, List.length_cons, List.length_nil]); omega) | simp) [e6, g1, hnn, hg, hC0, -g8_pianolalaw9_play]
      exact fin _ (by simp [e0]) (by simp [e1]) (by simp [e5]) (by simp [e6]) (by simp [e7]) (by simp) (by simp) (by simp) (by simp) (by simp) (by simp) (by simp)
  have sw : ∀ (e : Env) (h : Hp) (y : Nat) (k d t : Int) (L : List Ev) (s : Int) (fw fm : List Nat), WP g h g.next (g.next + 1) L L s s fw fm → WI L → Off h g.next (g.next + 1) fw fm y (.cells false [.int .i64 k, .int .i64 d, .int .i64 t]) → e 0 = .slice (some A) xs.length c → e 1 = .bool near → e 5 = ptr g.next 0 → e 6 = ptr (g.next + 1) 0 → e 7 = .int .i64 i → e 8 = ptr y 0 → e 49 = .int .i64 k → G T (EndN S) c6_pianolalaw9_play [.seq c11_pianolalaw9_play] e h := by
    intro e h y k d t L s fw fm P I F e0 e1 e5 e6 e7 e8 e49
    have hlen := I.len
    by_cases k3 : k = 3
    · simp (disch := first | assumption | ((try simp only [push_next, put_next, adv_next, List.length_cons, List.length_nil]); omega) | simp) [e49, k3, e5, e6, e8, F.1, -g11_pianolalaw9_play]
      refine wcancel P.ww (by omega) fun h1 fw1 W1 U1 => ?_
      have P1 := P.step W1 U1
      have F1 := F.step U1
      simp (disch := first | assumption | ((try simp only [push_next, put_next, adv_next, List.length_cons, List.length_nil]); omega) | simp) [e5, e6, e8, F1.1, -g11_pianolalaw9_play]
      refine rcancel P1.mm (by omega) fun h2 fm2 M2 U2 => ?_
      have P2 := (P1.sym.step M2 U2).sym
      have F2 := (F1.sym.step U2).sym
      simp (disch := first | assumption | ((try simp only [push_next, put_next, adv_next, List.length_cons, List.length_nil]); omega) | simp) [-g11_pianolalaw9_play]
      exact tail _ _ y k d t _ s fw1 fm2 P2 (I.can d) F2 (by simp [e0]) (by simp [e1]) (by simp [e5]) (by simp [e6]) (by simp [e7]) (by simp [e8])
    by_cases k45 : k = 4 ∨ k = 5
    · have take : ∀ e, e 0 = .slice (some A) xs.length c → e 1 = .bool near → e 5 = ptr g.next 0 → e 6 = ptr (g.next + 1) 0 → e 7 = .int .i64 i → e 8 = ptr y 0 → G T (EndN S) c4_pianolalaw9_play [.block 2, .seq c11_pianolalaw9_play] e h := by
        intro e e0 e1 e5 e6 e7 e8
        simp (disch := first | assumption | ((try simp only [push_next, put_next, adv_next, List.length_cons, List.length_nil]); omega) | simp) [e5, e6, e8, F.1, -g11_pianolalaw9_play]
        refine wtake P.ww (by omega) (fun hno h1 K1 => ?_) fun x B hx hle h1 fw1 W1 U1 => ?_
        · have P1 := (P.more K1).more (kp_laid (Kp.refl h1) (.cells false [.int .i64 0, .int .i64 0, .int .i64 0]) (.cells false [.int .i64 0, .int .i64 0, .int .i64 0]))
          have F1 := (F.more K1).more (kp_laid (Kp.refl h1) (.cells false [.int .i64 0, .int .i64 0, .int .i64 0]) (.cells false [.int .i64 0, .int .i64 0, .int .i64 0]))
          have z1 : ((h1.push (.cells false [.int .i64 0, .int .i64 0, .int .i64 0])).put h1.next (some (.cells false [.int .i64 0, .int .i64 0, .int .i64 0]))).get h1.next = some (.cells false [.int .i64 0, .int .i64 0, .int .i64 0]) := get_put_self (by simp)
          simp (disch := first | assumption | ((try simp only [push_next, put_next, adv_next, List.length_cons, List.length_nil]); omega) | simp) [e5, e6, e8, (F.more K1).1, -g11_pianolalaw9_play, -g3_pianolalaw9_play]
          generalize (h1.push (.cells false [.int .i64 0, .int .i64 0, .int .i64 0])).put h1.next (some (.cells false [.int .i64 0, .int .i64 0, .int .i64 0])) = h2 at *
          simp (disch := first | assumption | ((try simp only [push_next, put_next, adv_next, List.length_cons, List.length_nil]); omega) | simp) [e5, e6, e8, F1.1, -g11_pianolalaw9_play]
          refine rtake P1.mm (by omega) (fun _ h3 K3 => ?_) fun x B hx hle => ?_
          · have z3 : h3.get h1.next = some (.cells false [.int .i64 0, .int .i64 0, .int .i64 0]) := by rw [K3.get _ (lt_of_get z1), z1]
            have hl3 := lt_of_get z3
            have hz := eq_ev ⟨0, 0, 0⟩ ⟨0, 0, 0⟩
            simp [encEv] at hz
            have P3 := (P1.more K3).more (kp_laid (Kp.refl h3) (.cells false [.int .i64 0, .int .i64 0, .int .i64 0]) (.cells false [.int .i64 0, .int .i64 0, .int .i64 0]))
            have F3 := (F1.more K3).more (kp_laid (Kp.refl h3) (.cells false [.int .i64 0, .int .i64 0, .int .i64 0]) (.cells false [.int .i64 0, .int .i64 0, .int .i64 0]))
            simp (disch := first | assumption | ((try simp only [push_next, put_next, adv_next, List.length_cons, List.length_nil]); omega) | simp) [z3, Hp.rdn, hz, -g11_pianolalaw9_play]
            exact tail _ _ y k d t _ s fw fm P3 I F3 (by simp [e0]) (by simp [e1]) (by simp [e5]) (by simp [e6]) (by simp [e7]) (by simp [e8])
          · have := hno x (by rw [hx]; simp)
            omega
        · have P0 := P.step W1 U1
          have F0 := F.step U1
          have P1 := P0.more (kp_laid (Kp.refl h1) (.cells false [.int .i64 0, .int .i64 0, .int .i64 0]) (.cells false [.int .i64 x.at', .int .i64 x.dev, .int .i64 x.seq]))
          have F1 := F0.more (kp_laid (Kp.refl h1) (.cells false [.int .i64 0, .int .i64 0, .int .i64 0]) (.cells false [.int .i64 x.at', .int .i64 x.dev, .int .i64 x.seq]))
          have z1 : ((h1.push (.cells false [.int .i64 0, .int .i64 0, .int .i64 0])).put h1.next (some (.cells false [.int .i64 x.at', .int .i64 x.dev, .int .i64 x.seq]))).get h1.next = some (.cells false [.int .i64 x.at', .int .i64 x.dev, .int .i64 x.seq]) := get_put_self (by simp)
          have hz1 : h1.next ∉ (g.next + 1) :: fm := fun hc => by have := P0.mm.live _ hc; omega
          simp (disch := first | assumption | ((try simp only [push_next, put_next, adv_next, List.length_cons, List.length_nil]); omega) | simp) [e5, e6, e8, F0.1, encEv, -g11_pianolalaw9_play, -g3_pianolalaw9_play]
          generalize (h1.push (.cells false [.int .i64 0, .int .i64 0, .int .i64 0])).put h1.next (some (.cells false [.int .i64 x.at', .int .i64 x.dev, .int .i64 x.seq])) = h2 at *
          simp (disch := first | assumption | ((try simp only [push_next, put_next, adv_next, List.length_cons, List.length_nil]); omega) | simp) [e5, e6, e8, F1.1, -g11_pianolalaw9_play]
          refine rtake P1.mm (by omega) (fun hno => ?_) fun x' B' hx' hle' h3 fm3 M3 U3 => ?_
          · have := hno x (by rw [hx]; simp)
            omega
          · rw [hx] at hx'
            simp at hx'
            obtain ⟨rfl, rfl⟩ := hx'
            have z3 : h3.get h1.next = some (.cells false [.int .i64 x.at', .int .i64 x.dev, .int .i64 x.seq]) := by rw [U3.get _ (lt_of_get z1) hz1, z1]
            have hl3 := lt_of_get z3
            have hz := eq_ev x x
            simp [encEv] at hz
            have P3 := ((P1.sym.step M3 U3).sym).more (kp_laid (Kp.refl h3) (.cells false [.int .i64 0, .int .i64 0, .int .i64 0]) (.cells false [.int .i64 x.at', .int .i64 x.dev, .int .i64 x.seq]))
            have F3 := ((F1.sym.step U3).sym).more (kp_laid (Kp.refl h3) (.cells false [.int .i64 0, .int .i64 0, .int .i64 0]) (.cells false [.int .i64 x.at', .int .i64 x.dev, .int .i64 x.seq]))
            simp (disch := first | assumption | ((try simp only [push_next, put_next, adv_next, List.length_cons, List.length_nil]); omega) | simp) [z3, Hp.rdn, hz, encEv, -g11_pianolalaw9_play]
            exact tail _ _ y k d t _ s fw1 fm3 P3 (by rw [hx] at I; exact I.tail) F3 (by simp [e0]) (by simp [e1]) (by simp [e5]) (by simp [e6]) (by simp [e7]) (by simp [e8])
      by_cases k4 : k = 4
      · simp (disch := first | assumption | ((try simp only [push_next, put_next, adv_next, List.length_cons, List.length_nil]); omega) | simp) [e49, k4, -g11_pianolalaw9_play, -g4_pianolalaw9_play]
        exact take _ (by simp [e0]) (by simp [e1]) (by simp [e5]) (by simp [e6]) (by simp [e7]) (by simp [e8])
      · have k5 : k = 5 := by omega
        simp (disch := first | assumption | ((try simp only [push_next, put_next, adv_next, List.length_cons, List.length_nil]); omega) | simp) [e49, k5, -g11_pianolalaw9_play, -g4_pianolalaw9_play]
        exact take _ (by simp [e0]) (by simp [e1]) (by simp [e5]) (by simp [e6]) (by simp [e7]) (by simp [e8])
    · have k4 : ¬ k = 4 := by omega
      have k5 : ¬ k = 5 := by omega
      simp (disch := first | assumption | ((try simp only [push_next, put_next, adv_next, List.length_cons, List.length_nil]); omega) | simp) [e49, k3, k4, k5, e5, e6, e8, F.1, -g11_pianolalaw9_play]
      refine warmI P.ww I (fun hb => ?_) fun hb h1 fw1 I1 W1 U1 => ?_
      · simp (disch := first | assumption | ((try simp only [push_next, put_next, adv_next, List.length_cons, List.length_nil]); omega) | simp) [e5, e6, e8, F.1, -g11_pianolalaw9_play]
        refine rarm P.mm (by omega) I.srt (fun _ => ?_) fun hb' => by rw [hb] at hb'; cases hb'
        simp (disch := first | assumption | ((try simp only [push_next, put_next, adv_next, List.length_cons, List.length_nil]); omega) | simp) [-g11_pianolalaw9_play]
        exact tail _ _ y k d t _ s fw fm P I F (by simp [e0]) (by simp [e1]) (by simp [e5]) (by simp [e6]) (by simp [e7]) (by simp [e8])
      · have P1 := P.step W1 U1
        have F1 := F.step U1
        simp (disch := first | assumption | ((try simp only [push_next, put_next, adv_next, List.length_cons, List.length_nil]); omega) | simp) [e5, e6, e8, F1.1, -g11_pianolalaw9_play]
        refine rarm P1.mm (by omega) I.srt (fun hb' => by rw [hb] at hb'; cases hb') fun _ h2 fm2 M2 U2 => ?_
        have P2 := (P1.sym.step M2 U2).sym
        have F2 := (F1.sym.step U2).sym
        simp (disch := first | assumption | ((try simp only [push_next, put_next, adv_next, List.length_cons, List.length_nil]); omega) | simp) [-g11_pianolalaw9_play]
        exact tail _ _ y k d t _ _ fw1 fm2 P2 I1 F2 (by simp [e0]) (by simp [e1]) (by simp [e5]) (by simp [e6]) (by simp [e7]) (by simp [e8])
  simp (disch := first | assumption | ((try simp only [push_next, put_next, adv_next, List.length_cons, List.length_nil]); omega) | simp) [e0, e1, e5, e7, hr', encWA, -g0_pianolalaw9_play, -g6_pianolalaw9_play, -g11_pianolalaw9_play]
  have P1 := P.more (kp_laid (Kp.refl h) (.cells false [.int .i64 0, .int .i64 0, .int .i64 0]) (.cells false [.int .i64 k, .int .i64 d, .int .i64 t]))
  have F1 : Off ((h.push (.cells false [.int .i64 0, .int .i64 0, .int .i64 0])).put h.next (some (.cells false [.int .i64 k, .int .i64 d, .int .i64 t]))) g.next (g.next + 1) fw fm h.next (.cells false [.int .i64 k, .int .i64 d, .int .i64 t]) :=
    ⟨get_put_self (by simp), fun hc => by have := P.ww.live _ hc; omega, fun hc => by have := P.mm.live _ hc; omega⟩
  generalize (h.push (.cells false [.int .i64 0, .int .i64 0, .int .i64 0])).put h.next (some (.cells false [.int .i64 k, .int .i64 d, .int .i64 t])) = h1 at *
  cases near with
  | false =>
    simp (disch := first | assumption | ((try simp only [push_next, put_next, adv_next, List.length_cons, List.length_nil]); omega) | simp) [F1.1, -g6_pianolalaw9_play, -g11_pianolalaw9_play]
    apply sw _ _ h.next k d t L s fw fm P1 I F1 <;> simp [e0, e1, e5, e6, e7]
  | true =>
    have hn : (40 : Int) ≠ 0 := by decide
    simp (disch := first | assumption | ((try simp only [push_next, put_next, adv_next, List.length_cons, List.length_nil]); omega) | simp) [F1.1, hn, -g6_pianolalaw9_play, -g11_pianolalaw9_play]
    refine within (by decide) (by decide) (by decide) fun m hm1 hm2 => ?_
    have hy := lt_of_get F1.1
    simp (disch := first | assumption | ((try simp only [push_next, put_next, adv_next, List.length_cons, List.length_nil]); omega) | simp) [F1.1, hn, -g6_pianolalaw9_play, -g11_pianolalaw9_play]
    obtain ⟨P2, F2⟩ := P1.put F1 P.kp.le (.cells false [.int .i64 k, .int .i64 m, .int .i64 (t.tmod 40)])
    apply sw _ _ h.next k m (t.tmod 40) L s fw fm P2 I F2 <;> simp [e0, e1, e5, e6, e7]
theorem wplays {a : Option Addr} {c : Nat} {xs : List WAsk} (hs : Sees encWA g a xs) (hb : xs.length ≤ 9223372036854775807) : WC T n_pianolalaw9_WheelPlays [.slice a xs.length c] g fun v h' => v = .bool true := by
  rw [w_pianolalaw9_WheelPlays]
  simp (disch := first | assumption | ((try simp only [push_next, put_next, adv_next, List.length_cons, List.length_nil]); omega) | simp)
  refine GC_intro (play hs hb) fun v h1 ⟨hv, K1⟩ => ?_
  simp (disch := first | assumption | ((try simp only [push_next, put_next, adv_next, List.length_cons, List.length_nil]); omega) | simp) [hv]
  refine GC_intro (play (hs.kp K1) hb) fun v h2 ⟨hv, K2⟩ => ?_
  simp (disch := first | assumption | ((try simp only [push_next, put_next, adv_next, List.length_cons, List.length_nil]); omega) | simp) [hv]
  exact GC_intro wknown fun v h3 hv => by simp (disch := first | assumption | ((try simp only [push_next, put_next, adv_next, List.length_cons, List.length_nil]); omega) | simp) [hv.1]
theorem wnumbers : WC T n_pianolalaw9_WheelNumbers [] g fun v h' => v = .bool true := by
  rw [w_pianolalaw9_WheelNumbers]
  simp (disch := first | assumption | ((try simp only [push_next, put_next, adv_next, List.length_cons, List.length_nil]); omega) | simp)
  refine G_loop (fun n e h => ∃ (i : Nat) (L : List WAsk) (fp : List Nat), n = 78 - i ∧ i ≤ 78 ∧ L.length = i ∧ Own encWA h (e 1) L fp ∧ e 2 = .int .i64 i) ?_ 78 _ _ ⟨0, [], [], rfl, by omega, rfl, by simp; exact .nul, by simp⟩
  rintro n ih e h ⟨i, L, fp, rfl, hi, hl, O, e2⟩
  obtain ⟨a, c, hv, hs, _, _⟩ := O.len
  by_cases h78 : i = 78
  · subst h78
    simp (disch := first | assumption | ((try simp only [push_next, put_next, adv_next, List.length_cons, List.length_nil]); omega) | simp) [e2, hv]
    refine GC_intro (play hs (by omega)) fun v h1 ⟨hv1, K1⟩ => ?_
    simp (disch := first | assumption | ((try simp only [push_next, put_next, adv_next, List.length_cons, List.length_nil]); omega) | simp) [hv1, hv]
    refine GC_intro (play (hs.kp K1) (by omega)) fun v h2 ⟨hv2, K2⟩ => ?_
    simp (disch := first | assumption | ((try simp only [push_next, put_next, adv_next, List.length_cons, List.length_nil]); omega) | simp) [hv2]
    exact GC_intro wknown fun v h3 hv => by simp (disch := first | assumption | ((try simp only [push_next, put_next, adv_next, List.length_cons, List.length_nil]); omega) | simp) [hv.1]
  · have h6 : (i : Int) < 78 := by omega
    simp (disch := first | assumption | ((try simp only [push_next, put_next, adv_next, List.length_cons, List.length_nil]); omega) | simp) [e2, h6]
    refine GV_app1 (E := encWA) (x := ⟨_, _, _⟩) O (by omega) (by omega) fun v' h' fp' O' U => ?_
    simp (disch := first | assumption | ((try simp only [push_next, put_next, adv_next, List.length_cons, List.length_nil]); omega) | simp) [e2]
    apply ih (78 - (i + 1)) (by omega)
    refine ⟨i + 1, _, _, rfl, by omega, ?_, by simp; exact O', by simp⟩
    simp [hl]
end
end Go.Proofs.Ytppgoobhlcdbbaa.Cd
