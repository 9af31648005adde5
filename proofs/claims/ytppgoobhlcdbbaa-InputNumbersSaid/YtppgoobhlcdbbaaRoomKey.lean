/- A row with room behind it: made, and looked at again. -/
import Derived.Test.YtppgoobhlcdbbaaSameKey
set_option maxRecDepth 1000000
set_option linter.unusedSimpArgs false
set_option linter.unusedVariables false
namespace Go.Proofs.Ytppgoobhlcdbbaa.Cd
open Go Go.Dx
theorem all_rep {z : Key} (n : Nat) : (List.replicate n (encKey.enc z)).flatten = encKey.all (List.replicate n z) := by
  induction n with
  | zero => rfl
  | succ n ih => rw [List.replicate_succ, List.replicate_succ, List.flatten_cons, ih]; rfl
theorem roomy {h : Hp} {q : Value → Hp → Prop} {a : Option Addr} {c : Nat} {L : List Key} {x : Key} (hs : Sees encKey h a L) (hb : L.length < 2 ^ 40) (hq : ∀ b h', h.next ≤ b → h'.get b = some (.cells false (encKey.all (L ++ List.replicate 80 x))) → Kp h h' → q (.slice (some ⟨b, 0, none⟩) (L.length + 80) (L.length + 80)) h') :
    WC T n_pianolabook_Roomy_input_Key [.slice a L.length c, .agg (encKey.enc x).toArray] h q := by
  rw [w_pianolabook_Roomy_input_Key]
  have hm : ∀ id : Nat, makeS id [.int .i64 0, u8 0#8] 16 (.int .i64 ((L.length : Int) + 80)) (.int .i64 ((L.length : Int) + 80)) = some (.slice (some ⟨id, 0, none⟩) (L.length + 80) (L.length + 80), .cells false (encKey.all (List.replicate (L.length + 80) (⟨0, 0⟩ : Key)))) := fun id => by
    have := all_rep (z := (⟨0, 0⟩ : Key)) (L.length + 80)
    simp only [makeS]
    rw [if_pos ⟨by omega, by omega, by omega, by omega⟩, show ((L.length : Int) + 80).toNat = L.length + 80 by omega, ← this]
    rfl
  simp (disch := first | assumption | ((try simp only [push_next, put_next, adv_next, List.length_cons, List.length_nil]); omega) | simp) [hm, -g1_pianolabook_Roomy_input_Key]
  have K1 : Kp h ((h.push (.cells false (encKey.enc x))).push (.cells false (encKey.all (List.replicate (L.length + 80) (⟨0, 0⟩ : Key))))) := ((Kp.refl h).push _).push _
  have b1 : ((h.push (.cells false (encKey.enc x))).push (.cells false (encKey.all (List.replicate (L.length + 80) (⟨0, 0⟩ : Key))))).get h.next = some (.cells false (encKey.enc x)) := by rw [get_push_ne (by simp), get_push_self]
  have b2 : ((h.push (.cells false (encKey.enc x))).push (.cells false (encKey.all (List.replicate (L.length + 80) (⟨0, 0⟩ : Key))))).get (h.next + 1) = some (.cells false (encKey.all (List.replicate (L.length + 80) (⟨0, 0⟩ : Key)))) := by
    rw [show h.next + 1 = (h.push (.cells false (encKey.enc x))).next from rfl, get_push_self]
  generalize (h.push (.cells false (encKey.enc x))).push (.cells false (encKey.all (List.replicate (L.length + 80) (⟨0, 0⟩ : Key)))) = h1 at *
  have hl2 := lt_of_get b2
  have hcp : ∃ v h2, copyV h1 2 (.slice (some ⟨h.next + 1, 0, none⟩) (L.length + 80) (L.length + 80)) (.slice a L.length c) = some (v, h2) ∧ h2.get (h.next + 1) = some (.cells false (encKey.all (L ++ List.replicate 80 (⟨0, 0⟩ : Key)))) ∧ Kp h h2 ∧ h2.get h.next = h1.get h.next := by
    have he : elems h1 2 L.length (.slice a L.length c) = some (encKey.all L) := (hs.kp K1).elems
    have hmin : min L.length (L.length + 80) = L.length := by omega
    by_cases h0 : L.length = 0
    · have : L = [] := List.length_eq_zero_iff.1 h0
      subst this
      exact ⟨.int .i64 0, h1, by simp [copyV, lenV] at he ⊢; simp [he], by simpa using b2, K1, rfl⟩
    · have hw : h1.wr (h.next + 1) 0 (encKey.all L) = some (h1.put (h.next + 1) (some (.cells false (encKey.all (L ++ List.replicate 80 (⟨0, 0⟩ : Key)))))) := by
        have := wr_ok (h := h1) (b := h.next + 1) (o := 0) (vs := encKey.all L) b2 (by simp; omega) (encKey.all_one L)
        rw [this]
        have ho := encKey.over (List.replicate (L.length + 80) (⟨0, 0⟩ : Key)) L [] 0 (by simp)
        rw [Nat.zero_mul, List.append_nil, List.append_nil] at ho
        rw [ho]
        simp
      refine ⟨_, _, by simp only [copyV, lenV, hmin, he, hw]; rw [if_neg h0]; rfl, get_put_self hl2, K1.put (by omega) _, get_put_ne (by omega)⟩
  obtain ⟨v, h2, hcp, g2, K2, b3⟩ := hcp
  rw [b1] at b3
  clear b1 b2 hl2 K1
  simp (disch := first | assumption | ((try simp only [push_next, put_next, adv_next, List.length_cons, List.length_nil]); omega) | simp) [hcp, -g1_pianolabook_Roomy_input_Key]
  refine G_loop (fun m e h' => ∃ i : Nat, m = 80 - i ∧ i ≤ 80 ∧ e 3 = ptr h.next 0 ∧ e 5 = .slice (some ⟨h.next + 1, 0, none⟩) (L.length + 80) (L.length + 80) ∧ e 6 = .int .i64 (L.length + i : Nat) ∧ h'.get h.next = some (.cells false (encKey.enc x)) ∧ h'.get (h.next + 1) = some (.cells false (encKey.all (L ++ List.replicate i x ++ List.replicate (80 - i) (⟨0, 0⟩ : Key)))) ∧ Kp h h') ?_ 80 _ _
    ⟨0, rfl, by omega, by simp, by simp, by simp, b3, by simpa using g2, K2⟩
  rintro m ih e h' ⟨i, rfl, hi, e3, e5, e6, gb, ga, K⟩
  obtain ⟨p, hp⟩ : ∃ p, p = L.length + i := ⟨_, rfl⟩
  rw [← hp] at e6
  have hlt := lt_of_get ga
  by_cases t : i < 80
  · have rb : h'.rdn h.next 0 2 = some (encKey.enc x) := by
      have := encKey.len x
      simp only [Hp.rdn, Hp.cells, gb, Option.bind_some]
      rw [if_pos (by rw [this]; decide), List.drop_zero, List.take_of_length_le (by rw [this]; decide)]
    have w1 : h'.wr (h.next + 1) (p * 2) (encKey.enc x) = some (h'.put (h.next + 1) (some (.cells false (encKey.all (L ++ List.replicate i x ++ x :: List.replicate (80 - (i + 1)) (⟨0, 0⟩ : Key)))))) := by
      have := wr_mid (E := encKey) (h := h') (b := h.next + 1) (A := L ++ List.replicate i x) (x := (⟨0, 0⟩ : Key)) (y := x) (B := List.replicate (80 - (i + 1)) (⟨0, 0⟩ : Key)) (r := []) (by rw [ga, show 80 - i = (80 - (i + 1)) + 1 by omega, List.replicate_succ]; simp)
      rw [show (L ++ List.replicate i x).length = p by simp [hp], List.append_nil] at this
      exact this
    have t' : (p : Int) < (L.length : Int) + 80 := by omega
    simp (disch := first | assumption | ((try simp only [push_next, put_next, adv_next, List.length_cons, List.length_nil]); omega) | simp) [e3, e5, e6, t', rb, w1, -Hp.wr, -over, encKey.len, show encKey.sz = 2 from rfl]
    apply ih (80 - (i + 1)) (by omega)
    refine ⟨i + 1, rfl, by omega, by simp [e3], by simp [e5], by simp; omega, by rw [get_put_ne (by omega), gb], ?_, K.put (by omega) _⟩
    rw [get_put_self hlt, List.replicate_succ']
    simp
  · have : i = 80 := by omega
    subst this
    have t' : ¬ (p : Int) < (L.length : Int) + 80 := by omega
    simp (disch := first | assumption | ((try simp only [push_next, put_next, adv_next, List.length_cons, List.length_nil]); omega) | simp) [e3, e5, e6, t']
    exact hq _ _ (by omega) (by rw [ga]; simp) K
theorem intact {h : Hp} {q : Value → Hp → Prop} {a a1 : Option Addr} {c cf : Nat} {L : List Key} {x : Key} (hf : Sees encKey h a1 (L ++ List.replicate 80 x)) (hs : Sees encKey h a L) (hcf : L.length + 80 ≤ cf) (hb : L.length < 2 ^ 39) (hq : ∀ h', Kp h h' → q (.bool true) h') :
    WC T n_pianolabook_Intact_input_Key [.slice a1 (L.length + 80) cf, .slice a L.length c, .agg (encKey.enc x).toArray] h q := by
  rw [w_pianolabook_Intact_input_Key]
  have K1 : Kp h (h.push (.cells false (encKey.enc x))) := (Kp.refl h).push _
  have b1 : (h.push (.cells false (encKey.enc x))).get h.next = some (.cells false (encKey.enc x)) := get_push_self
  have hf1 := hf.kp K1
  have hs1 := hs.kp K1
  obtain ⟨a3, c3, hsl, hc3, s3⟩ := hf1.part (c := cf) (lo := 0) (hi := L.length) (by omega) (by simp) (by simpa using hcf) (l := none) (u := some (.int .i64 L.length)) (.inl ⟨rfl, rfl⟩) (.inr ⟨_, rfl⟩)
  simp at hsl s3
  simp (disch := first | assumption | ((try simp only [push_next, put_next, adv_next, List.length_cons, List.length_nil]); omega) | simp) [hsl, -g1_pianolabook_Intact_input_Key]
  generalize h.push (.cells false (encKey.enc x)) = h1 at *
  refine GC_intro (same_key s3 hs1 (by omega) ?_) fun v h2 hh => hh
  simp (disch := first | assumption | ((try simp only [push_next, put_next, adv_next, List.length_cons, List.length_nil]); omega) | simp) [-g1_pianolabook_Intact_input_Key]
  have rb : h1.rdn h.next 0 2 = some (encKey.enc x) := by
    have := encKey.len x
    simp only [Hp.rdn, Hp.cells, b1, Option.bind_some]
    rw [if_pos (by rw [this]; decide), List.drop_zero, List.take_of_length_le (by rw [this]; decide)]
  refine G_loop (fun m e h' => ∃ i : Nat, m = 80 - i ∧ i ≤ 80 ∧ h' = h1 ∧ e 0 = .slice a1 (L.length + 80) cf ∧ e 5 = ptr h.next 0 ∧ e 7 = .int .i64 (L.length + i : Nat)) ?_ 80 _ _ ⟨0, rfl, by omega, rfl, by simp, by simp, by simp⟩
  rintro m ih e h' ⟨i, rfl, hi, rfl, e0, e5, e7⟩
  obtain ⟨p, hp⟩ : ∃ p, p = L.length + i := ⟨_, rfl⟩
  rw [← hp] at e7
  by_cases t : i < 80
  · obtain ⟨A, rfl, hr⟩ := Sees.mid (A := L ++ List.replicate i x) (x := x) (B := List.replicate (80 - (i + 1)) x) (by
      rw [show (L ++ List.replicate i x) ++ x :: List.replicate (80 - (i + 1)) x = L ++ List.replicate 80 x by
        rw [← List.replicate_succ, List.append_assoc, List.replicate_append_replicate, show i + (80 - (i + 1) + 1) = 80 by omega]]
      exact hf1)
    rw [show (L ++ List.replicate i x).length = p by simp [hp]] at hr
    have hr' : h'.rdn A.block (A.off + p * 2) 2 = some (encKey.enc x) := hr
    have t' : (p : Int) < (L.length : Int) + 80 := by omega
    have he := eq_key x x
    simp only [decide_true] at he
    simp (disch := first | assumption | ((try simp only [push_next, put_next, adv_next, List.length_cons, List.length_nil]); omega) | simp) [e0, e5, e7, t', rb, hr', he]
    apply ih (80 - (i + 1)) (by omega)
    refine ⟨i + 1, rfl, by omega, rfl, by simp [e0], by simp [e5], by simp; omega⟩
  · have t' : ¬ (p : Int) < (L.length : Int) + 80 := by omega
    simp (disch := first | assumption | ((try simp only [push_next, put_next, adv_next, List.length_cons, List.length_nil]); omega) | simp) [e0, e5, e7, t']
    exact hq _ K1
end Go.Proofs.Ytppgoobhlcdbbaa.Cd
