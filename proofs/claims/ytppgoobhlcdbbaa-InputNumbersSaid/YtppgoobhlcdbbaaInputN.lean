/- A closed sentence on plans. -/
import Derived.Test.YtppgoobhlcdbbaaInputQ
set_option maxRecDepth 1000000
set_option linter.unusedSimpArgs false
set_option linter.unusedVariables false
namespace Go.Proofs.Ytppgoobhlcdbbaa.Cd
open Go Go.Dx
section
variable {g h : Hp} {a a1 : Option Addr} {c c1 n n1 : Nat} {L : List Key} {ns : List Int}
theorem iplays' {q : Value → Hp → Prop} (hs0 : Sees encKey h a L) (hn : n = L.length) (hc0 : n ≤ c) (hb : n < 2 ^ 38) (hs1 : Sees encI h a1 ns) (hn1 : n1 = ns.length) (hq : ∀ h', Kp h h' → q (.bool true) h') : WC T n_pianolalaw24_InputPlays [.slice a n c, .slice a1 n1 c1] h q := by
  subst hn
  subst hn1
  exact iplays hs0 hc0 hb hs1 hq
theorem inumbers : WC T n_pianolalaw24_InputNumbers [] g fun v h' => v = .bool true := by
  rw [w_pianolalaw24_InputNumbers]
  simp (disch := first | assumption | ((try simp only [push_next, put_next, adv_next, List.length_cons, List.length_nil]); omega) | simp) [-g1_pianolalaw24_InputNumbers]
  refine G_loop (fun m e h => ∃ (i : Nat) (M : List Key) (v : Value) (fp : List Nat), m = 300 - i ∧ i ≤ 300 ∧ M.length = i ∧ Own encKey h v M fp ∧ e 1 = v ∧ e 2 = .int .i64 i) ?_ 300 _ _ ⟨0, [], _, [], rfl, by omega, rfl, .nul, by simp, by simp⟩
  rintro m ih e h ⟨i, M, v, fp, rfl, hi, hM, O, e1, e2⟩
  by_cases t : i < 300
  · have t' : (i : Int) < 300 := by omega
    simp (disch := first | assumption | ((try simp only [push_next, put_next, adv_next, List.length_cons, List.length_nil]); omega) | simp) [e1, e2, t']
    refine GV_app1 (E := encKey) (x := ⟨_, _⟩) O (by omega) (by omega) fun v' h' fp' O' U => ?_
    simp (disch := first | assumption | ((try simp only [push_next, put_next, adv_next, List.length_cons, List.length_nil]); omega) | simp) [e2]
    apply ih (300 - (i + 1)) (by omega)
    exact ⟨i + 1, _, v', fp', rfl, by omega, by simp [hM], O', by simp, by simp⟩
  have : i = 300 := by omega
  subst this
  obtain ⟨a2, c2, rfl, s2, hc2, -⟩ := O.len
  simp (disch := first | assumption | ((try simp only [push_next, put_next, adv_next, List.length_cons, List.length_nil]); omega) | simp) [e1, e2]
  refine GC_intro (inew s2 hc2 (by omega) fun h1 p fp1 f1 f2 P K1 => ?_) fun v h2 hh => hh
  have hl : (isort (·.at') (M.take 256)).length = 256 := by simp; omega
  generalize isort (·.at') (M.take 256) = S at P hl
  obtain ⟨a3, c3, hsl, hc3, s3⟩ := (s2.kp K1).part (c := c2) (lo := 0) (hi := 40) (by omega) (by omega) hc2 (l := none) (u := some (.int .i64 40)) (.inl ⟨rfl, rfl⟩) (.inr ⟨_, rfl⟩)
  simp at hsl s3 hc3
  have hl40 : 40 = (M.take 40).length := by simp; omega
  rw [hM] at hsl
  simp (disch := first | assumption | ((try simp only [push_next, put_next, adv_next, List.length_cons, List.length_nil]); omega) | simp) [e1, GC_of (fun q => ileft P), hl, hM, hsl]
  have s4 := s3.kp ((Kp.refl h1).push (.cells false [.int .i64 (-5), .int .i64 0, .int .i64 3, .int .i64 2, .int .i64 40, .int .i64 60]))
  have s5 : Sees encI (h1.push (.cells false [.int .i64 (-5), .int .i64 0, .int .i64 3, .int .i64 2, .int .i64 40, .int .i64 60])) (some ⟨h1.next, 0, none⟩) [-5, 0, 3, 2, 40, 60] := by
    refine ⟨fun hA => (by cases hA), fun B hB => ?_, fun B hB => (by cases hB; exact .inl rfl)⟩
    cases hB
    simp [Hp.rdn, get_push_self, encI]
  refine GC_intro (iplays' s4 hl40 hc3 (by omega) s5 rfl fun h5 K5 => ?_) fun v h2 hh => hh
  simp (disch := first | assumption | ((try simp only [push_next, put_next, adv_next, List.length_cons, List.length_nil]); omega) | simp)
  generalize hh6 : (h5.push (.cells false [.int .i64 9223372036854775807, u8 1#8, .int .i64 (-9223372036854775808), u8 2#8])).push (.cells false [.int .i64 0, .int .i64 9223372036854775807]) = h6
  have s6 : Sees encKey h6 (some ⟨h5.next, 0, none⟩) [⟨9223372036854775807, 1⟩, ⟨-9223372036854775808, 2⟩] := by
    refine ⟨fun hA => (by cases hA), fun B hB => ?_, fun B hB => (by cases hB; exact .inl rfl)⟩
    cases hB
    have gb : h6.get h5.next = some (.cells false [.int .i64 9223372036854775807, u8 1#8, .int .i64 (-9223372036854775808), u8 2#8]) := by
      rw [← hh6, get_push_ne (Nat.ne_of_lt (Nat.lt_succ_self _)), get_push_self]
    simp [Hp.rdn, gb, encKey]
  have s7 : Sees encI h6 (some ⟨h5.next + 1, 0, none⟩) [0, 9223372036854775807] := by
    refine ⟨fun hA => (by cases hA), fun B hB => ?_, fun B hB => (by cases hB; exact .inl rfl)⟩
    cases hB
    have gb : h6.get (h5.next + 1) = some (.cells false [.int .i64 0, .int .i64 9223372036854775807]) := by
      rw [← hh6]
      exact get_push_self (h := h5.push _)
    simp [Hp.rdn, gb, encI]
  refine GC_intro (iplays' s6 rfl (by omega) (by omega) s7 rfl fun h7 K7 => ?_) fun v h2 hh => hh
  simp (disch := first | assumption | ((try simp only [push_next, put_next, adv_next, List.length_cons, List.length_nil]); omega) | simp)
  refine GC_intro (iknown fun h8 K8 => ?_) fun v h2 hh => hh
  simp (disch := first | assumption | ((try simp only [push_next, put_next, adv_next, List.length_cons, List.length_nil]); omega) | simp)
end
end Go.Proofs.Ytppgoobhlcdbbaa.Cd
