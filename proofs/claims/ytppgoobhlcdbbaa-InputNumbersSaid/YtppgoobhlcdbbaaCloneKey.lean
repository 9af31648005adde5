/- Clone of a row, and whether two rows are the same. -/
import Derived.Test.YtppgoobhlcdbbaaStableKey
set_option maxRecDepth 1000000
set_option linter.unusedSimpArgs false
set_option linter.unusedVariables false
namespace Go.Proofs.Ytppgoobhlcdbbaa.Cd
open Go Go.Dx
section
variable {h : Hp} {a a' : Option Addr} {c c' : Nat} {xs ys : List Key}
theorem clone_key {q : Value → Hp → Prop} (hs : Sees encKey h a xs) (hb : xs.length < 2 ^ 40) (hq : ∀ a' c' h', Sees encKey h' a' xs → Kp h h' → (∀ A, a' = some A → h.next ≤ A.block) → (xs = [] ∨ ∃ fp, Own encKey h' (.slice a' xs.length c') xs fp ∧ ∀ b ∈ fp, h.next ≤ b) → q (.slice a' xs.length c') h') : WC T n_slices_Clone_input_Key_input_Key [.slice a xs.length c] h q := by
  rw [w_slices_Clone_input_Key_input_Key]
  cases a with
  | none =>
    have := hs.nil rfl
    subst this
    simp (disch := first | assumption | ((try simp only [push_next, put_next, adv_next, List.length_cons, List.length_nil]); omega) | simp) [isNil]
    exact hq none 0 h Sees.nul (.refl _) (fun A hA => (by cases hA)) (.inl rfl)
  | some A =>
    simp (disch := first | assumption | ((try simp only [push_next, put_next, adv_next, List.length_cons, List.length_nil]); omega) | simp) [isNil]
    have K1 : Kp h (h.push (.cells false [])) := (Kp.refl h).push _
    have he := (hs.kp K1).elems (c := c)
    by_cases h0 : xs.length = 0
    · have : xs = [] := List.length_eq_zero_iff.1 h0
      subst this
      have e : appendV (h.push (.cells false [])) 2 16 (.slice (some ⟨h.next, 0, none⟩) 0 0) (.slice (some A) 0 c) = some (.slice (some ⟨h.next, 0, none⟩) 0 0, h.push (.cells false [])) := by
        have he' : elems (h.push (.cells false [])) 2 0 (.slice (some A) 0 c) = some [] := he
        simp [appendV, lenV, he']
      simp only [List.length_nil, e]
      simp (disch := first | assumption | ((try simp only [push_next, put_next, adv_next, List.length_cons, List.length_nil]); omega) | simp)
      refine hq _ 0 _ ⟨fun hA => (by cases hA), fun B hB => ?_, fun B hB => (by cases hB; first | exact .inl rfl | exact .inr rfl)⟩ K1 (fun A hA => by cases hA; exact Nat.le_refl _) (.inl rfl)
      cases hB
      simp [Hp.rdn, get_push_self]
    · have e : appendV (h.push (.cells false [])) 2 16 (.slice (some ⟨h.next, 0, none⟩) 0 0) (.slice (some A) xs.length c) = some (.slice (some ⟨h.next + 1, 0, some 2⟩) xs.length xs.length, (h.push (.cells false [])).push (.cells false (encKey.all xs))) := by
        have he' : elems (h.push (.cells false [])) 2 xs.length (.slice (some A) xs.length c) = some (encKey.all xs) := he
        have hl : (encKey.all xs).length = xs.length * 2 := encKey.all_length xs
        simp only [appendV, lenV, he', hl, if_true, Nat.zero_add]
        rw [if_neg (by omega), if_pos ⟨by omega, by omega⟩]
        simp [Hp.rdn, get_push_self]
      rw [e]
      simp (disch := first | assumption | ((try simp only [push_next, put_next, adv_next, List.length_cons, List.length_nil]); omega) | simp)
      refine hq _ _ _ ⟨fun hA => (by cases hA), fun B hB => ?_, fun B hB => (by cases hB; first | exact .inl rfl | exact .inr rfl)⟩ (K1.push _) (fun A hA => by cases hA; simp) (.inr ⟨_, .blk (E := encKey) (r := []) (by rw [show h.next + 1 = (h.push (.cells false [])).next from rfl, get_push_self]; simp) rfl (Nat.le_refl _) (by omega) (by simp), by simp⟩)
      cases hB
      simp only [Hp.rdn, Hp.cells, show h.next + 1 = (h.push (.cells false [])).next from rfl, get_push_self, Option.bind_some, Nat.zero_add]
      rw [if_pos (by simp), List.drop_zero, List.take_of_length_le (by simp)]
end
end Go.Proofs.Ytppgoobhlcdbbaa.Cd
