/- The plan of bytes: what its functions answer. -/
import Derived.Test.YtppgoobhlcdbbaaCloneKey
set_option maxRecDepth 1000000
set_option linter.unusedSimpArgs false
set_option linter.unusedVariables false
namespace Go.Proofs.Ytppgoobhlcdbbaa.Cd
open Go Go.Dx
def encB8 : Enc (BitVec 8) := ⟨1, fun x => [u8 x], fun _ => rfl, fun _ => rfl, by decide⟩
@[simp] theorem encB8_sz : encB8.sz = 1 := rfl
section
variable {h : Hp} {b n c p : Nat} {a : Option Addr} {L : List Key} {q : Value → Hp → Prop}
theorem icmp : Cmp n_input_New_1 (·.at') := by
  intro x y h
  rw [w_input_New_1]
  simp (disch := first | assumption | ((try simp only [push_next, put_next, adv_next, List.length_cons, List.length_nil]); omega) | simp) [encKey]
  rw [GC_of fun q => compare]
  simp (disch := first | assumption | ((try simp only [push_next, put_next, adv_next, List.length_cons, List.length_nil]); omega) | simp)
  exact ((Kp.refl h).push _).push _
theorem ins0 {fc : Nat} (hq : ∀ v, q v h) : WC T n_slices_insertionSortCmpFunc_input_Key [.slice a 0 c, .int .i64 0, .int .i64 0, .func (.func fc) #[] #[]] h q := by
  rw [w_slices_insertionSortCmpFunc_input_Key]
  simp (disch := first | assumption | ((try simp only [push_next, put_next, adv_next, List.length_cons, List.length_nil]); omega) | simp)
  rw [G_round]
  simp (disch := first | assumption | ((try simp only [push_next, put_next, adv_next, List.length_cons, List.length_nil]); omega) | simp)
  exact hq _
theorem stab0 {fc : Nat} (hq : ∀ v, q v h) : WC T n_slices_stableCmpFunc_input_Key [.slice a 0 c, .int .i64 0, .func (.func fc) #[] #[]] h q := by
  rw [w_slices_stableCmpFunc_input_Key]
  simp (disch := first | assumption | ((try simp only [push_next, put_next, adv_next, List.length_cons, List.length_nil]); omega) | simp) [-g1_slices_stableCmpFunc_input_Key, -g6_slices_stableCmpFunc_input_Key]
  rw [G_round]
  simp (disch := first | assumption | ((try simp only [push_next, put_next, adv_next, List.length_cons, List.length_nil]); omega) | simp) [-g6_slices_stableCmpFunc_input_Key]
  refine GC_intro (ins0 fun v => ?_) fun v h2 hh => hh
  simp (disch := first | assumption | ((try simp only [push_next, put_next, adv_next, List.length_cons, List.length_nil]); omega) | simp) [-g6_slices_stableCmpFunc_input_Key]
  rw [G_round]
  simp (disch := first | assumption | ((try simp only [push_next, put_next, adv_next, List.length_cons, List.length_nil]); omega) | simp)
  exact hq _
theorem stable0 {fc : Nat} (hq : ∀ v, q v h) : WC T n_slices_SortStableFunc_input_Key_input_Key [.slice a 0 c, .func (.func fc) #[] #[]] h q := by
  rw [w_slices_SortStableFunc_input_Key_input_Key]
  simp (disch := first | assumption | ((try simp only [push_next, put_next, adv_next, List.length_cons, List.length_nil]); omega) | simp)
  refine GC_intro (stab0 fun v => ?_) fun v h2 hh => hh
  simp (disch := first | assumption | ((try simp only [push_next, put_next, adv_next, List.length_cons, List.length_nil]); omega) | simp)
  exact hq _
theorem sstable {fc : Nat} {key : Key → Int} {sp : Option Nat} {r : List Value} (hc : Cmp fc key) (hn : n = L.length) (hbig : n < 2 ^ 40) (hg : h.get b = some (.cells false (encKey.all L ++ r))) (hq : ∀ v h', h'.get b = some (.cells false (encKey.all (isort key L) ++ r)) → Upd h h' [b] [b] → q v h') :
    WC T n_slices_SortStableFunc_input_Key_input_Key [.slice (some ⟨b, 0, sp⟩) n c, .func (.func fc) #[] #[]] h q := by
  rw [w_slices_SortStableFunc_input_Key_input_Key]
  simp (disch := first | assumption | ((try simp only [push_next, put_next, adv_next, List.length_cons, List.length_nil]); omega) | simp)
  refine GC_intro (stable (r := r) hc hn hbig hg fun v h2 hg2 U2 => ?_) fun v h2 hh => hh
  simp (disch := first | assumption | ((try simp only [push_next, put_next, adv_next, List.length_cons, List.length_nil]); omega) | simp)
  exact hq _ _ hg2 U2
def PL (h : Hp) (p : Nat) (L : List Key) (fp : List Nat) : Prop := ∃ a c, h.get p = some (.cells false [.slice a L.length c]) ∧ Sees encKey h a L ∧ L.length ≤ c ∧ p ∈ fp ∧ ∀ A, a = some A → A.block ≠ p ∧ A.block ∈ fp
theorem Sees.keep {α : Type} {E : Enc α} {g h : Hp} {a : Option Addr} {xs : List α} (x : Sees E g a xs) (f : ∀ A, a = some A → h.get A.block = g.get A.block) : Sees E h a xs := ⟨x.nil, fun A hA => rdn_kp (x.get A hA) (f A hA), x.sp⟩
theorem PL.keep {h' : Hp} {fp : List Nat} (P : PL h p L fp) (K : ∀ b ∈ fp, h'.get b = h.get b) : PL h' p L fp := by
  obtain ⟨a, c, g, s, hc, hp, hne⟩ := P
  exact ⟨a, c, by rw [K p hp, g], Sees.keep s fun A hA => K _ (hne A hA).2, hc, hp, hne⟩
theorem PL.lt {fp : List Nat} (P : PL h p L fp) : p < h.next := by
  obtain ⟨a, c, g, s, hc, hp, hne⟩ := P
  exact lt_of_get g
theorem sliceV_block {sz n c n' c' : Nat} {a' : Option Addr} {l u : Option Value} (hh : sliceV sz (.slice a n c) l u none = some (.slice a' n' c')) : ∀ A', a' = some A' → ∃ A, a = some A ∧ A'.block = A.block := by
  intro A' hA
  subst hA
  cases a with
  | none =>
    simp only [sliceV] at hh
    split at hh <;> simp at hh
  | some A =>
    obtain ⟨b, o, sp⟩ := A
    refine ⟨_, rfl, ?_⟩
    cases sp <;> simp only [sliceV] at hh <;> split at hh <;> (try split at hh) <;> simp at hh <;> (try (rw [← hh.1]))
theorem inext {fp : List Nat} (P : PL h p L fp) : WC T n_input_Plan_Next [ptr p 0] h q ↔ q (.tuple #[.int .i64 (L.head?.elim 0 (·.at')), .bool (!L.isEmpty)]) h := by
  obtain ⟨a, c, g, s, hc, hp, hne⟩ := P
  rw [w_input_Plan_Next]
  cases L with
  | nil => simp (disch := first | assumption | ((try simp only [push_next, put_next, adv_next, List.length_cons, List.length_nil]); omega) | simp) [g]
  | cons x L =>
    obtain ⟨A, rfl, hr⟩ := s.at' 0 (by simp)
    obtain ⟨ro, C, gA, hC⟩ := rdn_cells hr
    have c0 : C[A.off]? = some (.int .i64 x.at') := hC 0 (by simp)
    simp (disch := first | assumption | ((try simp only [push_next, put_next, adv_next, List.length_cons, List.length_nil]); omega) | simp) [g, gA, c0, show ¬ ((L.length : Int) + 1 = 0) by omega]
theorem ileft {fp : List Nat} (P : PL h p L fp) : WC T n_input_Plan_Left [ptr p 0] h q ↔ q (.int .i64 L.length) h := by
  obtain ⟨a, c, g, s, hc, hp, hne⟩ := P
  rw [w_input_Plan_Left]
  simp (disch := first | assumption | ((try simp only [push_next, put_next, adv_next, List.length_cons, List.length_nil]); omega) | simp) [g]
theorem inew (hs : Sees encKey h a L) (hc : L.length ≤ c) (hb : L.length < 2 ^ 39) (hq : ∀ h' p fp, (∀ b ∈ fp, h.next ≤ b) → (∀ b ∈ fp, b < h'.next) → PL h' p (isort (·.at') (L.take 256)) fp → Kp h h' → q (ptr p 0) h') : WC T n_input_New [.slice a L.length c] h q := by
  rw [w_input_New]
  obtain ⟨m, hm, hmi⟩ : ∃ m : Nat, m = min L.length 256 ∧ (if (256 : Int) < L.length then 256 else (L.length : Int)) = m := ⟨_, rfl, by split <;> omega⟩
  obtain ⟨a1, c1, hsl, hc1, s1⟩ := hs.part (c := c) (lo := 0) (hi := m) (by omega) (by omega) hc (l := none) (u := some (.int .i64 m)) (.inl ⟨rfl, rfl⟩) (.inr ⟨_, rfl⟩)
  simp at hsl s1
  have ht : (L.take m).length = m := by simp; omega
  have hLt : L.take 256 = L.take m := by
    rw [hm]
    rcases Nat.lt_or_ge L.length 256 with h1 | h1
    · rw [Nat.min_eq_left (by omega), List.take_of_length_le (by omega), List.take_of_length_le (by omega)]
    · rw [Nat.min_eq_right (by omega)]
  rw [hLt] at hq
  generalize L.take m = M at *
  subst ht
  simp (disch := first | assumption | ((try simp only [push_next, put_next, adv_next, List.length_cons, List.length_nil]); omega) | simp) [hmi, hsl]
  refine GC_intro (clone_key s1 (by omega) fun a' c' h' s2 K A1 A2 => ?_) fun v h2 hh => hh
  simp (disch := first | assumption | ((try simp only [push_next, put_next, adv_next, List.length_cons, List.length_nil]); omega) | simp)
  have K1 : Kp h (h'.push (.cells false [.slice a' M.length c'])) := K.trans ((Kp.refl h').push _)
  by_cases hM : M = []
  · subst hM
    simp (disch := first | assumption | ((try simp only [push_next, put_next, adv_next, List.length_cons, List.length_nil]); omega) | simp)
    refine GC_intro (stable0 fun v => ?_) fun v h2 hh => hh
    simp (disch := first | assumption | ((try simp only [push_next, put_next, adv_next, List.length_cons, List.length_nil]); omega) | simp)
    cases a' with
    | none => exact hq _ _ [h'.next] (by simpa using K.le) (by simp) ⟨none, c', get_push_self, s2.kp ((Kp.refl h').push _), by simp, by simp, fun A hA => (by cases hA)⟩ K1
    | some A =>
      have := lt_of_rdn (s2.get A rfl)
      exact hq _ _ [h'.next, A.block] (by simpa using ⟨K.le, A1 A rfl⟩) (by simp; omega) ⟨some A, c', get_push_self, s2.kp ((Kp.refl h').push _), by simp, by simp, fun B hB => by cases hB; exact ⟨by omega, by simp⟩⟩ K1
  rcases A2 with h0 | ⟨fp, O, hf⟩
  · exact absurd h0 hM
  obtain ⟨b1, r, rfl, hg1, hc', hb1⟩ : ∃ b1 r, a' = some ⟨b1, 0, some 2⟩ ∧ h'.get b1 = some (.cells false (encKey.all M ++ r)) ∧ M.length ≤ c' ∧ h.next ≤ b1 := by
    generalize hv : Value.slice a' M.length c' = v at O
    cases O with
    | nul => exact absurd rfl hM
    | blk g1 g2 g3 g4 g5 =>
      cases hv
      exact ⟨_, _, rfl, g1, g3, hf _ (by simp)⟩
    | emp => exact absurd rfl hM
  have hl1 := lt_of_get hg1
  generalize hh2 : h'.push (.cells false [.slice (some ⟨b1, 0, some 2⟩) M.length c']) = h2 at *
  have hg2 : h2.get b1 = some (.cells false (encKey.all M ++ r)) := by rw [← hh2, get_push_ne (by omega), hg1]
  have hp2 : h2.get h'.next = some (.cells false [.slice (some ⟨b1, 0, some 2⟩) M.length c']) := by rw [← hh2, get_push_self]
  refine GC_intro (sstable (r := r) icmp rfl (by omega) hg2 fun v h3 hg3 U3 => ?_) fun v h3 hh => hh
  simp (disch := first | assumption | ((try simp only [push_next, put_next, adv_next, List.length_cons, List.length_nil]); omega) | simp)
  have hp3 := lt_of_get hp2
  refine hq _ _ [h'.next, b1] (by simpa using ⟨K.le, hb1⟩) (by have := U3.le; simp; omega) ⟨some ⟨b1, 0, some 2⟩, c', ?_, ⟨fun hA => (by cases hA), fun B hB => ?_, fun B hB => (by cases hB; exact .inr rfl)⟩, by simpa using hc', by simp, fun A hA => by cases hA; exact ⟨show b1 ≠ _ by omega, by simp⟩⟩ (U3.kp' K1 (by simpa using hb1))
  · rw [U3.get _ hp3 (by simp; omega), hp2]
    simp
  · cases hB
    simp only [Hp.rdn, Hp.cells, hg3, Option.bind_some]
    rw [if_pos (by simp), List.drop_zero, List.take_left' (by simp)]
theorem tw_eq {P : Key → Bool} {l r : List Key} (h1 : ∀ x ∈ l, P x = true) (h2 : ∀ x, r.head? = some x → P x = false) : (l ++ r).takeWhile P = l ∧ (l ++ r).dropWhile P = r := by
  induction l with
  | nil => cases r with
    | nil => simp
    | cons x r => simp [h2 x rfl]
  | cons y l ih =>
    have := ih fun x hx => h1 x (by simp [hx])
    simp [h1 y (by simp), this]
theorem itake {fp : List Nat} {now : Int} (P : PL h p L fp) (hb : L.length < 2 ^ 39) (hfp : ∀ b ∈ fp, b < h.next)
    (hq : ∀ v h' fp', Own encB8 h' v ((L.takeWhile fun x => decide (x.at' ≤ now)).map (·.b)) fp' → (∀ b ∈ fp', h.next ≤ b) → PL h' p (L.dropWhile fun x => decide (x.at' ≤ now)) fp → Upd h h' [p] (p :: fp') → q v h') : WC T n_input_Plan_Take [ptr p 0, .int .i64 now] h q := by
  rw [w_input_Plan_Take]
  simp (disch := first | assumption | ((try simp only [push_next, put_next, adv_next, List.length_cons, List.length_nil]); omega) | simp) [-g2_input_Plan_Take]
  refine G_loop (fun m e' h' => ∃ (l r : List Key) (v : Value) (fo : List Nat), m = r.length ∧ L = l ++ r ∧ (∀ x ∈ l, x.at' ≤ now) ∧ e' 0 = ptr p 0 ∧ e' 1 = .int .i64 now ∧ e' 5 = v ∧ Own encB8 h' v (l.map (·.b)) fo ∧ (∀ b ∈ fo, h.next ≤ b) ∧ PL h' p r fp ∧ Upd h h' [p] (p :: fo)) ?_ L.length _ _
    ⟨[], L, _, [], rfl, rfl, by simp, by simp, by simp, rfl, by simpa using Own.nul, by simp, P, .refl⟩
  rintro m ih e' h' ⟨l, r, v, fo, rfl, rfl, hl, e0, e1, e5, O, hfo, P', U⟩
  have out : (∀ x, r.head? = some x → ¬ x.at' ≤ now) → q v h' := fun hh => by
    obtain ⟨t1, t2⟩ := tw_eq (P := fun x => decide (x.at' ≤ now)) (l := l) (r := r) (by simpa using hl) (by simpa using hh)
    rw [t1, t2] at hq
    exact hq v h' fo O hfo P' U
  obtain ⟨a, c, g, s, hc, hp, hne⟩ := P'
  cases r with
  | nil =>
    simp (disch := first | assumption | ((try simp only [push_next, put_next, adv_next, List.length_cons, List.length_nil]); omega) | simp) [e0, e1, e5, g]
    exact out (by simp)
  | cons x r =>
    obtain ⟨A, rfl, hr⟩ := s.at' 0 (by simp)
    obtain ⟨ro, C, gA, hC⟩ := rdn_cells hr
    have c0 : C[A.off]? = some (.int .i64 x.at') := hC 0 (by simp)
    have c1 : C[A.off + 1]? = some (u8 x.b) := hC 1 (by simp)
    by_cases t : x.at' ≤ now
    · simp (disch := first | assumption | ((try simp only [push_next, put_next, adv_next, List.length_cons, List.length_nil]); omega) | simp) [e0, e1, e5, g, gA, c0, c1, t, -g0_input_Plan_Take]
      have hAf := hne A rfl
      simp at hb
      refine GV_app1 (E := encB8) (x := x.b) O (by simp; omega) (by simp; omega) fun v' h2 fp' O' U' => ?_
      have hnp : ∀ b ∈ fo, b ∉ fp := fun b hb1 hb2 => by have := hfp b hb2; have := hfo b hb1; omega
      have g2 : h2.get p = some (.cells false [.slice (some A) (r.length + 1) c]) := by rw [U'.get p (lt_of_get g) (fun hh => hnp p hh hp), g]; simp
      have s2 : Sees encKey h2 (some A) (x :: r) := Sees.keep s fun B hB => by
        cases hB
        exact U'.get _ (lt_of_get gA) fun hh => hnp _ hh hAf.2
      obtain ⟨a3, c3, hsl, hc3, s3⟩ := s2.part (c := c) (lo := 1) (hi := r.length + 1) (by omega) (by simp) hc (l := some (.int .i64 1)) (u := none) (.inr ⟨_, rfl⟩) (.inl ⟨rfl, rfl⟩)
      simp at hsl s3 hc3
      have hbk := sliceV_block hsl
      have hlt2 := lt_of_get g2
      simp (disch := first | assumption | ((try simp only [push_next, put_next, adv_next, List.length_cons, List.length_nil]); omega) | simp) [e0, g2, hsl]
      apply ih r.length (by simp)
      refine ⟨l ++ [x], r, v', fp', rfl, by simp, fun y hy => ?_, by simp [e0], by simp [e1], by simp, ?_, fun b hb1 => ?_, ⟨a3, c3, by rw [get_put_self hlt2], Sees.keep s3 fun B hB => ?_, hc3, hp, fun B hB => ?_⟩, ?_⟩
      · rcases List.mem_append.1 hy with hy | hy
        · exact hl y hy
        · simp at hy; subst hy; exact t
      · rw [List.map_append]
        refine O'.keep fun b hb1 => get_put_ne fun hh => ?_
        subst hh
        rcases U'.sub _ hb1 with h5 | h5
        · exact hnp _ h5 hp
        · have := lt_of_get g; omega
      · rcases U'.sub b hb1 with h5 | h5
        · exact hfo b h5
        · have := U.le; omega
      · obtain ⟨A', hA', hAb⟩ := hbk B hB
        cases hA'
        rw [get_put_ne (by rw [hAb]; exact hAf.1)]
      · obtain ⟨A', hA', hAb⟩ := hbk B hB
        cases hA'
        rw [hAb]
        exact hAf
      · refine ⟨Nat.le_trans U.le U'.le, fun k hk hn => ?_, fun k hk => ?_⟩
        · simp at hn
          rw [get_put_ne hn, U'.get k (Nat.lt_of_lt_of_le hk U.le) (fun hh => by have := hfo k hh; omega), U.get k hk (by simpa using hn)]
        · rcases List.mem_cons.1 hk with hk | hk
          · exact .inl (by simp [hk])
          · rcases U'.sub k hk with h5 | h5
            · exact .inr (hfo k h5)
            · have := U.le; exact .inr (by omega)
    · simp (disch := first | assumption | ((try simp only [push_next, put_next, adv_next, List.length_cons, List.length_nil]); omega) | simp) [e0, e1, e5, g, gA, c0, t]
      exact out (by simpa using t)
end
end Go.Proofs.Ytppgoobhlcdbbaa.Cd
