/- Texts of one kind, one behind the other. -/
import Derived.Test.YtppgoobhlcdbbaaMeTimerNumbers1
/- A timer's play: all calls; TimerNumbers: the closed sentence. -/
set_option maxRecDepth 1000000
set_option maxHeartbeats 8000000
set_option linter.unusedSimpArgs false
set_option linter.unusedVariables false
namespace Go.Proofs.Ytppgoobhlcdbbaa.Cd
open Go Go.Dx
section
variable {g h h' : Hp} {q : Value → Hp → Prop} {n0 x : Nat} {fp fr fo : List Nat} {X : BS} {now dv : Int}
theorem splay {l : List AskS} {al : Option Addr} {cl : Nat} (hd : dv = 1 ∨ dv = 2) (Sl : Sees encAsk g al l) (hl : l.length < 2 ^ 40) :
    WC T n_pianolalaw11_play [.int .i64 dv, .slice al l.length cl] g fun v h' => v = .bool true ∧ Kp g h' := by
  rw [w_pianolalaw11_play]
  simp (maxSteps := 1000000) (disch := first | assumption | ((try simp only [push_next, put_next, adv_next, List.length_cons, List.length_nil, List.length_map, List.length_set]); omega) | simp) [GC_of (fun q => wnew)]
  have W1 : WhA (g.push (.cells false [.slice none 0 0, .int .i64 0])) g.next ⟨[], 0⟩ [] := ⟨Wh.new (h := g), .nil⟩
  have K1 : Kp g (g.push (.cells false [.slice none 0 0, .int .i64 0])) := (Kp.refl g).push _
  have n1 : (g.push (.cells false [.slice none 0 0, .int .i64 0])).next = g.next + 1 := rfl
  generalize g.push (.cells false [.slice none 0 0, .int .i64 0]) = h2 at *
  have hw2 : g.next < h2.next := by omega
  simp (maxSteps := 1000000) (disch := first | assumption | ((try simp only [push_next, put_next, adv_next, List.length_cons, List.length_nil, List.length_map, List.length_set]); omega) | simp) [GC_of (fun q => mnew (dv := dv) (q := q) hw2)]
  have D3 : TmC (h2.push (.cells false [.int .i64 dv, ptr g.next 0, u32 0#32, u32 0#32, u32 0#32])) h2.next g.next dv ⟨0#32, 0#32, 0#32⟩ := get_push_self
  have K3 : Kp h2 (h2.push (.cells false [.int .i64 dv, ptr g.next 0, u32 0#32, u32 0#32, u32 0#32])) := (Kp.refl h2).push _
  have n3 : (h2.push (.cells false [.int .i64 dv, ptr g.next 0, u32 0#32, u32 0#32, u32 0#32])).next = h2.next + 1 := rfl
  generalize h2.push (.cells false [.int .i64 dv, ptr g.next 0, u32 0#32, u32 0#32, u32 0#32]) = h3 at *
  have K13 := K1.trans K3
  have hn3 : h3.next = g.next + 2 := by omega
  rw [n1] at D3 ⊢
  refine znew (im := []) (se := []) .nul .nul (by simp) (by simp) fun h4 R4 K4 n4 => ?_
  obtain ⟨x, hx⟩ : ∃ x, x = g.next + 2 := ⟨_, rfl⟩
  rw [hn3, ← hx] at R4
  rw [hn3, ← hx]
  have P4 : SW g h4 dv g.next x [] [] [] (BS.mk0 1 [] []) (BS.mk0 1 [] []) := by
    refine ⟨⟨?_, W1.kp (K3.trans K4), by simp, by omega, by omega⟩, R4, hx, by simp, K13.trans K4, Nat.le_refl _⟩
    have : (BS.mk0 1 [] []).tm dv = ⟨0#32, 0#32, 0#32⟩ := by
      rcases hd with rfl | rfl <;> simp [BS.tm, BS.mk0]
    rw [this]
    unfold TmC at D3 ⊢
    rw [K4.get _ (by omega), D3]
  have hon : Only dv (BS.mk0 1 [] []) := fun e he => by simp [BS.mk0] at he
  generalize BS.mk0 1 [] [] = X0 at *
  have SK : ∀ {h'}, Kp g h' → Sees encAsk h' al l := fun K => Sl.kp K
  simp (maxSteps := 1000000) (disch := first | assumption | ((try simp only [push_next, put_next, adv_next, List.length_cons, List.length_nil, List.length_map, List.length_set]); omega) | simp)
  refine G_loop (fun k e h' => ∃ (i : Nat) (now : Int) (X : BS), k = 80 - i ∧ i ≤ 80 ∧ i ≤ l.length ∧ now ≤ 20 * i ∧ e 0 = .int .i64 dv ∧ e 1 = .slice al l.length cl ∧ e 5 = ptr g.next 0 ∧ e 6 = ptr (g.next + 1) 0 ∧ e 7 = ptr (x + 4) 0 ∧ e 8 = .int .i64 now ∧ e 9 = .int .i64 i ∧ SP g h' dv g.next x now X) ?_ 80 _ _ ⟨0, 0, X0, rfl, by omega, by omega, by omega, by simp, by simp, by simp, by simp, by simp, by simp, by simp, ⟨⟨[], [], [], P4⟩, hon, by omega⟩⟩
  rintro k ih e h' ⟨i, now, X, rfl, i80, il, hnow, e0, e1, e5, e6, e7, e8, e9, A⟩
  obtain ⟨fp, fr, fo, P⟩ := A.pw
  by_cases c : i < l.length ∧ i < 80
  · obtain ⟨c1, c2⟩ := c
    have c1i : (i : Int) < l.length := by omega
    have c2i : (i : Int) < 80 := by omega
    have hspl : l = l.take i ++ l[i] :: l.drop (i + 1) := by rw [List.getElem_cons_drop, List.take_append_drop]
    obtain ⟨A0, hA, hr⟩ := Sees.mid (A := l.take i) (x := l[i]) (B := l.drop (i + 1)) (by rw [← hspl]; exact SK P.kp)
    obtain ⟨y, hy⟩ : ∃ y, y = l[i] := ⟨_, rfl⟩
    rw [List.length_take, Nat.min_eq_left (by omega), ← hy] at hr
    subst hA
    have hr' : h'.rdn A0.block (A0.off + i * 5) 5 = some [.int .i64 y.k, .int .i64 y.j, u32 y.v, .int .i64 y.t, u8 y.b] := hr
    simp (maxSteps := 1000000) (disch := first | assumption | ((try simp only [push_next, put_next, adv_next, List.length_cons, List.length_nil, List.length_map, List.length_set]); omega) | simp) [e0, e1, e5, e6, e7, e8, e9, c1i, c2i, hr', -g12_pianolalaw11_play]
    have Kp1 : Kp h' (h'.push (.cells false [.int .i64 y.k, .int .i64 y.j, u32 y.v, .int .i64 y.t, u8 y.b])) := (Kp.refl h').push _
    refine sstep (y := y) (p := h'.next) hd (A.more Kp1) (by omega) get_push_self (by simp [e0]) (by simp [e5]) (by simp [e6]) (by simp [e7]) (by simp [e8]) (by simp) fun X' now' e' f0 f1 f5 f6 f7 f8 f9 hn h2 A2 => ?_
    have f9' : e' 9 = .int .i64 i := by rw [f9]; simp [e9]
    simp (maxSteps := 1000000) (disch := first | assumption | ((try simp only [push_next, put_next, adv_next, List.length_cons, List.length_nil, List.length_map, List.length_set]); omega) | simp) [f9']
    exact ih (80 - (i + 1)) (by omega) _ _ ⟨i + 1, now', X', rfl, by omega, by omega, by omega, by simp [f0, e0], by simp [f1, e1], by simp [f5, e5], by simp [f6, e6], by simp [f7, e7], by simp [f8], by simp, A2⟩
  · by_cases c1 : i < l.length
    · have c1i : (i : Int) < l.length := by omega
      have c2i : ¬ (i : Int) < 80 := by omega
      simp (maxSteps := 1000000) (disch := first | assumption | ((try simp only [push_next, put_next, adv_next, List.length_cons, List.length_nil, List.length_map, List.length_set]); omega) | simp) [e1, e6, e9, c1i, c2i]
      exact P.kp
    · have c1i : ¬ (i : Int) < l.length := by omega
      simp (maxSteps := 1000000) (disch := first | assumption | ((try simp only [push_next, put_next, adv_next, List.length_cons, List.length_nil, List.length_map, List.length_set]); omega) | simp) [e1, e6, e9, c1i]
      exact P.kp
theorem tnumbers : WC T n_pianolalaw11_TimerNumbers [] g fun v h' => v = .bool true := by
  rw [w_pianolalaw11_TimerNumbers]
  simp (maxSteps := 1000000) (disch := first | assumption | ((try simp only [push_next, put_next, adv_next, List.length_cons, List.length_nil, List.length_map, List.length_set]); omega) | simp)
  refine G_loop (fun k e h' => ∃ (i : Nat) (L : List AskS) (v : Value) (fp : List Nat), k = 78 - i ∧ i ≤ 78 ∧ L.length = i ∧ e 1 = v ∧ e 2 = .int .i64 i ∧ Own encAsk h' v L fp ∧ Kp g h' ∧ ∀ b ∈ fp, g.next ≤ b) ?_ 78 _ _ ⟨0, [], .slice none 0 0, [], rfl, by omega, rfl, by simp, by simp, .nul, .refl g, by simp⟩
  rintro k ih e h ⟨i, L, v, fp, rfl, i80, hL, e1, e2, O, K, hf⟩
  by_cases c : i < 78
  · have ci : (i : Int) < 78 := by omega
    obtain ⟨j, hj, hj7⟩ : ∃ j : Nat, (i : Int).tmod 7 = j ∧ j < 7 := ⟨i % 7, by rw [Int.tmod_eq_emod_of_nonneg (by omega)]; omega, by omega⟩
    obtain ⟨m, hm, hm4⟩ : ∃ m : Nat, (i : Int).tmod 5 = m ∧ m < 5 := ⟨i % 5, by rw [Int.tmod_eq_emod_of_nonneg (by omega)]; omega, by omega⟩
    obtain ⟨c7, h7⟩ : ∃ c7 : Int, ([.int .i64 0, .int .i64 4, .int .i64 3, .int .i64 2, .int .i64 1, .int .i64 4, .int .i64 3] : List Value)[j]? = some (.int .i64 c7) := by
      rcases (by omega : j = 0 ∨ j = 1 ∨ j = 2 ∨ j = 3 ∨ j = 4 ∨ j = 5 ∨ j = 6) with rfl | rfl | rfl | rfl | rfl | rfl | rfl <;> exact ⟨_, rfl⟩
    obtain ⟨c4, h4⟩ : ∃ c4 : Int, ([.int .i64 1, .int .i64 0, .int .i64 2, .int .i64 4, .int .i64 3] : List Value)[m]? = some (.int .i64 c4) := by
      rcases (by omega : m = 0 ∨ m = 1 ∨ m = 2 ∨ m = 3 ∨ m = 4) with rfl | rfl | rfl | rfl | rfl <;> exact ⟨_, rfl⟩
    have h7' : ∀ hh : j < ([.int .i64 0, .int .i64 4, .int .i64 3, .int .i64 2, .int .i64 1, .int .i64 4, .int .i64 3] : List Value).length, ([.int .i64 0, .int .i64 4, .int .i64 3, .int .i64 2, .int .i64 1, .int .i64 4, .int .i64 3] : List Value)[j]'hh = .int .i64 c7 := fun hh => by rw [List.getElem?_eq_getElem hh] at h7; exact Option.some.inj h7
    have h4' : ∀ hh : m < ([.int .i64 1, .int .i64 0, .int .i64 2, .int .i64 4, .int .i64 3] : List Value).length, ([.int .i64 1, .int .i64 0, .int .i64 2, .int .i64 4, .int .i64 3] : List Value)[m]'hh = .int .i64 c4 := fun hh => by rw [List.getElem?_eq_getElem hh] at h4; exact Option.some.inj h4
    simp (maxSteps := 1000000) (disch := first | assumption | ((try simp only [push_next, put_next, adv_next, List.length_cons, List.length_nil, List.length_map, List.length_set]); omega) | simp) [e1, e2, ci, hj, hm, h7, h4, h7', h4']
    have KA : Kp h ((((h.adv 3).put h.next (some (.cells false [.int .i64 0, .int .i64 4, .int .i64 3, .int .i64 2, .int .i64 1, .int .i64 4, .int .i64 3]))).put (h.next + 1) (some (.cells false [.int .i64 1, .int .i64 0, .int .i64 2, .int .i64 4, .int .i64 3]))).put (h.next + 2) (some (.cells false [.int .i64 c7, .int .i64 c4, u32 (BitVec.ofInt 32 ((i : Int).tmod 6)), .int .i64 ((i : Int).tmod 9), u8 0#8]))) := ((((Kp.refl h).adv 3).put (Nat.le_refl _) _).put (by omega) _).put (by omega) _
    have gA : ((((h.adv 3).put h.next (some (.cells false [.int .i64 0, .int .i64 4, .int .i64 3, .int .i64 2, .int .i64 1, .int .i64 4, .int .i64 3]))).put (h.next + 1) (some (.cells false [.int .i64 1, .int .i64 0, .int .i64 2, .int .i64 4, .int .i64 3]))).put (h.next + 2) (some (.cells false [.int .i64 c7, .int .i64 c4, u32 (BitVec.ofInt 32 ((i : Int).tmod 6)), .int .i64 ((i : Int).tmod 9), u8 0#8]))).get (h.next + 2) = some (.cells false (encAsk.all [(⟨c7, c4, BitVec.ofInt 32 ((i : Int).tmod 6), (i : Int).tmod 9, 0#8⟩ : AskS)])) := by
      rw [get_put_self (by simp)]
      simp [encAsk, Enc.all]
    generalize (((h.adv 3).put h.next (some (.cells false [.int .i64 0, .int .i64 4, .int .i64 3, .int .i64 2, .int .i64 1, .int .i64 4, .int .i64 3]))).put (h.next + 1) (some (.cells false [.int .i64 1, .int .i64 0, .int .i64 2, .int .i64 4, .int .i64 3]))).put (h.next + 2) (some (.cells false [.int .i64 c7, .int .i64 c4, u32 (BitVec.ofInt 32 ((i : Int).tmod 6)), .int .i64 ((i : Int).tmod 9), u8 0#8])) = hA at *
    generalize (⟨c7, c4, BitVec.ofInt 32 ((i : Int).tmod 6), (i : Int).tmod 9, 0#8⟩ : AskS) = y at *
    have SA : Sees encAsk hA (some ⟨h.next + 2, 0, none⟩) [y] := ⟨fun hB => (by cases hB), fun B hB => by
      cases hB
      simp [Hp.rdn, gA]
      exact ⟨Nat.le_refl 5, rfl⟩, fun B hB => by cases hB; exact .inl rfl⟩
    refine GVI_app (E := encAsk) (O.kp KA) SA rfl (by simp; omega) (by simp; omega) fun v' h' fp' O' U => ?_
    simp (maxSteps := 1000000) (disch := first | assumption | ((try simp only [push_next, put_next, adv_next, List.length_cons, List.length_nil, List.length_map, List.length_set]); omega) | simp) [e2]
    refine ih (78 - (i + 1)) (by omega) _ _ ⟨i + 1, _, v', fp', rfl, by omega, by simp [hL], by simp, by simp, O', U.kp' (K.trans KA) hf, fun b hb => ?_⟩
    rcases U.sub b hb with h5 | h5
    · exact hf b h5
    · have := K.le; have := KA.le; omega
  · have ci : ¬ (i : Int) < 78 := by omega
    obtain ⟨al, cl, hv, SL, _, _⟩ := O.len
    subst hv
    have hL78 : L.length = 78 := by omega
    have hq := fun dv hd h (S : Sees encAsk h al L) => splay (g := h) (dv := dv) (cl := cl) hd S (by omega)
    simp only [hL78] at hq
    rw [hL78] at e1
    simp (maxSteps := 1000000) (disch := first | assumption | ((try simp only [push_next, put_next, adv_next, List.length_cons, List.length_nil, List.length_map, List.length_set]); omega) | simp) [e1, e2, ci]
    refine GC_intro (hq 1 (.inl rfl) h SL) fun v h2 ⟨hv, K2⟩ => ?_
    subst hv
    simp (maxSteps := 1000000) (disch := first | assumption | ((try simp only [push_next, put_next, adv_next, List.length_cons, List.length_nil, List.length_map, List.length_set]); omega) | simp) [e1]
    refine GC_intro (hq 2 (.inr rfl) h2 (SL.kp K2)) fun v h3 ⟨hv, K3⟩ => ?_
    subst hv
    simp (maxSteps := 1000000) (disch := first | assumption | ((try simp only [push_next, put_next, adv_next, List.length_cons, List.length_nil, List.length_map, List.length_set]); omega) | simp) [e1]
    refine tknown.mono fun u g1 hu => ?_
    obtain ⟨rfl, _⟩ := hu
    simp (maxSteps := 1000000) (disch := first | assumption | ((try simp only [push_next, put_next, adv_next, List.length_cons, List.length_nil, List.length_map, List.length_set]); omega) | simp)
end
end Go.Proofs.Ytppgoobhlcdbbaa.Cd
