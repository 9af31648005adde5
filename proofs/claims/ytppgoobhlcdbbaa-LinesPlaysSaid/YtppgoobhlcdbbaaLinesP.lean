/- The lines against the document, for any calls. -/
import Derived.Test.YtppgoobhlcdbbaaLines
import Derived.Test.YtppgoobhlcdbbaaSx8
set_option maxRecDepth 1000000
set_option linter.unusedSimpArgs false
set_option linter.unusedVariables false
namespace Go.Proofs.Ytppgoobhlcdbbaa.Cd
open Go Go.Dx
structure LAsk where
  k : Int
  d : Int
  up : Bool
  a : BitVec 32
  v : BitVec 32
  now : Int
def encL : Enc LAsk := ⟨6, fun x => [.int .i64 x.k, .int .i64 x.d, .bool x.up, u32 x.a, u32 x.v, .int .i64 x.now], fun _ => rfl, fun _ => rfl, by decide⟩
theorem lo_of (n : Int) : (BitVec.ofInt 64 n).setWidth 32 = BitVec.ofInt 32 n := by
  apply BitVec.eq_of_toNat_eq
  simp only [BitVec.toNat_setWidth, BitVec.toNat_ofInt]
  omega
theorem hi_of (n : Int) : ((BitVec.ofInt 64 n) >>> 32).setWidth 32 = BitVec.ofInt 32 (n.fdiv 4294967296) := by
  apply BitVec.eq_of_toNat_eq
  rw [Int.fdiv_eq_ediv_of_nonneg _ (by decide)]
  simp only [BitVec.toNat_setWidth, BitVec.toNat_ofInt, BitVec.toNat_ushiftRight, Nat.shiftRight_eq_div_pow]
  omega
/-- What holds ahead of each call. -/
structure LI (g : Hp) (l : Value) (x : Nat) (i : Nat) (up ask : BitVec 32) (e : Env) (h : Hp) : Prop where
  kp : Kp g h
  x0 : g.next ≤ x
  ln : Ln h x up ask
  e0 : e 0 = l
  e3 : e 3 = ptr x 0
  e4 : e 4 = u32 up
  e5 : e 5 = u32 ask
  e6 : e 6 = .int .i64 i
theorem plays {g : Hp} {a : Option Addr} {c : Nat} {L : List LAsk} (hL : Sees encL g a L) : WC T n_pianolalaw10_LinesPlays [.slice a L.length c] g fun v _ => v = .bool true := by
  rw [w_pianolalaw10_LinesPlays]
  have L0 : Ln (g.push (.cells false [u32 0#32, u32 0#32])) g.next 0#32 0#32 := get_push_self
  simp [GC_of (fun q => new), -g16_pianolalaw10_LinesPlays]
  refine G_loop (fun n e h => ∃ i up ask, n = 60 - i ∧ i ≤ 60 ∧ i ≤ L.length ∧ LI g (.slice a L.length c) g.next i up ask e h) ?_ 60 _ _ ⟨0, 0#32, 0#32, rfl, by omega, by omega, ⟨(Kp.refl g).push _, Nat.le_refl _, L0, by simp, by simp, by simp, by simp, by simp⟩⟩
  rintro n ih e h ⟨i, up, ask, rfl, hi, hl, I⟩
  have hx : g.next < h.next := lt_of_get I.ln
  have out : ∀ e h, e 3 = ptr g.next 0 → G T (fin [RV.t 2] (some []) g.next fun v x => v = Value.bool true) c17_pianolalaw10_LinesPlays [] e h := by
    intro e h he
    simp [he]
    refine GC_intro known fun v h hv => ?_
    simp [hv.1]
  by_cases h1 : i < L.length
  case neg =>
    simp (disch := first | assumption | ((try simp only [push_next, put_next, adv_next, List.length_cons, List.length_nil]); omega) | simp) [I.e6, I.e0, h1, -g15_pianolalaw10_LinesPlays, -g17_pianolalaw10_LinesPlays]
    exact out _ _ (by simp [I.e3])
  by_cases h2 : i < 60
  case neg =>
    have h2' : ¬ ((i : Int) < 60) := by omega
    simp (disch := first | assumption | ((try simp only [push_next, put_next, adv_next, List.length_cons, List.length_nil]); omega) | simp) [I.e6, I.e0, h1, h2', -g15_pianolalaw10_LinesPlays, -g17_pianolalaw10_LinesPlays]
    exact out _ _ (by simp [I.e3])
  have h2' : (i : Int) < 60 := by omega
  obtain ⟨A, rfl, hA⟩ := hL.at' i h1
  generalize L[i] = y at hA
  obtain ⟨k, d, b, at', v, now⟩ := y
  have hA' : h.rdn A.block (A.off + i * 6) 6 = some [.int .i64 k, .int .i64 d, .bool b, u32 at', u32 v, .int .i64 now] := by
    exact rdn_kp hA (I.kp.get _ (lt_of_rdn hA))
  have hx0 := I.x0
  simp (disch := first | assumption | ((try simp only [push_next, put_next, adv_next, List.length_cons, List.length_nil]); omega) | simp) [I.e6, I.e0, I.e3, h1, h2', iaV_at, hA', -g6_pianolalaw10_LinesPlays]
  generalize hh1 : (h.push (Ob.cells false [.int .i64 0, .int .i64 0, .bool false, u32 0#32, u32 0#32, .int .i64 0])).put h.next (some (.cells false [.int .i64 k, .int .i64 d, .bool b, u32 at', u32 v, .int .i64 now])) = h1
  have y0 : h1.get h.next = some (.cells false [.int .i64 k, .int .i64 d, .bool b, u32 at', u32 v, .int .i64 now]) := by
    rw [← hh1, get_put_self (by simp)]
  have L1 : Ln h1 g.next up ask := by
    have := I.ln
    unfold Ln at this ⊢
    rw [← hh1, get_put_ne (by omega), get_push_ne (by omega), this]
  have K1 : Kp g h1 := by
    rw [← hh1]
    exact (I.kp.push _).put (by omega) _
  have n1 : h.next < h1.next := by rw [← hh1]; simp
  refine G_mid (fun e h' => ∃ up' ask', Ln h' g.next up' ask' ∧ Kp g h' ∧ h'.next = h1.next ∧ h'.get h.next = h1.get h.next ∧ e 0 = .slice (some A) L.length c ∧ e 3 = ptr g.next 0 ∧ e 4 = u32 up' ∧ e 5 = u32 ask' ∧ e 6 = .int .i64 i ∧ e 7 = ptr h.next 0) ?_ ?_
  · intro S hS
    have hlt := lt_of_get L1
    by_cases hk : k < 2
    · by_cases hd1 : 1 ≤ d
      · by_cases hd5 : d ≤ 5
        · have hd : ¬ (d < 1 ∨ 5 < d) := by omega
          have hw : (BitVec.ofInt 64 d).toNat = d.toNat := by rw [BitVec.toNat_ofInt]; omega
          simp (disch := first | assumption | ((try simp only [push_next, put_next, adv_next, List.length_cons, List.length_nil]); omega) | simp) [hk, GC_of (fun q => set L1), hd, hd1, hd5, I.e0, I.e3, I.e4, I.e5, I.e6, y0, hw]
          cases b
          · simp (disch := first | assumption | ((try simp only [push_next, put_next, adv_next, List.length_cons, List.length_nil]); omega) | simp) [I.e4, hw]
            exact hS _ _ ⟨lset d false up, ask, get_put_self hlt, K1.put (by omega) _, rfl, by rw [get_put_ne (by omega), y0], by simp [I.e0], by simp [I.e3], by simp [lset, hd], by simp [I.e5], by simp [I.e6], by simp⟩
          · simp (disch := first | assumption | ((try simp only [push_next, put_next, adv_next, List.length_cons, List.length_nil]); omega) | simp) [I.e4, hw]
            exact hS _ _ ⟨lset d true up, ask, get_put_self hlt, K1.put (by omega) _, rfl, by rw [get_put_ne (by omega), y0], by simp [I.e0], by simp [I.e3], by simp [lset, hd], by simp [I.e5], by simp [I.e6], by simp⟩
        · have hd : d < 1 ∨ 5 < d := by omega
          simp (disch := first | assumption | ((try simp only [push_next, put_next, adv_next, List.length_cons, List.length_nil]); omega) | simp) [hk, GC_of (fun q => set L1), hd, hd1, hd5, I.e0, I.e3, I.e4, I.e5, I.e6, y0]
          exact hS _ _ ⟨up, ask, L1, K1, rfl, rfl, by simp [I.e0], by simp [I.e3], by simp [I.e4], by simp [I.e5], by simp [I.e6], by simp⟩
      · have hd : d < 1 ∨ 5 < d := by omega
        simp (disch := first | assumption | ((try simp only [push_next, put_next, adv_next, List.length_cons, List.length_nil]); omega) | simp) [hk, GC_of (fun q => set L1), hd, hd1, I.e0, I.e3, I.e4, I.e5, I.e6, y0]
        exact hS _ _ ⟨up, ask, L1, K1, rfl, rfl, by simp [I.e0], by simp [I.e3], by simp [I.e4], by simp [I.e5], by simp [I.e6], by simp⟩
    · have done : ∀ e1 w, e1 0 = .slice (some A) L.length c → e1 3 = ptr g.next 0 → e1 4 = u32 up → e1 5 = u32 ask → e1 6 = .int .i64 i → e1 7 = ptr h.next 0 → e1 8 = u32 w → G T (EndN S) c4_pianolalaw10_LinesPlays [] e1 h1 := by
        intro e1 w e0 e3 e4 e5 e6 e7 e8
        by_cases w4 : w = 4#32
        · simp (disch := first | assumption | ((try simp only [push_next, put_next, adv_next, List.length_cons, List.length_nil]); omega) | simp) [e0, e3, e4, e5, e6, e7, e8, y0, w4, GC_of (fun q => write L1), lat]
          exact hS _ _ ⟨up, v &&& 62, get_put_self hlt, K1.put (by omega) _, rfl, by rw [get_put_ne (by omega), y0], by simp [e0], by simp [e3], by simp [e4], by simp, by simp [e6], by simp [e7]⟩
        · have w4' : (w == 4#32) = false := by simpa using w4
          by_cases w0 : w = 0#32
          · simp (disch := first | assumption | ((try simp only [push_next, put_next, adv_next, List.length_cons, List.length_nil]); omega) | simp) [e0, e3, e4, e5, e6, e7, e8, y0, w0, GC_of (fun q => write L1), lat]
            exact hS _ _ ⟨up, ask, L1, K1, rfl, rfl, by simp [e0], by simp [e3], by simp [e4], by simp [e5], by simp [e6], by simp [e7]⟩
          have w0' : (w == 0#32) = false := by simpa using w0
          by_cases w8 : w = 8#32
          · simp (disch := first | assumption | ((try simp only [push_next, put_next, adv_next, List.length_cons, List.length_nil]); omega) | simp) [e0, e3, e4, e5, e6, e7, e8, y0, w8, GC_of (fun q => write L1), lat]
            exact hS _ _ ⟨up, ask, L1, K1, rfl, rfl, by simp [e0], by simp [e3], by simp [e4], by simp [e5], by simp [e6], by simp [e7]⟩
          have w8' : (w == 8#32) = false := by simpa using w8
          by_cases wc : w = 12#32
          · simp (disch := first | assumption | ((try simp only [push_next, put_next, adv_next, List.length_cons, List.length_nil]); omega) | simp) [e0, e3, e4, e5, e6, e7, e8, y0, wc, GC_of (fun q => write L1), lat]
            exact hS _ _ ⟨up, ask, L1, K1, rfl, rfl, by simp [e0], by simp [e3], by simp [e4], by simp [e5], by simp [e6], by simp [e7]⟩
          have wc' : (w == 12#32) = false := by simpa using wc
          simp (disch := first | assumption | ((try simp only [push_next, put_next, adv_next, List.length_cons, List.length_nil]); omega) | simp) [e0, e3, e4, e5, e6, e7, e8, y0, w4, w0, w8, wc, w4', w0', w8', wc', GC_of (fun q => write L1), lat]
          exact hS _ _ ⟨up, ask, L1, K1, rfl, rfl, by simp [e0], by simp [e3], by simp [e4], by simp [e5], by simp [e6], by simp [e7]⟩
      by_cases hk2 : k = 2
      · simp (disch := first | assumption | ((try simp only [push_next, put_next, adv_next, List.length_cons, List.length_nil]); omega) | simp) [hk2, I.e0, I.e3, I.e4, I.e5, I.e6, y0, -g4_pianolalaw10_LinesPlays]
        exact done _ _ (by simp [I.e0]) (by simp [I.e3]) (by simp [I.e4]) (by simp [I.e5]) (by simp [I.e6]) (by simp) (by simp; rfl)
      · simp (disch := first | assumption | ((try simp only [push_next, put_next, adv_next, List.length_cons, List.length_nil]); omega) | simp) [hk, hk2, I.e0, I.e3, I.e4, I.e5, I.e6, y0, -g4_pianolalaw10_LinesPlays]
        exact done _ _ (by simp [I.e0]) (by simp [I.e3]) (by simp [I.e4]) (by simp [I.e5]) (by simp [I.e6]) (by simp) (by simp; rfl)
  · rintro e2 h2 ⟨up', ask', L2, K2, hn2, hy2, e0, e3, e4, e5, e6, e7⟩
    rw [y0] at hy2
    simp (disch := first | assumption | ((try simp only [push_next, put_next, adv_next, List.length_cons, List.length_nil]); omega) | simp) [-g12_pianolalaw10_LinesPlays]
    refine G_loop (fun n e h' => ∃ j : Nat, n = 20 - j ∧ j ≤ 20 ∧ h' = h2 ∧ e 10 = u32 (BitVec.ofNat 32 j) ∧ e 0 = .slice (some A) L.length c ∧ e 3 = ptr g.next 0 ∧ e 4 = u32 up' ∧ e 5 = u32 ask' ∧ e 6 = .int .i64 i ∧ e 7 = ptr h.next 0) ?_ 20 _ _ ⟨0, rfl, by omega, rfl, by simp, by simp [e0], by simp [e3], by simp [e4], by simp [e5], by simp [e6], by simp [e7]⟩
    clear e0 e3 e4 e5 e6 e7
    rintro n ih2 e2 h' ⟨j, rfl, hj, rfl, e10, e0, e3, e4, e5, e6, e7⟩
    by_cases hj2 : j = 20
    · subst hj2
      simp (disch := first | assumption | ((try simp only [push_next, put_next, adv_next, List.length_cons, List.length_nil]); omega) | simp) [e10, e0, e3, e4, e5, e6, e7, GC_of (fun q => raised L2), -g16_pianolalaw10_LinesPlays]
      exact ih (60 - (i + 1)) (by omega) _ _ ⟨i + 1, up', ask', rfl, by omega, by omega, K2, Nat.le_refl _, L2, by simp [e0], by simp [e3], by simp [e4], by simp [e5], by simp, ⟩
    · have : j = 0 ∨ j = 1 ∨ j = 2 ∨ j = 3 ∨ j = 4 ∨ j = 5 ∨ j = 6 ∨ j = 7 ∨ j = 8 ∨ j = 9 ∨ j = 10 ∨ j = 11 ∨ j = 12 ∨ j = 13 ∨ j = 14 ∨ j = 15 ∨ j = 16 ∨ j = 17 ∨ j = 18 ∨ j = 19 := by omega
      rcases this with w | w | w | w | w | w | w | w | w | w | w | w | w | w | w | w | w | w | w | w <;>
      · simp (disch := first | assumption | ((try simp only [push_next, put_next, adv_next, List.length_cons, List.length_nil]); omega) | simp) [e10, w, e0, e3, e4, e5, e6, e7, hy2, GC_of (fun q => read L2), lrd, lat, lo_of, hi_of]
        exact ih2 (20 - (j + 1)) (by omega) _ _ ⟨j + 1, rfl, by omega, rfl, by simp [w], by simp [e0], by simp [e3], by simp [e4], by simp [e5], by simp [e6], by simp [e7]⟩
theorem numbers {g : Hp} : WC T n_pianolalaw10_LinesNumbers [] g fun v _ => v = .bool true := by
  rw [w_pianolalaw10_LinesNumbers]
  simp (disch := first | assumption | ((try simp only [push_next, put_next, adv_next, List.length_cons, List.length_nil]); omega) | simp)
  refine G_loop (fun n e h => ∃ (i : Nat) (L : List LAsk) (fp : List Nat), n = 60 - i ∧ i ≤ 60 ∧ L.length = i ∧ Own encL h (e 1) L fp ∧ e 2 = .int .i64 i) ?_ 60 _ _ ⟨0, [], [], rfl, by omega, rfl, by simp; exact .nul, by simp⟩
  rintro n ih e h ⟨i, L, fp, rfl, hi, hl, O, e2⟩
  obtain ⟨a, c, hv, hs⟩ := O.len
  by_cases h60 : i = 60
  · subst h60
    simp (disch := first | assumption | ((try simp only [push_next, put_next, adv_next, List.length_cons, List.length_nil]); omega) | simp) [e2, hv]
    refine GC_intro (plays hs) fun v h hv => ?_
    simp [hv]
    refine GC_intro known fun v h hv => ?_
    simp [hv.1]
  · have h6 : (i : Int) < 60 := by omega
    have e17 : binV .mul (u32 (BitVec.ofInt 32 i)) (u32 17#32) = some (u32 (BitVec.ofInt 32 i * 17#32)) := mul_u32 _ _
    simp (disch := first | assumption | ((try simp only [push_next, put_next, adv_next, List.length_cons, List.length_nil]); omega) | simp) [e2, h6]
    refine GV_app1 (E := encL) (x := ⟨_, _, _, _, _, _⟩) O (by omega) (by omega) fun v' h' fp' O' U => ?_
    simp (disch := first | assumption | ((try simp only [push_next, put_next, adv_next, List.length_cons, List.length_nil]); omega) | simp) [e2]
    apply ih (60 - (i + 1)) (by omega)
    refine ⟨i + 1, _, _, rfl, by omega, ?_, by simp; exact O', by simp⟩
    simp [hl]
end Go.Proofs.Ytppgoobhlcdbbaa.Cd
