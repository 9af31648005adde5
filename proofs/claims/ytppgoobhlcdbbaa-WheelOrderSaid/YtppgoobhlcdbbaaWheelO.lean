/- WheelOrder: what it answers. -/
import Derived.Test.YtppgoobhlcdbbaaWheelP
set_option maxRecDepth 1000000
set_option linter.unusedSimpArgs false
set_option linter.unusedVariables false
namespace Go.Proofs.Ytppgoobhlcdbbaa.Cd
open Go Go.Dx
def encI : Enc Int := ⟨1, fun n => [.int .i64 n], fun _ => rfl, fun _ => rfl, by decide⟩
def Lx (a b : Ev) : Prop := a.at' < b.at' ∨ a.at' = b.at' ∧ a.seq < b.seq
theorem lx_insl {x : Ev} {p : List Ev} (hp : p.Pairwise Lx) (hx : ∀ y ∈ p, y.seq < x.seq) : (insl (·.at') x p).Pairwise Lx := by
  induction p using snocInd with
  | nil => simp
  | append_singleton p z ih =>
    obtain ⟨h1, _, h2⟩ := List.pairwise_append.1 hp
    by_cases h : x.at' < z.at'
    · rw [insl_lt (key := fun e : Ev => e.at') p h, List.pairwise_append]
      refine ⟨ih h1 fun y hy => hx y (by simp [hy]), by simp, fun y hy w hw => ?_⟩
      simp at hw
      subst hw
      rcases (mem_insl _).1 hy with rfl | hy
      · exact .inl h
      · exact h2 y hy w (by simp)
    · rw [insl_le (key := fun e : Ev => e.at') p h, show p ++ [z, x] = (p ++ [z]) ++ [x] by simp, List.pairwise_append]
      refine ⟨hp, by simp, fun y hy w hw => ?_⟩
      simp at hw
      subst hw
      have hs := hx y hy
      rcases List.mem_append.1 hy with hy' | hy'
      · rcases h2 y hy' z (by simp) with h3 | h3
        · by_cases h4 : y.at' < w.at'
          · exact .inl h4
          · omega
        · by_cases h4 : y.at' < w.at'
          · exact .inl h4
          · exact .inr ⟨by omega, hs⟩
      · simp at hy'
        subst hy'
        by_cases h4 : y.at' < w.at'
        · exact .inl h4
        · exact .inr ⟨by omega, hs⟩
def f50 (n : Int) : Int := (n.tmod 50 + 50).tmod 50
/-- What holds of the events. -/
structure OI (ats : List Int) (i : Nat) (L : List Ev) : Prop where
  wi : WI L
  lx : L.Pairwise Lx
  ev : ∀ x ∈ L, x.dev < i ∧ x.seq < i ∧ x.at' = f50 (ats.getD x.dev.toNat 0)
section
variable {g : Hp}
theorem order {a : Option Addr} {c : Nat} {xs : List Int} (hs : Sees encI g a xs) (hb : xs.length ≤ 9223372036854775807) : WC T n_pianolalaw9_WheelOrder [.slice a xs.length c] g fun v h' => v = .bool true := by
  rw [w_pianolalaw9_WheelOrder]
  simp (disch := first | assumption | ((try simp only [push_next, put_next, adv_next, List.length_cons, List.length_nil]); omega) | simp) [GC_of (fun q => wnew), -g7_pianolalaw9_WheelOrder]
  have hnx : ∃ n : Nat, (if (16 : Int) < xs.length then (16 : Int) else xs.length) = n ∧ n ≤ 16 ∧ n ≤ xs.length := by
    by_cases h : (16 : Int) < xs.length
    · exact ⟨16, by rw [if_pos h]; rfl, by omega, by omega⟩
    · exact ⟨xs.length, by rw [if_neg h], by omega, by omega⟩
  obtain ⟨n, hn, hn16, hnl⟩ := hnx
  rw [hn]
  have W0 := Wh.new (h := g)
  have K0 : Kp g (g.push (.cells false [.slice none 0 0, .int .i64 0])) := (Kp.refl g).push _
  have f0 : ∀ b ∈ g.next :: ([] : List Nat), g.next ≤ b := by simp
  generalize g.push (.cells false [.slice none 0 0, .int .i64 0]) = h0 at *
  refine G_loop (fun k e h => ∃ (i : Nat) (L : List Ev) (fp : List Nat), k = n - i ∧ i ≤ n ∧ L.length = i ∧ OI xs i L ∧ Wh h g.next L i fp ∧ Kp g h ∧ (∀ b ∈ g.next :: fp, g.next ≤ b) ∧ e 0 = .slice a xs.length c ∧ e 3 = ptr g.next 0 ∧ e 4 = .int .i64 n ∧ e 5 = .int .i64 i) ?_ n _ _ ⟨0, [], [], rfl, by omega, rfl, ⟨.nil, by simp, by simp⟩, W0, K0, f0, by simp, by simp, by simp, by simp⟩
  rintro k ih e h ⟨i, L, fp, rfl, hi, hL, O, W, K, hf, e0, e3, e4, e5⟩
  by_cases hin : i < n
  · have hin' : (i : Int) < n := by omega
    obtain ⟨A, rfl, hr⟩ := hs.at' i (by omega)
    have hri : h.rdn A.block (A.off + i * 1) 1 = some [.int .i64 xs[i]] := rdn_kp hr (K.get _ (lt_of_rdn hr))
    obtain ⟨ro, C, hg, hC⟩ := rdn_cells hri
    have hC0 := hC 0 (by omega)
    simp at hC0
    have hil : (i : Int) < xs.length := by omega
    obtain ⟨a1, a2, a3, a4⟩ := mod50 xs[i]
    have hnd : ∀ x ∈ L, decide (x.dev = (i : Int)) = false := fun x hx => by
      have := (O.ev x hx).1
      simp
      omega
    obtain ⟨r1, _⟩ := wcan_none hnd
    simp (disch := first | assumption | ((try simp only [push_next, put_next, adv_next, List.length_cons, List.length_nil]); omega) | simp) [e0, e3, e4, e5, hin', hil, hg, hC0]
    refine warmI W O.wi (fun hb => ?_) fun hb h1 fp1 I1 W1 U1 => ?_
    · simp [wbad] at hb
      omega
    · rw [r1] at I1 W1
      obtain ⟨f1, K1⟩ := fpUp hf K U1
      simp (disch := first | assumption | ((try simp only [push_next, put_next, adv_next, List.length_cons, List.length_nil]); omega) | simp) [e5]
      apply ih (n - (i + 1)) (by omega)
      refine ⟨i + 1, _, fp1, rfl, by omega, by simp [hL], ⟨I1, lx_insl O.lx fun y hy => (O.ev y hy).2.1, fun x hx => ?_⟩, ?_, K1, f1, by simp [e0], by simp [e3], by simp [e4], by simp⟩
      · rcases (mem_insl _).1 hx with rfl | hx
        · refine ⟨by simp; omega, by simp; omega, ?_⟩
          simp [f50, List.getD, show i < xs.length by omega]
        · obtain ⟨h1, h2, h3⟩ := O.ev x hx
          exact ⟨by omega, by omega, h3⟩
      · rw [wrap_i64 (by omega) (by omega)] at W1
        exact W1
  have hin' : i = n := by omega
  subst hin'
  have hlt : ¬ ((i : Int) < i) := by omega
  simp (disch := first | assumption | ((try simp only [push_next, put_next, adv_next, List.length_cons, List.length_nil]); omega) | simp) [e4, e5, hlt, -g6_pianolalaw9_WheelOrder, -g5_pianolalaw9_WheelOrder]
  have W1 := W.laid (.cells false [.int .i64 0, .int .i64 0, .int .i64 0]) (.cells false [.int .i64 (-1), .int .i64 0, .int .i64 0])
  have K1 := kp_laid K (.cells false [.int .i64 0, .int .i64 0, .int .i64 0]) (.cells false [.int .i64 (-1), .int .i64 0, .int .i64 0])
  have z1 : ((h.push (.cells false [.int .i64 0, .int .i64 0, .int .i64 0])).put h.next (some (.cells false [.int .i64 (-1), .int .i64 0, .int .i64 0]))).get h.next = some (.cells false [.int .i64 (-1), .int .i64 0, .int .i64 0]) := get_put_self (by simp)
  have hz1 : h.next ∉ g.next :: fp := fun hc => by have := W.live _ hc; omega
  generalize hy : h.next = y at *
  have hgy : g.next ≤ y := by rw [← hy]; exact K.le
  generalize (h.push (.cells false [.int .i64 0, .int .i64 0, .int .i64 0])).put y (some (.cells false [.int .i64 (-1), .int .i64 0, .int .i64 0])) = h1 at *
  clear ih
  refine G_loop (fun k e h => ∃ (now : Nat) (L : List Ev) (fp : List Nat) (la lo ld : Int) (cnt : Nat), k = 60 - now ∧ now ≤ 60 ∧ cnt + L.length = i ∧ OI xs i L ∧ Wh h g.next L i fp ∧ Kp g h ∧ (∀ b ∈ g.next :: fp, g.next ≤ b) ∧ (∀ x ∈ L, (now : Int) ≤ x.at') ∧ h.get y = some (.cells false [.int .i64 la, .int .i64 lo, .int .i64 ld]) ∧ y ∉ g.next :: fp ∧ (∀ x ∈ L, la < x.at' ∨ la = x.at' ∧ ld < x.seq) ∧ e 0 = .slice a xs.length c ∧ e 3 = ptr g.next 0 ∧ e 4 = .int .i64 i ∧ e 6 = ptr y 0 ∧ e 7 = .int .i64 cnt ∧ e 8 = .int .i64 now) ?_ 60 _ _ ?_
  case refine_2 =>
    refine ⟨0, L, fp, -1, 0, 0, 0, rfl, by omega, by omega, O, W1, K1, hf, fun x hx => ?_, z1, hz1, fun x hx => ?_, by simp [e0], by simp [e3], by simp [e4], by simp, by simp, by simp⟩
    · have := O.wi.pos x hx; simpa using this
    · have := O.wi.pos x hx; exact .inl (by omega)
  clear W1 K1 z1 hz1 W K hf O hL hy e0 e3 e4 e5
  rintro k ih e h ⟨now, L, fp, la, lo, ld, cnt, rfl, hnow, hc, O, W, K, hf, hat, hz, hy1, hl, e0, e3, e4, e6, e7, e8⟩
  by_cases h60 : now = 60
  · have hLn : L = [] := by
      rcases L with _ | ⟨x, B⟩
      · rfl
      · have h1 := hat x (by simp)
        have h2 := (O.ev x (by simp)).2.2
        have h3 := (mod50 (xs.getD x.dev.toNat 0)).2.2.2
        unfold f50 at h2
        omega
    subst hLn
    have hcn : cnt = i := by simpa using hc
    simp (disch := first | assumption | ((try simp only [push_next, put_next, adv_next, List.length_cons, List.length_nil]); omega) | simp) [e3, e4, e7, e8, h60, hcn]
    refine wall W (by simp) fun a' c' h2 s2 K2 => ?_
    simp (disch := first | assumption | ((try simp only [push_next, put_next, adv_next, List.length_cons, List.length_nil]); omega) | simp)
    exact GC_intro wknown fun v h hv => by simp (disch := first | assumption | ((try simp only [push_next, put_next, adv_next, List.length_cons, List.length_nil]); omega) | simp) [hv.1]
  have hlt60 : (now : Int) < 60 := by omega
  simp (disch := first | assumption | ((try simp only [push_next, put_next, adv_next, List.length_cons, List.length_nil]); omega) | simp) [e8, hlt60, -g4_pianolalaw9_WheelOrder]
  have Ilen := O.wi.len
  refine G_loop (fun k e h => ∃ (kk : Nat) (L : List Ev) (fp : List Nat) (la lo ld : Int) (cnt : Nat), k = 20 - kk ∧ kk + L.length ≤ 16 ∧ cnt + L.length = i ∧ OI xs i L ∧ Wh h g.next L i fp ∧ Kp g h ∧ (∀ b ∈ g.next :: fp, g.next ≤ b) ∧ (∀ x ∈ L, (now : Int) ≤ x.at') ∧ h.get y = some (.cells false [.int .i64 la, .int .i64 lo, .int .i64 ld]) ∧ y ∉ g.next :: fp ∧ (∀ x ∈ L, la < x.at' ∨ la = x.at' ∧ ld < x.seq) ∧ e 0 = .slice a xs.length c ∧ e 3 = ptr g.next 0 ∧ e 4 = .int .i64 i ∧ e 6 = ptr y 0 ∧ e 7 = .int .i64 cnt ∧ e 8 = .int .i64 now ∧ e 9 = .int .i64 kk) ?_ 20 _ _ ⟨0, L, fp, la, lo, ld, cnt, rfl, by omega, hc, O, W, K, hf, hat, hz, hy1, hl, by simp [e0], by simp [e3], by simp [e4], by simp [e6], by simp [e7], by simp [e8], by simp⟩
  clear W K hf hat hz hy1 hl e0 e3 e4 e6 e7 e8 O hc Ilen
  rintro k ih2 e h ⟨kk, L, fp, la, lo, ld, cnt, rfl, hkk, hc, O, W, K, hf, hat, hz, hy1, hl, e0, e3, e4, e6, e7, e8, e9⟩
  have hk20 : (kk : Int) < 20 := by omega
  have Ilen := O.wi.len
  simp (disch := first | assumption | ((try simp only [push_next, put_next, adv_next, List.length_cons, List.length_nil]); omega) | simp) [e3, e8, e9, hk20]
  refine wtake W (by omega) (fun hno h1 K1 => ?_) fun x B hx hle h1 fp1 W1 U1 => ?_
  · have W1 := (W.kp K1).laid (.cells false [.int .i64 0, .int .i64 0, .int .i64 0]) (.cells false [.int .i64 0, .int .i64 0, .int .i64 0])
    have K2 := kp_laid (K.trans K1) (.cells false [.int .i64 0, .int .i64 0, .int .i64 0]) (.cells false [.int .i64 0, .int .i64 0, .int .i64 0])
    have hz1 : ((h1.push (.cells false [.int .i64 0, .int .i64 0, .int .i64 0])).put h1.next (some (.cells false [.int .i64 0, .int .i64 0, .int .i64 0]))).get y = some (.cells false [.int .i64 la, .int .i64 lo, .int .i64 ld]) := by
      have h5 := K1.get y (lt_of_get hz)
      have h6 := lt_of_get hz
      have h7 := K1.le
      rw [get_put_ne (by omega), get_push_ne (by omega), h5, hz]
    simp (disch := first | assumption | ((try simp only [push_next, put_next, adv_next, List.length_cons, List.length_nil]); omega) | simp) [e8]
    generalize (h1.push (.cells false [.int .i64 0, .int .i64 0, .int .i64 0])).put h1.next (some (.cells false [.int .i64 0, .int .i64 0, .int .i64 0])) = h2 at *
    apply ih (60 - (now + 1)) (by omega)
    refine ⟨now + 1, L, fp, la, lo, ld, cnt, rfl, by omega, hc, O, W1, K2, hf, fun x hx => ?_, hz1, hy1, hl, by simp [e0], by simp [e3], by simp [e4], by simp [e6], by simp [e7], by simp⟩
    rcases L with _ | ⟨x0, B⟩
    · cases hx
    · have h1 := hno x0 (by simp)
      rcases List.mem_cons.1 hx with rfl | hx
      · omega
      · have h2 := (List.pairwise_cons.1 O.wi.srt).1 x hx
        simp at h2
        omega
  · subst hx
    obtain ⟨f1, K1⟩ := fpUp hf K U1
    have hxn := hat x (by simp)
    have hxe : x.at' = now := by omega
    obtain ⟨hx1, hx2, hx3⟩ := O.ev x (by simp)
    have hxd := O.wi.dev x (by simp)
    have hxl := hl x (by simp)
    have z0 : h1.get y = some (.cells false [.int .i64 la, .int .i64 lo, .int .i64 ld]) := by rw [U1.get y (lt_of_get hz) hy1, hz]
    have hyl := lt_of_get z0
    have hy2 : y ∉ g.next :: fp1 := fun hc' => by
      rcases U1.sub y hc' with h5 | h5
      · exact hy1 h5
      · have := lt_of_get hz; omega
    have W2 := W1.laid (.cells false [.int .i64 0, .int .i64 0, .int .i64 0]) (.cells false [.int .i64 x.at', .int .i64 x.dev, .int .i64 x.seq])
    have K2 := kp_laid K1 (.cells false [.int .i64 0, .int .i64 0, .int .i64 0]) (.cells false [.int .i64 x.at', .int .i64 x.dev, .int .i64 x.seq])
    have z2 : ((h1.push (.cells false [.int .i64 0, .int .i64 0, .int .i64 0])).put h1.next (some (.cells false [.int .i64 x.at', .int .i64 x.dev, .int .i64 x.seq]))).get h1.next = some (.cells false [.int .i64 x.at', .int .i64 x.dev, .int .i64 x.seq]) := get_put_self (by simp)
    have zy : ((h1.push (.cells false [.int .i64 0, .int .i64 0, .int .i64 0])).put h1.next (some (.cells false [.int .i64 x.at', .int .i64 x.dev, .int .i64 x.seq]))).get y = some (.cells false [.int .i64 la, .int .i64 lo, .int .i64 ld]) := by
      rw [get_put_ne (by omega), get_push_ne (by omega), z0]
    have nx : ((h1.push (.cells false [.int .i64 0, .int .i64 0, .int .i64 0])).put h1.next (some (.cells false [.int .i64 x.at', .int .i64 x.dev, .int .i64 x.seq]))).next = h1.next + 1 := rfl
    simp (disch := first | assumption | ((try simp only [push_next, put_next, adv_next, List.length_cons, List.length_nil]); omega) | simp) [e8, e9, encEv, -g2_pianolalaw9_WheelOrder]
    generalize (h1.push (.cells false [.int .i64 0, .int .i64 0, .int .i64 0])).put h1.next (some (.cells false [.int .i64 x.at', .int .i64 x.dev, .int .i64 x.seq])) = h2 at *
    have hdl : x.dev.toNat < xs.length := by omega
    obtain ⟨A, rfl, hr⟩ := hs.at' x.dev.toNat hdl
    have hri : h2.rdn A.block (A.off + x.dev.toNat * 1) 1 = some [.int .i64 xs[x.dev.toNat]] := rdn_kp hr (K2.get _ (lt_of_rdn hr))
    obtain ⟨ro, C, hg, hC⟩ := rdn_cells hri
    have hC0 := hC 0 (by omega)
    simp at hC0
    have hx3' : (xs[x.dev.toNat].tmod 50 + 50).tmod 50 = now := by
      rw [← hxe, hx3]
      simp [f50, List.getD, hdl]
    obtain ⟨a1, a2, a3, a4⟩ := mod50 xs[x.dev.toNat]
    have hd0 : 0 ≤ x.dev := hxd.1
    have hdx : x.dev < xs.length := by omega
    have hlt1 : ¬ x.at' < la := by omega
    have hlt2 : ¬ (now : Int) < la := by omega
    have hy2l := lt_of_get zy
    have done : ∀ e, e 0 = .slice (some A) xs.length c → e 3 = ptr g.next 0 → e 4 = .int .i64 i → e 6 = ptr y 0 → e 7 = .int .i64 (cnt + 1) → e 8 = .int .i64 now → e 9 = .int .i64 (kk + 1) → G T (fin [RV.t 2] (some []) g.next fun v h' => v = .bool true) (.loop c4_pianolalaw9_WheelOrder) [.block 4, .block 3, .seq (.ops [⟨some 37, none, .mov (.t 8)⟩, ⟨some 38, none, .bin .add (.t 37) (.c (.int .i64 1))⟩, ⟨some 8, none, .mov (.t 38)⟩]), .loop c5_pianolalaw9_WheelOrder, .block 2, .seq c6_pianolalaw9_WheelOrder] e (h2.put y (some (.cells false [.int .i64 x.at', .int .i64 x.dev, .int .i64 x.seq]))) := by
      intro e e0 e3 e4 e6 e7 e8 e9
      apply ih2 (20 - (kk + 1)) (by omega)
      refine ⟨kk + 1, B, fp1, x.at', x.dev, x.seq, cnt + 1, rfl, by simp at hkk; omega, by simp at hc; omega, ⟨O.wi.tail, (List.pairwise_cons.1 O.lx).2, fun z hz => O.ev z (by simp [hz])⟩, W2.keep fun b hb => get_put_ne fun e => hy2 (e ▸ hb), K2.put (by omega) _, f1, fun z hz => hat z (by simp [hz]), get_put_self hy2l, hy2, fun z hz => ?_, e0, e3, e4, e6, by rw [e7]; rfl, e8, by rw [e9]; rfl⟩
      have := (List.pairwise_cons.1 O.lx).1 z hz
      exact this
    rw [hxe] at done
    by_cases heq : (now : Int) = la
    · have hsq : ¬ x.seq ≤ ld := by omega
      simp (disch := first | assumption | ((try simp only [push_next, put_next, adv_next, List.length_cons, List.length_nil]); omega) | simp) [e0, e3, e4, e6, e7, e8, e9, z2, zy, hxe, hlt2, heq, hsq, hd0, hdx, hg, hC0, hx3', Hp.rdn]
      rw [heq] at done
      apply done <;> simp [e0, e3, e4, e6, e7, e8, e9, heq]
    · simp (disch := first | assumption | ((try simp only [push_next, put_next, adv_next, List.length_cons, List.length_nil]); omega) | simp) [e0, e3, e4, e6, e7, e8, e9, z2, zy, hxe, hlt2, heq, hd0, hdx, hg, hC0, hx3', Hp.rdn]
      apply done <;> simp [e0, e3, e4, e6, e7, e8, e9]
end
end Go.Proofs.Ytppgoobhlcdbbaa.Cd
