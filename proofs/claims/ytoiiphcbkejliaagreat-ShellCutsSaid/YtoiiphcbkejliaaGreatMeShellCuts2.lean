/- Texts of one kind, one behind the other. -/
import Derived.Test.YtoiiphcbkejliaaGreatMeShellCuts1
import Derived.Test.YtoiiphcbkejliaaGreatMcz0
/- The document's programs: an image comes, whatever is drawn. -/
set_option maxRecDepth 1000000
set_option maxHeartbeats 8000000
set_option linter.unusedSimpArgs false
set_option linter.unusedVariables false
namespace Go.Proofs.YtoiiphcbkejliaaGreat.Cd
open Go Go.Dx
section
variable {h h' : Hp} {q : Value → Hp → Prop}
/-- Bytes in a block. -/
def Bb (h : Hp) (b N : Nat) : Prop := ∃ B : By, B.length = N ∧ h.get b = some (.cells false (B.map u8))
theorem Bb.set {b N i : Nat} (A : Bb h b N) (hi : i < N) (c : BitVec 8) : ∃ h', h.wr b i [u8 c] = some h' ∧ Bb h' b N ∧ Upd h h' [b] [b] := by
  obtain ⟨B, hl, hg⟩ := A
  refine ⟨_, wr_ok hg (by simp; omega) rfl, ⟨B.set i c, by simp [hl], ?_⟩, ?_⟩
  · rw [get_put_self (lt_of_get hg), over_set (by simp; omega), List.map_set]
  · exact (Kp.upd (.refl h) _).put1
theorem Bb.kp {b N : Nat} (A : Bb h b N) (K : Kp h h') : Bb h' b N := by
  obtain ⟨B, hl, hg⟩ := A
  exact ⟨B, hl, (K.get _ (lt_of_get hg)).trans hg⟩
theorem k_put {bb N a : Nat} {l : List (BitVec 32)} {al : Option Addr} {cl : Nat} (A : Bb h bb N) (S : Sees encW h al l) (hN : N < 2 ^ 40) (ha : a < 2 ^ 40) (hl : l.length < 2 ^ 40) (hne : ∀ D, al = some D → D.block ≠ bb) :
    WC T n_4i [.slice (some ⟨bb, 0, none⟩) N N, .int .i64 (a : Int), .slice al l.length cl] h fun v h' => v = .tuple #[] ∧ Bb h' bb N ∧ Upd h h' [bb] [bb] := by
  rw [w_4i]
  simp (maxSteps:=9^7)(disch:=first|assumption|((try simp only[nX]);omega)|simp)
  refine G_loop (fun j e h' => ∃ i : Nat, j = l.length - i ∧ i ≤ l.length ∧ e 0 = .slice (some ⟨bb, 0, none⟩) N N ∧ e 1 = .int .i64 (a : Int) ∧ e 2 = .slice al l.length cl ∧ e 6 = .int .i64 i ∧ Bb h' bb N ∧ Upd h h' [bb] [bb]) ?_ l.length _ _ ⟨0, rfl, by omega, by simp, by simp, by simp, by simp, A, .refl⟩
  rintro j ih e h' ⟨i, rfl, hi, e0, e1, e2, e6, A', U'⟩
  by_cases c1 : i < l.length
  case neg =>
    have c1' : ¬ (i : Int) < l.length := by omega
    simp (maxSteps:=9^7)(disch:=first|assumption|((try simp only[nX]);omega)|simp) [e0, e1, e2, e6, c1']
    exact ⟨A', U'⟩
  have c1' : (i : Int) < l.length := by omega
  by_cases c2 : a + 4 * i + 4 ≤ N
  case neg =>
    have c2' : ¬ (a : Int) + 4 * i + 4 ≤ N := by omega
    simp (maxSteps:=9^7)(disch:=first|assumption|((try simp only[nX]);omega)|simp) [e0, e1, e2, e6, c1', c2']
    exact ⟨A', U'⟩
  have c2' : (a : Int) + 4 * i + 4 ≤ N := by omega
  simp (maxSteps:=9^7)(disch:=first|assumption|((try simp only[nX]);omega)|simp) [e0, e1, e2, e6, c1', c2']
  refine G_loop (fun j e' h'' => ∃ k : Nat, j = 4 - k ∧ k ≤ 4 ∧ e' 0 = e 0 ∧ e' 1 = e 1 ∧ e' 2 = e 2 ∧ e' 6 = e 6 ∧ e' 7 = .int .i64 k ∧ Bb h'' bb N ∧ Upd h h'' [bb] [bb]) ?_ 4 _ _ ⟨0, rfl, by omega, by simp, by simp, by simp, by simp, by simp, A', U'⟩
  rintro j ih2 e' h'' ⟨k, rfl, hk, f0, f1, f2, f6, f7, A2, U2⟩
  by_cases c3 : k < 4
  case neg =>
    obtain rfl : k = 4 := by omega
    simp (maxSteps:=9^7)(disch:=first|assumption|((try simp only[nX]);omega)|simp) [f0, f1, f2, f6, f7, e6]
    exact ih (l.length - (i + 1)) (by omega) _ _ ⟨i + 1, rfl, by omega, by simp [f0, e0], by simp [f1, e1], by simp [f2, e2], by simp, A2, U2⟩
  have c3' : (k : Int) < 4 := by omega
  have S2 := S.upd U2 fun D hD hm => hne D hD (by simpa using hm)
  have hx : l = l.take i ++ l[i] :: l.drop (i + 1) := by rw [List.getElem_cons_drop, List.take_append_drop]
  obtain ⟨D, ro, C, rfl, hg, hC⟩ := Sees.cell (E := encW) (f := u32) (fun _ => rfl) rfl (us := l.take i) (x := l[i]) (vs := l.drop (i + 1)) (by rw [← hx]; exact S2)
  rw [List.length_take, Nat.min_eq_left (by omega)] at hC
  have hix : ((a : Int) + 4 * i + k).toNat = a + 4 * i + k := by omega
  simp (maxSteps:=9^7)(disch:=first|assumption|((try simp only[nX]);omega)|simp) [f0, f1, f2, f6, f7, e0, e1, e2, e6, c3', c1, c1', hg, hC, hix, -Hp.wr]
  obtain ⟨h3, hw, A3, U3⟩ := A2.set (i := a + 4 * i + k) (by omega) (BitVec.setWidth 8 (l[i] >>> ((24 - 8 * (k : Int)) % 18446744073709551616).toNat))
  rw [hw]
  simp (maxSteps:=9^7)(disch:=first|assumption|((try simp only[nX]);omega)|simp) [f7]
  exact ih2 (4 - (k + 1)) (by omega) _ _ ⟨k + 1, rfl, by omega, by simp [f0], by simp [f1], by simp [f2], by simp [f6], by simp, A3, U2.trans U3⟩
/-- A row of words that grows: a table at first, its own block later; all at or behind lo. -/
def Rz (h : Hp) (lo : Nat) (v : Value) (xs : List (BitVec 32)) : Prop :=
  (∃ b, v = .slice (some ⟨b, 0, none⟩) xs.length xs.length ∧ lo ≤ b ∧ Sees encW h (some ⟨b, 0, none⟩) xs) ∨ (∃ fp, Own encW h v xs fp ∧ ∀ b ∈ fp, lo ≤ b)
/-- What lies ahead of lo is as it was. -/
structure KL (lo : Nat) (h h' : Hp) : Prop where
  le : h.next ≤ h'.next
  get : ∀ b, b < lo → h'.get b = h.get b
theorem KL.trans {lo : Nat} {a b c : Hp} (x : KL lo a b) (y : KL lo b c) : KL lo a c := ⟨Nat.le_trans x.le y.le, fun k hk => (y.get k hk).trans (x.get k hk)⟩
theorem _root_.Go.Dx.Kp.kl {lo : Nat} (K : Kp h h') (hl : lo ≤ h.next) : KL lo h h' := ⟨K.le, fun b hb => K.get b (by omega)⟩
theorem Rz.kp {lo : Nat} {v : Value} {xs : List (BitVec 32)} (R : Rz h lo v xs) (K : Kp h h') : Rz h' lo v xs := by
  rcases R with ⟨b, h1, h2, h3⟩ | ⟨fp, h1, h2⟩
  · exact .inl ⟨b, h1, h2, h3.kp K⟩
  · exact .inr ⟨fp, h1.kp K, h2⟩
theorem Rz.sees {lo : Nat} {v : Value} {xs : List (BitVec 32)} (R : Rz h lo v xs) : ∃ a c, v = .slice a xs.length c ∧ Sees encW h a xs ∧ ∀ A, a = some A → lo ≤ A.block := by
  rcases R with ⟨b, h1, h2, h3⟩ | ⟨fp, h1, h2⟩
  · exact ⟨_, _, h1, h3, fun A hA => by cases hA; exact h2⟩
  · obtain ⟨a, c, e, s, _, m⟩ := h1.len
    exact ⟨a, c, e, s, fun A hA => h2 _ (m A hA)⟩
theorem Rz.app {Q : Ex → Env → Hp → Prop} {k : List Fr} {e : Env} {d : Option Nat} {l : List O} {lo : Nat} {v : Value} {xs : List (BitVec 32)} {x : BitVec 32} (R : Rz h lo v xs) (hlo : lo ≤ h.next) (hl : xs.length < 2 ^ 30)
    (H : ∀ v' h', Rz h' lo v' (xs ++ [x]) → KL lo h h' → GO T Q l k (put e d v') h') : GV T Q (appendV (h.push (.cells false [u32 x])) 1 4 v (.slice (some ⟨h.next, 0, none⟩) 1 1)) d l k e := by
  rcases R with ⟨b, rfl, h2, h3⟩ | ⟨fp, h1, h2⟩
  · have hr := (h3.kp ((Kp.refl h).push (.cells false [u32 x]))).get _ rfl
    simp only [encW_sz, Nat.mul_one] at hr
    have ha : appendV (h.push (.cells false [u32 x])) 1 4 (.slice (some ⟨b, 0, none⟩) xs.length xs.length) (.slice (some ⟨h.next, 0, none⟩) 1 1) = some (.slice (some ⟨h.next + 1, 0, some 1⟩) (xs.length + 1) (xs.length + 1), (h.push (.cells false [u32 x])).push (.cells false (encW.all xs ++ [u32 x]))) := by
      have e2 : elems (h.push (.cells false [u32 x])) 1 1 (.slice (some ⟨h.next, 0, none⟩) 1 1) = some [u32 x] := elems_one (E := encW) (x := x) get_push_self
      simp only [appendV, lenV, e2]
      rw [if_pos (show [u32 x].length = 1 * 1 from rfl), if_neg (by omega), if_pos ⟨by omega, by omega⟩]
      simp only [Nat.mul_one, hr]
      rfl
    rw [ha]
    refine H _ _ (.inr ⟨[h.next + 1], ?_, by simp; omega⟩) ⟨by simp; omega, fun c hc => by rw [get_push_ne (by rw [push_next]; omega), get_push_ne (by omega)]⟩
    have := Own.blk (E := encW) (h := (h.push (.cells false [u32 x])).push (.cells false (encW.all xs ++ [u32 x]))) (b := h.next + 1) (n := xs.length + 1) (c := xs.length + 1) (xs := xs ++ [x]) (r := []) (by
      have : (h.push (.cells false [u32 x])).next = h.next + 1 := rfl
      rw [← this, get_push_self]
      simp [encW]) (by simp) (Nat.le_refl _) (by omega) (by simp)
    exact this
  · refine GV_app1 (E := encW) (bytes := 4) (x := x) h1 (by omega) (by omega) fun v' h' fp' O U => ?_
    refine H v' h' (.inr ⟨fp', O, fun b hb => ?_⟩) ⟨U.le, fun b hb => U.get b (by omega) fun hm => by have := h2 b hm; omega⟩
    rcases U.sub b hb with h5 | h5
    · exact h2 b h5
    · omega
theorem k_image {pg : Nat} {l : List In7} {al : Option Addr} {cl : Nat} (S : Sees encI7 h al l) (hp : 2 ≤ pg ∧ pg ≤ 64) (hl : l.length < 2 ^ 63) :
    WC T n_4d [.slice al l.length cl, .int .i64 (pg : Int)] h fun v h' => (∃ bb, v = .slice (some ⟨bb, 0, none⟩) (1024 * pg) (1024 * pg) ∧ h.next ≤ bb ∧ Bb h' bb (1024 * pg)) ∧ Kp h h' := by
  have e2 : ((pg : Int) * 1024).toNat = 1024 * pg := by omega
  have kw := fun h i => k_word (h := h) (i := i)
  simp only [encIns] at kw
  rw [w_4d]
  simp (maxSteps:=9^7)(disch:=first|assumption|((try simp only[nX]);omega)|simp) [e2]
  generalize hP : Hp.push h _ = P
  have nP : P.next = h.next + 1 := by rw [← hP]; rfl
  have KP : Kp h P := by rw [← hP]; exact (Kp.refl h).push _
  have A : Bb P h.next (1024 * pg) := ⟨List.replicate (1024 * pg) 0#8, List.length_replicate, by rw [← hP, get_push_self]; simp⟩
  clear hP
  refine GC_intro (kw _ ⟨60, 0, 0, 0, 0, 0#32⟩) fun v h1 ⟨⟨w1, hv⟩, K1⟩ => ?_
  subst hv
  have KP := KP.trans K1
  have A := A.kp K1
  simp (maxSteps:=9^7)(disch:=first|assumption|((try simp only[nX]);omega)|simp)
  refine GC_intro (k_put (a := 0) (l := [w1]) (A.kp ((Kp.refl h1).push _)) (sees_new get_push_self rfl) (by omega) (by omega) (by simp) fun D hD => ?_) fun v h2 ⟨hv, A, U2⟩ => ?_
  · cases hD
    have := KP.le
    show h1.next ≠ h.next
    obtain ⟨B, _, hg⟩ := A
    have := lt_of_get hg
    omega
  subst hv
  have KP : Kp h h2 := U2.kp' (KP.push _) (by simp)
  simp (maxSteps:=9^7)(disch:=first|assumption|((try simp only[nX]);omega)|simp)
  refine GC_intro (kw _ ⟨54, 0, 26, 14, 0, 0#32⟩) fun v h3 ⟨⟨w3, hv⟩, K3⟩ => ?_
  subst hv
  have KP := KP.trans K3
  have A := A.kp K3
  simp (maxSteps:=9^7)(disch:=first|assumption|((try simp only[nX]);omega)|simp)
  refine GC_intro (kw _ ⟨47, 26, 26, 0, 0, 4#32⟩) fun v h4 ⟨⟨w4, hv⟩, K4⟩ => ?_
  subst hv
  have KP := KP.trans K4
  have A := A.kp K4
  simp (maxSteps:=9^7)(disch:=first|assumption|((try simp only[nX]);omega)|simp)
  refine GC_intro (kw _ ⟨55, 0, 26, 14, 0, 0#32⟩) fun v h5 ⟨⟨w5, hv⟩, K5⟩ => ?_
  subst hv
  have KP := KP.trans K5
  have A := A.kp K5
  simp (maxSteps:=9^7)(disch:=first|assumption|((try simp only[nX]);omega)|simp)
  refine GC_intro (kw _ ⟨60, 0, 0, 0, 0, 0#32⟩) fun v h6 ⟨⟨w6, hv⟩, K6⟩ => ?_
  subst hv
  have KP := KP.trans K6
  have A := A.kp K6
  simp (maxSteps:=9^7)(disch:=first|assumption|((try simp only[nX]);omega)|simp)
  refine GC_intro (k_put (a := 384) (l := [w3, w4, w5, w6]) (A.kp ((Kp.refl h6).push _)) (sees_new get_push_self rfl) (by omega) (by omega) (by simp) fun D hD => ?_) fun v h7 ⟨hv, A, U7⟩ => ?_
  · cases hD
    show h6.next ≠ h.next
    obtain ⟨B, _, hg⟩ := A
    have := lt_of_get hg
    omega
  subst hv
  have KP : Kp h h7 := U7.kp' (KP.push _) (by simp)
  simp (maxSteps:=9^7)(disch:=first|assumption|((try simp only[nX]);omega)|simp)
  refine GC_intro (kw _ ⟨53, 0, 28, 0, 0, 32768#32⟩) fun v h8 ⟨⟨w8, hv⟩, K8⟩ => ?_
  subst hv
  have KP := KP.trans K8
  have A := A.kp K8
  simp (maxSteps:=9^7)(disch:=first|assumption|((try simp only[nX]);omega)|simp)
  refine GC_intro (kw _ ⟨51, 28, 29, 0, 0, 1024#32⟩) fun v h9 ⟨⟨w9, hv⟩, K9⟩ => ?_
  subst hv
  have KP := KP.trans K9
  have A := A.kp K9
  simp (maxSteps:=9^7)(disch:=first|assumption|((try simp only[nX]);omega)|simp)
  refine GC_intro (kw _ ⟨53, 0, 30, 0, 0, 48896#32⟩) fun v h10 ⟨⟨w10, hv⟩, K10⟩ => ?_
  subst hv
  have KP := KP.trans K10
  have A := A.kp K10
  simp (maxSteps:=9^7)(disch:=first|assumption|((try simp only[nX]);omega)|simp)
  refine GC_intro (kw _ ⟨51, 28, 31, 0, 0, 1536#32⟩) fun v h11 ⟨⟨w11, hv⟩, K11⟩ => ?_
  subst hv
  have KP := KP.trans K11
  have A := A.kp K11
  simp (maxSteps:=9^7)(disch:=first|assumption|((try simp only[nX]);omega)|simp)
  have l11 : h.next < h11.next := by
    obtain ⟨B, _, hg⟩ := A
    exact lt_of_get hg
  obtain ⟨lo, hlo⟩ : ∃ lo, lo = h11.next := ⟨_, rfl⟩
  have R0 : Rz (h11.push (.cells false [u32 w8, u32 w9, u32 w10, u32 w11])) lo (.slice (some ⟨h11.next, 0, none⟩) 4 4) [w8, w9, w10, w11] := .inl ⟨h11.next, rfl, by omega, sees_new get_push_self rfl⟩
  have KP := KP.push (.cells false [u32 w8, u32 w9, u32 w10, u32 w11])
  have A := A.kp ((Kp.refl h11).push (.cells false [u32 w8, u32 w9, u32 w10, u32 w11]))
  have l0 : lo ≤ (h11.push (.cells false [u32 w8, u32 w9, u32 w10, u32 w11])).next := by rw [push_next]; omega
  generalize h11.push (.cells false [u32 w8, u32 w9, u32 w10, u32 w11]) = H0 at *
  rw [← hlo]
  rw [← hlo] at R0 l11
  have hsl := sees_lt S
  refine G_loop (fun j e H => ∃ (i : Nat) (v : Value) (xs : List (BitVec 32)), j = 200 - i ∧ i ≤ l.length ∧ i ≤ 200 ∧ e 0 = .slice al l.length cl ∧ e 5 = .slice (some ⟨h.next, 0, none⟩) (1024 * pg) (1024 * pg) ∧ e 6 = v ∧ e 7 = .int .i64 i ∧ xs.length = i + 4 ∧ Rz H lo v xs ∧ KL lo H0 H) ?_ 200 _ _ ⟨0, _, _, rfl, by omega, by omega, by simp, by simp, by simp, by simp, rfl, R0, ⟨Nat.le_refl _, fun b _ => rfl⟩⟩
  clear R0
  rintro j ih e H ⟨i, v, xs, rfl, i1, i2, e0, e5, e6, e7, hxl, R, KL0⟩
  have hle := KL0.le
  have KH : Kp h H := ⟨by have := KP.le; omega, fun b hb => (KL0.get b (by omega)).trans (KP.get b hb)⟩
  have AH : Bb H h.next (1024 * pg) := by
    obtain ⟨B, hl, hg⟩ := A
    exact ⟨B, hl, (KL0.get _ l11).trans hg⟩
  have SH := S.kp KH
  by_cases c : i < l.length ∧ i < 200
  · obtain ⟨c1, c2⟩ := c
    have c1' : (i : Int) < l.length := by omega
    have c2' : (i : Int) < 200 := by omega
    have hx : l = l.take i ++ l[i] :: l.drop (i + 1) := by rw [List.getElem_cons_drop, List.take_append_drop]
    obtain ⟨D, rfl, hr⟩ := Sees.mid (A := l.take i) (x := l[i]) (B := l.drop (i + 1)) (by rw [← hx]; exact SH)
    rw [List.length_take, Nat.min_eq_left (by omega)] at hr
    have hc := fun h => k_code (h := h) (x := l[i])
    have hr' : H.rdn D.block (D.off + i * 7) 7 = some (encI7.enc l[i]) := hr
    generalize l[i] = x at *
    simp (maxSteps:=9^7)(disch:=first|assumption|((try simp only[nX]);omega)|simp) [e0, e6, e7, c1, c1', c2', hr']
    refine GC_intro (hc _) fun v2 h2 ⟨⟨w, hv⟩, K2⟩ => ?_
    subst hv
    simp (maxSteps:=9^7)(disch:=first|assumption|((try simp only[nX]);omega)|simp)
    have K2l := K2.kl (lo := lo) (by omega)
    refine (R.kp K2).app (by have := K2l.le; omega) (by omega) fun v3 h3 R3 K3 => ?_
    simp (maxSteps:=9^7)(disch:=first|assumption|((try simp only[nX]);omega)|simp) [e7]
    exact ih (200 - (i + 1)) (by omega) _ _ ⟨i + 1, v3, xs ++ [w], rfl, by omega, by omega, by simp [e0], by simp [e5], by simp, by simp, by simp [hxl], R3, (KL0.trans K2l).trans K3⟩
  · have fin2 : ∀ e' : Env, e' 5 = .slice (some ⟨h.next, 0, none⟩) (1024 * pg) (1024 * pg) → e' 6 = v → G T (fin [RV.t 4] (some []) h.next fun v h' => (∃ bb, v = .slice (some ⟨bb, 0, none⟩) (1024 * pg) (1024 * pg) ∧ h.next ≤ bb ∧ Bb h' bb (1024 * pg)) ∧ Kp h h') c2_4d [] e' H := fun e' f5 f6 => by
      obtain ⟨ac, cc, rfl, Sc, hb⟩ := R.sees
      by_cases c3 : xs.length * 4 + 1024 ≤ 1024 * pg
      · have c3' : (xs.length : Int) * 4 + 1024 ≤ 1024 * (pg : Int) := by omega
        simp (maxSteps:=9^7)(disch:=first|assumption|((try simp only[nX]);omega)|simp) [f5, f6, c3']
        refine GC_intro (k_put (a := 1024) AH Sc (by omega) (by omega) (by omega) fun D hD => by have := hb D hD; omega) fun v h2 ⟨hv, A2, U2⟩ => ?_
        subst hv
        simp (maxSteps:=9^7)(disch:=first|assumption|((try simp only[nX]);omega)|simp) [f5]
        exact ⟨A2, U2.kp' KH (by simp)⟩
      · have c3' : ¬ (xs.length : Int) * 4 + 1024 ≤ 1024 * (pg : Int) := by omega
        simp (maxSteps:=9^7)(disch:=first|assumption|((try simp only[nX]);omega)|simp) [f5, f6, c3']
        exact ⟨AH, KH⟩
    by_cases c1 : i < l.length
    · have c1' : (i : Int) < l.length := by omega
      have c2' : ¬ (i : Int) < 200 := by omega
      simp (maxSteps:=9^7)(disch:=first|assumption|((try simp only[nX]);omega)|simp) [e0, e7, c1', c2', -g2_4d]
      exact fin2 _ (by simp [e5]) (by simp [e6])
    · have c1' : ¬ (i : Int) < l.length := by omega
      simp (maxSteps:=9^7)(disch:=first|assumption|((try simp only[nX]);omega)|simp) [e0, e7, c1', -g2_4d]
      exact fin2 _ (by simp [e5]) (by simp [e6])
end
end Go.Proofs.YtoiiphcbkejliaaGreat.Cd

/- A script that is drawn. -/
set_option maxRecDepth 1000000
set_option maxHeartbeats 8000000
set_option linter.unusedSimpArgs false
set_option linter.unusedVariables false
namespace Go.Proofs.YtoiiphcbkejliaaGreat.Cd
open Go Go.Dx
/-- A script as it was made, its items in a row of their own. -/
def isMade (h h' : Hp) (v : Value) (s : Scr) : Prop := ∃ aim cim adk cdk ov fp lo, v = .agg #[.int .i64 s.p, .int .i64 s.m, .slice aim s.im.length cim, .slice adk s.dk.length cdk, ov] ∧ (Sees encB h' aim s.im ∧ s.im.length ≤ cim) ∧ (Sees encB h' adk s.dk ∧ s.dk.length ≤ cdk) ∧
  Own encIt h' ov s.it fp ∧ (∀ b ∈ fp, lo ≤ b) ∧ h.next ≤ lo ∧ (∀ A, aim = some A → A.block < lo) ∧ (∀ A, adk = some A → A.block < lo) ∧ s.im.length ≤ 3072 ∧ s.dk.length ≤ 150 ∧ s.it.length ≤ 30 ∧ Kp h h'
section
variable {h h' : Hp} {v : Value} {s : Scr}
theorem isMade.sc (M : isMade h h' v s) : isSc h' v s := by
  obtain ⟨aim, cim, adk, cdk, ov, fp, lo, rfl, ⟨Si, qi⟩, ⟨Sd, qd⟩, O, _, _, _, _, l1, l2, l3, _⟩ := M
  obtain ⟨at', ct, rfl, St, qt, _⟩ := O.len
  exact ⟨aim, cim, adk, cdk, at', ct, rfl, Si, Sd, St, qi, qd, qt, by omega, by omega, by omega⟩
theorem isMade.kp (M : isMade h h' v s) : Kp h h' := by
  obtain ⟨_, _, _, _, _, _, _, _, _, _, _, _, _, _, _, _, _, _, K⟩ := M
  exact K
theorem p_known {q : Value → Hp → Prop} : WC T n_4s [] h q ↔ q (.bool true) h := by
  rw [WC_spec T_4s]
  simp [sTrue]
variable {pg mo : Int} {tm : Bool} {L : List In7} {D : By} {I : List Itm} {al ad ai : Option Addr} {cl cd ci : Nat}
theorem p_made (SL : Sees encI7 h al L) (hL : L.length < 2 ^ 63) (SD : Sees encB h ad D) (hD : D.length < 2 ^ 63) (qD : D.length ≤ cd) (SI : Sees encIt h ai I) (hI : I.length < 2 ^ 63) :
    WC T n_4t [.agg #[.int .i64 pg, .int .i64 mo, .slice al L.length cl, .slice ad D.length cd, .slice ai I.length ci, .bool tm]] h fun v h' => ∃ s, isMade h h' v s := by
  have hw := fun h n q => within_eq (h := h) (n := n) (lo := 3) (hi := 5) (q := q) (by omega) (by omega) (by omega)
  have hw2 := fun h n q => within_eq (h := h) (n := n) (lo := 1) (hi := 20) (q := q) (by omega) (by omega) (by omega)
  have hw3 := fun h n q => within_eq (h := h) (n := n) (lo := 0) (hi := 1048576) (q := q) (by omega) (by omega) (by omega)
  have hw4 := fun h n q => within_eq (h := h) (n := n) (lo := 0) (hi := 150) (q := q) (by omega) (by omega) (by omega)
  rw [w_4t]
  simp (maxSteps:=9^7)(disch:=first|assumption|((try simp only[nX]);omega)|simp) [-g8_4t]
  generalize hP : Hp.push (Hp.push h _) _ = P
  have gA : P.get h.next = some (.cells false [.int .i64 pg, .int .i64 mo, .slice al L.length cl, .slice ad D.length cd, .slice ai I.length ci, .bool tm]) := by rw [← hP, get_push_ne (by simp only [push_next]; omega), get_push_self]
  have gR : P.get (h.next + 1) = some (.cells false [.int .i64 0, .int .i64 0, .slice none 0 0, .slice none 0 0, .slice none 0 0]) := by rw [← hP]; exact get_push_self (h := h.push _)
  have KP : Kp h P := by rw [← hP]; exact ((Kp.refl h).push _).push _
  clear hP
  have lA := lt_of_get gA
  have lR := lt_of_get gR
  have K1 : Kp h (P.adv 1) := KP.adv 1
  have ki : WC T n_4d [.slice al L.length cl, .int .i64 3] (P.adv 1) fun v h' => (∃ bb, v = .slice (some ⟨bb, 0, none⟩) 3072 3072 ∧ (P.adv 1).next ≤ bb ∧ Bb h' bb 3072) ∧ Kp (P.adv 1) h' := k_image (pg := 3) (SL.kp K1) (by omega) (by omega)
  simp (maxSteps:=9^7)(disch:=first|assumption|((try simp only[nX]);omega)|simp) [gA, -g7_4t]
  refine GCI_intro ki fun v h2 ⟨⟨bb, hv, hbb, B, hB, gB⟩, K2⟩ => ?_
  subst hv
  have KP2 : Kp P h2 := ((Kp.refl P).adv 1).trans K2
  have gA2 := (KP2.get _ lA).trans gA
  have gR2 := (KP2.get _ lR).trans gR
  have n2 : P.next + 1 ≤ h2.next := K2.le
  simp (maxSteps:=9^7)(disch:=first|assumption|((try simp only[nX]);omega)|simp) [gA2, -g7_4t]
  generalize hQ : Hp.put h2 _ _ = Q
  have l2 : P.next < h2.next := by omega
  have gS : Q.get P.next = some (.cells false [.int .i64 pg, .int .i64 mo, .slice (some ⟨bb, 0, none⟩) 3072 3072, .slice ad D.length cd, .slice none 0 0]) := by rw [← hQ]; exact get_put_self l2
  have gA3 : Q.get h.next = some (.cells false [.int .i64 pg, .int .i64 mo, .slice al L.length cl, .slice ad D.length cd, .slice ai I.length ci, .bool tm]) := by rw [← hQ, get_put_ne (by omega)]; exact gA2
  have gR3 : Q.get (h.next + 1) = some (.cells false [.int .i64 0, .int .i64 0, .slice none 0 0, .slice none 0 0, .slice none 0 0]) := by rw [← hQ, get_put_ne (by omega)]; exact gR2
  have KQ : Kp h Q := by rw [← hQ]; exact (KP.trans KP2).put KP.le _
  have hbb' : P.next + 1 ≤ bb := hbb
  have SB : Sees encB Q (some ⟨bb, 0, none⟩) B := by rw [← hQ]; exact sees_b (ro := false) (by rw [get_put_ne (by omega)]; exact gB)
  have hle := KP.le
  clear hQ gA2 gR2 gA gR gB l2
  obtain ⟨lo, hlo⟩ : ∃ lo, lo = Q.next := ⟨_, rfl⟩
  have lS0 := lt_of_get gS
  have hbl := sees_lt SB
  have hdl := sees_lt (SD.kp KQ)
  rw [← hlo] at lS0 hbl hdl
  -- the items, whatever the rest is
  have lp : ∀ (e : Env) (H : Hp) (p m : Int) (aim adk : Option Addr) (cim cdk : Nat) (im dk : By), e 1 = ptr h.next 0 → e 2 = ptr (h.next + 1) 0 → e 3 = ptr P.next 0 → e 4 = .int .i64 0 → H.get P.next = some (.cells false [.int .i64 p, .int .i64 m, .slice aim im.length cim, .slice adk dk.length cdk, .slice none 0 0]) →
      H.get h.next = some (.cells false [.int .i64 pg, .int .i64 mo, .slice al L.length cl, .slice ad D.length cd, .slice ai I.length ci, .bool tm]) → H.get (h.next + 1) = some (.cells false [.int .i64 0, .int .i64 0, .slice none 0 0, .slice none 0 0, .slice none 0 0]) → Kp h H → lo ≤ H.next → Sees encB H aim im → im.length ≤ cim → im.length ≤ 3072 → Sees encB H adk dk → dk.length ≤ cdk → dk.length ≤ 150 → (∀ A, aim = some A → A.block < lo) → (∀ A, adk = some A → A.block < lo) →
      G T (fin [RV.ldn 5 2] (some []) h.next fun v h' => ∃ s, isMade h h' v s) (.loop c5_4t) [Fr.block 0, Fr.seq ((C.ops [⟨some 80, none, .ldn 5 (.t 3)⟩, ⟨none, none, .stn 5 (.t 2) (.t 80)⟩]).seq C.ret)] e H := by
    intro e H p m aim adk cim cdk im dk e1 e2 e3 e4 gS gA gR K hln Si qi hi Sd qd hd bi bd
    refine G_loop (fun j e H => ∃ (i : Nat) (acc : List Itm) (fp : List Nat) (ov : Value), j = 30 - i ∧ i ≤ 30 ∧ acc.length = i ∧ Own encIt H ov acc fp ∧ (∀ b ∈ fp, lo ≤ b) ∧ e 1 = ptr h.next 0 ∧ e 2 = ptr (h.next + 1) 0 ∧ e 3 = ptr P.next 0 ∧ e 4 = .int .i64 i ∧ H.get P.next = some (.cells false [.int .i64 p, .int .i64 m, .slice aim im.length cim, .slice adk dk.length cdk, ov]) ∧
      H.get h.next = some (.cells false [.int .i64 pg, .int .i64 mo, .slice al L.length cl, .slice ad D.length cd, .slice ai I.length ci, .bool tm]) ∧ H.get (h.next + 1) = some (.cells false [.int .i64 0, .int .i64 0, .slice none 0 0, .slice none 0 0, .slice none 0 0]) ∧ Kp h H ∧ lo ≤ H.next ∧ Sees encB H aim im ∧ Sees encB H adk dk) ?_ 30 _ _
      ⟨0, [], [], .slice none 0 0, rfl, by omega, rfl, .nul, by simp, e1, e2, e3, by rw [e4]; rfl, gS, gA, gR, K, hln, Si, Sd⟩
    clear e1 e2 e3 e4 gS gA gR K hln Si Sd
    rintro j ih e H ⟨i, acc, fp, ov, rfl, hi30, hai, O, hfp, e1, e2, e3, e4, gS, gA, gR, K, hln, Si, Sd⟩
    have lS := lt_of_get gS
    have lA := lt_of_get gA
    have lR := lt_of_get gR
    have r5 := rdn_all (n := 5) gS rfl
    have fin : ∃ s, isMade h (H.put (h.next + 1) (some (.cells false [.int .i64 p, .int .i64 m, .slice aim im.length cim, .slice adk dk.length cdk, ov]))) (.agg #[.int .i64 p, .int .i64 m, .slice aim im.length cim, .slice adk dk.length cdk, ov]) s :=
      ⟨⟨p, m, im, dk, acc⟩, aim, cim, adk, cdk, ov, fp, lo, rfl, ⟨sees_put5 Si gR no_u8 rfl, qi⟩, ⟨sees_put5 Sd gR no_u8 rfl, qd⟩, O.keep fun b hb => get_put_ne (by have := hfp b hb; omega), hfp, by omega, bi, bd, hi, hd, by show acc.length ≤ 30; omega, K.put (by omega) _⟩
    have hone0 : one ov = true := by obtain ⟨_, _, e9, _⟩ := O.len; rw [e9]; rfl
    by_cases c1 : i < I.length
    case neg =>
      have c1' : ¬ (i : Int) < I.length := by omega
      simp (maxSteps:=9^7)(disch:=first|assumption|((try simp only[nX]);omega)|simp) [e1, e2, e3, e4, gA, gR, gS, r5, c1', hone0]
      exact fin
    have c1' : (i : Int) < I.length := by omega
    by_cases c2 : i < 30
    case neg =>
      have c2' : ¬ (i : Int) < 30 := by omega
      simp (maxSteps:=9^7)(disch:=first|assumption|((try simp only[nX]);omega)|simp) [e1, e2, e3, e4, gA, gR, gS, r5, c1', c2', hone0]
      exact fin
    have c2' : (i : Int) < 30 := by omega
    obtain ⟨A, hA, hr⟩ := (SI.kp K).at' i c1
    obtain ⟨y, hy⟩ : ∃ y, y = I[i] := ⟨_, rfl⟩
    rw [← hy] at hr
    have hr' : H.rdn A.block (A.off + i * 2) 2 = some [.int .i64 y.k, .int .i64 y.n] := hr
    obtain ⟨ao, co, hov, So, qo, _⟩ := O.len
    have next : ∀ (y' : Itm) (v : Value) (H5 : Hp) (f5 : List Nat) (e' : Env), Own encIt H5 v (acc ++ [y']) f5 → Upd H H5 fp f5 → H5.get P.next = some (.cells false [.int .i64 p, .int .i64 m, .slice aim im.length cim, .slice adk dk.length cdk, ov]) → e' 1 = ptr h.next 0 → e' 2 = ptr (h.next + 1) 0 → e' 3 = ptr P.next 0 → e' 4 = .int .i64 ((i : Int) + 1) →
        ∃ (i_1 : Nat) (acc : List Itm) (fp : List Nat) (ov : Value), 30 - (i + 1) = 30 - i_1 ∧ i_1 ≤ 30 ∧ acc.length = i_1 ∧ Own encIt (H5.put P.next (some (.cells false [.int .i64 p, .int .i64 m, .slice aim im.length cim, .slice adk dk.length cdk, v]))) ov acc fp ∧ (∀ b ∈ fp, lo ≤ b) ∧ e' 1 = ptr h.next 0 ∧ e' 2 = ptr (h.next + 1) 0 ∧ e' 3 = ptr P.next 0 ∧ e' 4 = .int .i64 i_1 ∧ (H5.put P.next (some (.cells false [.int .i64 p, .int .i64 m, .slice aim im.length cim, .slice adk dk.length cdk, v]))).get P.next = some (.cells false [.int .i64 p, .int .i64 m, .slice aim im.length cim, .slice adk dk.length cdk, ov]) ∧
          (H5.put P.next (some (.cells false [.int .i64 p, .int .i64 m, .slice aim im.length cim, .slice adk dk.length cdk, v]))).get h.next = some (.cells false [.int .i64 pg, .int .i64 mo, .slice al L.length cl, .slice ad D.length cd, .slice ai I.length ci, .bool tm]) ∧ (H5.put P.next (some (.cells false [.int .i64 p, .int .i64 m, .slice aim im.length cim, .slice adk dk.length cdk, v]))).get (h.next + 1) = some (.cells false [.int .i64 0, .int .i64 0, .slice none 0 0, .slice none 0 0, .slice none 0 0]) ∧ Kp h (H5.put P.next (some (.cells false [.int .i64 p, .int .i64 m, .slice aim im.length cim, .slice adk dk.length cdk, v]))) ∧ lo ≤ (H5.put P.next (some (.cells false [.int .i64 p, .int .i64 m, .slice aim im.length cim, .slice adk dk.length cdk, v]))).next ∧ Sees encB (H5.put P.next (some (.cells false [.int .i64 p, .int .i64 m, .slice aim im.length cim, .slice adk dk.length cdk, v]))) aim im ∧ Sees encB (H5.put P.next (some (.cells false [.int .i64 p, .int .i64 m, .slice aim im.length cim, .slice adk dk.length cdk, v]))) adk dk :=
      fun y' v H5 f5 e' O5 U gS5 a1 a2 a3 a4 => by
        have f5' : ∀ b ∈ f5, lo ≤ b := fun b hb => by
          rcases U.sub b hb with h5 | h5
          · exact hfp b h5
          · omega
        have hle5 := U.le
        refine ⟨i + 1, acc ++ [y'], f5, v, rfl, by omega, by simp [hai], O5.keep fun b hb => get_put_ne (by have := f5' b hb; omega), f5', a1, a2, a3, by rw [a4]; simp, get_put_self (lt_of_get gS5), ?_, ?_, (U.kp' K fun b hb => by have := hfp b hb; omega).put (by omega) _, ?_, ?_, ?_⟩
        · rw [get_put_ne (by omega), U.get _ lA fun hm => by have := hfp _ hm; omega]; exact gA
        · rw [get_put_ne (by omega), U.get _ lR fun hm => by have := hfp _ hm; omega]; exact gR
        · show lo ≤ H5.next; omega
        · subst hov
          exact sees_put5 (Si.upd U fun A hA hm => by have := hfp _ hm; have := bi A hA; omega) gS5 no_u8 rfl
        · subst hov
          exact sees_put5 (Sd.upd U fun A hA hm => by have := hfp _ hm; have := bd A hA; omega) gS5 no_u8 rfl
    subst hA
    cases tm with
    | false =>
      simp (maxSteps:=9^7)(disch:=first|assumption|((try simp only[nX]);omega)|simp) [e1, e3, e4, gA, gS, c1', c2', hr']
      generalize hH : Hp.push H _ = H2
      have gI2 : H2.get H.next = some (.cells false [.int .i64 y.k, .int .i64 y.n]) := by rw [← hH, get_push_self]
      have KH2 : Kp H H2 := by rw [← hH]; exact (Kp.refl H).push _
      have nH2 : H2.next = H.next + 1 := by rw [← hH]; rfl
      clear hH
      subst hov
      have lH2 := lt_of_get gI2
      have r2 := rdn_all (n := 2) gI2 rfl
      have gS2 := (KH2.get _ lS).trans gS
      rw [← nH2]
      refine GV_app1 (E := encIt) (bytes := 16) (x := y) (O.kp KH2) (by omega) (by omega) fun v5 H5 f5 O5 U5 => ?_
      have U6 := (KH2.upd fp).trans U5
      have gS5 := (U6.get _ lS fun hm => by have := hfp _ hm; omega).trans gS
      have lS5 := lt_of_get gS5
      have hone : one v5 = true := by obtain ⟨_, _, e9, _⟩ := O5.len; rw [e9]; rfl
      simp (maxSteps:=9^7)(disch:=first|assumption|((try simp only[nX]);omega)|simp) [e3, gS5, hone, e4]
      refine ih (30 - (i + 1)) (by omega) _ _ (next y v5 H5 f5 _ O5 U6 gS5 ?_ ?_ ?_ ?_)
      · simp [e1]
      · simp [e2]
      · simp [e3]
      · simp
    | true =>
      obtain ⟨w1, w2⟩ := wi_bound (n := y.k) (lo := 0) (hi := 1048576) (by omega)
      obtain ⟨w3, w4⟩ := wi_bound (n := y.n) (lo := 0) (hi := 150) (by omega)
      have h3 := fun h q => hw3 h y.k q
      have h4 := fun h q => hw4 h y.n q
      generalize wi y.k 0 1048576 = r at *
      generalize wi y.n 0 150 = r' at *
      have ht : r.tmod 5 = r % 5 := Int.tmod_eq_emod_of_nonneg w1
      simp (maxSteps:=9^7)(disch:=first|assumption|((try simp only[nX]);omega)|simp) [e1, e3, e4, gA, gS, c1', c2', hr']
      generalize hH : Hp.push H _ = H1
      have gI1 : H1.get H.next = some (.cells false [.int .i64 y.k, .int .i64 y.n]) := by rw [← hH, get_push_self]
      have KH1 : Kp H H1 := by rw [← hH]; exact (Kp.refl H).push _
      clear hH
      have lI1 := lt_of_get gI1
      have gA1 := (KH1.get _ lA).trans gA
      simp (maxSteps:=9^7)(disch:=first|assumption|((try simp only[nX]);omega)|simp) [e1, gA1, gI1, GCI_of (h3 _), GCI_of (h4 _), ht]
      generalize hH : Hp.put H1 _ _ = H2
      have gI2 : H2.get H.next = some (.cells false [.int .i64 (1 + r % 5), .int .i64 r']) := by rw [← hH]; exact get_put_self lI1
      have KH2 : Kp H H2 := by rw [← hH]; exact KH1.put (Nat.le_refl _) _
      clear hH
      subst hov
      have lH2 := lt_of_get gI2
      have r2 := rdn_all (n := 2) gI2 rfl
      have gS2 := (KH2.get _ lS).trans gS
      simp (maxSteps:=9^7)(disch:=first|assumption|((try simp only[nX]);omega)|simp) [e3, gS2, r2]
      refine GV_app1 (E := encIt) (bytes := 16) (x := ⟨1 + r % 5, r'⟩) (O.kp KH2) (by omega) (by omega) fun v5 H5 f5 O5 U5 => ?_
      have U6 := (KH2.upd fp).trans U5
      have gS5 := (U6.get _ lS fun hm => by have := hfp _ hm; omega).trans gS
      have lS5 := lt_of_get gS5
      have hone : one v5 = true := by obtain ⟨_, _, e9, _⟩ := O5.len; rw [e9]; rfl
      simp (maxSteps:=9^7)(disch:=first|assumption|((try simp only[nX]);omega)|simp) [e3, gS5, hone, e4]
      refine ih (30 - (i + 1)) (by omega) _ _ (next ⟨1 + r % 5, r'⟩ v5 H5 f5 _ O5 U6 gS5 ?_ ?_ ?_ ?_)
      · simp [e1]
      · simp [e2]
      · simp [e3]
      · simp
  have mid : ∀ (e : Env) (H : Hp) (adk : Option Addr) (cdk : Nat) (dk : By), e 1 = ptr h.next 0 → e 2 = ptr (h.next + 1) 0 → e 3 = ptr P.next 0 → H.get P.next = some (.cells false [.int .i64 pg, .int .i64 mo, .slice (some ⟨bb, 0, none⟩) 3072 3072, .slice adk dk.length cdk, .slice none 0 0]) →
      H.get h.next = some (.cells false [.int .i64 pg, .int .i64 mo, .slice al L.length cl, .slice ad D.length cd, .slice ai I.length ci, .bool tm]) → H.get (h.next + 1) = some (.cells false [.int .i64 0, .int .i64 0, .slice none 0 0, .slice none 0 0, .slice none 0 0]) → Kp h H → lo ≤ H.next → Sees encB H (some ⟨bb, 0, none⟩) B → Sees encB H adk dk → dk.length ≤ cdk → dk.length ≤ 150 → (∀ A, adk = some A → A.block < lo) →
      G T (fin [RV.ldn 5 2] (some []) h.next fun v h' => ∃ s, isMade h h' v s) c6_4t [] e H := by
    intro e H adk cdk dk e1 e2 e3 gS gA gR K hln Si Sd qd hd bd
    have lS := lt_of_get gS
    have lA := lt_of_get gA
    have lR := lt_of_get gR
    have fin2 : ∀ (e' : Env) (p m : Int) (aim : Option Addr) (cim : Nat) (im : By), e' 1 = ptr h.next 0 → e' 2 = ptr (h.next + 1) 0 → e' 3 = ptr P.next 0 → e' 4 = .int .i64 0 → Sees encB H aim im → im.length ≤ cim → im.length ≤ 3072 → (∀ A, aim = some A → A.block < lo) →
        G T (fin [RV.ldn 5 2] (some []) h.next fun v h' => ∃ s, isMade h h' v s) (.loop c5_4t) [Fr.block 0, Fr.seq ((C.ops [⟨some 80, none, .ldn 5 (.t 3)⟩, ⟨none, none, .stn 5 (.t 2) (.t 80)⟩]).seq C.ret)] e' (H.put P.next (some (.cells false [.int .i64 p, .int .i64 m, .slice aim im.length cim, .slice adk dk.length cdk, .slice none 0 0]))) :=
      fun e' p m aim cim im a1 a2 a3 a4 Si' qi hi bi => lp e' _ p m aim adk cim cdk im dk a1 a2 a3 a4 (get_put_self lS) (by rw [get_put_ne (by omega)]; exact gA) (by rw [get_put_ne (by omega)]; exact gR) (K.put (by omega) _) hln (sees_put5 Si' gS no_u8 rfl) qi hi (sees_put5 Sd gS no_u8 rfl) qd hd bi bd
    have hB' : B.length ≤ 3072 := by omega
    have fin2' : ∀ (e' : Env) (p m : Int), e' 1 = ptr h.next 0 → e' 2 = ptr (h.next + 1) 0 → e' 3 = ptr P.next 0 → e' 4 = .int .i64 0 → G T (fin [RV.ldn 5 2] (some []) h.next fun v h' => ∃ s, isMade h h' v s) (.loop c5_4t) [Fr.block 0, Fr.seq ((C.ops [⟨some 80, none, .ldn 5 (.t 3)⟩, ⟨none, none, .stn 5 (.t 2) (.t 80)⟩]).seq C.ret)] e' (H.put P.next (some (.cells false [.int .i64 p, .int .i64 m, .slice (some ⟨bb, 0, none⟩) B.length B.length, .slice adk dk.length cdk, .slice none 0 0]))) := fun e' p m a1 a2 a3 a4 => fin2 e' p m _ B.length B a1 a2 a3 a4 Si (Nat.le_refl _) hB' hbl
    cases tm with
    | true =>
      simp (maxSteps:=9^7)(disch:=first|assumption|((try simp only[nX]);omega)|simp) [e1, e3, gA, gS, GCI_of (hw _ pg), GCI_of (hw2 _ mo)]
      rw [hB] at fin2'
      exact fin2' _ _ _ (by simp [e1]) (by simp [e2]) (by simp [e3]) (by simp)
    | false =>
      by_cases c3 : L.length ≤ 3
      · have c3' : ¬ (3 : Int) < L.length := by omega
        simp (maxSteps:=9^7)(disch:=first|assumption|((try simp only[nX]);omega)|simp) [e1, e3, gA, gS, c3']
        exact lp _ _ pg mo (some ⟨bb, 0, none⟩) adk 3072 cdk B dk (by simp [e1]) (by simp [e2]) (by simp [e3]) (by simp) (by rw [hB]; exact gS) gA gR K hln Si (by omega) hB' Sd qd hd hbl bd
      · have c3' : (3 : Int) < L.length := by omega
        have cut : ∀ (w : Nat) (z : Int), w ≤ 400 → z = ((w * 7 : Nat) : Int) → ∃ a9 c9 im9, sliceV 1 (.slice (some ⟨bb, 0, none⟩) 3072 3072) none (some (.int .i64 z)) none = some (.slice a9 im9.length c9) ∧ im9.length ≤ c9 ∧ Sees encB H a9 im9 ∧ (∀ A, a9 = some A → A.block < lo) ∧ im9.length ≤ 3072 := fun w z hw hz => by
          obtain ⟨a9, c9, s9, q9, S9⟩ := part_b Si (c := 3072) (by omega) (lo := 0) (hi := w * 7) (by omega) (by omega) (l := none) (u := some (.int .i64 ((w * 7 : Nat) : Int))) (.inl ⟨rfl, rfl⟩) (.inr ⟨_, rfl⟩)
          rw [hB, ← hz] at s9
          exact ⟨a9, c9, _, s9, q9, S9, fun A hA => by
            obtain ⟨A1, hA1, e9⟩ := sliceV_blk s9 A hA
            rw [e9]
            exact hbl A1 hA1, by simp; omega⟩
        by_cases c6 : 400 < L.length
        · have c6' : (400 : Int) < L.length := by omega
          obtain ⟨a9, c9, im9, s9, q9, S9, b9, l9⟩ := cut 400 2800 (by omega) (by omega)
          simp (maxSteps:=9^7)(disch:=first|assumption|((try simp only[nX]);omega)|simp) [e1, e3, gA, gS, c3', c6', s9]
          refine fin2 _ pg mo a9 c9 im9 ?_ ?_ ?_ ?_ S9 q9 l9 b9
          · simp [e1]
          · simp [e2]
          · simp [e3]
          · simp
        · have c6' : ¬ (400 : Int) < L.length := by omega
          obtain ⟨a9, c9, im9, s9, q9, S9, b9, l9⟩ := cut L.length ((L.length : Int) * 7) (by omega) (by omega)
          simp (maxSteps:=9^7)(disch:=first|assumption|((try simp only[nX]);omega)|simp) [e1, e3, gA, gS, c3', c6', s9]
          refine fin2 _ pg mo a9 c9 im9 ?_ ?_ ?_ ?_ S9 q9 l9 b9
          · simp [e1]
          · simp [e2]
          · simp [e3]
          · simp
  by_cases c4 : D.length ≤ 150
  · have c4' : ¬ (150 : Int) < D.length := by omega
    simp (maxSteps:=9^7)(disch:=first|assumption|((try simp only[nX]);omega)|simp) [gS, c4', -g6_4t]
    exact mid _ Q ad cd D (by simp) (by simp) (by simp) gS gA3 gR3 KQ (by omega) SB (SD.kp KQ) qD c4 hdl
  · have c4' : (150 : Int) < D.length := by omega
    obtain ⟨a9, c9, s9, q9, S9⟩ := part_b (SD.kp KQ) (c := cd) qD (lo := 0) (hi := 150) (by omega) (by omega) (l := none) (u := some (.int .i64 150)) (.inl ⟨rfl, rfl⟩) (.inr ⟨_, rfl⟩)
    have b9 : ∀ A, a9 = some A → A.block < lo := fun A hA => by
      obtain ⟨A1, hA1, e9⟩ := sliceV_blk s9 A hA
      rw [e9]
      exact hdl A1 hA1
    have l9 : ((D.drop 0).take (150 - 0)).length ≤ 150 := by simp; omega
    generalize (D.drop 0).take (150 - 0) = dk9 at *
    have lQ := lt_of_get gS
    simp (maxSteps:=9^7)(disch:=first|assumption|((try simp only[nX]);omega)|simp) [gS, c4', s9, -g6_4t]
    exact mid _ _ a9 c9 dk9 (by simp) (by simp) (by simp) (get_put_self lQ) (by rw [get_put_ne (by omega)]; exact gA3) (by rw [get_put_ne (by omega)]; exact gR3) (KQ.put (by omega) _) (by show lo ≤ Q.next; omega) (sees_put5 SB gS no_u8 rfl) (sees_put5 S9 gS no_u8 rfl) q9 l9 b9
end
end Go.Proofs.YtoiiphcbkejliaaGreat.Cd

/- Are two rows the same? -/
set_option maxRecDepth 1000000
set_option linter.unusedSimpArgs false
set_option linter.unusedVariables false
namespace Go.Proofs.YtoiiphcbkejliaaGreat.Cd
open Go Go.Dx
instance (x y : Itm) : Decidable (x = y) :=
  if h : x.k = y.k ∧ x.n = y.n then .isTrue (by cases x; cases y; simp_all) else .isFalse (fun e => h (by subst e; simp))
theorem eq_it (x y : Itm) : eqV (.agg [(0, 1, false, (.int .i64)), (1, 1, false, (.int .i64))]) (.agg (encIt.enc x).toArray) (.agg (encIt.enc y).toArray) = some (decide (x = y)) := by
  obtain ⟨a, b⟩ := x
  obtain ⟨a', b'⟩ := y
  simp only [eqV, eqAt, encIt, eqParts]
  by_cases h1 : a = a'
  · by_cases h2 : b = b'
    · simp [h1, h2]
    · simp [h1, h2]
  · simp [h1]
theorem same_it {h : Hp} {q : Value → Hp → Prop} {a a' : Option Addr} {c c' : Nat} {xs ys : List Itm} (hx : Sees encIt h a xs) (hy : Sees encIt h a' ys) (hb : xs.length < 2 ^ 40) (hq : q (.bool (decide (xs = ys))) h) : WC T n_48 [.slice a xs.length c, .slice a' ys.length c'] h q := by
  rw [w_48]
  by_cases hl : xs.length = ys.length
  case neg =>
    have hne : xs ≠ ys := fun e => hl (by rw [e])
    have hl' : ¬ ((xs.length : Int) = ys.length) := by omega
    simp (maxSteps:=9^7)(disch:=first|assumption|((try simp only[nX]);omega)|simp) [hl']
    simpa [hne] using hq
  simp (maxSteps:=9^7)(disch:=first|assumption|((try simp only[nX]);omega)|simp) [hl]
  refine G_loop (fun n e h' => ∃ us vs ws, n = vs.length ∧ h' = h ∧ xs = us ++ vs ∧ ys = us ++ ws ∧ e 0 = .slice a xs.length c ∧ e 1 = .slice a' ys.length c' ∧ e 5 = .int .i64 us.length) ?_ xs.length _ _ ⟨[], xs, ys, rfl, rfl, rfl, rfl, by simp [hl], by simp, by simp⟩
  rintro n ih e h' ⟨us, vs, ws, rfl, rfl, h1, h2, e0, e1, e5⟩
  cases vs with
  | nil =>
    have hw : ws = [] := by
      have h3 := hl
      rw [h1, h2] at h3
      simpa using h3
    subst hw
    have hxs : xs = us := by simpa using h1
    have hxy : xs = ys := by rw [h1, h2]
    have hll : us.length = xs.length := by rw [hxs]
    simp (maxSteps:=9^7)(disch:=first|assumption|((try simp only[nX]);omega)|simp) [e0, e5, hll]
    simpa [hxy] using hq
  | cons x vs =>
    cases ws with
    | nil =>
      have h3 := hl
      rw [h1, h2] at h3
      simp at h3
    | cons y ws =>
      have hlt : (us.length : Int) < xs.length := by rw [h1]; simp; omega
      have hlt' : (us.length : Int) < ys.length := by omega
      obtain ⟨A, hA, hr⟩ := Sees.mid (A := us) (x := x) (B := vs) (by rw [← h1]; exact hx)
      obtain ⟨A', hA', hr'⟩ := Sees.mid (A := us) (x := y) (B := ws) (by rw [← h2]; exact hy)
      have g1 : h'.rdn A.block (A.off + us.length * 2) 2 = some (encIt.enc x) := hr
      have g2 : h'.rdn A'.block (A'.off + us.length * 2) 2 = some (encIt.enc y) := hr'
      have he := eq_it x y
      by_cases hxy : x = y
      · simp [hxy] at he
        simp (maxSteps:=9^7)(disch:=first|assumption|((try simp only[nX]);omega)|simp) [e0, e1, e5, hlt, hlt', hA, hA', g1, g2, he, hxy]
        apply ih vs.length (by simp)
        refine ⟨us ++ [x], vs, ws, rfl, rfl, by simp [h1], by simp [h2, hxy], by simp [e0, hA], by simp [e1, hA'], by simp⟩
      · simp [hxy] at he
        have hne : xs ≠ ys := fun e => by rw [h1, h2] at e; simp [hxy] at e
        simp (maxSteps:=9^7)(disch:=first|assumption|((try simp only[nX]);omega)|simp) [e0, e1, e5, hlt, hlt', hA, hA', g1, g2, he]
        simpa [hne] using hq
end Go.Proofs.YtoiiphcbkejliaaGreat.Cd

/- Scripts that are the same; bytes that are read as the document says. -/
set_option maxRecDepth 1000000
set_option maxHeartbeats 8000000
set_option linter.unusedSimpArgs false
set_option linter.unusedVariables false
namespace Go.Proofs.YtoiiphcbkejliaaGreat.Cd
open Go Go.Dx
section
variable {h : Hp} {v w : Value} {x : Scr} {a : Option Addr} {b : By} {c : Nat}
theorem p_same (A : isSc h v x) (B : isSc h w x) : WC T n_4x [v, w] h fun u h' => u = .bool true ∧ Kp h h' := by
  obtain ⟨ai, ci, ad, cd, at', ct, rfl, F⟩ := A
  obtain ⟨bi, di, bd, dd, bt, dt, rfl, G⟩ := B
  rw [w_4x]
  simp (maxSteps:=9^7)(disch:=first|assumption|((try simp only[nX]);omega)|simp) [-g0_4x]
  generalize hP : Hp.push (Hp.push h _) _ = P
  have gA : P.get h.next = some (.cells false [.int .i64 x.p, .int .i64 x.m, .slice ai x.im.length ci, .slice ad x.dk.length cd, .slice at' x.it.length ct]) := by rw [← hP, get_push_ne (by simp only [push_next]; omega), get_push_self]
  have gB : P.get (h.next + 1) = some (.cells false [.int .i64 x.p, .int .i64 x.m, .slice bi x.im.length di, .slice bd x.dk.length dd, .slice bt x.it.length dt]) := by rw [← hP]; exact get_push_self (h := h.push _)
  have KP : Kp h P := by rw [← hP]; exact ((Kp.refl h).push _).push _
  clear hP
  have F' := F.kp KP
  have G' := G.kp KP
  have s1 := b2sV_sees (c := ci) F'.i
  have s2 := b2sV_sees (c := di) G'.i
  have s3 := b2sV_sees (c := cd) F'.d
  have s4 := b2sV_sees (c := dd) G'.d
  have hl := F.tl
  simp (maxSteps:=9^7)(disch:=first|assumption|((try simp only[nX]);omega)|simp) [gA, gB, s1, s2, s3, s4]
  refine GC_intro (same_it F'.t G'.t (by omega) (q := fun v h' => v = .bool true ∧ h' = P) (by simp)) fun v h1 ⟨hv, hh⟩ => ?_
  subst hv hh
  simp (maxSteps:=9^7)(disch:=first|assumption|((try simp only[nX]);omega)|simp) [KP]
end
end Go.Proofs.YtoiiphcbkejliaaGreat.Cd

/- ShellCuts. -/
set_option maxRecDepth 1000000
set_option maxHeartbeats 8000000
set_option linter.unusedSimpArgs false
set_option linter.unusedVariables false
namespace Go.Proofs.YtoiiphcbkejliaaGreat.Cd
open Go Go.Dx
section
variable {h : Hp} {pg mo : Int} {tm : Bool} {L : List In7} {D : By} {I : List Itm} {al ad ai : Option Addr} {cl cd ci : Nat}
theorem sees_ne {α : Type} {E : Enc α} {h : Hp} {a : Option Addr} {xs : List α} {b : Nat} {o : Option Ob} (S : Sees E h a xs) (hb : ∀ A, a = some A → A.block ≠ b) : Sees E (h.put b o) a xs := ⟨S.nil, fun A hA => by
  rw [← S.get A hA]
  simp only [Hp.rdn, Hp.cells, get_put_ne (hb A hA)], S.sp⟩
theorem scuts (SL : Sees encI7 h al L) (hL : L.length < 2 ^ 63) (SD : Sees encB h ad D) (hD : D.length < 2 ^ 63) (qD : D.length ≤ cd) (SI : Sees encIt h ai I) (hI : I.length < 2 ^ 63) {cut : Int} {M : By} {am : Option Addr} {cm : Nat} (SM : Sees encB h am M) (qM : M.length ≤ cm) (hM : M.length < 2 ^ 63) :
    WC T n_4l [.agg #[.int .i64 pg, .int .i64 mo, .slice al L.length cl, .slice ad D.length cd, .slice ai I.length ci, .bool tm], .int .i64 cut, .slice am M.length cm] h fun v h' => v = .bool true := by
  rw [w_4l]
  simp (maxSteps:=9^7)(disch:=first|assumption|((try simp only[nX]);omega)|simp) [-g10_4l]
  generalize hP : Hp.push h _ = P
  have gA : P.get h.next = some (.cells false [.int .i64 pg, .int .i64 mo, .slice al L.length cl, .slice ad D.length cd, .slice ai I.length ci, .bool tm]) := by rw [← hP]; exact get_push_self
  have KP : Kp h P := by rw [← hP]; exact (Kp.refl h).push _
  clear hP
  refine GC_intro (p_made (SL.kp KP) hL (SD.kp KP) hD qD (SI.kp KP) hI) fun v h1 ⟨s, M1⟩ => ?_
  have lens : s.im.length ≤ 3072 ∧ s.dk.length ≤ 150 ∧ s.it.length ≤ 30 := by
    obtain ⟨_, _, _, _, _, _, _, _, _, _, _, _, _, _, _, l1, l2, l3, _⟩ := M1
    exact ⟨l1, l2, l3⟩
  have K1 := KP.trans M1.kp
  obtain ⟨ai', ci', ad', cd', at', ct', rfl, F⟩ := M1.sc
  simp (maxSteps:=9^7)(disch:=first|assumption|((try simp only[nX]);omega)|simp) [-g10_4l]
  generalize hQ : Hp.push h1 _ = Q
  have gQ : Q.get h1.next = some (.cells false [.int .i64 s.p, .int .i64 s.m, .slice ai' s.im.length ci', .slice ad' s.dk.length cd', .slice at' s.it.length ct']) := by rw [← hQ]; exact get_push_self
  have KQ : Kp h1 Q := by rw [← hQ]; exact (Kp.refl h1).push _
  clear hQ
  have lQ := lt_of_get gQ
  have rest : ∀ (e : Env) (H : Hp) (x : Scr) (a9 : Option Addr) (c9 : Nat), e 1 = .int .i64 cut → e 2 = .slice am M.length cm → e 7 = ptr h1.next 0 → H.get h1.next = some (.cells false [.int .i64 x.p, .int .i64 x.m, .slice a9 x.im.length c9, .slice ad' x.dk.length cd', .slice at' x.it.length ct']) → ScF H x a9 ad' at' c9 cd' ct' → Kp h H → x.it.length ≤ 30 → G T (fin [RV.t 6] (some []) h.next fun v h' => v = .bool true) c9_4l [] e H := by
    intro e H x a9 c9 e1 e2 e7 gH FH KH hit
    have lH := lt_of_get gH
    have r5 := rdn_all (n := 5) gH rfl
    have sc : ∀ {H' : Hp}, Kp H H' → isSc H' (.agg #[.int .i64 x.p, .int .i64 x.m, .slice a9 x.im.length c9, .slice ad' x.dk.length cd', .slice at' x.it.length ct']) x := fun K => ⟨a9, c9, ad', cd', at', ct', rfl, FH.kp K⟩
    simp (maxSteps:=9^7)(disch:=first|assumption|((try simp only[nX]);omega)|simp) [e7, r5, -g8_4l]
    refine GC_intro (p_right (sc (.refl _))) fun v h3 ⟨hv, K3⟩ => ?_
    subst hv
    have g3 := (K3.get _ lH).trans gH
    have r53 := rdn_all (n := 5) g3 rfl
    by_cases hr : rgt x = 0
    case neg =>
      simp (maxSteps:=9^7)(disch:=first|assumption|((try simp only[nX]);omega)|simp) [hr, GC_of (fun q => p_known (q := q))]
    simp (maxSteps:=9^7)(disch:=first|assumption|((try simp only[nX]);omega)|simp) [hr, e7, r53, -g8_4l]
    refine GC_intro (s_enc (sc K3)) fun v h4 ⟨K4, he⟩ => ?_
    rcases he with ⟨_, o, fp, rfl, O, hfp⟩ | ⟨hn, _⟩
    case inr => exact absurd hr hn
    obtain ⟨ao, co, rfl, So, qo, _⟩ := O.len
    have K04 := K3.trans K4
    have g4 := (K4.get _ (lt_of_get g3)).trans g3
    have l4 := lt_of_get g4
    have wl := wri_len x
    have hil := FH.il
    have hdl := FH.dl
    obtain ⟨hd, hhd⟩ : ∃ hd : Nat, hd = 6 + x.im.length + x.dk.length := ⟨_, rfl⟩
    have hhd' : (6 : Int) + x.im.length + x.dk.length = (hd : Nat) := by omega
    have wll : (wri x).length < 2 ^ 36 := by
      have := wr_len x.it
      rw [show wri x = [b8 x.p, b8 x.m] ++ by2 x.im.length ++ x.im ++ by2 x.dk.length ++ x.dk ++ x.it.flatMap wrI from rfl, List.length_append]
      simp [by2]
      simp at this
      omega
    have q1 := prs_wr hr
    have rest2 : ∀ (e : Env) (M' : By) (am' : Option Addr) (cm' : Nat), Sees encB h4 am' M' → M'.length ≤ cm' → M'.length ≤ 30 → e 1 = .int .i64 cut → e 2 = .slice am' M'.length cm' → e 7 = ptr h1.next 0 → e 8 = .slice ao (wri x).length co → e 9 = .int .i64 0 → e 10 = .int .i64 (hd : Nat) → G T (fin [RV.t 6] (some []) h.next fun v h' => v = .bool true) c6_4l [] e h4 := by
      intro e M' am' cm' SM' qM' hM' e1 e2 e7 e8 e9 e10
      have c1 : ¬ ((wri x).length : Int) < (hd : Nat) := by omega
      have hw := fun h q => within_eq (h := h) (n := cut) (lo := 0) (hi := (hd : Int) - 1) (q := q) (by omega) (by omega) (by omega)
      obtain ⟨w1, w2⟩ := wi_bound (n := cut) (lo := 0) (hi := (hd : Int) - 1) (by omega)
      obtain ⟨z, hz⟩ : ∃ z : Nat, wi cut 0 ((hd : Int) - 1) = z := ⟨_, (Int.toNat_of_nonneg w1).symm⟩
      simp only [hz] at hw w1 w2
      obtain ⟨a5, c5, s5, q5, S5⟩ := part_b So qo (lo := 0) (hi := z) (by omega) (by omega) (l := none) (u := some (.int .i64 (z : Nat))) (.inl ⟨rfl, rfl⟩) (.inr ⟨_, rfl⟩)
      rw [List.drop_zero, Nat.sub_zero] at s5 q5 S5
      have q2 := prs_short hr (k := z) (by omega)
      have ll5 : ((wri x).take z).length < 2 ^ 40 := by simp; omega
      generalize (wri x).take z = B5 at *
      simp (maxSteps:=9^7)(disch:=first|assumption|((try simp only[nX]);omega)|simp) [e1, e8, e9, e10, c1, GC_of (hw _), s5, -g4_4l]
      refine GC_intro (s_dec S5 q5 ll5) fun v h5 ⟨hv, K5⟩ => ?_
      rw [q2] at hv
      have hv' : v = .tuple #[.agg #[.int .i64 0, .int .i64 0, .slice none 0 0, .slice none 0 0, .slice none 0 0], .int .i64 12] := hv
      subst hv'
      simp (maxSteps:=9^7)(disch:=first|assumption|((try simp only[nX]);omega)|simp) [e2, e8, -g4_4l]
      generalize hH : Hp.push h5 _ = H5
      have K5' : Kp h4 H5 := by rw [← hH]; exact K5.push _
      clear hH
      simp (maxSteps:=9^7)(disch:=first|assumption|((try simp only[nX]);omega)|simp) [e2, e8, -g3_4l]
      have Ke := (Kp.refl H5).push (.cells false [])
      refine GV_app (E := encB) (bytes := 1) (xs := []) (.emp get_push_self) ((So.kp K5').kp Ke) rfl (by simp; omega) (by simp; omega) fun v6 h6 f6 O6 U6 => ?_
      rw [List.nil_append] at O6
      have K6 : Kp h4 h6 := U6.kp' (K5'.trans Ke) (by simp; exact K5'.le)
      simp (maxSteps:=9^7)(disch:=first|assumption|((try simp only[nX]);omega)|simp) [e2, e8, -g3_4l]
      have f6b : ∀ b ∈ f6, h4.next ≤ b := fun b hb => by
        rcases U6.sub b hb with h7 | h7
        · simp at h7; have := K5'.le; omega
        · have := K5'.le; simp at h7; omega
      refine GV_app (E := encB) (bytes := 1) O6 (SM'.kp K6) rfl (by omega) (by omega) fun v7 h7 f7 O7 U7 => ?_
      have K7 : Kp h4 h7 := U7.kp' K6 f6b
      obtain ⟨a7, c7, rfl, S7, q7, _⟩ := O7.len
      simp (maxSteps:=9^7)(disch:=first|assumption|((try simp only[nX]);omega)|simp) [e8, -g3_4l]
      obtain ⟨B7, hB7⟩ : ∃ B7, B7 = wri x ++ M' := ⟨_, rfl⟩
      have hl7 : (wri x).length + M'.length = B7.length := by rw [hB7]; simp
      rw [← hB7] at S7 q7
      rw [hl7]
      refine GC_intro (s_dec S7 q7 (by omega)) fun v h8 ⟨hv, K8⟩ => ?_
      rw [hB7] at hv
      rw [prs_more hr M'] at hv
      obtain ⟨v8, rfl, A8, R8⟩ := hv
      have A8' := A8
      obtain ⟨bi, di, bd, dd, bt, dt, rfl, G8⟩ := A8'
      simp (maxSteps:=9^7)(disch:=first|assumption|((try simp only[nX]);omega)|simp) [e8, -g3_4l]
      generalize hH : Hp.push h8 _ = H8
      have gm : H8.get h8.next = some (.cells false [.int .i64 x.p, .int .i64 x.m, .slice bi x.im.length di, .slice bd x.dk.length dd, .slice bt (rdI M' (x.it.map nI)).length dt]) := by rw [← hH]; exact get_push_self
      have KH8 : Kp h8 H8 := by rw [← hH]; exact (Kp.refl h8).push _
      clear hH
      have K48 : Kp h4 H8 := (K7.trans K8).trans KH8
      simp (maxSteps:=9^7)(disch:=first|assumption|((try simp only[nX]);omega)|simp) [e8, -g2_4l]
      refine GC_intro (s_dec (So.kp K48) qo (by omega)) fun v h9 ⟨hv, K9⟩ => ?_
      rw [q1] at hv
      obtain ⟨v9, rfl, A9, R9⟩ := hv
      have A9' := A9
      obtain ⟨ei, fi, ed, fd, et, ft, rfl, G9⟩ := A9'
      have gm9 := (K9.get _ (lt_of_get gm)).trans gm
      have lm9 := lt_of_get gm9
      simp (maxSteps:=9^7)(disch:=first|assumption|((try simp only[nX]);omega)|simp) [-g2_4l]
      generalize hH : Hp.push h9 _ = H9
      have gt : H9.get h9.next = some (.cells false [.int .i64 x.p, .int .i64 x.m, .slice ei x.im.length fi, .slice ed x.dk.length fd, .slice et (x.it.map nI).length ft]) := by rw [← hH]; exact get_push_self
      have KH9 : Kp h9 H9 := by rw [← hH]; exact (Kp.refl h9).push _
      clear hH
      have gm10 := (KH9.get _ lm9).trans gm9
      have gs10 := (((K48.trans K9).trans KH9).get _ l4).trans g4
      obtain ⟨l', hl'⟩ := rdI_pre M' (x.it.map nI)
      have t1 : ¬ ((rdI M' (x.it.map nI)).length : Int) < (x.it.map nI).length := by rw [hl']; simp; omega
      have t2 : (x.it.map nI).length = x.it.length := by simp
      rw [t2] at t1 gt
      have t8 := sees_lt G8.t
      have t9 := R9
      obtain ⟨b2, d2, sb2, qb2, Sb2⟩ := (G8.t.kp ((KH8.trans K9).trans KH9)).part (c := dt) (lo := 0) (hi := x.it.length) (by omega) (by simp only []; rw [hl']; simp) G8.tc (l := none) (u := some (.int .i64 x.it.length)) (.inl ⟨rfl, rfl⟩) (.inr ⟨_, rfl⟩)
      have e2 : ((rdI M' (x.it.map nI)).drop 0).take (x.it.length - 0) = x.it.map nI := by
        rw [hl', List.drop_zero, Nat.sub_zero]
        exact List.take_left' (by simp)
      simp only [] at sb2 Sb2
      rw [e2] at Sb2
      rw [Nat.sub_zero] at sb2 qb2
      have sb2' : sliceV 2 (.slice bt (rdI M' (x.it.map nI)).length dt) none (some (.int .i64 x.it.length)) none = some (.slice b2 x.it.length d2) := sb2
      have nb2 : ∀ A, b2 = some A → A.block ≠ h8.next := fun A hA => by
        obtain ⟨A1, hA1, e9⟩ := sliceV_blk sb2 A hA
        have := t8 A1 hA1
        omega
      have nt9 : ∀ A, et = some A → A.block ≠ h8.next := fun A hA => by
        have := t9 A hA
        have := lt_of_get gm
        omega
      have lm10 := lt_of_get gm10
      simp (maxSteps:=9^7)(disch:=first|assumption|((try simp only[nX]);omega)|simp) [gm10, gt, gs10, t1, e7, sb2', -g0_4l]
      generalize hH : Hp.put H9 _ _ = HA
      have gA1 : HA.get h8.next = some (.cells false [.int .i64 x.p, .int .i64 x.m, .slice bi x.im.length di, .slice bd x.dk.length dd, .slice b2 x.it.length d2]) := by rw [← hH]; exact get_put_self lm10
      have gA2 : HA.get h9.next = some (.cells false [.int .i64 x.p, .int .i64 x.m, .slice ei x.im.length fi, .slice ed x.dk.length fd, .slice et x.it.length ft]) := by rw [← hH, get_put_ne (by omega)]; exact gt
      have KK := (KH8.trans K9).trans KH9
      have i8 : Sees encB HA bi x.im := by rw [← hH]; exact sees_put5 (G8.i.kp KK) gm10 no_u8 rfl
      have d8 : Sees encB HA bd x.dk := by rw [← hH]; exact sees_put5 (G8.d.kp KK) gm10 no_u8 rfl
      have i9 : Sees encB HA ei x.im := by rw [← hH]; exact sees_put5 (G9.i.kp KH9) gm10 no_u8 rfl
      have d9 : Sees encB HA ed x.dk := by rw [← hH]; exact sees_put5 (G9.d.kp KH9) gm10 no_u8 rfl
      have s8 : Sees encIt HA b2 (x.it.map nI) := by rw [← hH]; exact sees_ne Sb2 nb2
      have s9 : Sees encIt HA et (x.it.map nI) := by rw [← hH]; exact sees_ne (G9.t.kp KH9) nt9
      have tc9 := G9.tc
      have hA1 : isSc HA (.agg #[.int .i64 x.p, .int .i64 x.m, .slice bi x.im.length di, .slice bd x.dk.length dd, .slice b2 x.it.length d2]) (nrm x) := ⟨bi, di, bd, dd, b2, d2, by rw [show (nrm x).it.length = x.it.length from t2]; rfl, i8, d8, s8, G8.ic, G8.dc, by rw [show (nrm x).it.length = x.it.length from t2]; exact qb2, hil, hdl, by rw [show (nrm x).it.length = x.it.length from t2]; omega⟩
      have hA2 : isSc HA (.agg #[.int .i64 x.p, .int .i64 x.m, .slice ei x.im.length fi, .slice ed x.dk.length fd, .slice et x.it.length ft]) (nrm x) := ⟨ei, fi, ed, fd, et, ft, by rw [show (nrm x).it.length = x.it.length from t2]; rfl, i9, d9, s9, G9.ic, G9.dc, G9.tc, hil, hdl, by rw [show (nrm x).it.length = x.it.length from t2]; omega⟩
      have ra := rdn_all (n := 5) gA1 rfl
      have rb := rdn_all (n := 5) gA2 rfl
      simp (maxSteps:=9^7)(disch:=first|assumption|((try simp only[nX]);omega)|simp) [ra, rb]
      refine GC_intro (p_same hA1 hA2) fun v hB ⟨hv, KB⟩ => ?_
      subst hv
      simp (maxSteps:=9^7)(disch:=first|assumption|((try simp only[nX]);omega)|simp) [GCI_of (fun q => p_known (q := q)), GC_of (fun q => p_known (q := q))]
    have SM4 := SM.kp (KH.trans K04)
    by_cases c8 : M.length ≤ 30
    · have c8' : ¬ (30 : Int) < M.length := by omega
      simp (maxSteps:=9^7)(disch:=first|assumption|((try simp only[nX]);omega)|simp) [e7, g4, hhd', e2, c8', -g6_4l]
      refine rest2 _ M am cm SM4 qM c8 ?_ ?_ ?_ ?_ ?_ ?_
      · simp [e1]
      · simp [e2]
      · simp [e7]
      · simp
      · simp
      · simp
    · have c8' : (30 : Int) < M.length := by omega
      obtain ⟨a5, c5, s5, q5, S5⟩ := part_b SM4 qM (lo := 0) (hi := 30) (by omega) (by omega) (l := none) (u := some (.int .i64 30)) (.inl ⟨rfl, rfl⟩) (.inr ⟨_, rfl⟩)
      have l5 : ((M.drop 0).take (30 - 0)).length ≤ 30 := by simp; omega
      generalize (M.drop 0).take (30 - 0) = M5 at *
      simp (maxSteps:=9^7)(disch:=first|assumption|((try simp only[nX]);omega)|simp) [e7, g4, hhd', e2, c8', s5, -g6_4l]
      refine rest2 _ M5 a5 c5 S5 q5 l5 ?_ ?_ ?_ ?_ ?_ ?_
      · simp [e1]
      · simp
      · simp [e7]
      · simp
      · simp
      · simp
  have KhQ := K1.trans KQ
  have FQ := F.kp KQ
  by_cases c6 : s.im.length ≤ 40
  · have c6' : ¬ (40 : Int) < s.im.length := by omega
    obtain ⟨a9, c9, s9, q9, S9⟩ := part_b FQ.i FQ.ic (lo := 0) (hi := s.im.length) (by omega) (by omega) (l := none) (u := some (.int .i64 s.im.length)) (.inl ⟨rfl, rfl⟩) (.inr ⟨_, rfl⟩)
    have e9 : (s.im.drop 0).take (s.im.length - 0) = s.im := by simp
    rw [e9] at s9 q9 S9
    simp (maxSteps:=9^7)(disch:=first|assumption|((try simp only[nX]);omega)|simp) [gQ, c6', s9, -g9_4l]
    refine rest _ _ s a9 c9 ?_ ?_ ?_ (get_put_self lQ) ⟨sees_put5 S9 gQ no_u8 rfl, sees_put5 FQ.d gQ no_u8 rfl, sees_ne FQ.t ?_, q9, FQ.dc, FQ.tc, FQ.il, FQ.dl, FQ.tl⟩ (KhQ.put (by have := K1.le; omega) _) lens.2.2
    · simp
    · simp
    · simp
    · intro A hA
      have := sees_lt F.t A hA
      omega
  · have c6' : (40 : Int) < s.im.length := by omega
    obtain ⟨a9, c9, s9, q9, S9⟩ := part_b FQ.i FQ.ic (lo := 0) (hi := 40) (by omega) (by omega) (l := none) (u := some (.int .i64 40)) (.inl ⟨rfl, rfl⟩) (.inr ⟨_, rfl⟩)
    have l9 : ((s.im.drop 0).take (40 - 0)).length < 2 ^ 30 := by simp; omega
    obtain ⟨im9, him⟩ : ∃ im9, im9 = (s.im.drop 0).take (40 - 0) := ⟨_, rfl⟩
    rw [← him] at s9 q9 S9 l9
    simp (maxSteps:=9^7)(disch:=first|assumption|((try simp only[nX]);omega)|simp) [gQ, c6', s9, -g9_4l]
    refine rest _ _ { s with im := im9 } a9 c9 ?_ ?_ ?_ (get_put_self lQ) ⟨sees_put5 S9 gQ no_u8 rfl, sees_put5 FQ.d gQ no_u8 rfl, sees_ne FQ.t ?_, q9, FQ.dc, FQ.tc, l9, FQ.dl, FQ.tl⟩ (KhQ.put (by have := K1.le; omega) _) lens.2.2
    · simp
    · simp
    · simp
    · intro A hA
      have := sees_lt F.t A hA
      omega
end
end Go.Proofs.YtoiiphcbkejliaaGreat.Cd
