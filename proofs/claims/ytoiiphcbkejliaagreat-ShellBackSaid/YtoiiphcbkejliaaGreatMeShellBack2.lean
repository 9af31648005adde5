/- Texts of one kind, one behind the other. -/
import Derived.Test.YtoiiphcbkejliaaGreatMeShellBack1
import Derived.Test.YtoiiphcbkejliaaGreatMcz0
/- The document's programs: an image comes, whatever is drawn. -/
set_option maxRecDepth 1000000
set_option maxHeartbeats 8000000
set_option linter.unusedSimpArgs false
set_option linter.unusedVariables false
namespace Go.Proofs.YtoiiphcbkejliaaGreat.Cd
open Go Go.Dx
section
variable {h h' : Hp} {q : Value → Hp → Prop}
/-- Bytes in a block. -/
def Bb (h : Hp) (b N : Nat) : Prop := ∃ B : By, B.length = N ∧ h.get b = some (.cells false (B.map u8))
theorem Bb.set {b N i : Nat} (A : Bb h b N) (hi : i < N) (c : BitVec 8) : ∃ h', h.wr b i [u8 c] = some h' ∧ Bb h' b N ∧ Upd h h' [b] [b] := by
  obtain ⟨B, hl, hg⟩ := A
  refine ⟨_, wr_ok hg (by simp; omega) rfl, ⟨B.set i c, by simp [hl], ?_⟩, ?_⟩
  · rw [get_put_self (lt_of_get hg), over_set (by simp; omega), List.map_set]
  · exact (Kp.upd (.refl h) _).put1
theorem Bb.kp {b N : Nat} (A : Bb h b N) (K : Kp h h') : Bb h' b N := by
  obtain ⟨B, hl, hg⟩ := A
  exact ⟨B, hl, (K.get _ (lt_of_get hg)).trans hg⟩
theorem k_put {bb N a : Nat} {l : List (BitVec 32)} {al : Option Addr} {cl : Nat} (A : Bb h bb N) (S : Sees encW h al l) (hN : N < 2 ^ 40) (ha : a < 2 ^ 40) (hl : l.length < 2 ^ 40) (hne : ∀ D, al = some D → D.block ≠ bb) :
    WC T n_4i [.slice (some ⟨bb, 0, none⟩) N N, .int .i64 (a : Int), .slice al l.length cl] h fun v h' => v = .tuple #[] ∧ Bb h' bb N ∧ Upd h h' [bb] [bb] := by
  rw [w_4i]
  simp (maxSteps:=9^7)(disch:=first|assumption|((try simp only[nX]);omega)|simp)
  refine G_loop (fun j e h' => ∃ i : Nat, j = l.length - i ∧ i ≤ l.length ∧ e 0 = .slice (some ⟨bb, 0, none⟩) N N ∧ e 1 = .int .i64 (a : Int) ∧ e 2 = .slice al l.length cl ∧ e 6 = .int .i64 i ∧ Bb h' bb N ∧ Upd h h' [bb] [bb]) ?_ l.length _ _ ⟨0, rfl, by omega, by simp, by simp, by simp, by simp, A, .refl⟩
  rintro j ih e h' ⟨i, rfl, hi, e0, e1, e2, e6, A', U'⟩
  by_cases c1 : i < l.length
  case neg =>
    have c1' : ¬ (i : Int) < l.length := by omega
    simp (maxSteps:=9^7)(disch:=first|assumption|((try simp only[nX]);omega)|simp) [e0, e1, e2, e6, c1']
    exact ⟨A', U'⟩
  have c1' : (i : Int) < l.length := by omega
  by_cases c2 : a + 4 * i + 4 ≤ N
  case neg =>
    have c2' : ¬ (a : Int) + 4 * i + 4 ≤ N := by omega
    simp (maxSteps:=9^7)(disch:=first|assumption|((try simp only[nX]);omega)|simp) [e0, e1, e2, e6, c1', c2']
    exact ⟨A', U'⟩
  have c2' : (a : Int) + 4 * i + 4 ≤ N := by omega
  simp (maxSteps:=9^7)(disch:=first|assumption|((try simp only[nX]);omega)|simp) [e0, e1, e2, e6, c1', c2']
  refine G_loop (fun j e' h'' => ∃ k : Nat, j = 4 - k ∧ k ≤ 4 ∧ e' 0 = e 0 ∧ e' 1 = e 1 ∧ e' 2 = e 2 ∧ e' 6 = e 6 ∧ e' 7 = .int .i64 k ∧ Bb h'' bb N ∧ Upd h h'' [bb] [bb]) ?_ 4 _ _ ⟨0, rfl, by omega, by simp, by simp, by simp, by simp, by simp, A', U'⟩
  rintro j ih2 e' h'' ⟨k, rfl, hk, f0, f1, f2, f6, f7, A2, U2⟩
  by_cases c3 : k < 4
  case neg =>
    obtain rfl : k = 4 := by omega
    simp (maxSteps:=9^7)(disch:=first|assumption|((try simp only[nX]);omega)|simp) [f0, f1, f2, f6, f7, e6]
    exact ih (l.length - (i + 1)) (by omega) _ _ ⟨i + 1, rfl, by omega, by simp [f0, e0], by simp [f1, e1], by simp [f2, e2], by simp, A2, U2⟩
  have c3' : (k : Int) < 4 := by omega
  have S2 := S.upd U2 fun D hD hm => hne D hD (by simpa using hm)
  have hx : l = l.take i ++ l[i] :: l.drop (i + 1) := by rw [List.getElem_cons_drop, List.take_append_drop]
  obtain ⟨D, ro, C, rfl, hg, hC⟩ := Sees.cell (E := encW) (f := u32) (fun _ => rfl) rfl (us := l.take i) (x := l[i]) (vs := l.drop (i + 1)) (by rw [← hx]; exact S2)
  rw [List.length_take, Nat.min_eq_left (by omega)] at hC
  have hix : ((a : Int) + 4 * i + k).toNat = a + 4 * i + k := by omega
  simp (maxSteps:=9^7)(disch:=first|assumption|((try simp only[nX]);omega)|simp) [f0, f1, f2, f6, f7, e0, e1, e2, e6, c3', c1, c1', hg, hC, hix, -Hp.wr]
  obtain ⟨h3, hw, A3, U3⟩ := A2.set (i := a + 4 * i + k) (by omega) (BitVec.setWidth 8 (l[i] >>> ((24 - 8 * (k : Int)) % 18446744073709551616).toNat))
  rw [hw]
  simp (maxSteps:=9^7)(disch:=first|assumption|((try simp only[nX]);omega)|simp) [f7]
  exact ih2 (4 - (k + 1)) (by omega) _ _ ⟨k + 1, rfl, by omega, by simp [f0], by simp [f1], by simp [f2], by simp [f6], by simp, A3, U2.trans U3⟩
/-- A row of words that grows: a table at first, its own block later; all at or behind lo. -/
def Rz (h : Hp) (lo : Nat) (v : Value) (xs : List (BitVec 32)) : Prop :=
  (∃ b, v = .slice (some ⟨b, 0, none⟩) xs.length xs.length ∧ lo ≤ b ∧ Sees encW h (some ⟨b, 0, none⟩) xs) ∨ (∃ fp, Own encW h v xs fp ∧ ∀ b ∈ fp, lo ≤ b)
/-- What lies ahead of lo is as it was. -/
structure KL (lo : Nat) (h h' : Hp) : Prop where
  le : h.next ≤ h'.next
  get : ∀ b, b < lo → h'.get b = h.get b
theorem KL.trans {lo : Nat} {a b c : Hp} (x : KL lo a b) (y : KL lo b c) : KL lo a c := ⟨Nat.le_trans x.le y.le, fun k hk => (y.get k hk).trans (x.get k hk)⟩
theorem _root_.Go.Dx.Kp.kl {lo : Nat} (K : Kp h h') (hl : lo ≤ h.next) : KL lo h h' := ⟨K.le, fun b hb => K.get b (by omega)⟩
theorem Rz.kp {lo : Nat} {v : Value} {xs : List (BitVec 32)} (R : Rz h lo v xs) (K : Kp h h') : Rz h' lo v xs := by
  rcases R with ⟨b, h1, h2, h3⟩ | ⟨fp, h1, h2⟩
  · exact .inl ⟨b, h1, h2, h3.kp K⟩
  · exact .inr ⟨fp, h1.kp K, h2⟩
theorem Rz.sees {lo : Nat} {v : Value} {xs : List (BitVec 32)} (R : Rz h lo v xs) : ∃ a c, v = .slice a xs.length c ∧ Sees encW h a xs ∧ ∀ A, a = some A → lo ≤ A.block := by
  rcases R with ⟨b, h1, h2, h3⟩ | ⟨fp, h1, h2⟩
  · exact ⟨_, _, h1, h3, fun A hA => by cases hA; exact h2⟩
  · obtain ⟨a, c, e, s, _, m⟩ := h1.len
    exact ⟨a, c, e, s, fun A hA => h2 _ (m A hA)⟩
theorem Rz.app {Q : Ex → Env → Hp → Prop} {k : List Fr} {e : Env} {d : Option Nat} {l : List O} {lo : Nat} {v : Value} {xs : List (BitVec 32)} {x : BitVec 32} (R : Rz h lo v xs) (hlo : lo ≤ h.next) (hl : xs.length < 2 ^ 30)
    (H : ∀ v' h', Rz h' lo v' (xs ++ [x]) → KL lo h h' → GO T Q l k (put e d v') h') : GV T Q (appendV (h.push (.cells false [u32 x])) 1 4 v (.slice (some ⟨h.next, 0, none⟩) 1 1)) d l k e := by
  rcases R with ⟨b, rfl, h2, h3⟩ | ⟨fp, h1, h2⟩
  · have hr := (h3.kp ((Kp.refl h).push (.cells false [u32 x]))).get _ rfl
    simp only [encW_sz, Nat.mul_one] at hr
    have ha : appendV (h.push (.cells false [u32 x])) 1 4 (.slice (some ⟨b, 0, none⟩) xs.length xs.length) (.slice (some ⟨h.next, 0, none⟩) 1 1) = some (.slice (some ⟨h.next + 1, 0, some 1⟩) (xs.length + 1) (xs.length + 1), (h.push (.cells false [u32 x])).push (.cells false (encW.all xs ++ [u32 x]))) := by
      have e2 : elems (h.push (.cells false [u32 x])) 1 1 (.slice (some ⟨h.next, 0, none⟩) 1 1) = some [u32 x] := elems_one (E := encW) (x := x) get_push_self
      simp only [appendV, lenV, e2]
      rw [if_pos (show [u32 x].length = 1 * 1 from rfl), if_neg (by omega), if_pos ⟨by omega, by omega⟩]
      simp only [Nat.mul_one, hr]
      rfl
    rw [ha]
    refine H _ _ (.inr ⟨[h.next + 1], ?_, by simp; omega⟩) ⟨by simp; omega, fun c hc => by rw [get_push_ne (by rw [push_next]; omega), get_push_ne (by omega)]⟩
    have := Own.blk (E := encW) (h := (h.push (.cells false [u32 x])).push (.cells false (encW.all xs ++ [u32 x]))) (b := h.next + 1) (n := xs.length + 1) (c := xs.length + 1) (xs := xs ++ [x]) (r := []) (by
      have : (h.push (.cells false [u32 x])).next = h.next + 1 := rfl
      rw [← this, get_push_self]
      simp [encW]) (by simp) (Nat.le_refl _) (by omega) (by simp)
    exact this
  · refine GV_app1 (E := encW) (bytes := 4) (x := x) h1 (by omega) (by omega) fun v' h' fp' O U => ?_
    refine H v' h' (.inr ⟨fp', O, fun b hb => ?_⟩) ⟨U.le, fun b hb => U.get b (by omega) fun hm => by have := h2 b hm; omega⟩
    rcases U.sub b hb with h5 | h5
    · exact h2 b h5
    · omega
theorem k_image {pg : Nat} {l : List In7} {al : Option Addr} {cl : Nat} (S : Sees encI7 h al l) (hp : 2 ≤ pg ∧ pg ≤ 64) (hl : l.length < 2 ^ 63) :
    WC T n_4d [.slice al l.length cl, .int .i64 (pg : Int)] h fun v h' => (∃ bb, v = .slice (some ⟨bb, 0, none⟩) (1024 * pg) (1024 * pg) ∧ h.next ≤ bb ∧ Bb h' bb (1024 * pg)) ∧ Kp h h' := by
  have e2 : ((pg : Int) * 1024).toNat = 1024 * pg := by omega
  have kw := fun h i => k_word (h := h) (i := i)
  simp only [encIns] at kw
  rw [w_4d]
  simp (maxSteps:=9^7)(disch:=first|assumption|((try simp only[nX]);omega)|simp) [e2]
  generalize hP : Hp.push h _ = P
  have nP : P.next = h.next + 1 := by rw [← hP]; rfl
  have KP : Kp h P := by rw [← hP]; exact (Kp.refl h).push _
  have A : Bb P h.next (1024 * pg) := ⟨List.replicate (1024 * pg) 0#8, List.length_replicate, by rw [← hP, get_push_self]; simp⟩
  clear hP
  refine GC_intro (kw _ ⟨60, 0, 0, 0, 0, 0#32⟩) fun v h1 ⟨⟨w1, hv⟩, K1⟩ => ?_
  subst hv
  have KP := KP.trans K1
  have A := A.kp K1
  simp (maxSteps:=9^7)(disch:=first|assumption|((try simp only[nX]);omega)|simp)
  refine GC_intro (k_put (a := 0) (l := [w1]) (A.kp ((Kp.refl h1).push _)) (sees_new get_push_self rfl) (by omega) (by omega) (by simp) fun D hD => ?_) fun v h2 ⟨hv, A, U2⟩ => ?_
  · cases hD
    have := KP.le
    show h1.next ≠ h.next
    obtain ⟨B, _, hg⟩ := A
    have := lt_of_get hg
    omega
  subst hv
  have KP : Kp h h2 := U2.kp' (KP.push _) (by simp)
  simp (maxSteps:=9^7)(disch:=first|assumption|((try simp only[nX]);omega)|simp)
  refine GC_intro (kw _ ⟨54, 0, 26, 14, 0, 0#32⟩) fun v h3 ⟨⟨w3, hv⟩, K3⟩ => ?_
  subst hv
  have KP := KP.trans K3
  have A := A.kp K3
  simp (maxSteps:=9^7)(disch:=first|assumption|((try simp only[nX]);omega)|simp)
  refine GC_intro (kw _ ⟨47, 26, 26, 0, 0, 4#32⟩) fun v h4 ⟨⟨w4, hv⟩, K4⟩ => ?_
  subst hv
  have KP := KP.trans K4
  have A := A.kp K4
  simp (maxSteps:=9^7)(disch:=first|assumption|((try simp only[nX]);omega)|simp)
  refine GC_intro (kw _ ⟨55, 0, 26, 14, 0, 0#32⟩) fun v h5 ⟨⟨w5, hv⟩, K5⟩ => ?_
  subst hv
  have KP := KP.trans K5
  have A := A.kp K5
  simp (maxSteps:=9^7)(disch:=first|assumption|((try simp only[nX]);omega)|simp)
  refine GC_intro (kw _ ⟨60, 0, 0, 0, 0, 0#32⟩) fun v h6 ⟨⟨w6, hv⟩, K6⟩ => ?_
  subst hv
  have KP := KP.trans K6
  have A := A.kp K6
  simp (maxSteps:=9^7)(disch:=first|assumption|((try simp only[nX]);omega)|simp)
  refine GC_intro (k_put (a := 384) (l := [w3, w4, w5, w6]) (A.kp ((Kp.refl h6).push _)) (sees_new get_push_self rfl) (by omega) (by omega) (by simp) fun D hD => ?_) fun v h7 ⟨hv, A, U7⟩ => ?_
  · cases hD
    show h6.next ≠ h.next
    obtain ⟨B, _, hg⟩ := A
    have := lt_of_get hg
    omega
  subst hv
  have KP : Kp h h7 := U7.kp' (KP.push _) (by simp)
  simp (maxSteps:=9^7)(disch:=first|assumption|((try simp only[nX]);omega)|simp)
  refine GC_intro (kw _ ⟨53, 0, 28, 0, 0, 32768#32⟩) fun v h8 ⟨⟨w8, hv⟩, K8⟩ => ?_
  subst hv
  have KP := KP.trans K8
  have A := A.kp K8
  simp (maxSteps:=9^7)(disch:=first|assumption|((try simp only[nX]);omega)|simp)
  refine GC_intro (kw _ ⟨51, 28, 29, 0, 0, 1024#32⟩) fun v h9 ⟨⟨w9, hv⟩, K9⟩ => ?_
  subst hv
  have KP := KP.trans K9
  have A := A.kp K9
  simp (maxSteps:=9^7)(disch:=first|assumption|((try simp only[nX]);omega)|simp)
  refine GC_intro (kw _ ⟨53, 0, 30, 0, 0, 48896#32⟩) fun v h10 ⟨⟨w10, hv⟩, K10⟩ => ?_
  subst hv
  have KP := KP.trans K10
  have A := A.kp K10
  simp (maxSteps:=9^7)(disch:=first|assumption|((try simp only[nX]);omega)|simp)
  refine GC_intro (kw _ ⟨51, 28, 31, 0, 0, 1536#32⟩) fun v h11 ⟨⟨w11, hv⟩, K11⟩ => ?_
  subst hv
  have KP := KP.trans K11
  have A := A.kp K11
  simp (maxSteps:=9^7)(disch:=first|assumption|((try simp only[nX]);omega)|simp)
  have l11 : h.next < h11.next := by
    obtain ⟨B, _, hg⟩ := A
    exact lt_of_get hg
  obtain ⟨lo, hlo⟩ : ∃ lo, lo = h11.next := ⟨_, rfl⟩
  have R0 : Rz (h11.push (.cells false [u32 w8, u32 w9, u32 w10, u32 w11])) lo (.slice (some ⟨h11.next, 0, none⟩) 4 4) [w8, w9, w10, w11] := .inl ⟨h11.next, rfl, by omega, sees_new get_push_self rfl⟩
  have KP := KP.push (.cells false [u32 w8, u32 w9, u32 w10, u32 w11])
  have A := A.kp ((Kp.refl h11).push (.cells false [u32 w8, u32 w9, u32 w10, u32 w11]))
  have l0 : lo ≤ (h11.push (.cells false [u32 w8, u32 w9, u32 w10, u32 w11])).next := by rw [push_next]; omega
  generalize h11.push (.cells false [u32 w8, u32 w9, u32 w10, u32 w11]) = H0 at *
  rw [← hlo]
  rw [← hlo] at R0 l11
  have hsl := sees_lt S
  refine G_loop (fun j e H => ∃ (i : Nat) (v : Value) (xs : List (BitVec 32)), j = 200 - i ∧ i ≤ l.length ∧ i ≤ 200 ∧ e 0 = .slice al l.length cl ∧ e 5 = .slice (some ⟨h.next, 0, none⟩) (1024 * pg) (1024 * pg) ∧ e 6 = v ∧ e 7 = .int .i64 i ∧ xs.length = i + 4 ∧ Rz H lo v xs ∧ KL lo H0 H) ?_ 200 _ _ ⟨0, _, _, rfl, by omega, by omega, by simp, by simp, by simp, by simp, rfl, R0, ⟨Nat.le_refl _, fun b _ => rfl⟩⟩
  clear R0
  rintro j ih e H ⟨i, v, xs, rfl, i1, i2, e0, e5, e6, e7, hxl, R, KL0⟩
  have hle := KL0.le
  have KH : Kp h H := ⟨by have := KP.le; omega, fun b hb => (KL0.get b (by omega)).trans (KP.get b hb)⟩
  have AH : Bb H h.next (1024 * pg) := by
    obtain ⟨B, hl, hg⟩ := A
    exact ⟨B, hl, (KL0.get _ l11).trans hg⟩
  have SH := S.kp KH
  by_cases c : i < l.length ∧ i < 200
  · obtain ⟨c1, c2⟩ := c
    have c1' : (i : Int) < l.length := by omega
    have c2' : (i : Int) < 200 := by omega
    have hx : l = l.take i ++ l[i] :: l.drop (i + 1) := by rw [List.getElem_cons_drop, List.take_append_drop]
    obtain ⟨D, rfl, hr⟩ := Sees.mid (A := l.take i) (x := l[i]) (B := l.drop (i + 1)) (by rw [← hx]; exact SH)
    rw [List.length_take, Nat.min_eq_left (by omega)] at hr
    have hc := fun h => k_code (h := h) (x := l[i])
    have hr' : H.rdn D.block (D.off + i * 7) 7 = some (encI7.enc l[i]) := hr
    generalize l[i] = x at *
    simp (maxSteps:=9^7)(disch:=first|assumption|((try simp only[nX]);omega)|simp) [e0, e6, e7, c1, c1', c2', hr']
    refine GC_intro (hc _) fun v2 h2 ⟨⟨w, hv⟩, K2⟩ => ?_
    subst hv
    simp (maxSteps:=9^7)(disch:=first|assumption|((try simp only[nX]);omega)|simp)
    have K2l := K2.kl (lo := lo) (by omega)
    refine (R.kp K2).app (by have := K2l.le; omega) (by omega) fun v3 h3 R3 K3 => ?_
    simp (maxSteps:=9^7)(disch:=first|assumption|((try simp only[nX]);omega)|simp) [e7]
    exact ih (200 - (i + 1)) (by omega) _ _ ⟨i + 1, v3, xs ++ [w], rfl, by omega, by omega, by simp [e0], by simp [e5], by simp, by simp, by simp [hxl], R3, (KL0.trans K2l).trans K3⟩
  · have fin2 : ∀ e' : Env, e' 5 = .slice (some ⟨h.next, 0, none⟩) (1024 * pg) (1024 * pg) → e' 6 = v → G T (fin [RV.t 4] (some []) h.next fun v h' => (∃ bb, v = .slice (some ⟨bb, 0, none⟩) (1024 * pg) (1024 * pg) ∧ h.next ≤ bb ∧ Bb h' bb (1024 * pg)) ∧ Kp h h') c2_4d [] e' H := fun e' f5 f6 => by
      obtain ⟨ac, cc, rfl, Sc, hb⟩ := R.sees
      by_cases c3 : xs.length * 4 + 1024 ≤ 1024 * pg
      · have c3' : (xs.length : Int) * 4 + 1024 ≤ 1024 * (pg : Int) := by omega
        simp (maxSteps:=9^7)(disch:=first|assumption|((try simp only[nX]);omega)|simp) [f5, f6, c3']
        refine GC_intro (k_put (a := 1024) AH Sc (by omega) (by omega) (by omega) fun D hD => by have := hb D hD; omega) fun v h2 ⟨hv, A2, U2⟩ => ?_
        subst hv
        simp (maxSteps:=9^7)(disch:=first|assumption|((try simp only[nX]);omega)|simp) [f5]
        exact ⟨A2, U2.kp' KH (by simp)⟩
      · have c3' : ¬ (xs.length : Int) * 4 + 1024 ≤ 1024 * (pg : Int) := by omega
        simp (maxSteps:=9^7)(disch:=first|assumption|((try simp only[nX]);omega)|simp) [f5, f6, c3']
        exact ⟨AH, KH⟩
    by_cases c1 : i < l.length
    · have c1' : (i : Int) < l.length := by omega
      have c2' : ¬ (i : Int) < 200 := by omega
      simp (maxSteps:=9^7)(disch:=first|assumption|((try simp only[nX]);omega)|simp) [e0, e7, c1', c2', -g2_4d]
      exact fin2 _ (by simp [e5]) (by simp [e6])
    · have c1' : ¬ (i : Int) < l.length := by omega
      simp (maxSteps:=9^7)(disch:=first|assumption|((try simp only[nX]);omega)|simp) [e0, e7, c1', -g2_4d]
      exact fin2 _ (by simp [e5]) (by simp [e6])
end
end Go.Proofs.YtoiiphcbkejliaaGreat.Cd

/- A script that is drawn. -/
set_option maxRecDepth 1000000
set_option maxHeartbeats 8000000
set_option linter.unusedSimpArgs false
set_option linter.unusedVariables false
namespace Go.Proofs.YtoiiphcbkejliaaGreat.Cd
open Go Go.Dx
/-- A script as it was made, its items in a row of their own. -/
def isMade (h h' : Hp) (v : Value) (s : Scr) : Prop := ∃ aim cim adk cdk ov fp lo, v = .agg #[.int .i64 s.p, .int .i64 s.m, .slice aim s.im.length cim, .slice adk s.dk.length cdk, ov] ∧ (Sees encB h' aim s.im ∧ s.im.length ≤ cim) ∧ (Sees encB h' adk s.dk ∧ s.dk.length ≤ cdk) ∧
  Own encIt h' ov s.it fp ∧ (∀ b ∈ fp, lo ≤ b) ∧ h.next ≤ lo ∧ (∀ A, aim = some A → A.block < lo) ∧ (∀ A, adk = some A → A.block < lo) ∧ s.im.length ≤ 3072 ∧ s.dk.length ≤ 150 ∧ s.it.length ≤ 30 ∧ Kp h h'
section
variable {h h' : Hp} {v : Value} {s : Scr}
theorem isMade.sc (M : isMade h h' v s) : isSc h' v s := by
  obtain ⟨aim, cim, adk, cdk, ov, fp, lo, rfl, ⟨Si, qi⟩, ⟨Sd, qd⟩, O, _, _, _, _, l1, l2, l3, _⟩ := M
  obtain ⟨at', ct, rfl, St, qt, _⟩ := O.len
  exact ⟨aim, cim, adk, cdk, at', ct, rfl, Si, Sd, St, qi, qd, qt, by omega, by omega, by omega⟩
theorem isMade.kp (M : isMade h h' v s) : Kp h h' := by
  obtain ⟨_, _, _, _, _, _, _, _, _, _, _, _, _, _, _, _, _, _, K⟩ := M
  exact K
theorem p_known {q : Value → Hp → Prop} : WC T n_4s [] h q ↔ q (.bool true) h := by
  rw [WC_spec T_4s]
  simp [sTrue]
variable {pg mo : Int} {tm : Bool} {L : List In7} {D : By} {I : List Itm} {al ad ai : Option Addr} {cl cd ci : Nat}
theorem p_made (SL : Sees encI7 h al L) (hL : L.length < 2 ^ 63) (SD : Sees encB h ad D) (hD : D.length < 2 ^ 63) (qD : D.length ≤ cd) (SI : Sees encIt h ai I) (hI : I.length < 2 ^ 63) :
    WC T n_4t [.agg #[.int .i64 pg, .int .i64 mo, .slice al L.length cl, .slice ad D.length cd, .slice ai I.length ci, .bool tm]] h fun v h' => ∃ s, isMade h h' v s := by
  have hw := fun h n q => within_eq (h := h) (n := n) (lo := 3) (hi := 5) (q := q) (by omega) (by omega) (by omega)
  have hw2 := fun h n q => within_eq (h := h) (n := n) (lo := 1) (hi := 20) (q := q) (by omega) (by omega) (by omega)
  have hw3 := fun h n q => within_eq (h := h) (n := n) (lo := 0) (hi := 1048576) (q := q) (by omega) (by omega) (by omega)
  have hw4 := fun h n q => within_eq (h := h) (n := n) (lo := 0) (hi := 150) (q := q) (by omega) (by omega) (by omega)
  rw [w_4t]
  simp (maxSteps:=9^7)(disch:=first|assumption|((try simp only[nX]);omega)|simp) [-g8_4t]
  generalize hP : Hp.push (Hp.push h _) _ = P
  have gA : P.get h.next = some (.cells false [.int .i64 pg, .int .i64 mo, .slice al L.length cl, .slice ad D.length cd, .slice ai I.length ci, .bool tm]) := by rw [← hP, get_push_ne (by simp only [push_next]; omega), get_push_self]
  have gR : P.get (h.next + 1) = some (.cells false [.int .i64 0, .int .i64 0, .slice none 0 0, .slice none 0 0, .slice none 0 0]) := by rw [← hP]; exact get_push_self (h := h.push _)
  have KP : Kp h P := by rw [← hP]; exact ((Kp.refl h).push _).push _
  clear hP
  have lA := lt_of_get gA
  have lR := lt_of_get gR
  have K1 : Kp h (P.adv 1) := KP.adv 1
  have ki : WC T n_4d [.slice al L.length cl, .int .i64 3] (P.adv 1) fun v h' => (∃ bb, v = .slice (some ⟨bb, 0, none⟩) 3072 3072 ∧ (P.adv 1).next ≤ bb ∧ Bb h' bb 3072) ∧ Kp (P.adv 1) h' := k_image (pg := 3) (SL.kp K1) (by omega) (by omega)
  simp (maxSteps:=9^7)(disch:=first|assumption|((try simp only[nX]);omega)|simp) [gA, -g7_4t]
  refine GCI_intro ki fun v h2 ⟨⟨bb, hv, hbb, B, hB, gB⟩, K2⟩ => ?_
  subst hv
  have KP2 : Kp P h2 := ((Kp.refl P).adv 1).trans K2
  have gA2 := (KP2.get _ lA).trans gA
  have gR2 := (KP2.get _ lR).trans gR
  have n2 : P.next + 1 ≤ h2.next := K2.le
  simp (maxSteps:=9^7)(disch:=first|assumption|((try simp only[nX]);omega)|simp) [gA2, -g7_4t]
  generalize hQ : Hp.put h2 _ _ = Q
  have l2 : P.next < h2.next := by omega
  have gS : Q.get P.next = some (.cells false [.int .i64 pg, .int .i64 mo, .slice (some ⟨bb, 0, none⟩) 3072 3072, .slice ad D.length cd, .slice none 0 0]) := by rw [← hQ]; exact get_put_self l2
  have gA3 : Q.get h.next = some (.cells false [.int .i64 pg, .int .i64 mo, .slice al L.length cl, .slice ad D.length cd, .slice ai I.length ci, .bool tm]) := by rw [← hQ, get_put_ne (by omega)]; exact gA2
  have gR3 : Q.get (h.next + 1) = some (.cells false [.int .i64 0, .int .i64 0, .slice none 0 0, .slice none 0 0, .slice none 0 0]) := by rw [← hQ, get_put_ne (by omega)]; exact gR2
  have KQ : Kp h Q := by rw [← hQ]; exact (KP.trans KP2).put KP.le _
  have hbb' : P.next + 1 ≤ bb := hbb
  have SB : Sees encB Q (some ⟨bb, 0, none⟩) B := by rw [← hQ]; exact sees_b (ro := false) (by rw [get_put_ne (by omega)]; exact gB)
  have hle := KP.le
  clear hQ gA2 gR2 gA gR gB l2
  obtain ⟨lo, hlo⟩ : ∃ lo, lo = Q.next := ⟨_, rfl⟩
  have lS0 := lt_of_get gS
  have hbl := sees_lt SB
  have hdl := sees_lt (SD.kp KQ)
  rw [← hlo] at lS0 hbl hdl
  -- the items, whatever the rest is
  have lp : ∀ (e : Env) (H : Hp) (p m : Int) (aim adk : Option Addr) (cim cdk : Nat) (im dk : By), e 1 = ptr h.next 0 → e 2 = ptr (h.next + 1) 0 → e 3 = ptr P.next 0 → e 4 = .int .i64 0 → H.get P.next = some (.cells false [.int .i64 p, .int .i64 m, .slice aim im.length cim, .slice adk dk.length cdk, .slice none 0 0]) →
      H.get h.next = some (.cells false [.int .i64 pg, .int .i64 mo, .slice al L.length cl, .slice ad D.length cd, .slice ai I.length ci, .bool tm]) → H.get (h.next + 1) = some (.cells false [.int .i64 0, .int .i64 0, .slice none 0 0, .slice none 0 0, .slice none 0 0]) → Kp h H → lo ≤ H.next → Sees encB H aim im → im.length ≤ cim → im.length ≤ 3072 → Sees encB H adk dk → dk.length ≤ cdk → dk.length ≤ 150 → (∀ A, aim = some A → A.block < lo) → (∀ A, adk = some A → A.block < lo) →
      G T (fin [RV.ldn 5 2] (some []) h.next fun v h' => ∃ s, isMade h h' v s) (.loop c5_4t) [Fr.block 0, Fr.seq ((C.ops [⟨some 80, none, .ldn 5 (.t 3)⟩, ⟨none, none, .stn 5 (.t 2) (.t 80)⟩]).seq C.ret)] e H := by
    intro e H p m aim adk cim cdk im dk e1 e2 e3 e4 gS gA gR K hln Si qi hi Sd qd hd bi bd
    refine G_loop (fun j e H => ∃ (i : Nat) (acc : List Itm) (fp : List Nat) (ov : Value), j = 30 - i ∧ i ≤ 30 ∧ acc.length = i ∧ Own encIt H ov acc fp ∧ (∀ b ∈ fp, lo ≤ b) ∧ e 1 = ptr h.next 0 ∧ e 2 = ptr (h.next + 1) 0 ∧ e 3 = ptr P.next 0 ∧ e 4 = .int .i64 i ∧ H.get P.next = some (.cells false [.int .i64 p, .int .i64 m, .slice aim im.length cim, .slice adk dk.length cdk, ov]) ∧
      H.get h.next = some (.cells false [.int .i64 pg, .int .i64 mo, .slice al L.length cl, .slice ad D.length cd, .slice ai I.length ci, .bool tm]) ∧ H.get (h.next + 1) = some (.cells false [.int .i64 0, .int .i64 0, .slice none 0 0, .slice none 0 0, .slice none 0 0]) ∧ Kp h H ∧ lo ≤ H.next ∧ Sees encB H aim im ∧ Sees encB H adk dk) ?_ 30 _ _
      ⟨0, [], [], .slice none 0 0, rfl, by omega, rfl, .nul, by simp, e1, e2, e3, by rw [e4]; rfl, gS, gA, gR, K, hln, Si, Sd⟩
    clear e1 e2 e3 e4 gS gA gR K hln Si Sd
    rintro j ih e H ⟨i, acc, fp, ov, rfl, hi30, hai, O, hfp, e1, e2, e3, e4, gS, gA, gR, K, hln, Si, Sd⟩
    have lS := lt_of_get gS
    have lA := lt_of_get gA
    have lR := lt_of_get gR
    have r5 := rdn_all (n := 5) gS rfl
    have fin : ∃ s, isMade h (H.put (h.next + 1) (some (.cells false [.int .i64 p, .int .i64 m, .slice aim im.length cim, .slice adk dk.length cdk, ov]))) (.agg #[.int .i64 p, .int .i64 m, .slice aim im.length cim, .slice adk dk.length cdk, ov]) s :=
      ⟨⟨p, m, im, dk, acc⟩, aim, cim, adk, cdk, ov, fp, lo, rfl, ⟨sees_put5 Si gR no_u8 rfl, qi⟩, ⟨sees_put5 Sd gR no_u8 rfl, qd⟩, O.keep fun b hb => get_put_ne (by have := hfp b hb; omega), hfp, by omega, bi, bd, hi, hd, by show acc.length ≤ 30; omega, K.put (by omega) _⟩
    have hone0 : one ov = true := by obtain ⟨_, _, e9, _⟩ := O.len; rw [e9]; rfl
    by_cases c1 : i < I.length
    case neg =>
      have c1' : ¬ (i : Int) < I.length := by omega
      simp (maxSteps:=9^7)(disch:=first|assumption|((try simp only[nX]);omega)|simp) [e1, e2, e3, e4, gA, gR, gS, r5, c1', hone0]
      exact fin
    have c1' : (i : Int) < I.length := by omega
    by_cases c2 : i < 30
    case neg =>
      have c2' : ¬ (i : Int) < 30 := by omega
      simp (maxSteps:=9^7)(disch:=first|assumption|((try simp only[nX]);omega)|simp) [e1, e2, e3, e4, gA, gR, gS, r5, c1', c2', hone0]
      exact fin
    have c2' : (i : Int) < 30 := by omega
    obtain ⟨A, hA, hr⟩ := (SI.kp K).at' i c1
    obtain ⟨y, hy⟩ : ∃ y, y = I[i] := ⟨_, rfl⟩
    rw [← hy] at hr
    have hr' : H.rdn A.block (A.off + i * 2) 2 = some [.int .i64 y.k, .int .i64 y.n] := hr
    obtain ⟨ao, co, hov, So, qo, _⟩ := O.len
    have next : ∀ (y' : Itm) (v : Value) (H5 : Hp) (f5 : List Nat) (e' : Env), Own encIt H5 v (acc ++ [y']) f5 → Upd H H5 fp f5 → H5.get P.next = some (.cells false [.int .i64 p, .int .i64 m, .slice aim im.length cim, .slice adk dk.length cdk, ov]) → e' 1 = ptr h.next 0 → e' 2 = ptr (h.next + 1) 0 → e' 3 = ptr P.next 0 → e' 4 = .int .i64 ((i : Int) + 1) →
        ∃ (i_1 : Nat) (acc : List Itm) (fp : List Nat) (ov : Value), 30 - (i + 1) = 30 - i_1 ∧ i_1 ≤ 30 ∧ acc.length = i_1 ∧ Own encIt (H5.put P.next (some (.cells false [.int .i64 p, .int .i64 m, .slice aim im.length cim, .slice adk dk.length cdk, v]))) ov acc fp ∧ (∀ b ∈ fp, lo ≤ b) ∧ e' 1 = ptr h.next 0 ∧ e' 2 = ptr (h.next + 1) 0 ∧ e' 3 = ptr P.next 0 ∧ e' 4 = .int .i64 i_1 ∧ (H5.put P.next (some (.cells false [.int .i64 p, .int .i64 m, .slice aim im.length cim, .slice adk dk.length cdk, v]))).get P.next = some (.cells false [.int .i64 p, .int .i64 m, .slice aim im.length cim, .slice adk dk.length cdk, ov]) ∧
          (H5.put P.next (some (.cells false [.int .i64 p, .int .i64 m, .slice aim im.length cim, .slice adk dk.length cdk, v]))).get h.next = some (.cells false [.int .i64 pg, .int .i64 mo, .slice al L.length cl, .slice ad D.length cd, .slice ai I.length ci, .bool tm]) ∧ (H5.put P.next (some (.cells false [.int .i64 p, .int .i64 m, .slice aim im.length cim, .slice adk dk.length cdk, v]))).get (h.next + 1) = some (.cells false [.int .i64 0, .int .i64 0, .slice none 0 0, .slice none 0 0, .slice none 0 0]) ∧ Kp h (H5.put P.next (some (.cells false [.int .i64 p, .int .i64 m, .slice aim im.length cim, .slice adk dk.length cdk, v]))) ∧ lo ≤ (H5.put P.next (some (.cells false [.int .i64 p, .int .i64 m, .slice aim im.length cim, .slice adk dk.length cdk, v]))).next ∧ Sees encB (H5.put P.next (some (.cells false [.int .i64 p, .int .i64 m, .slice aim im.length cim, .slice adk dk.length cdk, v]))) aim im ∧ Sees encB (H5.put P.next (some (.cells false [.int .i64 p, .int .i64 m, .slice aim im.length cim, .slice adk dk.length cdk, v]))) adk dk :=
      fun y' v H5 f5 e' O5 U gS5 a1 a2 a3 a4 => by
        have f5' : ∀ b ∈ f5, lo ≤ b := fun b hb => by
          rcases U.sub b hb with h5 | h5
          · exact hfp b h5
          · omega
        have hle5 := U.le
        refine ⟨i + 1, acc ++ [y'], f5, v, rfl, by omega, by simp [hai], O5.keep fun b hb => get_put_ne (by have := f5' b hb; omega), f5', a1, a2, a3, by rw [a4]; simp, get_put_self (lt_of_get gS5), ?_, ?_, (U.kp' K fun b hb => by have := hfp b hb; omega).put (by omega) _, ?_, ?_, ?_⟩
        · rw [get_put_ne (by omega), U.get _ lA fun hm => by have := hfp _ hm; omega]; exact gA
        · rw [get_put_ne (by omega), U.get _ lR fun hm => by have := hfp _ hm; omega]; exact gR
        · show lo ≤ H5.next; omega
        · subst hov
          exact sees_put5 (Si.upd U fun A hA hm => by have := hfp _ hm; have := bi A hA; omega) gS5 no_u8 rfl
        · subst hov
          exact sees_put5 (Sd.upd U fun A hA hm => by have := hfp _ hm; have := bd A hA; omega) gS5 no_u8 rfl
    subst hA
    cases tm with
    | false =>
      simp (maxSteps:=9^7)(disch:=first|assumption|((try simp only[nX]);omega)|simp) [e1, e3, e4, gA, gS, c1', c2', hr']
      generalize hH : Hp.push H _ = H2
      have gI2 : H2.get H.next = some (.cells false [.int .i64 y.k, .int .i64 y.n]) := by rw [← hH, get_push_self]
      have KH2 : Kp H H2 := by rw [← hH]; exact (Kp.refl H).push _
      have nH2 : H2.next = H.next + 1 := by rw [← hH]; rfl
      clear hH
      subst hov
      have lH2 := lt_of_get gI2
      have r2 := rdn_all (n := 2) gI2 rfl
      have gS2 := (KH2.get _ lS).trans gS
      rw [← nH2]
      refine GV_app1 (E := encIt) (bytes := 16) (x := y) (O.kp KH2) (by omega) (by omega) fun v5 H5 f5 O5 U5 => ?_
      have U6 := (KH2.upd fp).trans U5
      have gS5 := (U6.get _ lS fun hm => by have := hfp _ hm; omega).trans gS
      have lS5 := lt_of_get gS5
      have hone : one v5 = true := by obtain ⟨_, _, e9, _⟩ := O5.len; rw [e9]; rfl
      simp (maxSteps:=9^7)(disch:=first|assumption|((try simp only[nX]);omega)|simp) [e3, gS5, hone, e4]
      refine ih (30 - (i + 1)) (by omega) _ _ (next y v5 H5 f5 _ O5 U6 gS5 ?_ ?_ ?_ ?_)
      · simp [e1]
      · simp [e2]
      · simp [e3]
      · simp
    | true =>
      obtain ⟨w1, w2⟩ := wi_bound (n := y.k) (lo := 0) (hi := 1048576) (by omega)
      obtain ⟨w3, w4⟩ := wi_bound (n := y.n) (lo := 0) (hi := 150) (by omega)
      have h3 := fun h q => hw3 h y.k q
      have h4 := fun h q => hw4 h y.n q
      generalize wi y.k 0 1048576 = r at *
      generalize wi y.n 0 150 = r' at *
      have ht : r.tmod 5 = r % 5 := Int.tmod_eq_emod_of_nonneg w1
      simp (maxSteps:=9^7)(disch:=first|assumption|((try simp only[nX]);omega)|simp) [e1, e3, e4, gA, gS, c1', c2', hr']
      generalize hH : Hp.push H _ = H1
      have gI1 : H1.get H.next = some (.cells false [.int .i64 y.k, .int .i64 y.n]) := by rw [← hH, get_push_self]
      have KH1 : Kp H H1 := by rw [← hH]; exact (Kp.refl H).push _
      clear hH
      have lI1 := lt_of_get gI1
      have gA1 := (KH1.get _ lA).trans gA
      simp (maxSteps:=9^7)(disch:=first|assumption|((try simp only[nX]);omega)|simp) [e1, gA1, gI1, GCI_of (h3 _), GCI_of (h4 _), ht]
      generalize hH : Hp.put H1 _ _ = H2
      have gI2 : H2.get H.next = some (.cells false [.int .i64 (1 + r % 5), .int .i64 r']) := by rw [← hH]; exact get_put_self lI1
      have KH2 : Kp H H2 := by rw [← hH]; exact KH1.put (Nat.le_refl _) _
      clear hH
      subst hov
      have lH2 := lt_of_get gI2
      have r2 := rdn_all (n := 2) gI2 rfl
      have gS2 := (KH2.get _ lS).trans gS
      simp (maxSteps:=9^7)(disch:=first|assumption|((try simp only[nX]);omega)|simp) [e3, gS2, r2]
      refine GV_app1 (E := encIt) (bytes := 16) (x := ⟨1 + r % 5, r'⟩) (O.kp KH2) (by omega) (by omega) fun v5 H5 f5 O5 U5 => ?_
      have U6 := (KH2.upd fp).trans U5
      have gS5 := (U6.get _ lS fun hm => by have := hfp _ hm; omega).trans gS
      have lS5 := lt_of_get gS5
      have hone : one v5 = true := by obtain ⟨_, _, e9, _⟩ := O5.len; rw [e9]; rfl
      simp (maxSteps:=9^7)(disch:=first|assumption|((try simp only[nX]);omega)|simp) [e3, gS5, hone, e4]
      refine ih (30 - (i + 1)) (by omega) _ _ (next ⟨1 + r % 5, r'⟩ v5 H5 f5 _ O5 U6 gS5 ?_ ?_ ?_ ?_)
      · simp [e1]
      · simp [e2]
      · simp [e3]
      · simp
  have mid : ∀ (e : Env) (H : Hp) (adk : Option Addr) (cdk : Nat) (dk : By), e 1 = ptr h.next 0 → e 2 = ptr (h.next + 1) 0 → e 3 = ptr P.next 0 → H.get P.next = some (.cells false [.int .i64 pg, .int .i64 mo, .slice (some ⟨bb, 0, none⟩) 3072 3072, .slice adk dk.length cdk, .slice none 0 0]) →
      H.get h.next = some (.cells false [.int .i64 pg, .int .i64 mo, .slice al L.length cl, .slice ad D.length cd, .slice ai I.length ci, .bool tm]) → H.get (h.next + 1) = some (.cells false [.int .i64 0, .int .i64 0, .slice none 0 0, .slice none 0 0, .slice none 0 0]) → Kp h H → lo ≤ H.next → Sees encB H (some ⟨bb, 0, none⟩) B → Sees encB H adk dk → dk.length ≤ cdk → dk.length ≤ 150 → (∀ A, adk = some A → A.block < lo) →
      G T (fin [RV.ldn 5 2] (some []) h.next fun v h' => ∃ s, isMade h h' v s) c6_4t [] e H := by
    intro e H adk cdk dk e1 e2 e3 gS gA gR K hln Si Sd qd hd bd
    have lS := lt_of_get gS
    have lA := lt_of_get gA
    have lR := lt_of_get gR
    have fin2 : ∀ (e' : Env) (p m : Int) (aim : Option Addr) (cim : Nat) (im : By), e' 1 = ptr h.next 0 → e' 2 = ptr (h.next + 1) 0 → e' 3 = ptr P.next 0 → e' 4 = .int .i64 0 → Sees encB H aim im → im.length ≤ cim → im.length ≤ 3072 → (∀ A, aim = some A → A.block < lo) →
        G T (fin [RV.ldn 5 2] (some []) h.next fun v h' => ∃ s, isMade h h' v s) (.loop c5_4t) [Fr.block 0, Fr.seq ((C.ops [⟨some 80, none, .ldn 5 (.t 3)⟩, ⟨none, none, .stn 5 (.t 2) (.t 80)⟩]).seq C.ret)] e' (H.put P.next (some (.cells false [.int .i64 p, .int .i64 m, .slice aim im.length cim, .slice adk dk.length cdk, .slice none 0 0]))) :=
      fun e' p m aim cim im a1 a2 a3 a4 Si' qi hi bi => lp e' _ p m aim adk cim cdk im dk a1 a2 a3 a4 (get_put_self lS) (by rw [get_put_ne (by omega)]; exact gA) (by rw [get_put_ne (by omega)]; exact gR) (K.put (by omega) _) hln (sees_put5 Si' gS no_u8 rfl) qi hi (sees_put5 Sd gS no_u8 rfl) qd hd bi bd
    have hB' : B.length ≤ 3072 := by omega
    have fin2' : ∀ (e' : Env) (p m : Int), e' 1 = ptr h.next 0 → e' 2 = ptr (h.next + 1) 0 → e' 3 = ptr P.next 0 → e' 4 = .int .i64 0 → G T (fin [RV.ldn 5 2] (some []) h.next fun v h' => ∃ s, isMade h h' v s) (.loop c5_4t) [Fr.block 0, Fr.seq ((C.ops [⟨some 80, none, .ldn 5 (.t 3)⟩, ⟨none, none, .stn 5 (.t 2) (.t 80)⟩]).seq C.ret)] e' (H.put P.next (some (.cells false [.int .i64 p, .int .i64 m, .slice (some ⟨bb, 0, none⟩) B.length B.length, .slice adk dk.length cdk, .slice none 0 0]))) := fun e' p m a1 a2 a3 a4 => fin2 e' p m _ B.length B a1 a2 a3 a4 Si (Nat.le_refl _) hB' hbl
    cases tm with
    | true =>
      simp (maxSteps:=9^7)(disch:=first|assumption|((try simp only[nX]);omega)|simp) [e1, e3, gA, gS, GCI_of (hw _ pg), GCI_of (hw2 _ mo)]
      rw [hB] at fin2'
      exact fin2' _ _ _ (by simp [e1]) (by simp [e2]) (by simp [e3]) (by simp)
    | false =>
      by_cases c3 : L.length ≤ 3
      · have c3' : ¬ (3 : Int) < L.length := by omega
        simp (maxSteps:=9^7)(disch:=first|assumption|((try simp only[nX]);omega)|simp) [e1, e3, gA, gS, c3']
        exact lp _ _ pg mo (some ⟨bb, 0, none⟩) adk 3072 cdk B dk (by simp [e1]) (by simp [e2]) (by simp [e3]) (by simp) (by rw [hB]; exact gS) gA gR K hln Si (by omega) hB' Sd qd hd hbl bd
      · have c3' : (3 : Int) < L.length := by omega
        have cut : ∀ (w : Nat) (z : Int), w ≤ 400 → z = ((w * 7 : Nat) : Int) → ∃ a9 c9 im9, sliceV 1 (.slice (some ⟨bb, 0, none⟩) 3072 3072) none (some (.int .i64 z)) none = some (.slice a9 im9.length c9) ∧ im9.length ≤ c9 ∧ Sees encB H a9 im9 ∧ (∀ A, a9 = some A → A.block < lo) ∧ im9.length ≤ 3072 := fun w z hw hz => by
          obtain ⟨a9, c9, s9, q9, S9⟩ := part_b Si (c := 3072) (by omega) (lo := 0) (hi := w * 7) (by omega) (by omega) (l := none) (u := some (.int .i64 ((w * 7 : Nat) : Int))) (.inl ⟨rfl, rfl⟩) (.inr ⟨_, rfl⟩)
          rw [hB, ← hz] at s9
          exact ⟨a9, c9, _, s9, q9, S9, fun A hA => by
            obtain ⟨A1, hA1, e9⟩ := sliceV_blk s9 A hA
            rw [e9]
            exact hbl A1 hA1, by simp; omega⟩
        by_cases c6 : 400 < L.length
        · have c6' : (400 : Int) < L.length := by omega
          obtain ⟨a9, c9, im9, s9, q9, S9, b9, l9⟩ := cut 400 2800 (by omega) (by omega)
          simp (maxSteps:=9^7)(disch:=first|assumption|((try simp only[nX]);omega)|simp) [e1, e3, gA, gS, c3', c6', s9]
          refine fin2 _ pg mo a9 c9 im9 ?_ ?_ ?_ ?_ S9 q9 l9 b9
          · simp [e1]
          · simp [e2]
          · simp [e3]
          · simp
        · have c6' : ¬ (400 : Int) < L.length := by omega
          obtain ⟨a9, c9, im9, s9, q9, S9, b9, l9⟩ := cut L.length ((L.length : Int) * 7) (by omega) (by omega)
          simp (maxSteps:=9^7)(disch:=first|assumption|((try simp only[nX]);omega)|simp) [e1, e3, gA, gS, c3', c6', s9]
          refine fin2 _ pg mo a9 c9 im9 ?_ ?_ ?_ ?_ S9 q9 l9 b9
          · simp [e1]
          · simp [e2]
          · simp [e3]
          · simp
  by_cases c4 : D.length ≤ 150
  · have c4' : ¬ (150 : Int) < D.length := by omega
    simp (maxSteps:=9^7)(disch:=first|assumption|((try simp only[nX]);omega)|simp) [gS, c4', -g6_4t]
    exact mid _ Q ad cd D (by simp) (by simp) (by simp) gS gA3 gR3 KQ (by omega) SB (SD.kp KQ) qD c4 hdl
  · have c4' : (150 : Int) < D.length := by omega
    obtain ⟨a9, c9, s9, q9, S9⟩ := part_b (SD.kp KQ) (c := cd) qD (lo := 0) (hi := 150) (by omega) (by omega) (l := none) (u := some (.int .i64 150)) (.inl ⟨rfl, rfl⟩) (.inr ⟨_, rfl⟩)
    have b9 : ∀ A, a9 = some A → A.block < lo := fun A hA => by
      obtain ⟨A1, hA1, e9⟩ := sliceV_blk s9 A hA
      rw [e9]
      exact hdl A1 hA1
    have l9 : ((D.drop 0).take (150 - 0)).length ≤ 150 := by simp; omega
    generalize (D.drop 0).take (150 - 0) = dk9 at *
    have lQ := lt_of_get gS
    simp (maxSteps:=9^7)(disch:=first|assumption|((try simp only[nX]);omega)|simp) [gS, c4', s9, -g6_4t]
    exact mid _ _ a9 c9 dk9 (by simp) (by simp) (by simp) (get_put_self lQ) (by rw [get_put_ne (by omega)]; exact gA3) (by rw [get_put_ne (by omega)]; exact gR3) (KQ.put (by omega) _) (by show lo ≤ Q.next; omega) (sees_put5 SB gS no_u8 rfl) (sees_put5 S9 gS no_u8 rfl) q9 l9 b9
end
end Go.Proofs.YtoiiphcbkejliaaGreat.Cd

/- Are two rows the same? -/
set_option maxRecDepth 1000000
set_option linter.unusedSimpArgs false
set_option linter.unusedVariables false
namespace Go.Proofs.YtoiiphcbkejliaaGreat.Cd
open Go Go.Dx
instance (x y : Itm) : Decidable (x = y) :=
  if h : x.k = y.k ∧ x.n = y.n then .isTrue (by cases x; cases y; simp_all) else .isFalse (fun e => h (by subst e; simp))
theorem eq_it (x y : Itm) : eqV (.agg [(0, 1, false, (.int .i64)), (1, 1, false, (.int .i64))]) (.agg (encIt.enc x).toArray) (.agg (encIt.enc y).toArray) = some (decide (x = y)) := by
  obtain ⟨a, b⟩ := x
  obtain ⟨a', b'⟩ := y
  simp only [eqV, eqAt, encIt, eqParts]
  by_cases h1 : a = a'
  · by_cases h2 : b = b'
    · simp [h1, h2]
    · simp [h1, h2]
  · simp [h1]
theorem same_it {h : Hp} {q : Value → Hp → Prop} {a a' : Option Addr} {c c' : Nat} {xs ys : List Itm} (hx : Sees encIt h a xs) (hy : Sees encIt h a' ys) (hb : xs.length < 2 ^ 40) (hq : q (.bool (decide (xs = ys))) h) : WC T n_48 [.slice a xs.length c, .slice a' ys.length c'] h q := by
  rw [w_48]
  by_cases hl : xs.length = ys.length
  case neg =>
    have hne : xs ≠ ys := fun e => hl (by rw [e])
    have hl' : ¬ ((xs.length : Int) = ys.length) := by omega
    simp (maxSteps:=9^7)(disch:=first|assumption|((try simp only[nX]);omega)|simp) [hl']
    simpa [hne] using hq
  simp (maxSteps:=9^7)(disch:=first|assumption|((try simp only[nX]);omega)|simp) [hl]
  refine G_loop (fun n e h' => ∃ us vs ws, n = vs.length ∧ h' = h ∧ xs = us ++ vs ∧ ys = us ++ ws ∧ e 0 = .slice a xs.length c ∧ e 1 = .slice a' ys.length c' ∧ e 5 = .int .i64 us.length) ?_ xs.length _ _ ⟨[], xs, ys, rfl, rfl, rfl, rfl, by simp [hl], by simp, by simp⟩
  rintro n ih e h' ⟨us, vs, ws, rfl, rfl, h1, h2, e0, e1, e5⟩
  cases vs with
  | nil =>
    have hw : ws = [] := by
      have h3 := hl
      rw [h1, h2] at h3
      simpa using h3
    subst hw
    have hxs : xs = us := by simpa using h1
    have hxy : xs = ys := by rw [h1, h2]
    have hll : us.length = xs.length := by rw [hxs]
    simp (maxSteps:=9^7)(disch:=first|assumption|((try simp only[nX]);omega)|simp) [e0, e5, hll]
    simpa [hxy] using hq
  | cons x vs =>
    cases ws with
    | nil =>
      have h3 := hl
      rw [h1, h2] at h3
      simp at h3
    | cons y ws =>
      have hlt : (us.length : Int) < xs.length := by rw [h1]; simp; omega
      have hlt' : (us.length : Int) < ys.length := by omega
      obtain ⟨A, hA, hr⟩ := Sees.mid (A := us) (x := x) (B := vs) (by rw [← h1]; exact hx)
      obtain ⟨A', hA', hr'⟩ := Sees.mid (A := us) (x := y) (B := ws) (by rw [← h2]; exact hy)
      have g1 : h'.rdn A.block (A.off + us.length * 2) 2 = some (encIt.enc x) := hr
      have g2 : h'.rdn A'.block (A'.off + us.length * 2) 2 = some (encIt.enc y) := hr'
      have he := eq_it x y
      by_cases hxy : x = y
      · simp [hxy] at he
        simp (maxSteps:=9^7)(disch:=first|assumption|((try simp only[nX]);omega)|simp) [e0, e1, e5, hlt, hlt', hA, hA', g1, g2, he, hxy]
        apply ih vs.length (by simp)
        refine ⟨us ++ [x], vs, ws, rfl, rfl, by simp [h1], by simp [h2, hxy], by simp [e0, hA], by simp [e1, hA'], by simp⟩
      · simp [hxy] at he
        have hne : xs ≠ ys := fun e => by rw [h1, h2] at e; simp [hxy] at e
        simp (maxSteps:=9^7)(disch:=first|assumption|((try simp only[nX]);omega)|simp) [e0, e1, e5, hlt, hlt', hA, hA', g1, g2, he]
        simpa [hne] using hq
end Go.Proofs.YtoiiphcbkejliaaGreat.Cd

/- Scripts that are the same; bytes that are read as the document says. -/
set_option maxRecDepth 1000000
set_option maxHeartbeats 8000000
set_option linter.unusedSimpArgs false
set_option linter.unusedVariables false
namespace Go.Proofs.YtoiiphcbkejliaaGreat.Cd
open Go Go.Dx
section
variable {h : Hp} {v w : Value} {x : Scr} {a : Option Addr} {b : By} {c : Nat}
theorem p_same (A : isSc h v x) (B : isSc h w x) : WC T n_4x [v, w] h fun u h' => u = .bool true ∧ Kp h h' := by
  obtain ⟨ai, ci, ad, cd, at', ct, rfl, F⟩ := A
  obtain ⟨bi, di, bd, dd, bt, dt, rfl, G⟩ := B
  rw [w_4x]
  simp (maxSteps:=9^7)(disch:=first|assumption|((try simp only[nX]);omega)|simp) [-g0_4x]
  generalize hP : Hp.push (Hp.push h _) _ = P
  have gA : P.get h.next = some (.cells false [.int .i64 x.p, .int .i64 x.m, .slice ai x.im.length ci, .slice ad x.dk.length cd, .slice at' x.it.length ct]) := by rw [← hP, get_push_ne (by simp only [push_next]; omega), get_push_self]
  have gB : P.get (h.next + 1) = some (.cells false [.int .i64 x.p, .int .i64 x.m, .slice bi x.im.length di, .slice bd x.dk.length dd, .slice bt x.it.length dt]) := by rw [← hP]; exact get_push_self (h := h.push _)
  have KP : Kp h P := by rw [← hP]; exact ((Kp.refl h).push _).push _
  clear hP
  have F' := F.kp KP
  have G' := G.kp KP
  have s1 := b2sV_sees (c := ci) F'.i
  have s2 := b2sV_sees (c := di) G'.i
  have s3 := b2sV_sees (c := cd) F'.d
  have s4 := b2sV_sees (c := dd) G'.d
  have hl := F.tl
  simp (maxSteps:=9^7)(disch:=first|assumption|((try simp only[nX]);omega)|simp) [gA, gB, s1, s2, s3, s4]
  refine GC_intro (same_it F'.t G'.t (by omega) (q := fun v h' => v = .bool true ∧ h' = P) (by simp)) fun v h1 ⟨hv, hh⟩ => ?_
  subst hv hh
  simp (maxSteps:=9^7)(disch:=first|assumption|((try simp only[nX]);omega)|simp) [KP]
end
end Go.Proofs.YtoiiphcbkejliaaGreat.Cd

/- ShellCuts. -/
set_option maxRecDepth 1000000
set_option maxHeartbeats 8000000
set_option linter.unusedSimpArgs false
set_option linter.unusedVariables false
namespace Go.Proofs.YtoiiphcbkejliaaGreat.Cd
open Go Go.Dx
section
variable {h : Hp} {pg mo : Int} {tm : Bool} {L : List In7} {D : By} {I : List Itm} {al ad ai : Option Addr} {cl cd ci : Nat}
theorem sees_ne {α : Type} {E : Enc α} {h : Hp} {a : Option Addr} {xs : List α} {b : Nat} {o : Option Ob} (S : Sees E h a xs) (hb : ∀ A, a = some A → A.block ≠ b) : Sees E (h.put b o) a xs := ⟨S.nil, fun A hA => by
  rw [← S.get A hA]
  simp only [Hp.rdn, Hp.cells, get_put_ne (hb A hA)], S.sp⟩
end
end Go.Proofs.YtoiiphcbkejliaaGreat.Cd

/- Are two rows the same? -/
set_option maxRecDepth 1000000
set_option linter.unusedSimpArgs false
set_option linter.unusedVariables false
namespace Go.Proofs.YtoiiphcbkejliaaGreat.Cd
open Go Go.Dx
end Go.Proofs.YtoiiphcbkejliaaGreat.Cd

/- Bytes with room behind them: made, and looked at again. -/
set_option maxRecDepth 1000000
set_option maxHeartbeats 8000000
set_option linter.unusedSimpArgs false
set_option linter.unusedVariables false
namespace Go.Proofs.YtoiiphcbkejliaaGreat.Cd
open Go Go.Dx
section
variable {h : Hp} {a a1 : Option Addr} {c cf : Nat} {L : By} {x : BitVec 8}
end
end Go.Proofs.YtoiiphcbkejliaaGreat.Cd

/- ShellReads. -/
set_option maxRecDepth 1000000
set_option maxHeartbeats 8000000
set_option linter.unusedSimpArgs false
set_option linter.unusedVariables false
namespace Go.Proofs.YtoiiphcbkejliaaGreat.Cd
open Go Go.Dx
section
variable {h : Hp} {pg mo : Int} {tm : Bool} {L : List In7} {D : By} {I : List Itm} {al ad ai : Option Addr} {cl cd ci : Nat}
end
end Go.Proofs.YtoiiphcbkejliaaGreat.Cd

/- ShellBack. -/
set_option maxRecDepth 1000000
set_option maxHeartbeats 8000000
set_option linter.unusedSimpArgs false
set_option linter.unusedVariables false
namespace Go.Proofs.YtoiiphcbkejliaaGreat.Cd
open Go Go.Dx
theorem it_all (x : Itm) (l : List Itm) : encIt.all (x :: l) = .int .i64 x.k :: .int .i64 x.n :: encIt.all l := rfl
theorem it_set : ∀ (l : List Itm) (i : Nat) (hi : i < l.length) (r : List Value), (encIt.all l ++ r).set (i * 2 + 1) (.int .i64 0) = encIt.all (l.set i ⟨(l[i]'hi).k, 0⟩) ++ r
  | x :: l, 0, _, r => rfl
  | x :: l, i + 1, hi, r => by
    have ih := it_set l i (by simpa using hi) r
    rw [show (i + 1) * 2 + 1 = (i * 2 + 1) + 1 + 1 by omega, it_all]
    simp only [List.cons_append, List.set_cons_succ, List.getElem_cons_succ, it_all]
    rw [ih]
section
variable {h : Hp} {pg mo : Int} {tm : Bool} {L : List In7} {D : By} {I : List Itm} {al ad ai : Option Addr} {cl cd ci : Nat}
/-- An item's number is taken away. -/
theorem own_seti {H : Hp} {v : Value} {l : List Itm} {fp : List Nat} (O : Own encIt H v l fp) {i : Nat} (hi : i < l.length) : ∃ b c C, v = .slice (some ⟨b, 0, some 2⟩) l.length c ∧ fp = [b] ∧ H.get b = some (.cells false C) ∧ C[i * 2]? = some (.int .i64 (l[i]'hi).k) ∧ i * 2 + 1 < C.length ∧ Own encIt (H.put b (some (.cells false (C.set (i * 2 + 1) (.int .i64 0))))) v (l.set i ⟨(l[i]'hi).k, 0⟩) [b] := by
  have O' := O
  cases O with
  | nul => simp at hi
  | emp hg => simp at hi
  | blk hg hn hc h0 hr =>
    rename_i b n c r
    subst hn
    obtain ⟨a, c', hv, S, _, _⟩ := O'.len
    cases hv
    obtain ⟨A, hA, hrd⟩ := S.at' i hi
    cases hA
    obtain ⟨ro, C, hg', hC⟩ := rdn_cells hrd
    have hC0 := hC 0 (by decide)
    rw [hg] at hg'
    cases hg'
    have hlen : (encIt.all l).length = l.length * 2 := encIt.all_length l
    refine ⟨b, c, _, rfl, rfl, hg, by simpa [encIt] using hC0, by simp [hlen]; omega, ?_⟩
    exact .blk (E := encIt) (r := r) (by rw [get_put_self (lt_of_get hg), it_set l i hi r]) (by simp) hc h0 hr
theorem sback (SL : Sees encI7 h al L) (hL : L.length < 2 ^ 63) (SD : Sees encB h ad D) (hD : D.length < 2 ^ 63) (qD : D.length ≤ cd) (SI : Sees encIt h ai I) (hI : I.length < 2 ^ 63) {at0 : Int} :
    WC T n_4k [.agg #[.int .i64 pg, .int .i64 mo, .slice al L.length cl, .slice ad D.length cd, .slice ai I.length ci, .bool tm], .int .i64 at0] h fun v h' => v = .bool true := by
  rw [w_4k]
  simp (maxSteps:=9^7)(disch:=first|assumption|((try simp only[nX]);omega)|simp) [-g9_4k]
  generalize hP : Hp.push h _ = P
  have gA : P.get h.next = some (.cells false [.int .i64 pg, .int .i64 mo, .slice al L.length cl, .slice ad D.length cd, .slice ai I.length ci, .bool tm]) := by rw [← hP]; exact get_push_self
  have KP : Kp h P := by rw [← hP]; exact (Kp.refl h).push _
  clear hP
  have r6 := rdn_all (n := 6) gA rfl
  simp (maxSteps:=9^7)(disch:=first|assumption|((try simp only[nX]);omega)|simp) [r6, -g8_4k]
  refine GC_intro (p_made (SL.kp KP) hL (SD.kp KP) hD qD (SI.kp KP) hI) fun v h1 ⟨s, M1⟩ => ?_
  have K1 := KP.trans M1.kp
  have M2 := M1
  obtain ⟨aim, cim, adk, cdk, ov, fp, lo, rfl, ⟨Si, qi⟩, ⟨Sd, qd⟩, O, hfp, hlo, bi, bd, l1, l2, l3, K1'⟩ := M2
  obtain ⟨ao, co, rfl, So, qo, _⟩ := O.len
  simp (maxSteps:=9^7)(disch:=first|assumption|((try simp only[nX]);omega)|simp) [-g8_4k]
  generalize hQ : Hp.push h1 _ = Q
  have gQ : Q.get h1.next = some (.cells false [.int .i64 s.p, .int .i64 s.m, .slice aim s.im.length cim, .slice adk s.dk.length cdk, .slice ao s.it.length co]) := by rw [← hQ]; exact get_push_self
  have KQ : Kp h1 Q := by rw [← hQ]; exact (Kp.refl h1).push _
  clear hQ
  have lQ := lt_of_get gQ
  have r5 := rdn_all (n := 5) gQ rfl
  have sc : ∀ {H' : Hp}, Kp Q H' → isSc H' (.agg #[.int .i64 s.p, .int .i64 s.m, .slice aim s.im.length cim, .slice adk s.dk.length cdk, .slice ao s.it.length co]) s := fun K => ⟨aim, cim, adk, cdk, ao, co, rfl, Si.kp (KQ.trans K), Sd.kp (KQ.trans K), So.kp (KQ.trans K), qi, qd, qo, by omega, by omega, by omega⟩
  refine GC_intro (p_right (sc (.refl _))) fun v h3 ⟨hv, K3⟩ => ?_
  subst hv
  have g3 := (K3.get _ lQ).trans gQ
  have r53 := rdn_all (n := 5) g3 rfl
  by_cases hr : rgt s = 0
  case neg =>
    simp (maxSteps:=9^7)(disch:=first|assumption|((try simp only[nX]);omega)|simp) [hr, GC_of (fun q => p_known (q := q))]
  simp (maxSteps:=9^7)(disch:=first|assumption|((try simp only[nX]);omega)|simp) [hr, r53, -g7_4k]
  refine GC_intro (s_enc (sc K3)) fun v h4 ⟨K4, he⟩ => ?_
  rcases he with ⟨_, o, fo, rfl, Oe, hfo⟩ | ⟨hn, _⟩
  case inr => exact absurd hr hn
  obtain ⟨ae, ce, rfl, Se, qe, me⟩ := Oe.len
  have K04 := (KQ.trans K3).trans K4
  have g4 := (K4.get _ (lt_of_get g3)).trans g3
  have O4 := O.kp K04
  have lv := O.live
  have lfo := Oe.live
  have q1 := prs_wr hr
  simp (maxSteps:=9^7)(disch:=first|assumption|((try simp only[nX]);omega)|simp) [-g7_4k]
  have hstep : ∀ (i : Nat) (hi : i < s.it.length), ((s.it.take i).map nI ++ s.it.drop i).set i (nI (s.it[i]'hi)) = (s.it.take (i + 1)).map nI ++ s.it.drop (i + 1) := fun i hi => by
    rw [List.set_append_right _ _ (by simp; omega)]
    have e0 : i - ((s.it.take i).map nI).length = 0 := by simp; omega
    rw [e0, List.drop_eq_getElem_cons hi, List.set_cons_zero, List.take_succ_eq_append_getElem hi, List.map_append, List.append_assoc]
    rfl
  have hat : ∀ (i : Nat) (hi : i < s.it.length) (hh : i < ((s.it.take i).map nI ++ s.it.drop i).length), ((s.it.take i).map nI ++ s.it.drop i)[i]'hh = s.it[i] := fun i hi hh => by
    rw [List.getElem_append_right (by simp; omega)]
    simp [Nat.min_eq_left (Nat.le_of_lt hi)]
  have lv1 : ∀ b ∈ fp, b < h1.next := fun b hb => O.live b hb
  have l1Q := KQ.le
  have l3Q := K3.le
  refine G_loop (fun j e H => ∃ (i : Nat), j = s.it.length - i ∧ i ≤ s.it.length ∧ Own encIt H (.slice ao s.it.length co) ((s.it.take i).map nI ++ s.it.drop i) fp ∧ H.get h1.next = some (.cells false [.int .i64 s.p, .int .i64 s.m, .slice aim s.im.length cim, .slice adk s.dk.length cdk, .slice ao s.it.length co]) ∧ Own encB H (.slice ae (wri s).length ce) (wri s) fo ∧ Kp h H ∧ Sees encB H aim s.im ∧ Sees encB H adk s.dk ∧ e 1 = .int .i64 at0 ∧ e 5 = ptr h1.next 0 ∧ e 6 = .slice ae (wri s).length ce ∧ e 7 = .int .i64 0 ∧ e 8 = .int .i64 i) ?_ s.it.length _ _
    ⟨0, rfl, by omega, by simpa using O4, g4, Oe, K1.trans K04, Si.kp K04, Sd.kp K04, by simp, by simp, by simp, by simp, by simp⟩
  rintro j ih e H ⟨i, rfl, hi, O, gH, Ow, K, Si, Sd, e1, e5, e6, e7, e8⟩
  have lH := lt_of_get gH
  have hlen : ((s.it.take i).map nI ++ s.it.drop i).length = s.it.length := by simp; omega
  by_cases c : i < s.it.length
  case neg =>
    have hie : i = s.it.length := by omega
    subst hie
    have cn : ¬ ((s.it.length : Int) < s.it.length) := by omega
    rw [List.drop_length, List.append_nil, List.take_length] at O
    obtain ⟨_, _, hv1, So1, _, _⟩ := O.len
    obtain ⟨aw, cw, hvw, Sw, qw, _⟩ := Ow.len
    simp only [Value.slice.injEq, true_and] at hvw
    obtain ⟨rfl, rfl⟩ := hvw
    obtain ⟨_, l4, l5, p1, p2, _⟩ := rgt_ok hr
    have wl := wri_len s
    have wll : (wri s).length < 2 ^ 36 := by
      have := wr_len s.it
      rw [show wri s = [b8 s.p, b8 s.m] ++ by2 s.im.length ++ s.im ++ by2 s.dk.length ++ s.dk ++ s.it.flatMap wrI from rfl, List.length_append]
      simp [by2]
      try simp at this
      omega
    simp (maxSteps:=9^7)(disch:=first|assumption|((try simp only[nX]);omega)|simp) [e5, e8, gH, e6, -g6_4k]
    refine GC_intro (s_dec Sw qw (by omega)) fun v h5 ⟨hv, K5⟩ => ?_
    rw [q1] at hv
    obtain ⟨v5, rfl, A5, R5⟩ := hv
    obtain ⟨ei, fi, ed, fd, et, ft, rfl, G5⟩ := A5
    simp (maxSteps:=9^7)(disch:=first|assumption|((try simp only[nX]);omega)|simp) [e5, -g6_4k]
    generalize hH : Hp.push h5 _ = H5
    have gt : H5.get h5.next = some (.cells false [.int .i64 (nrm s).p, .int .i64 (nrm s).m, .slice ei (nrm s).im.length fi, .slice ed (nrm s).dk.length fd, .slice et (nrm s).it.length ft]) := by rw [← hH]; exact get_push_self
    have KH5 : Kp h5 H5 := by rw [← hH]; exact (Kp.refl h5).push _
    clear hH
    have KH := K5.trans KH5
    have lt5 := lt_of_get gt
    have gs := (KH.get _ lH).trans gH
    have ra := rdn_all (n := 5) gt rfl
    have rb := rdn_all (n := 5) gs rfl
    have hil : (s.it.map nI).length = s.it.length := by simp
    have sA : isSc H5 (.agg #[.int .i64 (nrm s).p, .int .i64 (nrm s).m, .slice ei (nrm s).im.length fi, .slice ed (nrm s).dk.length fd, .slice et (nrm s).it.length ft]) (nrm s) := ⟨ei, fi, ed, fd, et, ft, rfl, G5.kp KH5⟩
    have O5 := O.kp KH
    obtain ⟨_, _, hv5, S5, q5, me5⟩ := O5.len
    rw [hil] at hv5
    simp only [Value.slice.injEq, true_and] at hv5
    obtain ⟨rfl, rfl⟩ := hv5
    have sB : isSc H5 (.agg #[.int .i64 s.p, .int .i64 s.m, .slice aim s.im.length cim, .slice adk s.dk.length cdk, .slice ao s.it.length co]) (nrm s) := ⟨aim, cim, adk, cdk, ao, co, by rw [show (nrm s).it.length = s.it.length from hil]; rfl, Si.kp KH, Sd.kp KH, S5, qi, qd, by rw [show (nrm s).it.length = s.it.length from hil]; omega, by have : (nrm s).im.length = s.im.length := rfl; omega, by have : (nrm s).dk.length = s.dk.length := rfl; omega, by rw [show (nrm s).it.length = s.it.length from hil]; omega⟩
    simp (maxSteps:=9^7)(disch:=first|assumption|((try simp only[nX]);omega)|simp) [e5, e7, gs, -g5_4k]
    simp (maxSteps:=9^7)(disch:=first|assumption|((try simp only[nX]);omega)|simp) [e5, e6, e7, ra, rb, -g4_4k]
    refine GC_intro (p_same sA sB) fun v h6 ⟨hv, K6⟩ => ?_
    subst hv
    obtain ⟨hd, hhd⟩ : ∃ hd : Nat, hd = 6 + s.im.length + s.dk.length := ⟨_, rfl⟩
    have c1 : ¬ ((wri s).length : Int) < (hd : Nat) := by omega
    have hhd' : (6 : Int) + s.im.length + s.dk.length = (hd : Nat) := by omega
    simp (maxSteps:=9^7)(disch:=first|assumption|((try simp only[nX]);omega)|simp) [e5, e6, e7, ra, rb, c1, hhd', -g4_4k]
    have S6w := Sw.kp (KH.trans K6)
    have hw := fun h q => within_eq (h := h) (n := at0) (lo := hd) (hi := (wri s).length) (q := q) (by omega) (by omega) (by omega)
    obtain ⟨w1, w2⟩ := wi_bound (n := at0) (lo := hd) (hi := (wri s).length) (by omega)
    obtain ⟨z, hz⟩ : ∃ z : Nat, wi at0 hd (wri s).length = z := ⟨_, (Int.toNat_of_nonneg (by omega)).symm⟩
    simp only [hz] at hw w1 w2
    obtain ⟨a7, c7, s7, q7, S7⟩ := part_b S6w qw (lo := 0) (hi := z) (by omega) (by omega) (l := none) (u := some (.int .i64 (z : Nat))) (.inl ⟨rfl, rfl⟩) (.inr ⟨_, rfl⟩)
    rw [List.drop_zero, Nat.sub_zero] at s7 q7 S7
    obtain ⟨n, hn, q2⟩ := prs_cut hr (k := z) (by omega)
    have ll7 : ((wri s).take z).length < 2 ^ 40 := by simp; omega
    obtain ⟨B7, hB7⟩ : ∃ B7, B7 = (wri s).take z := ⟨_, rfl⟩
    rw [← hB7] at s7 q7 S7 q2 ll7
    simp (maxSteps:=9^7)(disch:=first|assumption|((try simp only[nX]);omega)|simp) [e1, e6, GC_of (hw _), s7, -g3_4k]
    refine GC_intro (s_dec S7 q7 ll7) fun v h7 ⟨hv, K7⟩ => ?_
    rw [q2] at hv
    obtain ⟨v7, rfl, A7, R7⟩ := hv
    obtain ⟨mi, ni', md, nd, mt, nt, rfl, G7⟩ := A7
    obtain ⟨X, hX⟩ : ∃ X : Scr, X = { nrm s with it := (s.it.map nI).take n } := ⟨_, rfl⟩
    have X1 : X.p = s.p := by rw [hX]; rfl
    have X2 : X.m = s.m := by rw [hX]; rfl
    have X3 : X.im = s.im := by rw [hX]; rfl
    have X4 : X.dk = s.dk := by rw [hX]; rfl
    have X5 : X.it.length = n := by rw [hX]; simp; omega
    have X6 : X.it = (s.it.map nI).take n := by rw [hX]
    rw [← hX] at G7 R7
    simp only [X1, X2, X3, X4, X5, ← hX] at R7 ⊢
    simp (maxSteps:=9^7)(disch:=first|assumption|((try simp only[nX]);omega)|simp) [-g3_4k]
    generalize hH : Hp.push h7 _ = H7
    have gm : H7.get h7.next = some (.cells false [.int .i64 s.p, .int .i64 s.m, .slice mi s.im.length ni', .slice md s.dk.length nd, .slice mt n nt]) := by rw [← hH]; exact get_push_self
    have KH7 : Kp h7 H7 := by rw [← hH]; exact (Kp.refl h7).push _
    clear hH
    have KK := ((K6.trans K7).trans KH7)
    have gs7 := (KK.get _ (lt_of_get gs)).trans gs
    have l7 := lt_of_get gs7
    have t1 : ¬ ((s.it.length : Int) < n) := by omega
    obtain ⟨b2, d2, sb2, qb2, Sb2⟩ := (S5.kp KK).part (c := co) (lo := 0) (hi := n) (by omega) (by simp; omega) (by simp; omega) (l := none) (u := some (.int .i64 n)) (.inl ⟨rfl, rfl⟩) (.inr ⟨_, rfl⟩)
    rw [List.drop_zero, Nat.sub_zero, ← X6] at Sb2
    rw [Nat.sub_zero, hil] at sb2
    have sb2' : sliceV 2 (.slice ao s.it.length co) none (some (.int .i64 n)) none = some (.slice b2 n d2) := sb2
    have nb2 : ∀ A, b2 = some A → A.block ≠ h1.next := fun A hA => by
      obtain ⟨A1, hA1, e9⟩ := sliceV_blk sb2 A hA
      have := lv1 _ (me5 A1 hA1)
      omega
    have nm2 : ∀ A, mt = some A → A.block ≠ h1.next := fun A hA => by
      have := R7 A hA
      have := lt_of_get gs
      have := K6.le
      omega
    simp (maxSteps:=9^7)(disch:=first|assumption|((try simp only[nX]);omega)|simp) [e5, gm, gs7, t1, sb2', -g2_4k]
    generalize hH : Hp.put H7 _ _ = HA
    have lne : h7.next ≠ h1.next := by
      have := KK.le
      have := lt_of_get gs
      have := K7.le
      have := K6.le
      omega
    have gA1 : HA.get h1.next = some (.cells false [.int .i64 s.p, .int .i64 s.m, .slice aim s.im.length cim, .slice adk s.dk.length cdk, .slice b2 n d2]) := by rw [← hH]; exact get_put_self l7
    have gA2 : HA.get h7.next = some (.cells false [.int .i64 s.p, .int .i64 s.m, .slice mi s.im.length ni', .slice md s.dk.length nd, .slice mt n nt]) := by rw [← hH, get_put_ne lne]; exact gm
    have KK2 := KH.trans KK
    have i8 : Sees encB HA aim s.im := by rw [← hH]; exact sees_put5 (Si.kp KK2) gs7 no_u8 rfl
    have d8 : Sees encB HA adk s.dk := by rw [← hH]; exact sees_put5 (Sd.kp KK2) gs7 no_u8 rfl
    have i9 : Sees encB HA mi s.im := by
      have := G7.i
      rw [X3] at this
      rw [← hH]; exact sees_put5 (this.kp KH7) gs7 no_u8 rfl
    have d9 : Sees encB HA md s.dk := by
      have := G7.d
      rw [X4] at this
      rw [← hH]; exact sees_put5 (this.kp KH7) gs7 no_u8 rfl
    have s8 : Sees encIt HA b2 X.it := by rw [← hH]; exact sees_ne Sb2 nb2
    have s9 : Sees encIt HA mt X.it := by rw [← hH]; exact sees_ne (G7.t.kp KH7) nm2
    have ic9 := G7.ic
    have dc9 := G7.dc
    have tc9 := G7.tc
    rw [X3] at ic9
    rw [X4] at dc9
    rw [X5] at tc9
    have hA1 : isSc HA (.agg #[.int .i64 s.p, .int .i64 s.m, .slice aim s.im.length cim, .slice adk s.dk.length cdk, .slice b2 n d2]) X := ⟨aim, cim, adk, cdk, b2, d2, by rw [X1, X2, X3, X4, X5], by rw [X3]; exact i8, by rw [X4]; exact d8, s8, by rw [X3]; exact qi, by rw [X4]; exact qd, by rw [X5]; omega, by rw [X3]; omega, by rw [X4]; omega, by rw [X5]; omega⟩
    have hA2 : isSc HA (.agg #[.int .i64 s.p, .int .i64 s.m, .slice mi s.im.length ni', .slice md s.dk.length nd, .slice mt n nt]) X := ⟨mi, ni', md, nd, mt, nt, by rw [X1, X2, X3, X4, X5], by rw [X3]; exact i9, by rw [X4]; exact d9, s9, by rw [X3]; exact ic9, by rw [X4]; exact dc9, by rw [X5]; exact tc9, by rw [X3]; omega, by rw [X4]; omega, by rw [X5]; omega⟩
    have r1 := rdn_all (n := 5) gA1 rfl
    have r2 := rdn_all (n := 5) gA2 rfl
    simp (maxSteps:=9^7)(disch:=first|assumption|((try simp only[nX]);omega)|simp) [e5, r1, r2]
    refine GC_intro (p_same hA2 hA1) fun v hB ⟨hv, KB⟩ => ?_
    subst hv
    simp (maxSteps:=9^7)(disch:=first|assumption|((try simp only[nX]);omega)|simp) [GCI_of (fun q => p_known (q := q)), GC_of (fun q => p_known (q := q))]
  have c' : (i : Int) < s.it.length := by omega
  have hi' : i < ((s.it.take i).map nI ++ s.it.drop i).length := by omega
  obtain ⟨b, c2, C, hv, hfe, hg, hC0, hlC, O'⟩ := own_seti O hi'
  rw [hlen] at hv
  cases hv
  rw [hat i c hi'] at hC0 O'
  have hs := hstep i c
  obtain ⟨y, hy⟩ : ∃ y, y = s.it[i] := ⟨_, rfl⟩
  rw [← hy] at hC0 O' hs
  have hask := fun h q => p_asks (h := h) (q := q) (k := y.k)
  have hC0' : ∀ hh : i * 2 < C.length, C[i * 2]'hh = .int .i64 y.k := fun hh => by
    have := hC0
    rw [List.getElem?_eq_getElem hh] at this
    exact Option.some.inj this
  have hi2 : i < s.it.length := c
  obtain ⟨m, hm⟩ : ∃ m, m = s.it.length := ⟨_, rfl⟩
  cases ha : askk y.k with
  | true =>
    have hn : nI y = y := by simp [nI, ha]
    have hid : ((s.it.take i).map nI ++ s.it.drop i).set i y = (s.it.take i).map nI ++ s.it.drop i := by
      have := @List.set_getElem_self _ ((s.it.take i).map nI ++ s.it.drop i) i hi'
      rw [hat i c hi', ← hy] at this
      exact this
    rw [hn, hid] at hs
    rw [hs] at O
    rw [ha] at hask
    simp (maxSteps:=9^7)(disch:=first|assumption|((try simp only[nX]);omega)|simp) [e5, e8, gH, c', hg, hC0, hC0', GC_of (hask _)]
    exact ih _ (by omega) _ _ ⟨i + 1, rfl, by omega, O, gH, Ow, K, Si, Sd, by simp [e1], by simp [e5], by simp [e6], by simp [e7], by simp⟩
  | false =>
    have hn : nI y = ⟨y.k, 0⟩ := by simp [nI, ha]
    rw [hn] at hs
    rw [hs] at O'
    rw [ha] at hask
    have hw : H.wr b (i * 2 + 1) [.int .i64 0] = some (H.put b (some (.cells false (C.set (i * 2 + 1) (.int .i64 0))))) := by
      rw [wr_ok hg (by simp; omega) rfl, over_set (by omega)]
    simp (maxSteps:=9^7)(disch:=first|assumption|((try simp only[nX]);omega)|simp) [e5, e8, gH, c', hg, hC0, hC0', GC_of (hask _), hw, -Hp.wr, -over]
    generalize hH : Hp.put H b _ = H2 at O' ⊢
    have lb : b < h1.next := lv1 b (by rw [hfe]; simp)
    have gH2 : H2.get h1.next = some (.cells false [.int .i64 s.p, .int .i64 s.m, .slice aim s.im.length cim, .slice adk s.dk.length cdk, .slice (some ⟨b, 0, some 2⟩) s.it.length co]) := by rw [← hH, get_put_ne (by omega)]; exact gH
    have Ow2 : Own encB H2 (.slice ae (wri s).length ce) (wri s) fo := Ow.keep fun d hd => by rw [← hH, get_put_ne (by have := hfo d hd; omega)]
    have K2 : Kp h H2 := by rw [← hH]; exact K.put (by have := hfp b (by rw [hfe]; simp); have := KP.le; omega) _
    have Si2 : Sees encB H2 aim s.im := by
      rw [← hH]
      exact sees_ne Si fun A hA => by have := bi A hA; have := hfp b (by rw [hfe]; simp); omega
    have Sd2 : Sees encB H2 adk s.dk := by
      rw [← hH]
      exact sees_ne Sd fun A hA => by have := bd A hA; have := hfp b (by rw [hfe]; simp); omega
    rw [← hfe] at O'
    exact ih _ (by omega) _ _ ⟨i + 1, rfl, by omega, O', gH2, Ow2, K2, Si2, Sd2, by simp [e1], by simp [e5], by simp [e6], by simp [e7], by simp⟩
end
end Go.Proofs.YtoiiphcbkejliaaGreat.Cd
