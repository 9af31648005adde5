/- Texts of one kind, one behind the other. -/
import Derived.Test.YtoiiphcbkejliaaGreatReShellReads1
import Derived.Test.YtoiiphcbkejliaaGreatRcz0
/- The document's words as they are drawn: rows of Kinds. -/
set_option maxRecDepth 1000000
set_option maxHeartbeats 8000000
set_option linter.unusedSimpArgs false
set_option linter.unusedVariables false
namespace Go.Proofs.YtoiiphcbkejliaaGreat.Cd
open Go Go.Dx
/-- A table of numbers. -/
def isZs (V : List Value) (n : Nat) : Prop := V.length = n ∧ ∀ j, j < n → ∃ c : Int, V[j]? = some (.int .i64 c)
theorem isZs_map (l : List Int) : isZs (l.map (Value.int .i64)) l.length := ⟨by simp, fun j hj => ⟨l[j], by simp [hj]⟩⟩
theorem tmod_ix {n : Int} {m : Nat} (h0 : 0 ≤ n) (hm : 0 < m) : ∃ j : Nat, n.tmod m = j ∧ j < m := ⟨(n % m).toNat, by
  rw [Int.tmod_eq_emod_of_nonneg h0, Int.toNat_of_nonneg (Int.emod_nonneg _ (by omega))], by
  have h1 := Int.emod_nonneg n (show (m : Int) ≠ 0 by omega)
  have h2 := Int.emod_lt_of_pos n (show (0 : Int) < m by omega)
  omega⟩
section
variable {h : Hp} {q : Value → Hp → Prop} {i : Ins}
theorem k_any {x : In7} : WC T n_4b [.agg (encI7.enc x).toArray] h fun v h' => isI v ∧ Kp h h' := by
  have hw := fun h q => within_eq (h := h) (q := q) (n := x.k) (lo := 0) (hi := 1048576) (by omega) (by omega) (by omega)
  obtain ⟨w1, w2⟩ := wi_bound (n := x.k) (lo := 0) (hi := 1048576) (by omega)
  rw [w_4b]
  have hi := fun h kind => k_inst (h := h) (x := x) (kind := kind)
  simp only [encI7] at hi
  simp (maxSteps:=9^7)(disch:=first|assumption|((try simp only[nX]);omega)|simp) [encI7, GCI_of (hw _)]
  refine GCI_intro (hi _ _) fun v h1 ⟨⟨j, hv⟩, K1⟩ => ?_
  subst hv
  have g1 := (K1.get (h.next + 1) (by simp)).trans get_push_self
  have l1 := lt_of_get g1
  have K0 : Kp h h1 := Kp.trans (((Kp.refl h).push _).push _) K1
  simp (maxSteps:=9^7)(disch:=first|assumption|((try simp only[nX]);omega)|simp) [encIns, g1]
theorem k_plain {x : In7} : WC T n_4f [.agg (encI7.enc x).toArray] h fun v h' => isI v ∧ Kp h h' := by
  have hw := fun h q => within_eq (h := h) (q := q) (n := x.k) (lo := 0) (hi := 1048576) (by omega) (by omega) (by omega)
  obtain ⟨w1, w2⟩ := wi_bound (n := x.k) (lo := 0) (hi := 1048576) (by omega)
  rw [w_4f]
  have hi := fun h kind => k_inst (h := h) (x := x) (kind := kind)
  simp only [encI7] at hi
  generalize wi x.k 0 1048576 = n at *
  obtain ⟨V, hV, hl, hz⟩ : ∃ V : List Value, V = [.int .i64 1, .int .i64 2, .int .i64 3, .int .i64 4, .int .i64 5, .int .i64 6, .int .i64 9, .int .i64 10, .int .i64 13, .int .i64 14, .int .i64 15, .int .i64 16, .int .i64 17, .int .i64 18, .int .i64 19, .int .i64 20, .int .i64 21, .int .i64 23, .int .i64 25, .int .i64 26, .int .i64 27, .int .i64 28, .int .i64 29, .int .i64 30, .int .i64 31, .int .i64 47, .int .i64 48, .int .i64 49, .int .i64 50, .int .i64 51, .int .i64 52, .int .i64 53, .int .i64 63, .int .i64 64, .int .i64 65, .int .i64 76, .int .i64 77] ∧ isZs V 37 := ⟨_, rfl, isZs_map [1, 2, 3, 4, 5, 6, 9, 10, 13, 14, 15, 16, 17, 18, 19, 20, 21, 23, 25, 26, 27, 28, 29, 30, 31, 47, 48, 49, 50, 51, 52, 53, 63, 64, 65, 76, 77]⟩
  obtain ⟨j, hj, hj2⟩ := tmod_ix (n := n) (m := 37) w1 (by omega)
  have hj : n.tmod 37 = (j : Int) := hj
  obtain ⟨c, hc⟩ := hz j hj2
  have hc2 : ∀ hh : j < V.length, V[j]'hh = .int .i64 c := fun hh => by rw [List.getElem?_eq_getElem hh] at hc; exact Option.some.inj hc
  simp (maxSteps:=9^7)(disch:=first|assumption|((try simp only[nX]);omega)|simp) [encI7, -g0_4f]
  rw [← hV]
  clear hV hz
  simp (maxSteps:=9^7)(disch:=first|assumption|((try simp only[nX]);omega)|simp) [GCI_of (hw _), hj, hj2, hc, hc2, hl]
  refine GCI_intro (hi _ _) fun v h1 ⟨⟨i, hv⟩, K1⟩ => ?_
  subst hv
  have g1 := (K1.get (h.next + 1) (by simp)).trans ((get_push_ne (by rw [push_next, push_next]; omega)).trans get_push_self)
  have l1 := lt_of_get g1
  have K0 : Kp h h1 := Kp.trans ((((Kp.refl h).push _).push _).push _) K1
  simp (maxSteps:=9^7)(disch:=first|assumption|((try simp only[nX]);omega)|simp) [encIns, g1]
theorem and_k {n : Int} {m : Nat} (hm : m < 64) : ∃ j : Nat, j ≤ m ∧ binV .and (.int .i64 n) (.int .i64 (m : Int)) = some (.int .i64 j) := by
  have h : (BitVec.ofInt 64 n &&& BitVec.ofInt 64 m).toNat ≤ m := by
    rw [BitVec.toNat_and, BitVec.ofInt_natCast, BitVec.toNat_ofNat]
    refine Nat.le_trans Nat.and_le_right ?_
    exact Nat.mod_le _ _
  refine ⟨_, h, ?_⟩
  rw [and_i64, wrap_i64 (by omega) (by omega)]
theorem k_code {x : In7} : WC T n_4c [.agg (encI7.enc x).toArray] h fun v h' => isW v ∧ Kp h h' := by
  have hw := fun h q => within_eq (h := h) (q := q) (n := x.k) (lo := 0) (hi := 1048576) (by omega) (by omega) (by omega)
  obtain ⟨w1, w2⟩ := wi_bound (n := x.k) (lo := 0) (hi := 1048576) (by omega)
  have hi := fun h kind => k_inst (h := h) (x := x) (kind := kind)
  have ha := fun h => k_any (h := h) (x := x)
  have hp := fun h => k_plain (h := h) (x := x)
  simp only [encI7] at hi ha hp
  generalize wi x.k 0 1048576 = n at *
  rw [w_4c]
  simp (maxSteps:=9^7)(disch:=first|assumption|((try simp only[nX]);omega)|simp) [encI7, GC_of (hw _)]
  generalize hP : Hp.push h _ = P
  have gP : P.get h.next = some (.cells false (encI7.enc x)) := by rw [← hP]; exact get_push_self
  have KP : Kp h P := by rw [← hP]; exact (Kp.refl h).push _
  clear hP
  refine GC_intro (hp _) fun v h1 ⟨⟨i, hv⟩, K1⟩ => ?_
  subst hv
  have g1 := (K1.get _ (lt_of_get gP)).trans gP
  have K0 := KP.trans K1
  have l1 := lt_of_get g1
  clear K1 KP gP
  have fini : ∀ (e : Env) (h2 : Hp) (i : Ins) (p : Nat), h2.get p = some (.cells false (encIns.enc i)) → Kp h h2 → e 4 = ptr p 0 → G T (fin [RV.t 2] (some []) h.next fun v h' => isW v ∧ Kp h h') c14_4c [] e h2 := fun e h2 i p g K e4 => by
    have r := rdn_all (n := 6) g rfl
    have hr := fun h => r_word (h := h) (i := i)
    simp only [encIns] at r hr
    simp (maxSteps:=9^7)(disch:=first|assumption|((try simp only[nX]);omega)|simp) [e4, r]
    refine GC_intro (hr _) fun v h3 ⟨⟨w, t, hv⟩, K3⟩ => ?_
    subst hv
    simp (maxSteps:=9^7)(disch:=first|assumption|((try simp only[nX]);omega)|simp)
    exact K.trans K3
  simp (maxSteps:=9^7)(disch:=first|assumption|((try simp only[nX]);omega)|simp) [encIns, -g13_4c]
  have r1 := rdn_all (n := 7) g1 rfl
  have wq : IntKind.i64.wrap (n.tdiv 16) = n.tdiv 16 := by
    rw [Int.tdiv_eq_ediv_of_nonneg (by omega)]
    exact wrap_i64 (by omega) (by omega)
  have q0 : 0 ≤ n.tdiv 16 := by rw [Int.tdiv_eq_ediv_of_nonneg (by omega)]; omega
  obtain ⟨p, hp0'⟩ : ∃ p, p = h1.next := ⟨_, rfl⟩
  generalize hH : Hp.push h1 _ = H
  have gp : H.get p = some (.cells false (encIns.enc i)) := by rw [← hH, hp0']; exact get_push_self
  have gB : H.get h.next = some (.cells false [.int .i64 x.k, .int .i64 x.s, .int .i64 x.t, .int .i64 x.d, .int .i64 x.sh, u32 x.imm, u32 x.raw]) := by rw [← hH]; exact (get_push_ne (by omega)).trans g1
  have K : Kp h H := by rw [← hH]; exact K0.push _
  have hp0 : h.next ≤ p := by omega
  rw [← hp0']
  have hpB : p ≠ h.next := by omega
  clear hH r1 g1 l1
  obtain ⟨a, _, ax⟩ := and_k (n := x.s) (m := 3) (by omega)
  have ax : binV .and (.int .i64 x.s) (.int .i64 3) = some (.int .i64 (a : Int)) := ax
  obtain ⟨b, hb7, bx⟩ := and_k (n := x.d) (m := 7) (by omega)
  have bx : binV .and (.int .i64 x.d) (.int .i64 7) = some (.int .i64 (b : Int)) := bx
  have t2 : ∀ (e : Env), e 1 = ptr h.next 0 → e 3 = .int .i64 n → e 4 = ptr p 0 → G T (fin [RV.t 2] (some []) h.next fun v h' => isW v ∧ Kp h h') c2_4c [Fr.block 0, Fr.seq c14_4c] e H := fun e e1 e3 e4 => by
    obtain ⟨V, hV, hl, hz⟩ : ∃ V : List Value, V = [.int .i64 66, .int .i64 67, .int .i64 68, .int .i64 69, .int .i64 70, .int .i64 71, .int .i64 72, .int .i64 73, .int .i64 74, .int .i64 75, .int .i64 73, .int .i64 68] ∧ isZs V 12 := ⟨_, rfl, isZs_map [66, 67, 68, 69, 70, 71, 72, 73, 74, 75, 73, 68]⟩
    obtain ⟨j, hj, hj2⟩ := tmod_ix (n := n.tdiv 16) (m := 12) q0 (by omega)
    have hj : (n.tdiv 16).tmod 12 = (j : Int) := hj
    obtain ⟨c, hc⟩ := hz j hj2
    have hc2 : ∀ hh : j < V.length, V[j]'hh = .int .i64 c := fun hh => by rw [List.getElem?_eq_getElem hh] at hc; exact Option.some.inj hc
    simp (maxSteps:=9^7)(disch:=first|assumption|((try simp only[nX]);omega)|simp) [e1, e3, e4, -g1_4c]
    rw [← hV]
    clear hV hz
    generalize hP : Hp.push H _ = P
    have gP : P.get H.next = some (.cells false V) := by rw [← hP]; exact get_push_self
    have KP : Kp H P := by rw [← hP]; exact (Kp.refl H).push _
    clear hP
    have rB' := rdn_all (n := 7) ((KP.get _ (lt_of_get gB)).trans gB) rfl
    simp (maxSteps:=9^7)(disch:=first|assumption|((try simp only[nX]);omega)|simp) [e1, e3, e4, wq, hj, hj2, hc, hc2, hl, gP, rB']
    refine GC_intro (hi _ _) fun v h2 ⟨⟨i2, hv⟩, K2⟩ => ?_
    subst hv
    have K3 := KP.trans K2
    have gB2 := (K3.get _ (lt_of_get gB)).trans gB
    have gp2 := (K3.get _ (lt_of_get gp)).trans gp
    have lp2 := lt_of_get gp2
    have K4 := K.trans K3
    simp (maxSteps:=9^7)(disch:=first|assumption|((try simp only[nX]);omega)|simp) [encIns, e1, e4, gp2, lp2, gB2, ax, -g14_4c]
    exact fini _ _ ⟨i2.k, 28 + (a : Int), i2.t, i2.d, i2.sh, i2.imm &&& 2044#32⟩ p (by rw [get_put_self lp2]; rfl) (K4.put hp0 _) (by simp [e4])
  have t5 : ∀ (e : Env), e 1 = ptr h.next 0 → e 3 = .int .i64 n → e 4 = ptr p 0 → G T (fin [RV.t 2] (some []) h.next fun v h' => isW v ∧ Kp h h') c5_4c [Fr.block 0, Fr.seq c14_4c] e H := fun e e1 e3 e4 => by
    obtain ⟨V, hV, hl, hz⟩ : ∃ V : List Value, V = [.int .i64 42, .int .i64 43, .int .i64 44, .int .i64 45, .int .i64 36, .int .i64 37, .int .i64 39, .int .i64 42] ∧ isZs V 8 := ⟨_, rfl, isZs_map [42, 43, 44, 45, 36, 37, 39, 42]⟩
    obtain ⟨j, hj, hj2⟩ := tmod_ix (n := n.tdiv 16) (m := 8) q0 (by omega)
    have hj : (n.tdiv 16).tmod 8 = (j : Int) := hj
    obtain ⟨c, hc⟩ := hz j hj2
    have hc2 : ∀ hh : j < V.length, V[j]'hh = .int .i64 c := fun hh => by rw [List.getElem?_eq_getElem hh] at hc; exact Option.some.inj hc
    simp (maxSteps:=9^7)(disch:=first|assumption|((try simp only[nX]);omega)|simp) [e1, e3, e4, -g4_4c]
    rw [← hV]
    clear hV hz
    generalize hP : Hp.push H _ = P
    have gP : P.get H.next = some (.cells false V) := by rw [← hP]; exact get_push_self
    have KP : Kp H P := by rw [← hP]; exact (Kp.refl H).push _
    clear hP
    have rB' := rdn_all (n := 7) ((KP.get _ (lt_of_get gB)).trans gB) rfl
    simp (maxSteps:=9^7)(disch:=first|assumption|((try simp only[nX]);omega)|simp) [e1, e3, e4, wq, hj, hj2, hc, hc2, hl, gP, rB']
    refine GC_intro (hi _ _) fun v h2 ⟨⟨i2, hv⟩, K2⟩ => ?_
    subst hv
    have K3 := KP.trans K2
    have gB2 := (K3.get _ (lt_of_get gB)).trans gB
    have gp2 := (K3.get _ (lt_of_get gp)).trans gp
    have lp2 := lt_of_get gp2
    have K4 := K.trans K3
    have sx : ∀ y : Int, binV .sub (.int .i32 y) (.int .i32 6) = some (.int .i32 (IntKind.i32.wrap (y - 6))) := fun y => rfl
    simp (maxSteps:=9^7)(disch:=first|assumption|((try simp only[nX]);omega)|simp) [encIns, e1, e4, gp2, lp2, gB2, sx, -g14_4c]
    exact fini _ _ ⟨i2.k, i2.s, i2.t, i2.d, i2.sh, BitVec.ofInt 32 (IntKind.i32.wrap ((x.imm % 16#32).toInt - 6)) &&& 65535#32⟩ p (get_put_self lp2) (K4.put hp0 _) (by simp [e4])
  have t9 : ∀ (e : Env), e 1 = ptr h.next 0 → e 3 = .int .i64 n → e 4 = ptr p 0 → G T (fin [RV.t 2] (some []) h.next fun v h' => isW v ∧ Kp h h') c9_4c [Fr.block 0, Fr.seq c14_4c] e H := fun e e1 e3 e4 => by
    obtain ⟨V, hV, hl, hz⟩ : ∃ V : List Value, V = [.int .i64 55, .int .i64 54, .int .i64 55, .int .i64 57, .int .i64 59, .int .i64 56, .int .i64 58, .int .i64 60, .int .i64 11, .int .i64 61] ∧ isZs V 10 := ⟨_, rfl, isZs_map [55, 54, 55, 57, 59, 56, 58, 60, 11, 61]⟩
    obtain ⟨j, hj, hj2⟩ := tmod_ix (n := n.tdiv 16) (m := 10) q0 (by omega)
    have hj : (n.tdiv 16).tmod 10 = (j : Int) := hj
    obtain ⟨c, hc⟩ := hz j hj2
    have hc2 : ∀ hh : j < V.length, V[j]'hh = .int .i64 c := fun hh => by rw [List.getElem?_eq_getElem hh] at hc; exact Option.some.inj hc
    simp (maxSteps:=9^7)(disch:=first|assumption|((try simp only[nX]);omega)|simp) [e1, e3, e4, -g8_4c]
    rw [← hV]
    clear hV hz
    generalize hP : Hp.push H _ = P
    have gP : P.get H.next = some (.cells false V) := by rw [← hP]; exact get_push_self
    have KP : Kp H P := by rw [← hP]; exact (Kp.refl H).push _
    clear hP
    have rB' := rdn_all (n := 7) ((KP.get _ (lt_of_get gB)).trans gB) rfl
    simp (maxSteps:=9^7)(disch:=first|assumption|((try simp only[nX]);omega)|simp) [e1, e3, e4, wq, hj, hj2, hc, hc2, hl, gP, rB']
    refine GC_intro (hi _ _) fun v h2 ⟨⟨i2, hv⟩, K2⟩ => ?_
    subst hv
    have K3 := KP.trans K2
    have gB2 := (K3.get _ (lt_of_get gB)).trans gB
    have gp2 := (K3.get _ (lt_of_get gp)).trans gp
    have lp2 := lt_of_get gp2
    have K4 := K.trans K3
    by_cases k5 : i2.k = 55
    · have bx := bx
      obtain rfl | rfl | rfl | rfl | rfl | rfl | rfl | rfl : b = 0 ∨ b = 1 ∨ b = 2 ∨ b = 3 ∨ b = 4 ∨ b = 5 ∨ b = 6 ∨ b = 7 := by omega
      · simp (maxSteps:=9^7)(disch:=first|assumption|((try simp only[nX]);omega)|simp) [encIns, e1, e4, gp2, lp2, gB2, k5, bx, -g14_4c]
        exact fini _ _ ⟨55, i2.s, i2.t, 12, i2.sh, i2.imm⟩ p ((get_push_ne (by rw [put_next]; omega)).trans (get_put_self lp2)) ((K4.put hp0 _).push _) (by simp [e4])
      · simp (maxSteps:=9^7)(disch:=first|assumption|((try simp only[nX]);omega)|simp) [encIns, e1, e4, gp2, lp2, gB2, k5, bx, -g14_4c]
        exact fini _ _ ⟨55, i2.s, i2.t, 13, i2.sh, i2.imm⟩ p ((get_push_ne (by rw [put_next]; omega)).trans (get_put_self lp2)) ((K4.put hp0 _).push _) (by simp [e4])
      · simp (maxSteps:=9^7)(disch:=first|assumption|((try simp only[nX]);omega)|simp) [encIns, e1, e4, gp2, lp2, gB2, k5, bx, -g14_4c]
        exact fini _ _ ⟨55, i2.s, i2.t, 11, i2.sh, i2.imm⟩ p ((get_push_ne (by rw [put_next]; omega)).trans (get_put_self lp2)) ((K4.put hp0 _).push _) (by simp [e4])
      · simp (maxSteps:=9^7)(disch:=first|assumption|((try simp only[nX]);omega)|simp) [encIns, e1, e4, gp2, lp2, gB2, k5, bx, -g14_4c]
        exact fini _ _ ⟨55, i2.s, i2.t, 9, i2.sh, i2.imm⟩ p ((get_push_ne (by rw [put_next]; omega)).trans (get_put_self lp2)) ((K4.put hp0 _).push _) (by simp [e4])
      · simp (maxSteps:=9^7)(disch:=first|assumption|((try simp only[nX]);omega)|simp) [encIns, e1, e4, gp2, lp2, gB2, k5, bx, -g14_4c]
        exact fini _ _ ⟨55, i2.s, i2.t, 10, i2.sh, i2.imm⟩ p ((get_push_ne (by rw [put_next]; omega)).trans (get_put_self lp2)) ((K4.put hp0 _).push _) (by simp [e4])
      · simp (maxSteps:=9^7)(disch:=first|assumption|((try simp only[nX]);omega)|simp) [encIns, e1, e4, gp2, lp2, gB2, k5, bx, -g14_4c]
        exact fini _ _ ⟨55, i2.s, i2.t, 2, i2.sh, i2.imm⟩ p ((get_push_ne (by rw [put_next]; omega)).trans (get_put_self lp2)) ((K4.put hp0 _).push _) (by simp [e4])
      · simp (maxSteps:=9^7)(disch:=first|assumption|((try simp only[nX]);omega)|simp) [encIns, e1, e4, gp2, lp2, gB2, k5, bx, -g14_4c]
        exact fini _ _ ⟨55, i2.s, i2.t, 0, i2.sh, i2.imm⟩ p ((get_push_ne (by rw [put_next]; omega)).trans (get_put_self lp2)) ((K4.put hp0 _).push _) (by simp [e4])
      · simp (maxSteps:=9^7)(disch:=first|assumption|((try simp only[nX]);omega)|simp) [encIns, e1, e4, gp2, lp2, gB2, k5, bx, -g14_4c]
        exact fini _ _ ⟨55, i2.s, i2.t, 14, i2.sh, i2.imm⟩ p ((get_push_ne (by rw [put_next]; omega)).trans (get_put_self lp2)) ((K4.put hp0 _).push _) (by simp [e4])
    · by_cases k4 : i2.k = 54
      · have bx := bx
        obtain rfl | rfl | rfl | rfl | rfl | rfl | rfl | rfl : b = 0 ∨ b = 1 ∨ b = 2 ∨ b = 3 ∨ b = 4 ∨ b = 5 ∨ b = 6 ∨ b = 7 := by omega
        · simp (maxSteps:=9^7)(disch:=first|assumption|((try simp only[nX]);omega)|simp) [encIns, e1, e4, gp2, lp2, gB2, k4, k5, bx, -g14_4c]
          exact fini _ _ ⟨54, i2.s, i2.t, 12, i2.sh, i2.imm⟩ p ((get_push_ne (by rw [put_next]; omega)).trans (get_put_self lp2)) ((K4.put hp0 _).push _) (by simp [e4])
        · simp (maxSteps:=9^7)(disch:=first|assumption|((try simp only[nX]);omega)|simp) [encIns, e1, e4, gp2, lp2, gB2, k4, k5, bx, -g14_4c]
          exact fini _ _ ⟨54, i2.s, i2.t, 13, i2.sh, i2.imm⟩ p ((get_push_ne (by rw [put_next]; omega)).trans (get_put_self lp2)) ((K4.put hp0 _).push _) (by simp [e4])
        · simp (maxSteps:=9^7)(disch:=first|assumption|((try simp only[nX]);omega)|simp) [encIns, e1, e4, gp2, lp2, gB2, k4, k5, bx, -g14_4c]
          exact fini _ _ ⟨54, i2.s, i2.t, 11, i2.sh, i2.imm⟩ p ((get_push_ne (by rw [put_next]; omega)).trans (get_put_self lp2)) ((K4.put hp0 _).push _) (by simp [e4])
        · simp (maxSteps:=9^7)(disch:=first|assumption|((try simp only[nX]);omega)|simp) [encIns, e1, e4, gp2, lp2, gB2, k4, k5, bx, -g14_4c]
          exact fini _ _ ⟨54, i2.s, i2.t, 9, i2.sh, i2.imm⟩ p ((get_push_ne (by rw [put_next]; omega)).trans (get_put_self lp2)) ((K4.put hp0 _).push _) (by simp [e4])
        · simp (maxSteps:=9^7)(disch:=first|assumption|((try simp only[nX]);omega)|simp) [encIns, e1, e4, gp2, lp2, gB2, k4, k5, bx, -g14_4c]
          exact fini _ _ ⟨54, i2.s, i2.t, 10, i2.sh, i2.imm⟩ p ((get_push_ne (by rw [put_next]; omega)).trans (get_put_self lp2)) ((K4.put hp0 _).push _) (by simp [e4])
        · simp (maxSteps:=9^7)(disch:=first|assumption|((try simp only[nX]);omega)|simp) [encIns, e1, e4, gp2, lp2, gB2, k4, k5, bx, -g14_4c]
          exact fini _ _ ⟨54, i2.s, i2.t, 2, i2.sh, i2.imm⟩ p ((get_push_ne (by rw [put_next]; omega)).trans (get_put_self lp2)) ((K4.put hp0 _).push _) (by simp [e4])
        · simp (maxSteps:=9^7)(disch:=first|assumption|((try simp only[nX]);omega)|simp) [encIns, e1, e4, gp2, lp2, gB2, k4, k5, bx, -g14_4c]
          exact fini _ _ ⟨54, i2.s, i2.t, 0, i2.sh, i2.imm⟩ p ((get_push_ne (by rw [put_next]; omega)).trans (get_put_self lp2)) ((K4.put hp0 _).push _) (by simp [e4])
        · simp (maxSteps:=9^7)(disch:=first|assumption|((try simp only[nX]);omega)|simp) [encIns, e1, e4, gp2, lp2, gB2, k4, k5, bx, -g14_4c]
          exact fini _ _ ⟨54, i2.s, i2.t, 14, i2.sh, i2.imm⟩ p ((get_push_ne (by rw [put_next]; omega)).trans (get_put_self lp2)) ((K4.put hp0 _).push _) (by simp [e4])
      · simp (maxSteps:=9^7)(disch:=first|assumption|((try simp only[nX]);omega)|simp) [encIns, e1, e4, gp2, lp2, gB2, k4, k5, -g14_4c]
        exact fini _ _ ⟨i2.k, i2.s, i2.t, i2.d, i2.sh, i2.imm⟩ p (get_put_self lp2) (K4.put hp0 _) (by simp [e4])
  obtain ⟨j, hj, hj2⟩ := tmod_ix (n := n) (m := 16) w1 (by omega)
  have hj : n.tmod 16 = (j : Int) := hj
  rw [hj]
  by_cases j1 : j = 0 ∨ j = 1
  · rcases j1 with rfl | rfl <;> simp (maxSteps:=9^7)(disch:=first|assumption|((try simp only[nX]);omega)|simp) [gB, K]
  by_cases j2 : j = 2 ∨ j = 3
  · have rB' := rdn_all (n := 7) gB rfl
    rcases j2 with rfl | rfl
    all_goals
      simp (maxSteps:=9^7)(disch:=first|assumption|((try simp only[nX]);omega)|simp) [rB', -g14_4c]
      refine GC_intro (ha _) fun v h2 ⟨⟨i2, hv⟩, K2⟩ => ?_
      subst hv
      have gp2 := (K2.get _ (lt_of_get gp)).trans gp
      have lp2 := lt_of_get gp2
      simp (maxSteps:=9^7)(disch:=first|assumption|((try simp only[nX]);omega)|simp) [encIns, gp2, lp2, -g14_4c]
      exact fini _ _ i2 p (get_put_self lp2) ((K.trans K2).put hp0 _) (by simp)
  by_cases j4 : j = 4 ∨ j = 5 ∨ j = 6
  · rcases j4 with rfl | rfl | rfl
    all_goals
      simp (maxSteps:=9^7)(disch:=first|assumption|((try simp only[nX]);omega)|simp) [-g14_4c, -g2_4c]
      exact t2 _ (by simp) (by simp) (by simp)
  by_cases j7 : j = 7 ∨ j = 8
  · rcases j7 with rfl | rfl
    all_goals
      simp (maxSteps:=9^7)(disch:=first|assumption|((try simp only[nX]);omega)|simp) [-g14_4c, -g5_4c]
      exact t5 _ (by simp) (by simp) (by simp)
  by_cases j9 : j = 9
  · subst j9
    simp (maxSteps:=9^7)(disch:=first|assumption|((try simp only[nX]);omega)|simp) [-g14_4c, -g9_4c]
    exact t9 _ (by simp) (by simp) (by simp)
  have n0 : ¬ (j : Int) = 0 := by omega
  have n1 : ¬ (j : Int) = 1 := by omega
  have n2 : ¬ (j : Int) = 2 := by omega
  have n3 : ¬ (j : Int) = 3 := by omega
  have n4 : ¬ (j : Int) = 4 := by omega
  have n5 : ¬ (j : Int) = 5 := by omega
  have n6 : ¬ (j : Int) = 6 := by omega
  have n7 : ¬ (j : Int) = 7 := by omega
  have n8 : ¬ (j : Int) = 8 := by omega
  have n9 : ¬ (j : Int) = 9 := by omega
  have z0 : ¬ j = 0 := by omega
  have z1 : ¬ j = 1 := by omega
  simp (maxSteps:=9^7)(disch:=first|assumption|((try simp only[nX]);omega)|simp) [z0, z1, n0, n1, n2, n3, n4, n5, n6, n7, n8, n9, -g14_4c]
  exact fini _ _ i p gp K (by simp)
end
end Go.Proofs.YtoiiphcbkejliaaGreat.Cd

/- The document's programs: an image comes, whatever is drawn. -/
set_option maxRecDepth 1000000
set_option maxHeartbeats 8000000
set_option linter.unusedSimpArgs false
set_option linter.unusedVariables false
namespace Go.Proofs.YtoiiphcbkejliaaGreat.Cd
open Go Go.Dx
section
variable {h h' : Hp} {q : Value → Hp → Prop}
/-- Bytes in a block. -/
def Bb (h : Hp) (b N : Nat) : Prop := ∃ B : By, B.length = N ∧ h.get b = some (.cells false (B.map u8))
theorem Bb.set {b N i : Nat} (A : Bb h b N) (hi : i < N) (c : BitVec 8) : ∃ h', h.wr b i [u8 c] = some h' ∧ Bb h' b N ∧ Upd h h' [b] [b] := by
  obtain ⟨B, hl, hg⟩ := A
  refine ⟨_, wr_ok hg (by simp; omega) rfl, ⟨B.set i c, by simp [hl], ?_⟩, ?_⟩
  · rw [get_put_self (lt_of_get hg), over_set (by simp; omega), List.map_set]
  · exact (Kp.upd (.refl h) _).put1
theorem Bb.kp {b N : Nat} (A : Bb h b N) (K : Kp h h') : Bb h' b N := by
  obtain ⟨B, hl, hg⟩ := A
  exact ⟨B, hl, (K.get _ (lt_of_get hg)).trans hg⟩
theorem k_put {bb N a : Nat} {l : List (BitVec 32)} {al : Option Addr} {cl : Nat} (A : Bb h bb N) (S : Sees encW h al l) (hN : N < 2 ^ 40) (ha : a < 2 ^ 40) (hl : l.length < 2 ^ 40) (hne : ∀ D, al = some D → D.block ≠ bb) :
    WC T n_4i [.slice (some ⟨bb, 0, none⟩) N N, .int .i64 (a : Int), .slice al l.length cl] h fun v h' => v = .tuple #[] ∧ Bb h' bb N ∧ Upd h h' [bb] [bb] := by
  rw [w_4i]
  simp (maxSteps:=9^7)(disch:=first|assumption|((try simp only[nX]);omega)|simp)
  refine G_loop (fun j e h' => ∃ i : Nat, j = l.length - i ∧ i ≤ l.length ∧ e 0 = .slice (some ⟨bb, 0, none⟩) N N ∧ e 1 = .int .i64 (a : Int) ∧ e 2 = .slice al l.length cl ∧ e 6 = .int .i64 i ∧ Bb h' bb N ∧ Upd h h' [bb] [bb]) ?_ l.length _ _ ⟨0, rfl, by omega, by simp, by simp, by simp, by simp, A, .refl⟩
  rintro j ih e h' ⟨i, rfl, hi, e0, e1, e2, e6, A', U'⟩
  by_cases c1 : i < l.length
  case neg =>
    have c1' : ¬ (i : Int) < l.length := by omega
    simp (maxSteps:=9^7)(disch:=first|assumption|((try simp only[nX]);omega)|simp) [e0, e1, e2, e6, c1']
    exact ⟨A', U'⟩
  have c1' : (i : Int) < l.length := by omega
  by_cases c2 : a + 4 * i + 4 ≤ N
  case neg =>
    have c2' : ¬ (a : Int) + 4 * i + 4 ≤ N := by omega
    simp (maxSteps:=9^7)(disch:=first|assumption|((try simp only[nX]);omega)|simp) [e0, e1, e2, e6, c1', c2']
    exact ⟨A', U'⟩
  have c2' : (a : Int) + 4 * i + 4 ≤ N := by omega
  simp (maxSteps:=9^7)(disch:=first|assumption|((try simp only[nX]);omega)|simp) [e0, e1, e2, e6, c1', c2']
  refine G_loop (fun j e' h'' => ∃ k : Nat, j = 4 - k ∧ k ≤ 4 ∧ e' 0 = e 0 ∧ e' 1 = e 1 ∧ e' 2 = e 2 ∧ e' 6 = e 6 ∧ e' 7 = .int .i64 k ∧ Bb h'' bb N ∧ Upd h h'' [bb] [bb]) ?_ 4 _ _ ⟨0, rfl, by omega, by simp, by simp, by simp, by simp, by simp, A', U'⟩
  rintro j ih2 e' h'' ⟨k, rfl, hk, f0, f1, f2, f6, f7, A2, U2⟩
  by_cases c3 : k < 4
  case neg =>
    obtain rfl : k = 4 := by omega
    simp (maxSteps:=9^7)(disch:=first|assumption|((try simp only[nX]);omega)|simp) [f0, f1, f2, f6, f7, e6]
    exact ih (l.length - (i + 1)) (by omega) _ _ ⟨i + 1, rfl, by omega, by simp [f0, e0], by simp [f1, e1], by simp [f2, e2], by simp, A2, U2⟩
  have c3' : (k : Int) < 4 := by omega
  have S2 := S.upd U2 fun D hD hm => hne D hD (by simpa using hm)
  have hx : l = l.take i ++ l[i] :: l.drop (i + 1) := by rw [List.getElem_cons_drop, List.take_append_drop]
  obtain ⟨D, ro, C, rfl, hg, hC⟩ := Sees.cell (E := encW) (f := u32) (fun _ => rfl) rfl (us := l.take i) (x := l[i]) (vs := l.drop (i + 1)) (by rw [← hx]; exact S2)
  rw [List.length_take, Nat.min_eq_left (by omega)] at hC
  have hix : ((a : Int) + 4 * i + k).toNat = a + 4 * i + k := by omega
  simp (maxSteps:=9^7)(disch:=first|assumption|((try simp only[nX]);omega)|simp) [f0, f1, f2, f6, f7, e0, e1, e2, e6, c3', c1, c1', hg, hC, hix, -Hp.wr]
  obtain ⟨h3, hw, A3, U3⟩ := A2.set (i := a + 4 * i + k) (by omega) (BitVec.setWidth 8 (l[i] >>> ((24 - 8 * (k : Int)) % 18446744073709551616).toNat))
  rw [hw]
  simp (maxSteps:=9^7)(disch:=first|assumption|((try simp only[nX]);omega)|simp) [f7]
  exact ih2 (4 - (k + 1)) (by omega) _ _ ⟨k + 1, rfl, by omega, by simp [f0], by simp [f1], by simp [f2], by simp [f6], by simp, A3, U2.trans U3⟩
/-- A row of words that grows: a table at first, its own block later; all at or behind lo. -/
def Rz (h : Hp) (lo : Nat) (v : Value) (xs : List (BitVec 32)) : Prop :=
  (∃ b, v = .slice (some ⟨b, 0, none⟩) xs.length xs.length ∧ lo ≤ b ∧ Sees encW h (some ⟨b, 0, none⟩) xs) ∨ (∃ fp, Own encW h v xs fp ∧ ∀ b ∈ fp, lo ≤ b)
/-- What lies ahead of lo is as it was. -/
structure KL (lo : Nat) (h h' : Hp) : Prop where
  le : h.next ≤ h'.next
  get : ∀ b, b < lo → h'.get b = h.get b
theorem KL.trans {lo : Nat} {a b c : Hp} (x : KL lo a b) (y : KL lo b c) : KL lo a c := ⟨Nat.le_trans x.le y.le, fun k hk => (y.get k hk).trans (x.get k hk)⟩
theorem _root_.Go.Dx.Kp.kl {lo : Nat} (K : Kp h h') (hl : lo ≤ h.next) : KL lo h h' := ⟨K.le, fun b hb => K.get b (by omega)⟩
theorem Rz.kp {lo : Nat} {v : Value} {xs : List (BitVec 32)} (R : Rz h lo v xs) (K : Kp h h') : Rz h' lo v xs := by
  rcases R with ⟨b, h1, h2, h3⟩ | ⟨fp, h1, h2⟩
  · exact .inl ⟨b, h1, h2, h3.kp K⟩
  · exact .inr ⟨fp, h1.kp K, h2⟩
theorem Rz.sees {lo : Nat} {v : Value} {xs : List (BitVec 32)} (R : Rz h lo v xs) : ∃ a c, v = .slice a xs.length c ∧ Sees encW h a xs ∧ ∀ A, a = some A → lo ≤ A.block := by
  rcases R with ⟨b, h1, h2, h3⟩ | ⟨fp, h1, h2⟩
  · exact ⟨_, _, h1, h3, fun A hA => by cases hA; exact h2⟩
  · obtain ⟨a, c, e, s, _, m⟩ := h1.len
    exact ⟨a, c, e, s, fun A hA => h2 _ (m A hA)⟩
theorem Rz.app {Q : Ex → Env → Hp → Prop} {k : List Fr} {e : Env} {d : Option Nat} {l : List O} {lo : Nat} {v : Value} {xs : List (BitVec 32)} {x : BitVec 32} (R : Rz h lo v xs) (hlo : lo ≤ h.next) (hl : xs.length < 2 ^ 30)
    (H : ∀ v' h', Rz h' lo v' (xs ++ [x]) → KL lo h h' → GO T Q l k (put e d v') h') : GV T Q (appendV (h.push (.cells false [u32 x])) 1 4 v (.slice (some ⟨h.next, 0, none⟩) 1 1)) d l k e := by
  rcases R with ⟨b, rfl, h2, h3⟩ | ⟨fp, h1, h2⟩
  · have hr := (h3.kp ((Kp.refl h).push (.cells false [u32 x]))).get _ rfl
    simp only [encW_sz, Nat.mul_one] at hr
    have ha : appendV (h.push (.cells false [u32 x])) 1 4 (.slice (some ⟨b, 0, none⟩) xs.length xs.length) (.slice (some ⟨h.next, 0, none⟩) 1 1) = some (.slice (some ⟨h.next + 1, 0, some 1⟩) (xs.length + 1) (xs.length + 1), (h.push (.cells false [u32 x])).push (.cells false (encW.all xs ++ [u32 x]))) := by
      have e2 : elems (h.push (.cells false [u32 x])) 1 1 (.slice (some ⟨h.next, 0, none⟩) 1 1) = some [u32 x] := elems_one (E := encW) (x := x) get_push_self
      simp only [appendV, lenV, e2]
      rw [if_pos (show [u32 x].length = 1 * 1 from rfl), if_neg (by omega), if_pos ⟨by omega, by omega⟩]
      simp only [Nat.mul_one, hr]
      rfl
    rw [ha]
    refine H _ _ (.inr ⟨[h.next + 1], ?_, by simp; omega⟩) ⟨by simp; omega, fun c hc => by rw [get_push_ne (by rw [push_next]; omega), get_push_ne (by omega)]⟩
    have := Own.blk (E := encW) (h := (h.push (.cells false [u32 x])).push (.cells false (encW.all xs ++ [u32 x]))) (b := h.next + 1) (n := xs.length + 1) (c := xs.length + 1) (xs := xs ++ [x]) (r := []) (by
      have : (h.push (.cells false [u32 x])).next = h.next + 1 := rfl
      rw [← this, get_push_self]
      simp [encW]) (by simp) (Nat.le_refl _) (by omega) (by simp)
    exact this
  · refine GV_app1 (E := encW) (bytes := 4) (x := x) h1 (by omega) (by omega) fun v' h' fp' O U => ?_
    refine H v' h' (.inr ⟨fp', O, fun b hb => ?_⟩) ⟨U.le, fun b hb => U.get b (by omega) fun hm => by have := h2 b hm; omega⟩
    rcases U.sub b hb with h5 | h5
    · exact h2 b h5
    · omega
theorem k_image {pg : Nat} {l : List In7} {al : Option Addr} {cl : Nat} (S : Sees encI7 h al l) (hp : 2 ≤ pg ∧ pg ≤ 64) (hl : l.length < 2 ^ 63) :
    WC T n_4d [.slice al l.length cl, .int .i64 (pg : Int)] h fun v h' => (∃ bb, v = .slice (some ⟨bb, 0, none⟩) (1024 * pg) (1024 * pg) ∧ h.next ≤ bb ∧ Bb h' bb (1024 * pg)) ∧ Kp h h' := by
  have e2 : ((pg : Int) * 1024).toNat = 1024 * pg := by omega
  have kw := fun h i => k_word (h := h) (i := i)
  simp only [encIns] at kw
  rw [w_4d]
  simp (maxSteps:=9^7)(disch:=first|assumption|((try simp only[nX]);omega)|simp) [e2]
  generalize hP : Hp.push h _ = P
  have nP : P.next = h.next + 1 := by rw [← hP]; rfl
  have KP : Kp h P := by rw [← hP]; exact (Kp.refl h).push _
  have A : Bb P h.next (1024 * pg) := ⟨List.replicate (1024 * pg) 0#8, List.length_replicate, by rw [← hP, get_push_self]; simp⟩
  clear hP
  refine GC_intro (kw _ ⟨60, 0, 0, 0, 0, 0#32⟩) fun v h1 ⟨⟨w1, hv⟩, K1⟩ => ?_
  subst hv
  have KP := KP.trans K1
  have A := A.kp K1
  simp (maxSteps:=9^7)(disch:=first|assumption|((try simp only[nX]);omega)|simp)
  refine GC_intro (k_put (a := 0) (l := [w1]) (A.kp ((Kp.refl h1).push _)) (sees_new get_push_self rfl) (by omega) (by omega) (by simp) fun D hD => ?_) fun v h2 ⟨hv, A, U2⟩ => ?_
  · cases hD
    have := KP.le
    show h1.next ≠ h.next
    obtain ⟨B, _, hg⟩ := A
    have := lt_of_get hg
    omega
  subst hv
  have KP : Kp h h2 := U2.kp' (KP.push _) (by simp)
  simp (maxSteps:=9^7)(disch:=first|assumption|((try simp only[nX]);omega)|simp)
  refine GC_intro (kw _ ⟨54, 0, 26, 14, 0, 0#32⟩) fun v h3 ⟨⟨w3, hv⟩, K3⟩ => ?_
  subst hv
  have KP := KP.trans K3
  have A := A.kp K3
  simp (maxSteps:=9^7)(disch:=first|assumption|((try simp only[nX]);omega)|simp)
  refine GC_intro (kw _ ⟨47, 26, 26, 0, 0, 4#32⟩) fun v h4 ⟨⟨w4, hv⟩, K4⟩ => ?_
  subst hv
  have KP := KP.trans K4
  have A := A.kp K4
  simp (maxSteps:=9^7)(disch:=first|assumption|((try simp only[nX]);omega)|simp)
  refine GC_intro (kw _ ⟨55, 0, 26, 14, 0, 0#32⟩) fun v h5 ⟨⟨w5, hv⟩, K5⟩ => ?_
  subst hv
  have KP := KP.trans K5
  have A := A.kp K5
  simp (maxSteps:=9^7)(disch:=first|assumption|((try simp only[nX]);omega)|simp)
  refine GC_intro (kw _ ⟨60, 0, 0, 0, 0, 0#32⟩) fun v h6 ⟨⟨w6, hv⟩, K6⟩ => ?_
  subst hv
  have KP := KP.trans K6
  have A := A.kp K6
  simp (maxSteps:=9^7)(disch:=first|assumption|((try simp only[nX]);omega)|simp)
  refine GC_intro (k_put (a := 384) (l := [w3, w4, w5, w6]) (A.kp ((Kp.refl h6).push _)) (sees_new get_push_self rfl) (by omega) (by omega) (by simp) fun D hD => ?_) fun v h7 ⟨hv, A, U7⟩ => ?_
  · cases hD
    show h6.next ≠ h.next
    obtain ⟨B, _, hg⟩ := A
    have := lt_of_get hg
    omega
  subst hv
  have KP : Kp h h7 := U7.kp' (KP.push _) (by simp)
  simp (maxSteps:=9^7)(disch:=first|assumption|((try simp only[nX]);omega)|simp)
  refine GC_intro (kw _ ⟨53, 0, 28, 0, 0, 32768#32⟩) fun v h8 ⟨⟨w8, hv⟩, K8⟩ => ?_
  subst hv
  have KP := KP.trans K8
  have A := A.kp K8
  simp (maxSteps:=9^7)(disch:=first|assumption|((try simp only[nX]);omega)|simp)
  refine GC_intro (kw _ ⟨51, 28, 29, 0, 0, 1024#32⟩) fun v h9 ⟨⟨w9, hv⟩, K9⟩ => ?_
  subst hv
  have KP := KP.trans K9
  have A := A.kp K9
  simp (maxSteps:=9^7)(disch:=first|assumption|((try simp only[nX]);omega)|simp)
  refine GC_intro (kw _ ⟨53, 0, 30, 0, 0, 48896#32⟩) fun v h10 ⟨⟨w10, hv⟩, K10⟩ => ?_
  subst hv
  have KP := KP.trans K10
  have A := A.kp K10
  simp (maxSteps:=9^7)(disch:=first|assumption|((try simp only[nX]);omega)|simp)
  refine GC_intro (kw _ ⟨51, 28, 31, 0, 0, 1536#32⟩) fun v h11 ⟨⟨w11, hv⟩, K11⟩ => ?_
  subst hv
  have KP := KP.trans K11
  have A := A.kp K11
  simp (maxSteps:=9^7)(disch:=first|assumption|((try simp only[nX]);omega)|simp)
  have l11 : h.next < h11.next := by
    obtain ⟨B, _, hg⟩ := A
    exact lt_of_get hg
  obtain ⟨lo, hlo⟩ : ∃ lo, lo = h11.next := ⟨_, rfl⟩
  have R0 : Rz (h11.push (.cells false [u32 w8, u32 w9, u32 w10, u32 w11])) lo (.slice (some ⟨h11.next, 0, none⟩) 4 4) [w8, w9, w10, w11] := .inl ⟨h11.next, rfl, by omega, sees_new get_push_self rfl⟩
  have KP := KP.push (.cells false [u32 w8, u32 w9, u32 w10, u32 w11])
  have A := A.kp ((Kp.refl h11).push (.cells false [u32 w8, u32 w9, u32 w10, u32 w11]))
  have l0 : lo ≤ (h11.push (.cells false [u32 w8, u32 w9, u32 w10, u32 w11])).next := by rw [push_next]; omega
  generalize h11.push (.cells false [u32 w8, u32 w9, u32 w10, u32 w11]) = H0 at *
  rw [← hlo]
  rw [← hlo] at R0 l11
  have hsl := sees_lt S
  refine G_loop (fun j e H => ∃ (i : Nat) (v : Value) (xs : List (BitVec 32)), j = 200 - i ∧ i ≤ l.length ∧ i ≤ 200 ∧ e 0 = .slice al l.length cl ∧ e 5 = .slice (some ⟨h.next, 0, none⟩) (1024 * pg) (1024 * pg) ∧ e 6 = v ∧ e 7 = .int .i64 i ∧ xs.length = i + 4 ∧ Rz H lo v xs ∧ KL lo H0 H) ?_ 200 _ _ ⟨0, _, _, rfl, by omega, by omega, by simp, by simp, by simp, by simp, rfl, R0, ⟨Nat.le_refl _, fun b _ => rfl⟩⟩
  clear R0
  rintro j ih e H ⟨i, v, xs, rfl, i1, i2, e0, e5, e6, e7, hxl, R, KL0⟩
  have hle := KL0.le
  have KH : Kp h H := ⟨by have := KP.le; omega, fun b hb => (KL0.get b (by omega)).trans (KP.get b hb)⟩
  have AH : Bb H h.next (1024 * pg) := by
    obtain ⟨B, hl, hg⟩ := A
    exact ⟨B, hl, (KL0.get _ l11).trans hg⟩
  have SH := S.kp KH
  by_cases c : i < l.length ∧ i < 200
  · obtain ⟨c1, c2⟩ := c
    have c1' : (i : Int) < l.length := by omega
    have c2' : (i : Int) < 200 := by omega
    have hx : l = l.take i ++ l[i] :: l.drop (i + 1) := by rw [List.getElem_cons_drop, List.take_append_drop]
    obtain ⟨D, rfl, hr⟩ := Sees.mid (A := l.take i) (x := l[i]) (B := l.drop (i + 1)) (by rw [← hx]; exact SH)
    rw [List.length_take, Nat.min_eq_left (by omega)] at hr
    have hc := fun h => k_code (h := h) (x := l[i])
    have hr' : H.rdn D.block (D.off + i * 7) 7 = some (encI7.enc l[i]) := hr
    generalize l[i] = x at *
    simp (maxSteps:=9^7)(disch:=first|assumption|((try simp only[nX]);omega)|simp) [e0, e6, e7, c1, c1', c2', hr']
    refine GC_intro (hc _) fun v2 h2 ⟨⟨w, hv⟩, K2⟩ => ?_
    subst hv
    simp (maxSteps:=9^7)(disch:=first|assumption|((try simp only[nX]);omega)|simp)
    have K2l := K2.kl (lo := lo) (by omega)
    refine (R.kp K2).app (by have := K2l.le; omega) (by omega) fun v3 h3 R3 K3 => ?_
    simp (maxSteps:=9^7)(disch:=first|assumption|((try simp only[nX]);omega)|simp) [e7]
    exact ih (200 - (i + 1)) (by omega) _ _ ⟨i + 1, v3, xs ++ [w], rfl, by omega, by omega, by simp [e0], by simp [e5], by simp, by simp, by simp [hxl], R3, (KL0.trans K2l).trans K3⟩
  · have fin2 : ∀ e' : Env, e' 5 = .slice (some ⟨h.next, 0, none⟩) (1024 * pg) (1024 * pg) → e' 6 = v → G T (fin [RV.t 4] (some []) h.next fun v h' => (∃ bb, v = .slice (some ⟨bb, 0, none⟩) (1024 * pg) (1024 * pg) ∧ h.next ≤ bb ∧ Bb h' bb (1024 * pg)) ∧ Kp h h') c2_4d [] e' H := fun e' f5 f6 => by
      obtain ⟨ac, cc, rfl, Sc, hb⟩ := R.sees
      by_cases c3 : xs.length * 4 + 1024 ≤ 1024 * pg
      · have c3' : (xs.length : Int) * 4 + 1024 ≤ 1024 * (pg : Int) := by omega
        simp (maxSteps:=9^7)(disch:=first|assumption|((try simp only[nX]);omega)|simp) [f5, f6, c3']
        refine GC_intro (k_put (a := 1024) AH Sc (by omega) (by omega) (by omega) fun D hD => by have := hb D hD; omega) fun v h2 ⟨hv, A2, U2⟩ => ?_
        subst hv
        simp (maxSteps:=9^7)(disch:=first|assumption|((try simp only[nX]);omega)|simp) [f5]
        exact ⟨A2, U2.kp' KH (by simp)⟩
      · have c3' : ¬ (xs.length : Int) * 4 + 1024 ≤ 1024 * (pg : Int) := by omega
        simp (maxSteps:=9^7)(disch:=first|assumption|((try simp only[nX]);omega)|simp) [f5, f6, c3']
        exact ⟨AH, KH⟩
    by_cases c1 : i < l.length
    · have c1' : (i : Int) < l.length := by omega
      have c2' : ¬ (i : Int) < 200 := by omega
      simp (maxSteps:=9^7)(disch:=first|assumption|((try simp only[nX]);omega)|simp) [e0, e7, c1', c2', -g2_4d]
      exact fin2 _ (by simp [e5]) (by simp [e6])
    · have c1' : ¬ (i : Int) < l.length := by omega
      simp (maxSteps:=9^7)(disch:=first|assumption|((try simp only[nX]);omega)|simp) [e0, e7, c1', -g2_4d]
      exact fin2 _ (by simp [e5]) (by simp [e6])
end
end Go.Proofs.YtoiiphcbkejliaaGreat.Cd

/- A script that is drawn. -/
set_option maxRecDepth 1000000
set_option maxHeartbeats 8000000
set_option linter.unusedSimpArgs false
set_option linter.unusedVariables false
namespace Go.Proofs.YtoiiphcbkejliaaGreat.Cd
open Go Go.Dx
/-- A script as it was made, its items in a row of their own. -/
def isMade (h h' : Hp) (v : Value) (s : Scr) : Prop := ∃ aim cim adk cdk ov fp lo, v = .agg #[.int .i64 s.p, .int .i64 s.m, .slice aim s.im.length cim, .slice adk s.dk.length cdk, ov] ∧ (Sees encB h' aim s.im ∧ s.im.length ≤ cim) ∧ (Sees encB h' adk s.dk ∧ s.dk.length ≤ cdk) ∧
  Own encIt h' ov s.it fp ∧ (∀ b ∈ fp, lo ≤ b) ∧ h.next ≤ lo ∧ (∀ A, aim = some A → A.block < lo) ∧ (∀ A, adk = some A → A.block < lo) ∧ s.im.length ≤ 3072 ∧ s.dk.length ≤ 150 ∧ s.it.length ≤ 30 ∧ Kp h h'
section
variable {h h' : Hp} {v : Value} {s : Scr}
theorem isMade.sc (M : isMade h h' v s) : isSc h' v s := by
  obtain ⟨aim, cim, adk, cdk, ov, fp, lo, rfl, ⟨Si, qi⟩, ⟨Sd, qd⟩, O, _, _, _, _, l1, l2, l3, _⟩ := M
  obtain ⟨at', ct, rfl, St, qt, _⟩ := O.len
  exact ⟨aim, cim, adk, cdk, at', ct, rfl, Si, Sd, St, qi, qd, qt, by omega, by omega, by omega⟩
theorem isMade.kp (M : isMade h h' v s) : Kp h h' := by
  obtain ⟨_, _, _, _, _, _, _, _, _, _, _, _, _, _, _, _, _, _, K⟩ := M
  exact K
theorem p_known {q : Value → Hp → Prop} : WC T n_4s [] h q ↔ q (.bool true) h := by
  rw [WC_spec T_4s]
  simp [sTrue]
variable {pg mo : Int} {tm : Bool} {L : List In7} {D : By} {I : List Itm} {al ad ai : Option Addr} {cl cd ci : Nat}
theorem p_made (SL : Sees encI7 h al L) (hL : L.length < 2 ^ 63) (SD : Sees encB h ad D) (hD : D.length < 2 ^ 63) (qD : D.length ≤ cd) (SI : Sees encIt h ai I) (hI : I.length < 2 ^ 63) :
    WC T n_4t [.agg #[.int .i64 pg, .int .i64 mo, .slice al L.length cl, .slice ad D.length cd, .slice ai I.length ci, .bool tm]] h fun v h' => ∃ s, isMade h h' v s := by
  have hw := fun h n q => within_eq (h := h) (n := n) (lo := 3) (hi := 5) (q := q) (by omega) (by omega) (by omega)
  have hw2 := fun h n q => within_eq (h := h) (n := n) (lo := 1) (hi := 20) (q := q) (by omega) (by omega) (by omega)
  have hw3 := fun h n q => within_eq (h := h) (n := n) (lo := 0) (hi := 1048576) (q := q) (by omega) (by omega) (by omega)
  have hw4 := fun h n q => within_eq (h := h) (n := n) (lo := 0) (hi := 150) (q := q) (by omega) (by omega) (by omega)
  rw [w_4t]
  simp (maxSteps:=9^7)(disch:=first|assumption|((try simp only[nX]);omega)|simp) [-g8_4t]
  generalize hP : Hp.push (Hp.push h _) _ = P
  have gA : P.get h.next = some (.cells false [.int .i64 pg, .int .i64 mo, .slice al L.length cl, .slice ad D.length cd, .slice ai I.length ci, .bool tm]) := by rw [← hP, get_push_ne (by simp only [push_next]; omega), get_push_self]
  have gR : P.get (h.next + 1) = some (.cells false [.int .i64 0, .int .i64 0, .slice none 0 0, .slice none 0 0, .slice none 0 0]) := by rw [← hP]; exact get_push_self (h := h.push _)
  have KP : Kp h P := by rw [← hP]; exact ((Kp.refl h).push _).push _
  clear hP
  have lA := lt_of_get gA
  have lR := lt_of_get gR
  have K1 : Kp h (P.adv 1) := KP.adv 1
  have ki : WC T n_4d [.slice al L.length cl, .int .i64 3] (P.adv 1) fun v h' => (∃ bb, v = .slice (some ⟨bb, 0, none⟩) 3072 3072 ∧ (P.adv 1).next ≤ bb ∧ Bb h' bb 3072) ∧ Kp (P.adv 1) h' := k_image (pg := 3) (SL.kp K1) (by omega) (by omega)
  simp (maxSteps:=9^7)(disch:=first|assumption|((try simp only[nX]);omega)|simp) [gA, -g7_4t]
  refine GCI_intro ki fun v h2 ⟨⟨bb, hv, hbb, B, hB, gB⟩, K2⟩ => ?_
  subst hv
  have KP2 : Kp P h2 := ((Kp.refl P).adv 1).trans K2
  have gA2 := (KP2.get _ lA).trans gA
  have gR2 := (KP2.get _ lR).trans gR
  have n2 : P.next + 1 ≤ h2.next := K2.le
  simp (maxSteps:=9^7)(disch:=first|assumption|((try simp only[nX]);omega)|simp) [gA2, -g7_4t]
  generalize hQ : Hp.put h2 _ _ = Q
  have l2 : P.next < h2.next := by omega
  have gS : Q.get P.next = some (.cells false [.int .i64 pg, .int .i64 mo, .slice (some ⟨bb, 0, none⟩) 3072 3072, .slice ad D.length cd, .slice none 0 0]) := by rw [← hQ]; exact get_put_self l2
  have gA3 : Q.get h.next = some (.cells false [.int .i64 pg, .int .i64 mo, .slice al L.length cl, .slice ad D.length cd, .slice ai I.length ci, .bool tm]) := by rw [← hQ, get_put_ne (by omega)]; exact gA2
  have gR3 : Q.get (h.next + 1) = some (.cells false [.int .i64 0, .int .i64 0, .slice none 0 0, .slice none 0 0, .slice none 0 0]) := by rw [← hQ, get_put_ne (by omega)]; exact gR2
  have KQ : Kp h Q := by rw [← hQ]; exact (KP.trans KP2).put KP.le _
  have hbb' : P.next + 1 ≤ bb := hbb
  have SB : Sees encB Q (some ⟨bb, 0, none⟩) B := by rw [← hQ]; exact sees_b (ro := false) (by rw [get_put_ne (by omega)]; exact gB)
  have hle := KP.le
  clear hQ gA2 gR2 gA gR gB l2
  obtain ⟨lo, hlo⟩ : ∃ lo, lo = Q.next := ⟨_, rfl⟩
  have lS0 := lt_of_get gS
  have hbl := sees_lt SB
  have hdl := sees_lt (SD.kp KQ)
  rw [← hlo] at lS0 hbl hdl
  -- the items, whatever the rest is
  have lp : ∀ (e : Env) (H : Hp) (p m : Int) (aim adk : Option Addr) (cim cdk : Nat) (im dk : By), e 1 = ptr h.next 0 → e 2 = ptr (h.next + 1) 0 → e 3 = ptr P.next 0 → e 4 = .int .i64 0 → H.get P.next = some (.cells false [.int .i64 p, .int .i64 m, .slice aim im.length cim, .slice adk dk.length cdk, .slice none 0 0]) →
      H.get h.next = some (.cells false [.int .i64 pg, .int .i64 mo, .slice al L.length cl, .slice ad D.length cd, .slice ai I.length ci, .bool tm]) → H.get (h.next + 1) = some (.cells false [.int .i64 0, .int .i64 0, .slice none 0 0, .slice none 0 0, .slice none 0 0]) → Kp h H → lo ≤ H.next → Sees encB H aim im → im.length ≤ cim → im.length ≤ 3072 → Sees encB H adk dk → dk.length ≤ cdk → dk.length ≤ 150 → (∀ A, aim = some A → A.block < lo) → (∀ A, adk = some A → A.block < lo) →
      G T (fin [RV.ldn 5 2] (some []) h.next fun v h' => ∃ s, isMade h h' v s) (.loop c5_4t) [Fr.block 0, Fr.seq ((C.ops [⟨some 80, none, .ldn 5 (.t 3)⟩, ⟨none, none, .stn 5 (.t 2) (.t 80)⟩]).seq C.ret)] e H := by
    intro e H p m aim adk cim cdk im dk e1 e2 e3 e4 gS gA gR K hln Si qi hi Sd qd hd bi bd
    refine G_loop (fun j e H => ∃ (i : Nat) (acc : List Itm) (fp : List Nat) (ov : Value), j = 30 - i ∧ i ≤ 30 ∧ acc.length = i ∧ Own encIt H ov acc fp ∧ (∀ b ∈ fp, lo ≤ b) ∧ e 1 = ptr h.next 0 ∧ e 2 = ptr (h.next + 1) 0 ∧ e 3 = ptr P.next 0 ∧ e 4 = .int .i64 i ∧ H.get P.next = some (.cells false [.int .i64 p, .int .i64 m, .slice aim im.length cim, .slice adk dk.length cdk, ov]) ∧
      H.get h.next = some (.cells false [.int .i64 pg, .int .i64 mo, .slice al L.length cl, .slice ad D.length cd, .slice ai I.length ci, .bool tm]) ∧ H.get (h.next + 1) = some (.cells false [.int .i64 0, .int .i64 0, .slice none 0 0, .slice none 0 0, .slice none 0 0]) ∧ Kp h H ∧ lo ≤ H.next ∧ Sees encB H aim im ∧ Sees encB H adk dk) ?_ 30 _ _
      ⟨0, [], [], .slice none 0 0, rfl, by omega, rfl, .nul, by simp, e1, e2, e3, by rw [e4]; rfl, gS, gA, gR, K, hln, Si, Sd⟩
    clear e1 e2 e3 e4 gS gA gR K hln Si Sd
    rintro j ih e H ⟨i, acc, fp, ov, rfl, hi30, hai, O, hfp, e1, e2, e3, e4, gS, gA, gR, K, hln, Si, Sd⟩
    have lS := lt_of_get gS
    have lA := lt_of_get gA
    have lR := lt_of_get gR
    have r5 := rdn_all (n := 5) gS rfl
    have fin : ∃ s, isMade h (H.put (h.next + 1) (some (.cells false [.int .i64 p, .int .i64 m, .slice aim im.length cim, .slice adk dk.length cdk, ov]))) (.agg #[.int .i64 p, .int .i64 m, .slice aim im.length cim, .slice adk dk.length cdk, ov]) s :=
      ⟨⟨p, m, im, dk, acc⟩, aim, cim, adk, cdk, ov, fp, lo, rfl, ⟨sees_put5 Si gR no_u8 rfl, qi⟩, ⟨sees_put5 Sd gR no_u8 rfl, qd⟩, O.keep fun b hb => get_put_ne (by have := hfp b hb; omega), hfp, by omega, bi, bd, hi, hd, by show acc.length ≤ 30; omega, K.put (by omega) _⟩
    have hone0 : one ov = true := by obtain ⟨_, _, e9, _⟩ := O.len; rw [e9]; rfl
    by_cases c1 : i < I.length
    case neg =>
      have c1' : ¬ (i : Int) < I.length := by omega
      simp (maxSteps:=9^7)(disch:=first|assumption|((try simp only[nX]);omega)|simp) [e1, e2, e3, e4, gA, gR, gS, r5, c1', hone0]
      exact fin
    have c1' : (i : Int) < I.length := by omega
    by_cases c2 : i < 30
    case neg =>
      have c2' : ¬ (i : Int) < 30 := by omega
      simp (maxSteps:=9^7)(disch:=first|assumption|((try simp only[nX]);omega)|simp) [e1, e2, e3, e4, gA, gR, gS, r5, c1', c2', hone0]
      exact fin
    have c2' : (i : Int) < 30 := by omega
    obtain ⟨A, hA, hr⟩ := (SI.kp K).at' i c1
    obtain ⟨y, hy⟩ : ∃ y, y = I[i] := ⟨_, rfl⟩
    rw [← hy] at hr
    have hr' : H.rdn A.block (A.off + i * 2) 2 = some [.int .i64 y.k, .int .i64 y.n] := hr
    obtain ⟨ao, co, hov, So, qo, _⟩ := O.len
    have next : ∀ (y' : Itm) (v : Value) (H5 : Hp) (f5 : List Nat) (e' : Env), Own encIt H5 v (acc ++ [y']) f5 → Upd H H5 fp f5 → H5.get P.next = some (.cells false [.int .i64 p, .int .i64 m, .slice aim im.length cim, .slice adk dk.length cdk, ov]) → e' 1 = ptr h.next 0 → e' 2 = ptr (h.next + 1) 0 → e' 3 = ptr P.next 0 → e' 4 = .int .i64 ((i : Int) + 1) →
        ∃ (i_1 : Nat) (acc : List Itm) (fp : List Nat) (ov : Value), 30 - (i + 1) = 30 - i_1 ∧ i_1 ≤ 30 ∧ acc.length = i_1 ∧ Own encIt (H5.put P.next (some (.cells false [.int .i64 p, .int .i64 m, .slice aim im.length cim, .slice adk dk.length cdk, v]))) ov acc fp ∧ (∀ b ∈ fp, lo ≤ b) ∧ e' 1 = ptr h.next 0 ∧ e' 2 = ptr (h.next + 1) 0 ∧ e' 3 = ptr P.next 0 ∧ e' 4 = .int .i64 i_1 ∧ (H5.put P.next (some (.cells false [.int .i64 p, .int .i64 m, .slice aim im.length cim, .slice adk dk.length cdk, v]))).get P.next = some (.cells false [.int .i64 p, .int .i64 m, .slice aim im.length cim, .slice adk dk.length cdk, ov]) ∧
          (H5.put P.next (some (.cells false [.int .i64 p, .int .i64 m, .slice aim im.length cim, .slice adk dk.length cdk, v]))).get h.next = some (.cells false [.int .i64 pg, .int .i64 mo, .slice al L.length cl, .slice ad D.length cd, .slice ai I.length ci, .bool tm]) ∧ (H5.put P.next (some (.cells false [.int .i64 p, .int .i64 m, .slice aim im.length cim, .slice adk dk.length cdk, v]))).get (h.next + 1) = some (.cells false [.int .i64 0, .int .i64 0, .slice none 0 0, .slice none 0 0, .slice none 0 0]) ∧ Kp h (H5.put P.next (some (.cells false [.int .i64 p, .int .i64 m, .slice aim im.length cim, .slice adk dk.length cdk, v]))) ∧ lo ≤ (H5.put P.next (some (.cells false [.int .i64 p, .int .i64 m, .slice aim im.length cim, .slice adk dk.length cdk, v]))).next ∧ Sees encB (H5.put P.next (some (.cells false [.int .i64 p, .int .i64 m, .slice aim im.length cim, .slice adk dk.length cdk, v]))) aim im ∧ Sees encB (H5.put P.next (some (.cells false [.int .i64 p, .int .i64 m, .slice aim im.length cim, .slice adk dk.length cdk, v]))) adk dk :=
      fun y' v H5 f5 e' O5 U gS5 a1 a2 a3 a4 => by
        have f5' : ∀ b ∈ f5, lo ≤ b := fun b hb => by
          rcases U.sub b hb with h5 | h5
          · exact hfp b h5
          · omega
        have hle5 := U.le
        refine ⟨i + 1, acc ++ [y'], f5, v, rfl, by omega, by simp [hai], O5.keep fun b hb => get_put_ne (by have := f5' b hb; omega), f5', a1, a2, a3, by rw [a4]; simp, get_put_self (lt_of_get gS5), ?_, ?_, (U.kp' K fun b hb => by have := hfp b hb; omega).put (by omega) _, ?_, ?_, ?_⟩
        · rw [get_put_ne (by omega), U.get _ lA fun hm => by have := hfp _ hm; omega]; exact gA
        · rw [get_put_ne (by omega), U.get _ lR fun hm => by have := hfp _ hm; omega]; exact gR
        · show lo ≤ H5.next; omega
        · subst hov
          exact sees_put5 (Si.upd U fun A hA hm => by have := hfp _ hm; have := bi A hA; omega) gS5 no_u8 rfl
        · subst hov
          exact sees_put5 (Sd.upd U fun A hA hm => by have := hfp _ hm; have := bd A hA; omega) gS5 no_u8 rfl
    subst hA
    cases tm with
    | false =>
      simp (maxSteps:=9^7)(disch:=first|assumption|((try simp only[nX]);omega)|simp) [e1, e3, e4, gA, gS, c1', c2', hr']
      generalize hH : Hp.push H _ = H2
      have gI2 : H2.get H.next = some (.cells false [.int .i64 y.k, .int .i64 y.n]) := by rw [← hH, get_push_self]
      have KH2 : Kp H H2 := by rw [← hH]; exact (Kp.refl H).push _
      have nH2 : H2.next = H.next + 1 := by rw [← hH]; rfl
      clear hH
      subst hov
      have lH2 := lt_of_get gI2
      have r2 := rdn_all (n := 2) gI2 rfl
      have gS2 := (KH2.get _ lS).trans gS
      rw [← nH2]
      refine GV_app1 (E := encIt) (bytes := 16) (x := y) (O.kp KH2) (by omega) (by omega) fun v5 H5 f5 O5 U5 => ?_
      have U6 := (KH2.upd fp).trans U5
      have gS5 := (U6.get _ lS fun hm => by have := hfp _ hm; omega).trans gS
      have lS5 := lt_of_get gS5
      have hone : one v5 = true := by obtain ⟨_, _, e9, _⟩ := O5.len; rw [e9]; rfl
      simp (maxSteps:=9^7)(disch:=first|assumption|((try simp only[nX]);omega)|simp) [e3, gS5, hone, e4]
      refine ih (30 - (i + 1)) (by omega) _ _ (next y v5 H5 f5 _ O5 U6 gS5 ?_ ?_ ?_ ?_)
      · simp [e1]
      · simp [e2]
      · simp [e3]
      · simp
    | true =>
      obtain ⟨w1, w2⟩ := wi_bound (n := y.k) (lo := 0) (hi := 1048576) (by omega)
      obtain ⟨w3, w4⟩ := wi_bound (n := y.n) (lo := 0) (hi := 150) (by omega)
      have h3 := fun h q => hw3 h y.k q
      have h4 := fun h q => hw4 h y.n q
      generalize wi y.k 0 1048576 = r at *
      generalize wi y.n 0 150 = r' at *
      have ht : r.tmod 5 = r % 5 := Int.tmod_eq_emod_of_nonneg w1
      simp (maxSteps:=9^7)(disch:=first|assumption|((try simp only[nX]);omega)|simp) [e1, e3, e4, gA, gS, c1', c2', hr']
      generalize hH : Hp.push H _ = H1
      have gI1 : H1.get H.next = some (.cells false [.int .i64 y.k, .int .i64 y.n]) := by rw [← hH, get_push_self]
      have KH1 : Kp H H1 := by rw [← hH]; exact (Kp.refl H).push _
      clear hH
      have lI1 := lt_of_get gI1
      have gA1 := (KH1.get _ lA).trans gA
      simp (maxSteps:=9^7)(disch:=first|assumption|((try simp only[nX]);omega)|simp) [e1, gA1, gI1, GCI_of (h3 _), GCI_of (h4 _), ht]
      generalize hH : Hp.put H1 _ _ = H2
      have gI2 : H2.get H.next = some (.cells false [.int .i64 (1 + r % 5), .int .i64 r']) := by rw [← hH]; exact get_put_self lI1
      have KH2 : Kp H H2 := by rw [← hH]; exact KH1.put (Nat.le_refl _) _
      clear hH
      subst hov
      have lH2 := lt_of_get gI2
      have r2 := rdn_all (n := 2) gI2 rfl
      have gS2 := (KH2.get _ lS).trans gS
      simp (maxSteps:=9^7)(disch:=first|assumption|((try simp only[nX]);omega)|simp) [e3, gS2, r2]
      refine GV_app1 (E := encIt) (bytes := 16) (x := ⟨1 + r % 5, r'⟩) (O.kp KH2) (by omega) (by omega) fun v5 H5 f5 O5 U5 => ?_
      have U6 := (KH2.upd fp).trans U5
      have gS5 := (U6.get _ lS fun hm => by have := hfp _ hm; omega).trans gS
      have lS5 := lt_of_get gS5
      have hone : one v5 = true := by obtain ⟨_, _, e9, _⟩ := O5.len; rw [e9]; rfl
      simp (maxSteps:=9^7)(disch:=first|assumption|((try simp only[nX]);omega)|simp) [e3, gS5, hone, e4]
      refine ih (30 - (i + 1)) (by omega) _ _ (next ⟨1 + r % 5, r'⟩ v5 H5 f5 _ O5 U6 gS5 ?_ ?_ ?_ ?_)
      · simp [e1]
      · simp [e2]
      · simp [e3]
      · simp
  have mid : ∀ (e : Env) (H : Hp) (adk : Option Addr) (cdk : Nat) (dk : By), e 1 = ptr h.next 0 → e 2 = ptr (h.next + 1) 0 → e 3 = ptr P.next 0 → H.get P.next = some (.cells false [.int .i64 pg, .int .i64 mo, .slice (some ⟨bb, 0, none⟩) 3072 3072, .slice adk dk.length cdk, .slice none 0 0]) →
      H.get h.next = some (.cells false [.int .i64 pg, .int .i64 mo, .slice al L.length cl, .slice ad D.length cd, .slice ai I.length ci, .bool tm]) → H.get (h.next + 1) = some (.cells false [.int .i64 0, .int .i64 0, .slice none 0 0, .slice none 0 0, .slice none 0 0]) → Kp h H → lo ≤ H.next → Sees encB H (some ⟨bb, 0, none⟩) B → Sees encB H adk dk → dk.length ≤ cdk → dk.length ≤ 150 → (∀ A, adk = some A → A.block < lo) →
      G T (fin [RV.ldn 5 2] (some []) h.next fun v h' => ∃ s, isMade h h' v s) c6_4t [] e H := by
    intro e H adk cdk dk e1 e2 e3 gS gA gR K hln Si Sd qd hd bd
    have lS := lt_of_get gS
    have lA := lt_of_get gA
    have lR := lt_of_get gR
    have fin2 : ∀ (e' : Env) (p m : Int) (aim : Option Addr) (cim : Nat) (im : By), e' 1 = ptr h.next 0 → e' 2 = ptr (h.next + 1) 0 → e' 3 = ptr P.next 0 → e' 4 = .int .i64 0 → Sees encB H aim im → im.length ≤ cim → im.length ≤ 3072 → (∀ A, aim = some A → A.block < lo) →
        G T (fin [RV.ldn 5 2] (some []) h.next fun v h' => ∃ s, isMade h h' v s) (.loop c5_4t) [Fr.block 0, Fr.seq ((C.ops [⟨some 80, none, .ldn 5 (.t 3)⟩, ⟨none, none, .stn 5 (.t 2) (.t 80)⟩]).seq C.ret)] e' (H.put P.next (some (.cells false [.int .i64 p, .int .i64 m, .slice aim im.length cim, .slice adk dk.length cdk, .slice none 0 0]))) :=
      fun e' p m aim cim im a1 a2 a3 a4 Si' qi hi bi => lp e' _ p m aim adk cim cdk im dk a1 a2 a3 a4 (get_put_self lS) (by rw [get_put_ne (by omega)]; exact gA) (by rw [get_put_ne (by omega)]; exact gR) (K.put (by omega) _) hln (sees_put5 Si' gS no_u8 rfl) qi hi (sees_put5 Sd gS no_u8 rfl) qd hd bi bd
    have hB' : B.length ≤ 3072 := by omega
    have fin2' : ∀ (e' : Env) (p m : Int), e' 1 = ptr h.next 0 → e' 2 = ptr (h.next + 1) 0 → e' 3 = ptr P.next 0 → e' 4 = .int .i64 0 → G T (fin [RV.ldn 5 2] (some []) h.next fun v h' => ∃ s, isMade h h' v s) (.loop c5_4t) [Fr.block 0, Fr.seq ((C.ops [⟨some 80, none, .ldn 5 (.t 3)⟩, ⟨none, none, .stn 5 (.t 2) (.t 80)⟩]).seq C.ret)] e' (H.put P.next (some (.cells false [.int .i64 p, .int .i64 m, .slice (some ⟨bb, 0, none⟩) B.length B.length, .slice adk dk.length cdk, .slice none 0 0]))) := fun e' p m a1 a2 a3 a4 => fin2 e' p m _ B.length B a1 a2 a3 a4 Si (Nat.le_refl _) hB' hbl
    cases tm with
    | true =>
      simp (maxSteps:=9^7)(disch:=first|assumption|((try simp only[nX]);omega)|simp) [e1, e3, gA, gS, GCI_of (hw _ pg), GCI_of (hw2 _ mo)]
      rw [hB] at fin2'
      exact fin2' _ _ _ (by simp [e1]) (by simp [e2]) (by simp [e3]) (by simp)
    | false =>
      by_cases c3 : L.length ≤ 3
      · have c3' : ¬ (3 : Int) < L.length := by omega
        simp (maxSteps:=9^7)(disch:=first|assumption|((try simp only[nX]);omega)|simp) [e1, e3, gA, gS, c3']
        exact lp _ _ pg mo (some ⟨bb, 0, none⟩) adk 3072 cdk B dk (by simp [e1]) (by simp [e2]) (by simp [e3]) (by simp) (by rw [hB]; exact gS) gA gR K hln Si (by omega) hB' Sd qd hd hbl bd
      · have c3' : (3 : Int) < L.length := by omega
        have cut : ∀ (w : Nat) (z : Int), w ≤ 400 → z = ((w * 7 : Nat) : Int) → ∃ a9 c9 im9, sliceV 1 (.slice (some ⟨bb, 0, none⟩) 3072 3072) none (some (.int .i64 z)) none = some (.slice a9 im9.length c9) ∧ im9.length ≤ c9 ∧ Sees encB H a9 im9 ∧ (∀ A, a9 = some A → A.block < lo) ∧ im9.length ≤ 3072 := fun w z hw hz => by
          obtain ⟨a9, c9, s9, q9, S9⟩ := part_b Si (c := 3072) (by omega) (lo := 0) (hi := w * 7) (by omega) (by omega) (l := none) (u := some (.int .i64 ((w * 7 : Nat) : Int))) (.inl ⟨rfl, rfl⟩) (.inr ⟨_, rfl⟩)
          rw [hB, ← hz] at s9
          exact ⟨a9, c9, _, s9, q9, S9, fun A hA => by
            obtain ⟨A1, hA1, e9⟩ := sliceV_blk s9 A hA
            rw [e9]
            exact hbl A1 hA1, by simp; omega⟩
        by_cases c6 : 400 < L.length
        · have c6' : (400 : Int) < L.length := by omega
          obtain ⟨a9, c9, im9, s9, q9, S9, b9, l9⟩ := cut 400 2800 (by omega) (by omega)
          simp (maxSteps:=9^7)(disch:=first|assumption|((try simp only[nX]);omega)|simp) [e1, e3, gA, gS, c3', c6', s9]
          refine fin2 _ pg mo a9 c9 im9 ?_ ?_ ?_ ?_ S9 q9 l9 b9
          · simp [e1]
          · simp [e2]
          · simp [e3]
          · simp
        · have c6' : ¬ (400 : Int) < L.length := by omega
          obtain ⟨a9, c9, im9, s9, q9, S9, b9, l9⟩ := cut L.length ((L.length : Int) * 7) (by omega) (by omega)
          simp (maxSteps:=9^7)(disch:=first|assumption|((try simp only[nX]);omega)|simp) [e1, e3, gA, gS, c3', c6', s9]
          refine fin2 _ pg mo a9 c9 im9 ?_ ?_ ?_ ?_ S9 q9 l9 b9
          · simp [e1]
          · simp [e2]
          · simp [e3]
          · simp
  by_cases c4 : D.length ≤ 150
  · have c4' : ¬ (150 : Int) < D.length := by omega
    simp (maxSteps:=9^7)(disch:=first|assumption|((try simp only[nX]);omega)|simp) [gS, c4', -g6_4t]
    exact mid _ Q ad cd D (by simp) (by simp) (by simp) gS gA3 gR3 KQ (by omega) SB (SD.kp KQ) qD c4 hdl
  · have c4' : (150 : Int) < D.length := by omega
    obtain ⟨a9, c9, s9, q9, S9⟩ := part_b (SD.kp KQ) (c := cd) qD (lo := 0) (hi := 150) (by omega) (by omega) (l := none) (u := some (.int .i64 150)) (.inl ⟨rfl, rfl⟩) (.inr ⟨_, rfl⟩)
    have b9 : ∀ A, a9 = some A → A.block < lo := fun A hA => by
      obtain ⟨A1, hA1, e9⟩ := sliceV_blk s9 A hA
      rw [e9]
      exact hdl A1 hA1
    have l9 : ((D.drop 0).take (150 - 0)).length ≤ 150 := by simp; omega
    generalize (D.drop 0).take (150 - 0) = dk9 at *
    have lQ := lt_of_get gS
    simp (maxSteps:=9^7)(disch:=first|assumption|((try simp only[nX]);omega)|simp) [gS, c4', s9, -g6_4t]
    exact mid _ _ a9 c9 dk9 (by simp) (by simp) (by simp) (get_put_self lQ) (by rw [get_put_ne (by omega)]; exact gA3) (by rw [get_put_ne (by omega)]; exact gR3) (KQ.put (by omega) _) (by show lo ≤ Q.next; omega) (sees_put5 SB gS no_u8 rfl) (sees_put5 S9 gS no_u8 rfl) q9 l9 b9
end
end Go.Proofs.YtoiiphcbkejliaaGreat.Cd

/- Are two rows the same? -/
set_option maxRecDepth 1000000
set_option linter.unusedSimpArgs false
set_option linter.unusedVariables false
namespace Go.Proofs.YtoiiphcbkejliaaGreat.Cd
open Go Go.Dx
instance (x y : Itm) : Decidable (x = y) :=
  if h : x.k = y.k ∧ x.n = y.n then .isTrue (by cases x; cases y; simp_all) else .isFalse (fun e => h (by subst e; simp))
theorem eq_it (x y : Itm) : eqV (.agg [(0, 1, false, (.int .i64)), (1, 1, false, (.int .i64))]) (.agg (encIt.enc x).toArray) (.agg (encIt.enc y).toArray) = some (decide (x = y)) := by
  obtain ⟨a, b⟩ := x
  obtain ⟨a', b'⟩ := y
  simp only [eqV, eqAt, encIt, eqParts]
  by_cases h1 : a = a'
  · by_cases h2 : b = b'
    · simp [h1, h2]
    · simp [h1, h2]
  · simp [h1]
theorem same_it {h : Hp} {q : Value → Hp → Prop} {a a' : Option Addr} {c c' : Nat} {xs ys : List Itm} (hx : Sees encIt h a xs) (hy : Sees encIt h a' ys) (hb : xs.length < 2 ^ 40) (hq : q (.bool (decide (xs = ys))) h) : WC T n_48 [.slice a xs.length c, .slice a' ys.length c'] h q := by
  rw [w_48]
  by_cases hl : xs.length = ys.length
  case neg =>
    have hne : xs ≠ ys := fun e => hl (by rw [e])
    have hl' : ¬ ((xs.length : Int) = ys.length) := by omega
    simp (maxSteps:=9^7)(disch:=first|assumption|((try simp only[nX]);omega)|simp) [hl']
    simpa [hne] using hq
  simp (maxSteps:=9^7)(disch:=first|assumption|((try simp only[nX]);omega)|simp) [hl]
  refine G_loop (fun n e h' => ∃ us vs ws, n = vs.length ∧ h' = h ∧ xs = us ++ vs ∧ ys = us ++ ws ∧ e 0 = .slice a xs.length c ∧ e 1 = .slice a' ys.length c' ∧ e 5 = .int .i64 us.length) ?_ xs.length _ _ ⟨[], xs, ys, rfl, rfl, rfl, rfl, by simp [hl], by simp, by simp⟩
  rintro n ih e h' ⟨us, vs, ws, rfl, rfl, h1, h2, e0, e1, e5⟩
  cases vs with
  | nil =>
    have hw : ws = [] := by
      have h3 := hl
      rw [h1, h2] at h3
      simpa using h3
    subst hw
    have hxs : xs = us := by simpa using h1
    have hxy : xs = ys := by rw [h1, h2]
    have hll : us.length = xs.length := by rw [hxs]
    simp (maxSteps:=9^7)(disch:=first|assumption|((try simp only[nX]);omega)|simp) [e0, e5, hll]
    simpa [hxy] using hq
  | cons x vs =>
    cases ws with
    | nil =>
      have h3 := hl
      rw [h1, h2] at h3
      simp at h3
    | cons y ws =>
      have hlt : (us.length : Int) < xs.length := by rw [h1]; simp; omega
      have hlt' : (us.length : Int) < ys.length := by omega
      obtain ⟨A, hA, hr⟩ := Sees.mid (A := us) (x := x) (B := vs) (by rw [← h1]; exact hx)
      obtain ⟨A', hA', hr'⟩ := Sees.mid (A := us) (x := y) (B := ws) (by rw [← h2]; exact hy)
      have g1 : h'.rdn A.block (A.off + us.length * 2) 2 = some (encIt.enc x) := hr
      have g2 : h'.rdn A'.block (A'.off + us.length * 2) 2 = some (encIt.enc y) := hr'
      have he := eq_it x y
      by_cases hxy : x = y
      · simp [hxy] at he
        simp (maxSteps:=9^7)(disch:=first|assumption|((try simp only[nX]);omega)|simp) [e0, e1, e5, hlt, hlt', hA, hA', g1, g2, he, hxy]
        apply ih vs.length (by simp)
        refine ⟨us ++ [x], vs, ws, rfl, rfl, by simp [h1], by simp [h2, hxy], by simp [e0, hA], by simp [e1, hA'], by simp⟩
      · simp [hxy] at he
        have hne : xs ≠ ys := fun e => by rw [h1, h2] at e; simp [hxy] at e
        simp (maxSteps:=9^7)(disch:=first|assumption|((try simp only[nX]);omega)|simp) [e0, e1, e5, hlt, hlt', hA, hA', g1, g2, he]
        simpa [hne] using hq
end Go.Proofs.YtoiiphcbkejliaaGreat.Cd

/- Scripts that are the same; bytes that are read as the document says. -/
set_option maxRecDepth 1000000
set_option maxHeartbeats 8000000
set_option linter.unusedSimpArgs false
set_option linter.unusedVariables false
namespace Go.Proofs.YtoiiphcbkejliaaGreat.Cd
open Go Go.Dx
section
variable {h : Hp} {v w : Value} {x : Scr} {a : Option Addr} {b : By} {c : Nat}
theorem p_same (A : isSc h v x) (B : isSc h w x) : WC T n_4x [v, w] h fun u h' => u = .bool true ∧ Kp h h' := by
  obtain ⟨ai, ci, ad, cd, at', ct, rfl, F⟩ := A
  obtain ⟨bi, di, bd, dd, bt, dt, rfl, G⟩ := B
  rw [w_4x]
  simp (maxSteps:=9^7)(disch:=first|assumption|((try simp only[nX]);omega)|simp) [-g0_4x]
  generalize hP : Hp.push (Hp.push h _) _ = P
  have gA : P.get h.next = some (.cells false [.int .i64 x.p, .int .i64 x.m, .slice ai x.im.length ci, .slice ad x.dk.length cd, .slice at' x.it.length ct]) := by rw [← hP, get_push_ne (by simp only [push_next]; omega), get_push_self]
  have gB : P.get (h.next + 1) = some (.cells false [.int .i64 x.p, .int .i64 x.m, .slice bi x.im.length di, .slice bd x.dk.length dd, .slice bt x.it.length dt]) := by rw [← hP]; exact get_push_self (h := h.push _)
  have KP : Kp h P := by rw [← hP]; exact ((Kp.refl h).push _).push _
  clear hP
  have F' := F.kp KP
  have G' := G.kp KP
  have s1 := b2sV_sees (c := ci) F'.i
  have s2 := b2sV_sees (c := di) G'.i
  have s3 := b2sV_sees (c := cd) F'.d
  have s4 := b2sV_sees (c := dd) G'.d
  have hl := F.tl
  simp (maxSteps:=9^7)(disch:=first|assumption|((try simp only[nX]);omega)|simp) [gA, gB, s1, s2, s3, s4]
  refine GC_intro (same_it F'.t G'.t (by omega) (q := fun v h' => v = .bool true ∧ h' = P) (by simp)) fun v h1 ⟨hv, hh⟩ => ?_
  subst hv hh
  simp (maxSteps:=9^7)(disch:=first|assumption|((try simp only[nX]);omega)|simp) [KP]
theorem p_reads (S : Sees encB h a b) (hc : b.length ≤ c) (hl : b.length < 2 ^ 40) : WC T n_4v [.slice a b.length c] h fun v h' => v = .bool true ∧ Kp h h' := by
  rw [w_4v]
  simp (maxSteps:=9^7)(disch:=first|assumption|((try simp only[nX]);omega)|simp) [-g1_4v]
  refine GC_intro (s_dec S hc hl) fun v h1 ⟨hv, K1⟩ => ?_
  cases hp : prs b with
  | none =>
    rw [hp] at hv
    have hv' : v = .tuple #[.agg #[.int .i64 0, .int .i64 0, .slice none 0 0, .slice none 0 0, .slice none 0 0], .int .i64 12] := hv
    subst hv'
    simp (maxSteps:=9^7)(disch:=first|assumption|((try simp only[nX]);omega)|simp) [-g0_4v]
    generalize hQ : Hp.push h1 _ = Q
    have gQ : Q.get h1.next = some (.cells false [.int .i64 0, .int .i64 0, .slice none 0 0, .slice none 0 0, .slice none 0 0]) := by rw [← hQ]; exact get_push_self
    have KQ : Kp h Q := by rw [← hQ]; exact K1.push _
    clear hQ
    refine GC_intro (p_parse (S.kp KQ) hc hl) fun v h2 ⟨hv2, K2⟩ => ?_
    rw [hp] at hv2
    have hv' : v = .tuple #[.agg #[.int .i64 0, .int .i64 0, .slice none 0 0, .slice none 0 0, .slice none 0 0], .bool false] := hv2
    subst hv'
    have g2 := (K2.get _ (lt_of_get gQ)).trans gQ
    have l2 := lt_of_get g2
    have KQ2 := KQ.trans K2
    simp (maxSteps:=9^7)(disch:=first|assumption|((try simp only[nX]);omega)|simp) [-g0_4v]
    generalize hR : Hp.push h2 _ = R
    have gR : R.get h2.next = some (.cells false [.int .i64 0, .int .i64 0, .slice none 0 0, .slice none 0 0, .slice none 0 0]) := by rw [← hR]; exact get_push_self
    have KR : Kp h2 R := by rw [← hR]; exact (Kp.refl h2).push _
    clear hR
    have g3 := (KR.get _ l2).trans g2
    have z : ∀ {H : Hp}, isSc H (.agg #[.int .i64 0, .int .i64 0, .slice none 0 0, .slice none 0 0, .slice none 0 0]) ⟨0, 0, [], [], []⟩ := ⟨none, 0, none, 0, none, 0, rfl, .nul, .nul, .nul, by simp, by simp, by simp, by simp, by simp, by simp⟩
    have r1 := rdn_all (n := 5) g3 rfl
    have r2 := rdn_all (n := 5) gR rfl
    have KR' := KQ2.trans KR
    simp (maxSteps:=9^7)(disch:=first|assumption|((try simp only[nX]);omega)|simp) [r1, r2]
    refine GC_intro (p_same z z) fun v h3 ⟨hv, K3⟩ => ?_
    subst hv
    simp (maxSteps:=9^7)(disch:=first|assumption|((try simp only[nX]);omega)|simp) [KR'.trans K3]
  | some x =>
    rw [hp] at hv
    obtain ⟨v1, rfl, A1, _⟩ := hv
    have A1' := A1
    obtain ⟨ai, ci, ad, cd, at', ct, rfl, F⟩ := A1'
    simp (maxSteps:=9^7)(disch:=first|assumption|((try simp only[nX]);omega)|simp) [-g0_4v]
    generalize hQ : Hp.push h1 _ = Q
    have gQ : Q.get h1.next = some (.cells false [.int .i64 x.p, .int .i64 x.m, .slice ai x.im.length ci, .slice ad x.dk.length cd, .slice at' x.it.length ct]) := by rw [← hQ]; exact get_push_self
    have KQ : Kp h1 Q := by rw [← hQ]; exact (Kp.refl h1).push _
    clear hQ
    refine GC_intro (p_parse (S.kp (K1.trans KQ)) hc hl) fun v h2 ⟨hv2, K2⟩ => ?_
    rw [hp] at hv2
    obtain ⟨v2, rfl, A2, _⟩ := hv2
    have A2' := A2
    obtain ⟨bi, di, bd, dd, bt, dt, rfl, G⟩ := A2'
    have g2 := (K2.get _ (lt_of_get gQ)).trans gQ
    have l2 := lt_of_get g2
    simp (maxSteps:=9^7)(disch:=first|assumption|((try simp only[nX]);omega)|simp) [-g0_4v]
    generalize hR : Hp.push h2 _ = R
    have gR : R.get h2.next = some (.cells false [.int .i64 x.p, .int .i64 x.m, .slice bi x.im.length di, .slice bd x.dk.length dd, .slice bt x.it.length dt]) := by rw [← hR]; exact get_push_self
    have KR : Kp h2 R := by rw [← hR]; exact (Kp.refl h2).push _
    clear hR
    have g3 := (KR.get _ l2).trans g2
    have r1 := rdn_all (n := 5) g3 rfl
    have r2 := rdn_all (n := 5) gR rfl
    have KR' := ((K1.trans KQ).trans K2).trans KR
    simp (maxSteps:=9^7)(disch:=first|assumption|((try simp only[nX]);omega)|simp) [r1, r2]
    refine GC_intro (p_same (A1.kp ((KQ.trans K2).trans KR)) (A2.kp KR)) fun v h3 ⟨hv, K3⟩ => ?_
    subst hv
    simp (maxSteps:=9^7)(disch:=first|assumption|((try simp only[nX]);omega)|simp) [KR'.trans K3]
end
end Go.Proofs.YtoiiphcbkejliaaGreat.Cd

/- ShellCuts. -/
set_option maxRecDepth 1000000
set_option maxHeartbeats 8000000
set_option linter.unusedSimpArgs false
set_option linter.unusedVariables false
namespace Go.Proofs.YtoiiphcbkejliaaGreat.Cd
open Go Go.Dx
section
variable {h : Hp} {pg mo : Int} {tm : Bool} {L : List In7} {D : By} {I : List Itm} {al ad ai : Option Addr} {cl cd ci : Nat}
theorem sees_ne {α : Type} {E : Enc α} {h : Hp} {a : Option Addr} {xs : List α} {b : Nat} {o : Option Ob} (S : Sees E h a xs) (hb : ∀ A, a = some A → A.block ≠ b) : Sees E (h.put b o) a xs := ⟨S.nil, fun A hA => by
  rw [← S.get A hA]
  simp only [Hp.rdn, Hp.cells, get_put_ne (hb A hA)], S.sp⟩
end
end Go.Proofs.YtoiiphcbkejliaaGreat.Cd

/- Are two rows the same? -/
set_option maxRecDepth 1000000
set_option linter.unusedSimpArgs false
set_option linter.unusedVariables false
namespace Go.Proofs.YtoiiphcbkejliaaGreat.Cd
open Go Go.Dx
theorem same_by {h : Hp} {q : Value → Hp → Prop} {a a' : Option Addr} {c c' : Nat} {xs ys : List (BitVec 8)} (hx : Sees encB h a xs) (hy : Sees encB h a' ys) (hb : xs.length < 2 ^ 63) : WC T n_49 [.slice a xs.length c, .slice a' ys.length c'] h q ↔ q (.bool (decide (xs = ys))) h := by
  refine WC_iff ?_ q
  rw [w_49]
  by_cases hl : xs.length = ys.length
  case neg =>
    have hne : xs ≠ ys := fun e => hl (by rw [e])
    have hl' : ¬ ((xs.length : Int) = ys.length) := by omega
    simp (maxSteps:=9^7)(disch:=first|assumption|((try simp only[nX]);omega)|simp) [hl', hne]
  simp (maxSteps:=9^7)(disch:=first|assumption|((try simp only[nX]);omega)|simp) [hl]
  refine G_loop (fun n e h' => ∃ us vs ws, n = vs.length ∧ h' = h ∧ xs = us ++ vs ∧ ys = us ++ ws ∧ e 0 = .slice a xs.length c ∧ e 1 = .slice a' ys.length c' ∧ e 5 = .int .i64 us.length) ?_ xs.length _ _ ⟨[], xs, ys, rfl, rfl, rfl, rfl, by simp [hl], by simp, by simp⟩
  rintro n ih e h' ⟨us, vs, ws, rfl, rfl, h1, h2, e0, e1, e5⟩
  cases vs with
  | nil =>
    have hw : ws = [] := by
      have h3 := hl
      rw [h1, h2] at h3
      simpa using h3
    subst hw
    have hxs : xs = us := by simpa using h1
    have hxy : xs = ys := by rw [h1, h2]
    have hll : us.length = xs.length := by rw [hxs]
    simp (maxSteps:=9^7)(disch:=first|assumption|((try simp only[nX]);omega)|simp) [e0, e5, hll, hxy]
  | cons x vs =>
    cases ws with
    | nil =>
      have h3 := hl
      rw [h1, h2] at h3
      simp at h3
    | cons y ws =>
      have hlt : (us.length : Int) < xs.length := by rw [h1]; simp; omega
      have hlt' : (us.length : Int) < ys.length := by omega
      obtain ⟨A, ro, C, hA, g1, k1⟩ := Sees.cell (f := (fun x : BitVec 8 => u8 x)) (fun _ => rfl) rfl (us := us) (x := x) (vs := vs) (by rw [← h1]; exact hx)
      obtain ⟨A', ro', C', hA', g2, k2⟩ := Sees.cell (f := (fun x : BitVec 8 => u8 x)) (fun _ => rfl) rfl (us := us) (x := y) (vs := ws) (by rw [← h2]; exact hy)
      by_cases hxy : x = y
      · simp (maxSteps:=9^7)(disch:=first|assumption|((try simp only[nX]);omega)|simp) [e0, e1, e5, hlt, hlt', hA, hA', g1, g2, k1, k2, hxy]
        apply ih vs.length (by simp)
        refine ⟨us ++ [x], vs, ws, rfl, rfl, by simp [h1], by simp [h2, hxy], by simp [e0, hA], by simp [e1, hA'], by simp⟩
      · have hne : xs ≠ ys := fun e => by rw [h1, h2] at e; simp [hxy] at e
        simp (maxSteps:=9^7)(disch:=first|assumption|((try simp only[nX]);omega)|simp) [e0, e1, e5, hlt, hlt', hA, hA', g1, g2, k1, k2, hxy, hne]
end Go.Proofs.YtoiiphcbkejliaaGreat.Cd

/- Bytes with room behind them: made, and looked at again. -/
set_option maxRecDepth 1000000
set_option maxHeartbeats 8000000
set_option linter.unusedSimpArgs false
set_option linter.unusedVariables false
namespace Go.Proofs.YtoiiphcbkejliaaGreat.Cd
open Go Go.Dx
section
variable {h : Hp} {a a1 : Option Addr} {c cf : Nat} {L : By} {x : BitVec 8}
theorem roomy_b (S : Sees encB h a L) (hb : L.length < 2 ^ 40) : WC T n_47 [.slice a L.length c, u8 x] h fun v h' => ∃ b, v = .slice (some ⟨b, 0, none⟩) (L.length + 80) (L.length + 80) ∧ h'.get b = some (.cells false ((L ++ List.replicate 80 x).map u8)) ∧ Kp h h' := by
  rw [w_47]
  have hm : ∀ id : Nat, makeS id [.int .u8 0] 1 (.int .i64 ((L.length : Int) + 80)) (.int .i64 ((L.length : Int) + 80)) = some (.slice (some ⟨id, 0, none⟩) (L.length + 80) (L.length + 80), .cells false ((List.replicate (L.length + 80) 0#8).map u8)) := fun id => by
    simp only [makeS]
    rw [if_pos ⟨by omega, by omega, by omega, by omega⟩, show ((L.length : Int) + 80).toNat = L.length + 80 by omega]
    congr 3
    rw [List.map_replicate]
    have : ∀ n : Nat, (List.replicate n [Value.int .u8 0]).flatten = List.replicate n (u8 0#8) := fun n => by
      induction n with
      | zero => rfl
      | succ n ih => rw [List.replicate_succ, List.flatten_cons, ih]; rfl
    rw [this]
  have hm' : ∀ id : Nat, makeS id [u8 0#8] 1 (.int .i64 ((L.length : Int) + 80)) (.int .i64 ((L.length : Int) + 80)) = some (.slice (some ⟨id, 0, none⟩) (L.length + 80) (L.length + 80), .cells false ((List.replicate (L.length + 80) 0#8).map u8)) := hm
  simp (maxSteps:=9^7)(disch:=first|assumption|((try simp only[nX]);omega)|simp) [hm, hm', -List.reduceReplicate, -List.map_replicate, -g2_47]
  generalize hP : Hp.push h _ = P
  have gP : P.get h.next = some (.cells false ((List.replicate (L.length + 80) 0#8).map u8)) := by rw [← hP]; exact get_push_self
  have KP : Kp h P := by rw [← hP]; exact (Kp.refl h).push _
  clear hP
  have hc := cpy_in (c := L.length + 80) (c' := c) gP (S.kp KP) (a := 0) (by simp)
  have e0 : ovB (List.replicate (L.length + 80) 0#8) 0 L = L ++ List.replicate 80 0#8 := by simp [ovB]
  rw [e0, if_neg (by simp), List.length_replicate, Nat.sub_zero] at hc
  simp (maxSteps:=9^7)(disch:=first|assumption|((try simp only[nX]);omega)|simp) [hc, -List.reduceReplicate, -List.map_replicate]
  generalize hQ : Hp.put P _ _ = Q
  have gQ : Q.get h.next = some (.cells false ((L ++ List.replicate 80 0#8).map u8)) := by rw [← hQ, get_put_self (lt_of_get gP), List.map_append]
  have KQ : Kp h Q := by rw [← hQ]; exact KP.put (Nat.le_refl _) _
  clear hQ hc gP
  refine G_loop (fun m e h' => ∃ i : Nat, m = 80 - i ∧ i ≤ 80 ∧ e 1 = u8 x ∧ e 5 = .slice (some ⟨h.next, 0, none⟩) (L.length + 80) (L.length + 80) ∧ e 6 = .int .i64 (L.length + i : Nat) ∧ h'.get h.next = some (.cells false ((L ++ List.replicate i x ++ List.replicate (80 - i) 0#8).map u8)) ∧ Kp h h') ?_ 80 _ _
    ⟨0, rfl, by omega, by simp, by simp, by simp, by rw [gQ]; simp, KQ⟩
  rintro m ih e h' ⟨i, rfl, hi, e1, e5, e6, ga, K⟩
  obtain ⟨p, hp⟩ : ∃ p, p = L.length + i := ⟨_, rfl⟩
  rw [← hp] at e6
  have hlt := lt_of_get ga
  by_cases t : i < 80
  · have t' : (p : Int) < (L.length : Int) + 80 := by omega
    have hw : h'.wr h.next p [u8 x] = some (h'.put h.next (some (.cells false ((L ++ List.replicate (i + 1) x ++ List.replicate (80 - (i + 1)) 0#8).map u8)))) := by
      rw [wr_ok ga (by simp; omega) rfl, over_set (by simp; omega), ← List.map_set]
      congr 4
      rw [show 80 - i = (80 - (i + 1)) + 1 by omega, List.replicate_succ (n := 80 - (i + 1)), List.set_append_right _ _ (by simp; omega)]
      have : p - (L ++ List.replicate i x).length = 0 := by simp; omega
      rw [this, List.set_cons_zero, List.replicate_succ']
      simp
    simp (maxSteps:=9^7)(disch:=first|assumption|((try simp only[nX]);omega)|simp) [e1, e5, e6, t', hw, -Hp.wr, -over]
    apply ih (80 - (i + 1)) (by omega)
    exact ⟨i + 1, rfl, by omega, by simp [e1], by simp [e5], by simp; omega, by rw [get_put_self hlt, show 80 - (i + 1) = 79 - i by omega]; simp, K.put (Nat.le_refl _) _⟩
  · have : i = 80 := by omega
    subst this
    have t' : ¬ (p : Int) < (L.length : Int) + 80 := by omega
    simp (maxSteps:=9^7)(disch:=first|assumption|((try simp only[nX]);omega)|simp) [e5, e6, t']
    exact ⟨by rw [ga]; simp, K⟩
theorem intact_b (F : Sees encB h a1 (L ++ List.replicate 80 x)) (S : Sees encB h a L) (hcf : L.length + 80 ≤ cf) (hb : L.length < 2 ^ 39) : WC T n_46 [.slice a1 (L.length + 80) cf, .slice a L.length c, u8 x] h fun v h' => v = .bool true ∧ h' = h := by
  rw [w_46]
  obtain ⟨a3, c3, hsl, hc3, s3⟩ := F.part (c := cf) (lo := 0) (hi := L.length) (by omega) (by simp) (by simpa using hcf) (l := none) (u := some (.int .i64 L.length)) (.inl ⟨rfl, rfl⟩) (.inr ⟨_, rfl⟩)
  have e3 : ((L ++ List.replicate 80 x).drop 0).take (L.length - 0) = L := by simp
  rw [e3] at s3
  have hsl' : sliceV 1 (.slice a1 (L.length + 80) cf) none (some (.int .i64 L.length)) none = some (.slice a3 L.length c3) := by simpa using hsl
  simp (maxSteps:=9^7)(disch:=first|assumption|((try simp only[nX]);omega)|simp) [hsl', -g1_46]
  refine GC_intro ((same_by s3 S (by omega) (q := fun v h' => v = .bool true ∧ h' = h)).2 (by simp)) fun v h2 ⟨hv, hh⟩ => ?_
  subst hv hh
  simp (maxSteps:=9^7)(disch:=first|assumption|((try simp only[nX]);omega)|simp) [-g1_46]
  refine G_loop (fun m e h' => ∃ i : Nat, m = 80 - i ∧ i ≤ 80 ∧ h' = h2 ∧ e 0 = .slice a1 (L.length + 80) cf ∧ e 2 = u8 x ∧ e 7 = .int .i64 (L.length + i : Nat)) ?_ 80 _ _ ⟨0, rfl, by omega, rfl, by simp, by simp, by simp⟩
  rintro m ih e h' ⟨i, rfl, hi, rfl, e0, e2, e7⟩
  obtain ⟨p, hp⟩ : ∃ p, p = L.length + i := ⟨_, rfl⟩
  rw [← hp] at e7
  by_cases t : i < 80
  · obtain ⟨A, ro, C, rfl, hg, hC⟩ := Sees.cell (E := encB) (f := fun x => u8 x) (fun _ => rfl) rfl (us := L ++ List.replicate i x) (x := x) (vs := List.replicate (80 - (i + 1)) x) (by
      rw [show (L ++ List.replicate i x) ++ x :: List.replicate (80 - (i + 1)) x = L ++ List.replicate 80 x by
        rw [← List.replicate_succ, List.append_assoc, List.replicate_append_replicate, show i + (80 - (i + 1) + 1) = 80 by omega]]
      exact F)
    rw [show (L ++ List.replicate i x).length = p by simp [hp]] at hC
    have t' : (p : Int) < (L.length : Int) + 80 := by omega
    simp (maxSteps:=9^7)(disch:=first|assumption|((try simp only[nX]);omega)|simp) [e0, e2, e7, t', hg, hC]
    apply ih (80 - (i + 1)) (by omega)
    exact ⟨i + 1, rfl, by omega, rfl, by simp [e0], by simp [e2], by simp; omega⟩
  · have t' : ¬ (p : Int) < (L.length : Int) + 80 := by omega
    simp (maxSteps:=9^7)(disch:=first|assumption|((try simp only[nX]);omega)|simp) [e0, e2, e7, t']
end
end Go.Proofs.YtoiiphcbkejliaaGreat.Cd

/- ShellReads. -/
set_option maxRecDepth 1000000
set_option maxHeartbeats 8000000
set_option linter.unusedSimpArgs false
set_option linter.unusedVariables false
namespace Go.Proofs.YtoiiphcbkejliaaGreat.Cd
open Go Go.Dx
section
variable {h : Hp} {pg mo : Int} {tm : Bool} {L : List In7} {D : By} {I : List Itm} {al ad ai : Option Addr} {cl cd ci : Nat}
/-- One byte of a row of one's own is turned. -/
theorem own_set {H : Hp} {v : Value} {B : By} {fp : List Nat} (O : Own encB H v B fp) {z : Nat} (hz : z < B.length) (w : BitVec 8) : ∃ b c r, v = .slice (some ⟨b, 0, some 1⟩) B.length c ∧ fp = [b] ∧ H.get b = some (.cells false (B.map u8 ++ r)) ∧ H.wr b z [u8 w] = some (H.put b (some (.cells false ((B.set z w).map u8 ++ r)))) ∧ Own encB (H.put b (some (.cells false ((B.set z w).map u8 ++ r)))) v (B.set z w) [b] := by
  cases O with
  | nul => simp at hz
  | emp hg => simp at hz
  | blk hg hn hc h0 hr =>
    rename_i b n c r
    subst hn
    rw [encB_all] at hg
    refine ⟨b, c, r, rfl, rfl, hg, ?_, ?_⟩
    · rw [wr_ok hg (by simp; omega) rfl, over_set (by simp; omega), List.set_append_left _ _ (by simpa using hz), ← List.map_set]
    · exact .blk (E := encB) (r := r) (by rw [get_put_self (lt_of_get hg), encB_all]) (by simp) hc h0 (by simpa using hr)
theorem sreads (SL : Sees encI7 h al L) (hL : L.length < 2 ^ 63) (SD : Sees encB h ad D) (hD : D.length < 2 ^ 63) (qD : D.length ≤ cd) (SI : Sees encIt h ai I) (hI : I.length < 2 ^ 63) {M : By} {am : Option Addr} {cm : Nat} (SM : Sees encB h am M) (qM : M.length ≤ cm) (hM : M.length < 2 ^ 63) {at0 : Int} {turn : BitVec 8} :
    WC T n_4o [.agg #[.int .i64 pg, .int .i64 mo, .slice al L.length cl, .slice ad D.length cd, .slice ai I.length ci, .bool tm], .slice am M.length cm, .int .i64 at0, u8 turn] h fun v h' => v = .bool true := by
  rw [w_4o]
  simp (maxSteps:=9^7)(disch:=first|assumption|((try simp only[nX]);omega)|simp) [-g4_4o]
  generalize hP : Hp.push h _ = P
  have KP : Kp h P := by rw [← hP]; exact (Kp.refl h).push _
  clear hP
  refine GC_intro (p_made (SL.kp KP) hL (SD.kp KP) hD qD (SI.kp KP) hI) fun v h1 ⟨s, M1⟩ => ?_
  have lens : s.im.length ≤ 3072 ∧ s.dk.length ≤ 150 ∧ s.it.length ≤ 30 := by
    obtain ⟨_, _, _, _, _, _, _, _, _, _, _, _, _, _, _, l1, l2, l3, _⟩ := M1
    exact ⟨l1, l2, l3⟩
  have K1 := KP.trans M1.kp
  obtain ⟨ai', ci', ad', cd', at', ct', rfl, F⟩ := M1.sc
  simp (maxSteps:=9^7)(disch:=first|assumption|((try simp only[nX]);omega)|simp) [-g4_4o]
  generalize hQ : Hp.push h1 _ = Q
  have gQ : Q.get h1.next = some (.cells false [.int .i64 s.p, .int .i64 s.m, .slice ai' s.im.length ci', .slice ad' s.dk.length cd', .slice at' s.it.length ct']) := by rw [← hQ]; exact get_push_self
  have KQ : Kp h1 Q := by rw [← hQ]; exact (Kp.refl h1).push _
  clear hQ
  have lQ := lt_of_get gQ
  -- what is asked of bytes, whatever they are
  have tail : ∀ (e : Env) (H : Hp) (Y M' : By) (b : Nat) (a2 am' : Option Addr) (c2 cm' : Nat), e 1 = .slice am' M'.length cm' → e 10 = .slice a2 Y.length c2 → e 11 = .slice (some ⟨b, 0, none⟩) (Y.length + 80) (Y.length + 80) → Sees encB H (some ⟨b, 0, none⟩) (Y ++ List.replicate 80 165#8) → Sees encB H a2 Y → Y.length < 2 ^ 38 → Kp h H → Sees encB h am' M' ∨ Sees encB H am' M' → M'.length ≤ cm' → M'.length ≤ 100 → G T (fin [RV.t 8] (some []) h.next fun v h' => v = .bool true) c1_4o [] e H := by
    intro e h3 Y M' b a2 am' c2 cm' e1 e10 e11 SF S3 l2 K03 SM0 qM' hM'
    have SM' : Sees encB h3 am' M' := SM0.elim (fun x => x.kp K03) id
    obtain ⟨a4, c4, s4, q4, S4⟩ := part_b SF (c := Y.length + 80) (by simp) (lo := 0) (hi := Y.length) (by omega) (by simp) (l := none) (u := some (.int .i64 Y.length)) (.inl ⟨rfl, rfl⟩) (.inr ⟨_, rfl⟩)
    have e4 : ((Y ++ List.replicate 80 165#8).drop 0).take (Y.length - 0) = Y := by simp
    rw [e4] at s4 q4 S4
    rw [show (Y ++ List.replicate 80 165#8).length = Y.length + 80 by simp] at s4
    simp (maxSteps:=9^7)(disch:=first|assumption|((try simp only[nX]);omega)|simp) [e1, e10, e11, s4]
    refine GC_intro (p_reads S4 q4 (by omega)) fun v5 h5 ⟨hv, K5⟩ => ?_
    subst hv
    simp (maxSteps:=9^7)(disch:=first|assumption|((try simp only[nX]);omega)|simp) [e1, e10, e11]
    refine GC_intro (p_reads (SM'.kp K5) qM' (by omega)) fun v6 h6 ⟨hv, K6⟩ => ?_
    subst hv
    have K36 := K5.trans K6
    simp (maxSteps:=9^7)(disch:=first|assumption|((try simp only[nX]);omega)|simp) [e10, e11]
    refine GC_intro (intact_b (x := 165#8) (L := Y) (cf := Y.length + 80) (SF.kp K36) (S3.kp K36) (Nat.le_refl _) (by omega)) fun v7 h7 ⟨hv, hh⟩ => ?_
    subst hv hh
    simp (maxSteps:=9^7)(disch:=first|assumption|((try simp only[nX]);omega)|simp) [GC_of (fun q => p_known (q := q)), GCI_of (fun q => p_known (q := q))]
  have rest : ∀ (e : Env) (H : Hp) (yv : Value) (ys : By) (fp : List Nat), e 1 = .slice am M.length cm → e 10 = yv → Own encB H yv ys fp → (∀ b ∈ fp, h.next ≤ b) → ys.length < 2 ^ 37 → Kp h H → G T (fin [RV.t 8] (some []) h.next fun v h' => v = .bool true) c2_4o [] e H := by
    intro e H yv ys fp e1 e10 O hfp hys K
    subst e10
    have SM' := SM.kp K
    by_cases c8 : M.length ≤ 100
    · have c8' : ¬ (100 : Int) < M.length := by omega
      simp (maxSteps:=9^7)(disch:=first|assumption|((try simp only[nX]);omega)|simp) [e1, c8']
      refine GV_app (E := encB) (bytes := 1) O SM' rfl (by omega) (by omega) fun v2 h2 f2 O2 U2 => ?_
      have K2 : Kp h h2 := U2.kp' K hfp
      obtain ⟨a2, c2, rfl, S2, q2, _⟩ := O2.len
      have l2 : (ys ++ M).length < 2 ^ 38 := by simp; omega
      generalize ys ++ M = Y at *
      simp (maxSteps:=9^7)(disch:=first|assumption|((try simp only[nX]);omega)|simp) [-g1_4o]
      refine GC_intro (roomy_b (x := 165#8) S2 (by omega)) fun v3 h3 ⟨b, hv, gb, K3⟩ => ?_
      subst hv
      simp (maxSteps:=9^7)(disch:=first|assumption|((try simp only[nX]);omega)|simp) [-g1_4o]
      refine tail _ h3 Y M b a2 am c2 cm ?_ ?_ ?_ (sees_b gb) (S2.kp K3) l2 (K2.trans K3) (.inl SM) qM c8
      · simp [e1]
      · simp
      · simp
    · have c8' : (100 : Int) < M.length := by omega
      obtain ⟨a5, c5, s5, q5, S5⟩ := part_b SM qM (lo := 0) (hi := 100) (by omega) (by omega) (l := none) (u := some (.int .i64 100)) (.inl ⟨rfl, rfl⟩) (.inr ⟨_, rfl⟩)
      have l5 : ((M.drop 0).take (100 - 0)).length ≤ 100 := by simp; omega
      generalize (M.drop 0).take (100 - 0) = M5 at *
      simp (maxSteps:=9^7)(disch:=first|assumption|((try simp only[nX]);omega)|simp) [e1, c8', s5]
      refine GV_app (E := encB) (bytes := 1) O (S5.kp K) rfl (by omega) (by omega) fun v2 h2 f2 O2 U2 => ?_
      have K2 : Kp h h2 := U2.kp' K hfp
      obtain ⟨a2, c2, rfl, S2, q2, _⟩ := O2.len
      have l2 : (ys ++ M5).length < 2 ^ 38 := by simp; omega
      generalize ys ++ M5 = Y at *
      simp (maxSteps:=9^7)(disch:=first|assumption|((try simp only[nX]);omega)|simp) [-g1_4o]
      refine GC_intro (roomy_b (x := 165#8) S2 (by omega)) fun v3 h3 ⟨b, hv, gb, K3⟩ => ?_
      subst hv
      simp (maxSteps:=9^7)(disch:=first|assumption|((try simp only[nX]);omega)|simp) [-g1_4o]
      refine tail _ h3 Y M5 b a2 a5 c2 c5 ?_ ?_ ?_ (sees_b gb) (S2.kp K3) l2 (K2.trans K3) (.inl S5) q5 l5
      · simp
      · simp
      · simp
  have go : ∀ (e : Env) (H : Hp) (x : Scr) (a9 : Option Addr) (c9 : Nat), e 1 = .slice am M.length cm → e 2 = .int .i64 at0 → e 3 = u8 turn → e 9 = ptr h1.next 0 → e 10 = .slice none 0 0 → H.get h1.next = some (.cells false [.int .i64 x.p, .int .i64 x.m, .slice a9 x.im.length c9, .slice ad' x.dk.length cd', .slice at' x.it.length ct']) → ScF H x a9 ad' at' c9 cd' ct' → Kp h H → G T (fin [RV.t 8] (some []) h.next fun v h' => v = .bool true) c3_4o [] e H := by
    intro e H x a9 c9 e1 e2 e3 e9 e10 gH FH KH
    have lH := lt_of_get gH
    have r5 := rdn_all (n := 5) gH rfl
    have sc : ∀ {H' : Hp}, Kp H H' → isSc H' (.agg #[.int .i64 x.p, .int .i64 x.m, .slice a9 x.im.length c9, .slice ad' x.dk.length cd', .slice at' x.it.length ct']) x := fun K => ⟨a9, c9, ad', cd', at', ct', rfl, FH.kp K⟩
    simp (maxSteps:=9^7)(disch:=first|assumption|((try simp only[nX]);omega)|simp) [e9, r5, -g2_4o]
    refine GC_intro (p_right (sc (.refl _))) fun v h3 ⟨hv, K3⟩ => ?_
    subst hv
    have g3 := (K3.get _ lH).trans gH
    have r53 := rdn_all (n := 5) g3 rfl
    have KH3 := KH.trans K3
    by_cases hr : rgt x = 0
    case neg =>
      simp (maxSteps:=9^7)(disch:=first|assumption|((try simp only[nX]);omega)|simp) [hr, -g2_4o]
      refine rest _ h3 _ [] [] ?_ ?_ .nul (by simp) (by simp) KH3
      · simp [e1]
      · simp [e10]
    simp (maxSteps:=9^7)(disch:=first|assumption|((try simp only[nX]);omega)|simp) [hr, e9, r53, -g2_4o]
    refine GC_intro (p_written (sc K3)) fun v h4 ⟨K4, fp, O, hfp⟩ => ?_
    have wl := wri_len x
    have hil := FH.il
    have hdl := FH.dl
    have wll : (wri x).length < 2 ^ 36 := by
      have := wr_len x.it
      have := FH.tl
      rw [show wri x = [b8 x.p, b8 x.m] ++ by2 x.im.length ++ x.im ++ by2 x.dk.length ++ x.dk ++ x.it.flatMap wrI from rfl, List.length_append]
      simp [by2]
      simp at *
      omega
    have hfp4 : ∀ b ∈ fp, h.next ≤ b := fun b hb => by have := hfp b hb; have := KH3.le; omega
    have K04 := KH3.trans K4
    have hw := fun h q => within_eq (h := h) (n := at0) (lo := 0) (hi := ((wri x).length : Int) - 1) (q := q) (by omega) (by omega) (by omega)
    obtain ⟨w1, w2⟩ := wi_bound (n := at0) (lo := 0) (hi := ((wri x).length : Int) - 1) (by omega)
    obtain ⟨z, hz⟩ : ∃ z : Nat, wi at0 0 (((wri x).length : Int) - 1) = z := ⟨_, (Int.toNat_of_nonneg w1).symm⟩
    simp only [hz] at hw w1 w2
    have hzl : z < (wri x).length := by omega
    obtain ⟨ob, oc, orr, rfl, hfe, og, _, _⟩ := own_set O hzl 0#8
    obtain ⟨_, _, _, heq, _, _, ow, oo⟩ := own_set O hzl ((wri x)[z] ^^^ turn)
    cases heq
    have hzi : (z : Int) < (wri x).length := by omega
    have hget : ((wri x).map u8 ++ orr)[z]? = some (u8 ((wri x)[z])) := by
      rw [List.getElem?_append_left (by simpa using hzl)]
      simp [hzl]
    obtain ⟨C, hC⟩ : ∃ C, C = (wri x).map u8 ++ orr := ⟨_, rfl⟩
    rw [← hC] at og hget
    have lo4 := lt_of_get og
    have e1' : ((wri x).set z ((wri x)[z] ^^^ turn)).length = (wri x).length := by simp
    obtain ⟨w0, hw0⟩ : ∃ w0, w0 = (wri x)[z] := ⟨_, rfl⟩
    rw [← hw0] at hget ow oo e1'
    generalize hH : Hp.put h4 ob _ = H5 at ow oo
    have K5 : Kp h H5 := by
      rw [← hH]
      exact K04.put (hfp4 ob (by rw [hfe]; simp)) _
    clear hH
    clear hw0
    generalize hY : (wri x).set z (w0 ^^^ turn) = Y at *
    generalize hm : (wri x).length = m at *
    simp (maxSteps:=9^7)(disch:=first|assumption|((try simp only[nX]);omega)|simp) [e2, e3, GC_of (hw _), hzi, og, hget, ow, -Hp.wr, -g2_4o]
    refine rest _ H5 _ Y [ob] ?_ ?_ oo (fun b hb => hfp4 b (by rw [hfe]; exact hb)) (by omega) K5
    · simp [e1]
    · simp
  have KhQ := K1.trans KQ
  have FQ := F.kp KQ
  by_cases c6 : s.im.length ≤ 60
  · have c6' : ¬ (60 : Int) < s.im.length := by omega
    obtain ⟨a9, c9, s9, q9, S9⟩ := part_b FQ.i FQ.ic (lo := 0) (hi := s.im.length) (by omega) (by omega) (l := none) (u := some (.int .i64 s.im.length)) (.inl ⟨rfl, rfl⟩) (.inr ⟨_, rfl⟩)
    have e9 : (s.im.drop 0).take (s.im.length - 0) = s.im := by simp
    rw [e9] at s9 q9 S9
    simp (maxSteps:=9^7)(disch:=first|assumption|((try simp only[nX]);omega)|simp) [gQ, c6', s9, -g3_4o]
    refine go _ _ s a9 c9 ?_ ?_ ?_ ?_ ?_ (get_put_self lQ) ⟨sees_put5 S9 gQ no_u8 rfl, sees_put5 FQ.d gQ no_u8 rfl, sees_ne FQ.t ?_, q9, FQ.dc, FQ.tc, FQ.il, FQ.dl, FQ.tl⟩ (KhQ.put (by have := K1.le; omega) _)
    · simp
    · simp
    · simp
    · simp
    · simp
    · intro A hA
      have := sees_lt F.t A hA
      omega
  · have c6' : (60 : Int) < s.im.length := by omega
    obtain ⟨a9, c9, s9, q9, S9⟩ := part_b FQ.i FQ.ic (lo := 0) (hi := 60) (by omega) (by omega) (l := none) (u := some (.int .i64 60)) (.inl ⟨rfl, rfl⟩) (.inr ⟨_, rfl⟩)
    have l9 : ((s.im.drop 0).take (60 - 0)).length < 2 ^ 30 := by simp; omega
    obtain ⟨im9, him⟩ : ∃ im9, im9 = (s.im.drop 0).take (60 - 0) := ⟨_, rfl⟩
    rw [← him] at s9 q9 S9 l9
    simp (maxSteps:=9^7)(disch:=first|assumption|((try simp only[nX]);omega)|simp) [gQ, c6', s9, -g3_4o]
    refine go _ _ { s with im := im9 } a9 c9 ?_ ?_ ?_ ?_ ?_ (get_put_self lQ) ⟨sees_put5 S9 gQ no_u8 rfl, sees_put5 FQ.d gQ no_u8 rfl, sees_ne FQ.t ?_, q9, FQ.dc, FQ.tc, l9, FQ.dl, FQ.tl⟩ (KhQ.put (by have := K1.le; omega) _)
    · simp
    · simp
    · simp
    · simp
    · simp
    · intro A hA
      have := sees_lt F.t A hA
      omega
end
end Go.Proofs.YtoiiphcbkejliaaGreat.Cd
