/- Texts of one kind, one behind the other. -/
import Derived.Test.YtmgoleiafiffoaaGreatMeBlockTells3
import Derived.Test.YtmgoleiafiffoaaGreatMeBlockTells1
import Derived.Test.YtmgoleiafiffoaaGreatMeBlockTells4
/- The document's words of instructions, as they are drawn: that they come. -/
set_option maxRecDepth 1000000
set_option maxHeartbeats 8000000
set_option linter.unusedSimpArgs false
set_option linter.unusedVariables false
namespace Go.Proofs.YtmgoleiafiffoaaGreat.Cd
open Go Go.Dx
def isT (v : Value) : Prop := ∃ (w : BitVec 32) (t : Bool), v = .tuple #[u32 w, .bool t]
@[simp] theorem isT_t (w : BitVec 32) (t : Bool) : isT (.tuple #[u32 w, .bool t]) := ⟨w, t, rfl⟩
section
variable {h : Hp} {q : Value → Hp → Prop} {i : Ins}
theorem r_right : WC T n_35 [.agg (encIns.enc i).toArray] h fun v h' => isB v ∧ Kp h h' := by
  rw [w_35]
  simp (maxSteps:=9^7)(disch:=first|assumption|((try simp only[nX]);omega)|simp) [encIns]
  generalize hP : Hp.push h _ = P
  have gP : P.get h.next = some (.cells false [.int .i64 i.k, .int .i64 i.s, .int .i64 i.t, .int .i64 i.d, .int .i64 i.sh, u32 i.imm]) := by rw [← hP]; exact get_push_self
  have KP : Kp h P := by rw [← hP]; exact (Kp.refl h).push _
  clear hP
  refine GC_intro r_find fun v h1 ⟨⟨r, t, hf, hv⟩, K1⟩ => ?_
  subst hv
  have g1 := (K1.get _ (lt_of_get gP)).trans gP
  have K0 := KP.trans K1
  have l1 := lt_of_get g1
  clear K1 KP gP
  cases t with
  | false => simp (maxSteps:=9^7)(disch:=first|assumption|((try simp only[nX]);omega)|simp) [encRw]
  | true =>
  simp (maxSteps:=9^7)(disch:=first|assumption|((try simp only[nX]);omega)|simp) [encRw]
  refine GC_intro (r_has hf) fun v h2 ⟨⟨t1, hv⟩, hh⟩ => ?_
  subst hv hh
  have most : ∀ e : Env, e 1 = ptr h.next 0 → e 5 = .string r.f → isW (e 6) → G T (fin [RV.t 2] (some []) h.next fun v h' => isB v ∧ Kp h h') c0_35 [] e (h1.push (.cells false [.int .i64 r.op, .int .i64 r.sub, .int .i64 r.k, .string r.f])) := fun e e1 e5 ⟨mo, e6⟩ => by
    have K2 := K0.push (.cells false [.int .i64 r.op, .int .i64 r.sub, .int .i64 r.k, .string r.f])
    have g2 := (get_push_ne (h := h1) (o := .cells false [.int .i64 r.op, .int .i64 r.sub, .int .i64 r.k, .string r.f]) (b := h.next) (by omega)).trans g1
    generalize h1.push (.cells false [.int .i64 r.op, .int .i64 r.sub, .int .i64 r.k, .string r.f]) = h2 at *
    simp (maxSteps:=9^7)(disch:=first|assumption|((try simp only[nX]);omega)|simp) [e1, e5, g2]
    refine GCI_intro (r_has hf) fun v h3 ⟨⟨t2, hv⟩, hh⟩ => ?_
    subst hv hh
    simp (maxSteps:=9^7)(disch:=first|assumption|((try simp only[nX]);omega)|simp) [e1, e5, g2]
    refine GCI_intro r_small fun v h4 ⟨⟨t3, hv⟩, hh⟩ => ?_
    subst hv hh
    cases t3 with
    | false => simp (maxSteps:=9^7)(disch:=first|assumption|((try simp only[nX]);omega)|simp) [e1, e5, g2, K2]
    | true =>
    simp (maxSteps:=9^7)(disch:=first|assumption|((try simp only[nX]);omega)|simp) [e1, e5, g2]
    refine GCI_intro (r_has hf) fun v h3 ⟨⟨t2, hv⟩, hh⟩ => ?_
    subst hv hh
    simp (maxSteps:=9^7)(disch:=first|assumption|((try simp only[nX]);omega)|simp) [e1, e5, g2]
    refine GCI_intro r_small fun v h4 ⟨⟨t3, hv⟩, hh⟩ => ?_
    subst hv hh
    cases t3 with
    | false => simp (maxSteps:=9^7)(disch:=first|assumption|((try simp only[nX]);omega)|simp) [e1, e5, g2, K2]
    | true =>
    simp (maxSteps:=9^7)(disch:=first|assumption|((try simp only[nX]);omega)|simp) [e1, e5, g2]
    refine GCI_intro (r_has hf) fun v h3 ⟨⟨t2, hv⟩, hh⟩ => ?_
    subst hv hh
    simp (maxSteps:=9^7)(disch:=first|assumption|((try simp only[nX]);omega)|simp) [e1, e5, g2]
    refine GCI_intro r_small fun v h4 ⟨⟨t3, hv⟩, hh⟩ => ?_
    subst hv hh
    cases t3 with
    | false => simp (maxSteps:=9^7)(disch:=first|assumption|((try simp only[nX]);omega)|simp) [e1, e5, g2, K2]
    | true =>
    simp (maxSteps:=9^7)(disch:=first|assumption|((try simp only[nX]);omega)|simp) [e1, e5, g2]
    refine GCI_intro (r_has hf) fun v h3 ⟨⟨t2, hv⟩, hh⟩ => ?_
    subst hv hh
    simp (maxSteps:=9^7)(disch:=first|assumption|((try simp only[nX]);omega)|simp) [e1, e5, g2]
    refine GCI_intro r_small fun v h4 ⟨⟨t3, hv⟩, hh⟩ => ?_
    subst hv hh
    cases t3 with
    | false => simp (maxSteps:=9^7)(disch:=first|assumption|((try simp only[nX]);omega)|simp) [e1, e5, g2, K2]
    | true => simp (maxSteps:=9^7)(disch:=first|assumption|((try simp only[nX]);omega)|simp) [e1, e5, e6, g2, K2]
  cases t1 with
  | true =>
    simp (maxSteps:=9^7)(disch:=first|assumption|((try simp only[nX]);omega)|simp) [-g0_35]
    exact most _ (by simp) (by simp) (by simp)
  | false =>
    simp (maxSteps:=9^7)(disch:=first|assumption|((try simp only[nX]);omega)|simp) [-g0_35]
    refine GC_intro (r_has hf) fun v h2 ⟨⟨t1, hv⟩, hh⟩ => ?_
    subst hv hh
    cases t1 with
    | true =>
      simp (maxSteps:=9^7)(disch:=first|assumption|((try simp only[nX]);omega)|simp) [-g0_35]
      exact most _ (by simp) (by simp) (by simp)
    | false =>
      simp (maxSteps:=9^7)(disch:=first|assumption|((try simp only[nX]);omega)|simp) [-g0_35]
      exact most _ (by simp) (by simp) (by simp)
theorem r_word : WC T n_36 [.agg (encIns.enc i).toArray] h fun v h' => isT v ∧ Kp h h' := by
  rw [w_36]
  simp (maxSteps:=9^7)(disch:=first|assumption|((try simp only[nX]);omega)|simp) [encIns]
  generalize hP : Hp.push h _ = P
  have gP : P.get h.next = some (.cells false [.int .i64 i.k, .int .i64 i.s, .int .i64 i.t, .int .i64 i.d, .int .i64 i.sh, u32 i.imm]) := by rw [← hP]; exact get_push_self
  have KP : Kp h P := by rw [← hP]; exact (Kp.refl h).push _
  clear hP
  have hr := fun h => r_right (h := h) (i := i)
  simp only [encIns] at hr
  refine GC_intro (hr _) fun v h1 ⟨⟨t, hv⟩, K1⟩ => ?_
  subst hv
  have g1 := (K1.get _ (lt_of_get gP)).trans gP
  have K0 := KP.trans K1
  clear K1 KP gP
  cases t with
  | false => simp (maxSteps:=9^7)(disch:=first|assumption|((try simp only[nX]);omega)|simp) [K0]
  | true =>
  simp (maxSteps:=9^7)(disch:=first|assumption|((try simp only[nX]);omega)|simp) [g1]
  refine GC_intro r_find fun v h2 ⟨⟨r, t, hf, hv⟩, K2⟩ => ?_
  subst hv
  have g2 := (K2.get _ (lt_of_get g1)).trans g1
  have K0 := K0.trans K2
  have l2 := lt_of_get g2
  clear K2 g1
  by_cases c1 : r.op = 0
  · simp (maxSteps:=9^7)(disch:=first|assumption|((try simp only[nX]);omega)|simp) [encRw, g2, c1, K0]
  by_cases c2 : r.op = 28
  · simp (maxSteps:=9^7)(disch:=first|assumption|((try simp only[nX]);omega)|simp) [encRw, g2, c1, c2, K0]
  by_cases c3 : r.op = 1
  · simp (maxSteps:=9^7)(disch:=first|assumption|((try simp only[nX]);omega)|simp) [encRw, g2, c1, c2, c3, K0]
  by_cases c4 : r.op = 16
  · by_cases c5 : 64 ≤ r.sub
    · simp (maxSteps:=9^7)(disch:=first|assumption|((try simp only[nX]);omega)|simp) [encRw, g2, c1, c2, c3, c4, c5, K0]
    · simp (maxSteps:=9^7)(disch:=first|assumption|((try simp only[nX]);omega)|simp) [encRw, g2, c1, c2, c3, c4, c5, K0]
  · simp (maxSteps:=9^7)(disch:=first|assumption|((try simp only[nX]);omega)|simp) [encRw, g2, c1, c2, c3, c4, K0]
theorem k_word : WC T n_1l [.agg (encIns.enc i).toArray] h fun v h' => isW v ∧ Kp h h' := by
  rw [w_1l]
  simp (maxSteps:=9^7)(disch:=first|assumption|((try simp only[nX]);omega)|simp) [encIns]
  generalize hP : Hp.push h _ = P
  have KP : Kp h P := by rw [← hP]; exact (Kp.refl h).push _
  clear hP
  have hr := fun h => r_word (h := h) (i := i)
  simp only [encIns] at hr
  refine GC_intro (hr _) fun v h1 ⟨⟨w, t, hv⟩, K1⟩ => ?_
  subst hv
  simp (maxSteps:=9^7)(disch:=first|assumption|((try simp only[nX]);omega)|simp)
  exact KP.trans K1
theorem k_near {n : Int} : WC T n_1i [.int .i64 n] h fun v h' => (∃ m : Int, v = .int .i64 m) ∧ h' = h := by
  have hw := fun q => within_eq (h := h) (q := q) (n := n) (lo := 0) (hi := 1048576) (by omega) (by omega) (by omega)
  obtain ⟨w1, w2⟩ := wi_bound (n := n) (lo := 0) (hi := 1048576) (by omega)
  rw [w_1i]
  simp (maxSteps:=9^7)(disch:=first|assumption|((try simp only[nX]);omega)|simp) [GC_of hw]
theorem k_only {f : Int} : WC T n_1j [.agg (encIns.enc i).toArray, .int .i64 f] h fun v h' => isI v ∧ Kp h h' := by
  rw [w_1j]
  by_cases c0 : f = 0
  · simp (maxSteps:=9^7)(disch:=first|assumption|((try simp only[nX]);omega)|simp) [encIns, c0]
  by_cases c1 : f = 1
  · simp (maxSteps:=9^7)(disch:=first|assumption|((try simp only[nX]);omega)|simp) [encIns, c0, c1]
  by_cases c2 : f = 2
  · simp (maxSteps:=9^7)(disch:=first|assumption|((try simp only[nX]);omega)|simp) [encIns, c0, c1, c2]
  by_cases c3 : f = 3
  · simp (maxSteps:=9^7)(disch:=first|assumption|((try simp only[nX]);omega)|simp) [encIns, c0, c1, c2, c3]
  by_cases c4 : f = 4
  · simp (maxSteps:=9^7)(disch:=first|assumption|((try simp only[nX]);omega)|simp) [encIns, c0, c1, c2, c3, c4]
  · simp (maxSteps:=9^7)(disch:=first|assumption|((try simp only[nX]);omega)|simp) [encIns, c0, c1, c2, c3, c4]
/-- An instruction as it is drawn. -/
structure In7 where
  k : Int
  s : Int
  t : Int
  d : Int
  sh : Int
  imm : BitVec 32
  raw : BitVec 32
def encI7 : Enc In7 := ⟨7, fun x => [.int .i64 x.k, .int .i64 x.s, .int .i64 x.t, .int .i64 x.d, .int .i64 x.sh, u32 x.imm, u32 x.raw], fun _ => rfl, fun _ => rfl, by decide⟩
@[simp] theorem encI7_sz : encI7.sz = 7 := rfl
theorem k_inst {x : In7} {kind : Int} : WC T n_1g [.agg (encI7.enc x).toArray, .int .i64 kind] h fun v h' => isI v ∧ Kp h h' := by
  have hw := fun h q => within_eq (h := h) (q := q) (n := x.sh) (lo := 0) (hi := 31) (by omega) (by omega) (by omega)
  rw [w_1g]
  simp (maxSteps:=9^7)(disch:=first|assumption|((try simp only[nX]);omega)|simp) [encI7]
  refine GCI_intro k_near fun v h1 ⟨⟨m1, hv⟩, hh⟩ => ?_
  subst hv hh
  simp (maxSteps:=9^7)(disch:=first|assumption|((try simp only[nX]);omega)|simp) []
  refine GCI_intro k_near fun v h1 ⟨⟨m2, hv⟩, hh⟩ => ?_
  subst hv hh
  simp (maxSteps:=9^7)(disch:=first|assumption|((try simp only[nX]);omega)|simp) []
  refine GCI_intro k_near fun v h1 ⟨⟨m3, hv⟩, hh⟩ => ?_
  subst hv hh
  simp (maxSteps:=9^7)(disch:=first|assumption|((try simp only[nX]);omega)|simp) [GCI_of (hw _)]
  generalize hP : Hp.push (Hp.push (Hp.push h _) _) _ = P
  have KP : Kp h P := by rw [← hP]; exact (((Kp.refl h).push _).push _).push _
  have g4 : P.get (h.next + 1) = some (.cells false [.int .i64 0, .int .i64 0, .int .i64 0, .int .i64 0, .int .i64 0, u32 0#32]) := by rw [← hP, get_push_ne (by simp only [push_next]; omega)]; exact get_push_self
  have g5 : P.get (h.next + 2) = some (.cells false (encIns.enc ⟨kind, m1, m2, m3, wi x.sh 0 31, x.imm &&& 67108863#32⟩)) := by rw [← hP]; exact get_push_self
  clear hP
  refine G_loop (fun j e H => ∃ (k : Nat) (i : Ins), j = 6 - k ∧ k ≤ 6 ∧ Kp h H ∧ H.get (h.next + 1) = some (.cells false [.int .i64 0, .int .i64 0, .int .i64 0, .int .i64 0, .int .i64 0, u32 0#32]) ∧ H.get (h.next + 2) = some (.cells false (encIns.enc i)) ∧ e 4 = ptr (h.next + 1) 0 ∧ e 5 = ptr (h.next + 2) 0 ∧ e 6 = .int .i64 k) ?_ 6 _ _ ⟨0, _, rfl, by omega, KP, g4, g5, by simp, by simp, by simp⟩
  clear KP g4 g5 hw P
  rintro j ih e H ⟨k, i, rfl, hk, K, g4, g5, e4, e5, e6⟩
  have l5 := lt_of_get g5
  have r5 := rdn_all (n := 6) g5 rfl
  by_cases c1 : k < 6
  case neg =>
    obtain rfl : k = 6 := by omega
    simp only [encIns] at r5
    simp (maxSteps:=9^7)(disch:=first|assumption|((try simp only[nX]);omega)|simp) [e6, e5, e4, g4, r5]
  have c1' : (k : Int) < 6 := by omega
  have ho := fun h i f => k_only (h := h) (i := i) (f := f)
  have hrr := fun h i => r_right (h := h) (i := i)
  have rest : ∀ (e' : Env) (y : Ins) (h2 : Hp), Kp h h2 → h2.get (h.next + 1) = some (.cells false [.int .i64 0, .int .i64 0, .int .i64 0, .int .i64 0, .int .i64 0, u32 0#32]) → h2.get (h.next + 2) = some (.cells false (encIns.enc i)) → ∀ b, h2.get b = some (.cells false (encIns.enc y)) → h.next + 2 < b → e' 4 = ptr (h.next + 1) 0 → e' 5 = ptr (h.next + 2) 0 → e' 6 = .int .i64 k → e' 7 = ptr b 0 →
      G T (fin [RV.ldn 6 4] (some []) h.next fun v h' => isI v ∧ Kp h h') c3_1g [Fr.block 1, Fr.seq (C.ops [{ d := some 27, g := none, o := Op.mov (X.t 6) }, { d := some 28, g := none, o := Op.bin BinOp.add (X.t 27) (X.c (Value.int IntKind.i64 1)) }, { d := some 6, g := none, o := Op.mov (X.t 28) }]), Fr.loop c5_1g, Fr.block 0, Fr.seq ((C.ops [{ d := some 56, g := none, o := Op.ldn 6 (X.t 5) }, { d := none, g := none, o := Op.stn 6 (X.t 4) (X.t 56) }]).seq C.ret)] e' h2 := fun e' y h2 K2 g4 g5 b gb hb e4 e5 e6 e7 => by
    have r5 := rdn_all (n := 6) g5 rfl
    simp only [encIns] at r5
    simp (maxSteps:=9^7)(disch:=first|assumption|((try simp only[nX]);omega)|simp) [e5, e6, r5]
    have ho := fun h => k_only (h := h) (i := i) (f := (k : Int))
    simp only [encIns] at ho
    refine GC_intro (ho _) fun v h3 ⟨⟨z, hv⟩, K3⟩ => ?_
    subst hv
    simp (maxSteps:=9^7)(disch:=first|assumption|((try simp only[nX]);omega)|simp)
    refine GC_intro r_right fun v h4 ⟨⟨t, hv⟩, K4⟩ => ?_
    subst hv
    have K34 := K3.trans K4
    have f4 := (K34.get _ (lt_of_get g4)).trans g4
    have f5 := (K34.get _ (lt_of_get g5)).trans g5
    have fb := (K34.get _ (lt_of_get gb)).trans gb
    have K5 := K2.trans K34
    cases t with
    | true =>
      simp (maxSteps:=9^7)(disch:=first|assumption|((try simp only[nX]);omega)|simp) [e6]
      exact ih (6 - (k + 1)) (by omega) _ _ ⟨k + 1, i, rfl, by omega, K5, f4, f5, by simp [e4], by simp [e5], by simp⟩
    | false =>
      have rb := rdn_all (n := 6) fb rfl
      have l5 := lt_of_get f5
      have w5 := wr_all (vs := encIns.enc y) f5 rfl (encIns.one y)
      simp only [encIns] at rb f5
      simp (maxSteps:=9^7)(disch:=first|assumption|((try simp only[nX]);omega)|simp) [e6, e5, e7, rb, f5]
      refine ih (6 - (k + 1)) (by omega) _ _ ⟨k + 1, y, rfl, by omega, K5.put (by omega) _, (get_put_ne (by omega)).trans f4, get_put_self l5, by simp [e4], by simp [e5], by simp⟩
  have hl : h.next + 2 < H.next := l5
  simp only [encIns] at r5
  have gp : ∀ y : Ins, (H.push (.cells false (encIns.enc y))).get H.next = some (.cells false (encIns.enc y)) := fun y => get_push_self
  have done : ∀ (e' : Env) (y : Ins), e' 4 = ptr (h.next + 1) 0 → e' 5 = ptr (h.next + 2) 0 → e' 6 = .int .i64 k → e' 7 = ptr H.next 0 → _ := fun e' y f4 f5 f6 f7 => rest e' y (H.push (.cells false (encIns.enc y))) (K.push _) ((get_push_ne (by omega)).trans g4) ((get_push_ne (by omega)).trans g5) H.next get_push_self hl f4 f5 f6 f7
  obtain rfl | rfl | rfl | rfl | rfl | rfl : k = 0 ∨ k = 1 ∨ k = 2 ∨ k = 3 ∨ k = 4 ∨ k = 5 := by omega
  · simp (maxSteps:=9^7)(disch:=first|assumption|((try simp only[nX]);omega)|simp) [e4, e5, e6, r5, -g3_1g]
    exact done _ ⟨i.k, 0, i.t, i.d, i.sh, i.imm⟩ (by simp [e4]) (by simp [e5]) (by simp [e6]) (by simp)
  · simp (maxSteps:=9^7)(disch:=first|assumption|((try simp only[nX]);omega)|simp) [e4, e5, e6, r5, -g3_1g]
    exact done _ ⟨i.k, i.s, 0, i.d, i.sh, i.imm⟩ (by simp [e4]) (by simp [e5]) (by simp [e6]) (by simp)
  · simp (maxSteps:=9^7)(disch:=first|assumption|((try simp only[nX]);omega)|simp) [e4, e5, e6, r5, -g3_1g]
    exact done _ ⟨i.k, i.s, i.t, 0, i.sh, i.imm⟩ (by simp [e4]) (by simp [e5]) (by simp [e6]) (by simp)
  · simp (maxSteps:=9^7)(disch:=first|assumption|((try simp only[nX]);omega)|simp) [e4, e5, e6, r5, -g3_1g]
    exact done _ ⟨i.k, i.s, i.t, i.d, 0, i.imm⟩ (by simp [e4]) (by simp [e5]) (by simp [e6]) (by simp)
  · simp (maxSteps:=9^7)(disch:=first|assumption|((try simp only[nX]);omega)|simp) [e4, e5, e6, r5, -g3_1g]
    exact done _ ⟨i.k, i.s, i.t, i.d, i.sh, i.imm &&& 65535#32⟩ (by simp [e4]) (by simp [e5]) (by simp [e6]) (by simp)
  · simp (maxSteps:=9^7)(disch:=first|assumption|((try simp only[nX]);omega)|simp) [e4, e5, e6, r5, -g3_1g]
    exact done _ ⟨i.k, i.s, i.t, i.d, i.sh, 0#32⟩ (by simp [e4]) (by simp [e5]) (by simp [e6]) (by simp)
end
end Go.Proofs.YtmgoleiafiffoaaGreat.Cd

/- The document's words as they are drawn: rows of Kinds. -/
set_option maxRecDepth 1000000
set_option maxHeartbeats 8000000
set_option linter.unusedSimpArgs false
set_option linter.unusedVariables false
namespace Go.Proofs.YtmgoleiafiffoaaGreat.Cd
open Go Go.Dx
/-- A table of numbers. -/
def isZs (V : List Value) (n : Nat) : Prop := V.length = n ∧ ∀ j, j < n → ∃ c : Int, V[j]? = some (.int .i64 c)
theorem isZs_map (l : List Int) : isZs (l.map (Value.int .i64)) l.length := ⟨by simp, fun j hj => ⟨l[j], by simp [hj]⟩⟩
theorem tmod_ix {n : Int} {m : Nat} (h0 : 0 ≤ n) (hm : 0 < m) : ∃ j : Nat, n.tmod m = j ∧ j < m := ⟨(n % m).toNat, by
  rw [Int.tmod_eq_emod_of_nonneg h0, Int.toNat_of_nonneg (Int.emod_nonneg _ (by omega))], by
  have h1 := Int.emod_nonneg n (show (m : Int) ≠ 0 by omega)
  have h2 := Int.emod_lt_of_pos n (show (0 : Int) < m by omega)
  omega⟩
section
variable {h : Hp} {q : Value → Hp → Prop} {i : Ins}
theorem k_any {x : In7} : WC T n_1d [.agg (encI7.enc x).toArray] h fun v h' => isI v ∧ Kp h h' := by
  have hw := fun h q => within_eq (h := h) (q := q) (n := x.k) (lo := 0) (hi := 1048576) (by omega) (by omega) (by omega)
  obtain ⟨w1, w2⟩ := wi_bound (n := x.k) (lo := 0) (hi := 1048576) (by omega)
  rw [w_1d]
  have hi := fun h kind => k_inst (h := h) (x := x) (kind := kind)
  simp only [encI7] at hi
  simp (maxSteps:=9^7)(disch:=first|assumption|((try simp only[nX]);omega)|simp) [encI7, GCI_of (hw _)]
  refine GCI_intro (hi _ _) fun v h1 ⟨⟨j, hv⟩, K1⟩ => ?_
  subst hv
  have g1 := (K1.get (h.next + 1) (by simp)).trans get_push_self
  have l1 := lt_of_get g1
  have K0 : Kp h h1 := Kp.trans (((Kp.refl h).push _).push _) K1
  simp (maxSteps:=9^7)(disch:=first|assumption|((try simp only[nX]);omega)|simp) [encIns, g1]
theorem k_plain {x : In7} : WC T n_1h [.agg (encI7.enc x).toArray] h fun v h' => isI v ∧ Kp h h' := by
  have hw := fun h q => within_eq (h := h) (q := q) (n := x.k) (lo := 0) (hi := 1048576) (by omega) (by omega) (by omega)
  obtain ⟨w1, w2⟩ := wi_bound (n := x.k) (lo := 0) (hi := 1048576) (by omega)
  rw [w_1h]
  have hi := fun h kind => k_inst (h := h) (x := x) (kind := kind)
  simp only [encI7] at hi
  generalize wi x.k 0 1048576 = n at *
  obtain ⟨V, hV, hl, hz⟩ : ∃ V : List Value, V = [.int .i64 1, .int .i64 2, .int .i64 3, .int .i64 4, .int .i64 5, .int .i64 6, .int .i64 9, .int .i64 10, .int .i64 13, .int .i64 14, .int .i64 15, .int .i64 16, .int .i64 17, .int .i64 18, .int .i64 19, .int .i64 20, .int .i64 21, .int .i64 23, .int .i64 25, .int .i64 26, .int .i64 27, .int .i64 28, .int .i64 29, .int .i64 30, .int .i64 31, .int .i64 47, .int .i64 48, .int .i64 49, .int .i64 50, .int .i64 51, .int .i64 52, .int .i64 53, .int .i64 63, .int .i64 64, .int .i64 65, .int .i64 76, .int .i64 77] ∧ isZs V 37 := ⟨_, rfl, isZs_map [1, 2, 3, 4, 5, 6, 9, 10, 13, 14, 15, 16, 17, 18, 19, 20, 21, 23, 25, 26, 27, 28, 29, 30, 31, 47, 48, 49, 50, 51, 52, 53, 63, 64, 65, 76, 77]⟩
  obtain ⟨j, hj, hj2⟩ := tmod_ix (n := n) (m := 37) w1 (by omega)
  have hj : n.tmod 37 = (j : Int) := hj
  obtain ⟨c, hc⟩ := hz j hj2
  have hc2 : ∀ hh : j < V.length, V[j]'hh = .int .i64 c := fun hh => by rw [List.getElem?_eq_getElem hh] at hc; exact Option.some.inj hc
  simp (maxSteps:=9^7)(disch:=first|assumption|((try simp only[nX]);omega)|simp) [encI7, -g0_1h]
  rw [← hV]
  clear hV hz
  simp (maxSteps:=9^7)(disch:=first|assumption|((try simp only[nX]);omega)|simp) [GCI_of (hw _), hj, hj2, hc, hc2, hl]
  refine GCI_intro (hi _ _) fun v h1 ⟨⟨i, hv⟩, K1⟩ => ?_
  subst hv
  have g1 := (K1.get (h.next + 1) (by simp)).trans ((get_push_ne (by rw [push_next, push_next]; omega)).trans get_push_self)
  have l1 := lt_of_get g1
  have K0 : Kp h h1 := Kp.trans ((((Kp.refl h).push _).push _).push _) K1
  simp (maxSteps:=9^7)(disch:=first|assumption|((try simp only[nX]);omega)|simp) [encIns, g1]
theorem and_k {n : Int} {m : Nat} (hm : m < 64) : ∃ j : Nat, j ≤ m ∧ binV .and (.int .i64 n) (.int .i64 (m : Int)) = some (.int .i64 j) := by
  have h : (BitVec.ofInt 64 n &&& BitVec.ofInt 64 m).toNat ≤ m := by
    rw [BitVec.toNat_and, BitVec.ofInt_natCast, BitVec.toNat_ofNat]
    refine Nat.le_trans Nat.and_le_right ?_
    exact Nat.mod_le _ _
  refine ⟨_, h, ?_⟩
  rw [and_i64, wrap_i64 (by omega) (by omega)]
theorem k_code {x : In7} : WC T n_1e [.agg (encI7.enc x).toArray] h fun v h' => isW v ∧ Kp h h' := by
  have hw := fun h q => within_eq (h := h) (q := q) (n := x.k) (lo := 0) (hi := 1048576) (by omega) (by omega) (by omega)
  obtain ⟨w1, w2⟩ := wi_bound (n := x.k) (lo := 0) (hi := 1048576) (by omega)
  have hi := fun h kind => k_inst (h := h) (x := x) (kind := kind)
  have ha := fun h => k_any (h := h) (x := x)
  have hp := fun h => k_plain (h := h) (x := x)
  simp only [encI7] at hi ha hp
  generalize wi x.k 0 1048576 = n at *
  rw [w_1e]
  simp (maxSteps:=9^7)(disch:=first|assumption|((try simp only[nX]);omega)|simp) [encI7, GC_of (hw _)]
  generalize hP : Hp.push h _ = P
  have gP : P.get h.next = some (.cells false (encI7.enc x)) := by rw [← hP]; exact get_push_self
  have KP : Kp h P := by rw [← hP]; exact (Kp.refl h).push _
  clear hP
  refine GC_intro (hp _) fun v h1 ⟨⟨i, hv⟩, K1⟩ => ?_
  subst hv
  have g1 := (K1.get _ (lt_of_get gP)).trans gP
  have K0 := KP.trans K1
  have l1 := lt_of_get g1
  clear K1 KP gP
  have fini : ∀ (e : Env) (h2 : Hp) (i : Ins) (p : Nat), h2.get p = some (.cells false (encIns.enc i)) → Kp h h2 → e 4 = ptr p 0 → G T (fin [RV.t 2] (some []) h.next fun v h' => isW v ∧ Kp h h') c14_1e [] e h2 := fun e h2 i p g K e4 => by
    have r := rdn_all (n := 6) g rfl
    have hr := fun h => r_word (h := h) (i := i)
    simp only [encIns] at r hr
    simp (maxSteps:=9^7)(disch:=first|assumption|((try simp only[nX]);omega)|simp) [e4, r]
    refine GC_intro (hr _) fun v h3 ⟨⟨w, t, hv⟩, K3⟩ => ?_
    subst hv
    simp (maxSteps:=9^7)(disch:=first|assumption|((try simp only[nX]);omega)|simp)
    exact K.trans K3
  simp (maxSteps:=9^7)(disch:=first|assumption|((try simp only[nX]);omega)|simp) [encIns, -g13_1e]
  have r1 := rdn_all (n := 7) g1 rfl
  have wq : IntKind.i64.wrap (n.tdiv 16) = n.tdiv 16 := by
    rw [Int.tdiv_eq_ediv_of_nonneg (by omega)]
    exact wrap_i64 (by omega) (by omega)
  have q0 : 0 ≤ n.tdiv 16 := by rw [Int.tdiv_eq_ediv_of_nonneg (by omega)]; omega
  obtain ⟨p, hp0'⟩ : ∃ p, p = h1.next := ⟨_, rfl⟩
  generalize hH : Hp.push h1 _ = H
  have gp : H.get p = some (.cells false (encIns.enc i)) := by rw [← hH, hp0']; exact get_push_self
  have gB : H.get h.next = some (.cells false [.int .i64 x.k, .int .i64 x.s, .int .i64 x.t, .int .i64 x.d, .int .i64 x.sh, u32 x.imm, u32 x.raw]) := by rw [← hH]; exact (get_push_ne (by omega)).trans g1
  have K : Kp h H := by rw [← hH]; exact K0.push _
  have hp0 : h.next ≤ p := by omega
  rw [← hp0']
  have hpB : p ≠ h.next := by omega
  clear hH r1 g1 l1
  obtain ⟨a, _, ax⟩ := and_k (n := x.s) (m := 3) (by omega)
  have ax : binV .and (.int .i64 x.s) (.int .i64 3) = some (.int .i64 (a : Int)) := ax
  obtain ⟨b, hb7, bx⟩ := and_k (n := x.d) (m := 7) (by omega)
  have bx : binV .and (.int .i64 x.d) (.int .i64 7) = some (.int .i64 (b : Int)) := bx
  have t2 : ∀ (e : Env), e 1 = ptr h.next 0 → e 3 = .int .i64 n → e 4 = ptr p 0 → G T (fin [RV.t 2] (some []) h.next fun v h' => isW v ∧ Kp h h') c2_1e [Fr.block 0, Fr.seq c14_1e] e H := fun e e1 e3 e4 => by
    obtain ⟨V, hV, hl, hz⟩ : ∃ V : List Value, V = [.int .i64 66, .int .i64 67, .int .i64 68, .int .i64 69, .int .i64 70, .int .i64 71, .int .i64 72, .int .i64 73, .int .i64 74, .int .i64 75, .int .i64 73, .int .i64 68] ∧ isZs V 12 := ⟨_, rfl, isZs_map [66, 67, 68, 69, 70, 71, 72, 73, 74, 75, 73, 68]⟩
    obtain ⟨j, hj, hj2⟩ := tmod_ix (n := n.tdiv 16) (m := 12) q0 (by omega)
    have hj : (n.tdiv 16).tmod 12 = (j : Int) := hj
    obtain ⟨c, hc⟩ := hz j hj2
    have hc2 : ∀ hh : j < V.length, V[j]'hh = .int .i64 c := fun hh => by rw [List.getElem?_eq_getElem hh] at hc; exact Option.some.inj hc
    simp (maxSteps:=9^7)(disch:=first|assumption|((try simp only[nX]);omega)|simp) [e1, e3, e4, -g1_1e]
    rw [← hV]
    clear hV hz
    generalize hP : Hp.push H _ = P
    have gP : P.get H.next = some (.cells false V) := by rw [← hP]; exact get_push_self
    have KP : Kp H P := by rw [← hP]; exact (Kp.refl H).push _
    clear hP
    have rB' := rdn_all (n := 7) ((KP.get _ (lt_of_get gB)).trans gB) rfl
    simp (maxSteps:=9^7)(disch:=first|assumption|((try simp only[nX]);omega)|simp) [e1, e3, e4, wq, hj, hj2, hc, hc2, hl, gP, rB']
    refine GC_intro (hi _ _) fun v h2 ⟨⟨i2, hv⟩, K2⟩ => ?_
    subst hv
    have K3 := KP.trans K2
    have gB2 := (K3.get _ (lt_of_get gB)).trans gB
    have gp2 := (K3.get _ (lt_of_get gp)).trans gp
    have lp2 := lt_of_get gp2
    have K4 := K.trans K3
    simp (maxSteps:=9^7)(disch:=first|assumption|((try simp only[nX]);omega)|simp) [encIns, e1, e4, gp2, lp2, gB2, ax, -g14_1e]
    exact fini _ _ ⟨i2.k, 28 + (a : Int), i2.t, i2.d, i2.sh, i2.imm &&& 2044#32⟩ p (by rw [get_put_self lp2]; rfl) (K4.put hp0 _) (by simp [e4])
  have t5 : ∀ (e : Env), e 1 = ptr h.next 0 → e 3 = .int .i64 n → e 4 = ptr p 0 → G T (fin [RV.t 2] (some []) h.next fun v h' => isW v ∧ Kp h h') c5_1e [Fr.block 0, Fr.seq c14_1e] e H := fun e e1 e3 e4 => by
    obtain ⟨V, hV, hl, hz⟩ : ∃ V : List Value, V = [.int .i64 42, .int .i64 43, .int .i64 44, .int .i64 45, .int .i64 36, .int .i64 37, .int .i64 39, .int .i64 42] ∧ isZs V 8 := ⟨_, rfl, isZs_map [42, 43, 44, 45, 36, 37, 39, 42]⟩
    obtain ⟨j, hj, hj2⟩ := tmod_ix (n := n.tdiv 16) (m := 8) q0 (by omega)
    have hj : (n.tdiv 16).tmod 8 = (j : Int) := hj
    obtain ⟨c, hc⟩ := hz j hj2
    have hc2 : ∀ hh : j < V.length, V[j]'hh = .int .i64 c := fun hh => by rw [List.getElem?_eq_getElem hh] at hc; exact Option.some.inj hc
    simp (maxSteps:=9^7)(disch:=first|assumption|((try simp only[nX]);omega)|simp) [e1, e3, e4, -g4_1e]
    rw [← hV]
    clear hV hz
    generalize hP : Hp.push H _ = P
    have gP : P.get H.next = some (.cells false V) := by rw [← hP]; exact get_push_self
    have KP : Kp H P := by rw [← hP]; exact (Kp.refl H).push _
    clear hP
    have rB' := rdn_all (n := 7) ((KP.get _ (lt_of_get gB)).trans gB) rfl
    simp (maxSteps:=9^7)(disch:=first|assumption|((try simp only[nX]);omega)|simp) [e1, e3, e4, wq, hj, hj2, hc, hc2, hl, gP, rB']
    refine GC_intro (hi _ _) fun v h2 ⟨⟨i2, hv⟩, K2⟩ => ?_
    subst hv
    have K3 := KP.trans K2
    have gB2 := (K3.get _ (lt_of_get gB)).trans gB
    have gp2 := (K3.get _ (lt_of_get gp)).trans gp
    have lp2 := lt_of_get gp2
    have K4 := K.trans K3
    have sx : ∀ y : Int, binV .sub (.int .i32 y) (.int .i32 6) = some (.int .i32 (IntKind.i32.wrap (y - 6))) := fun y => rfl
    simp (maxSteps:=9^7)(disch:=first|assumption|((try simp only[nX]);omega)|simp) [encIns, e1, e4, gp2, lp2, gB2, sx, -g14_1e]
    exact fini _ _ ⟨i2.k, i2.s, i2.t, i2.d, i2.sh, BitVec.ofInt 32 (IntKind.i32.wrap ((x.imm % 16#32).toInt - 6)) &&& 65535#32⟩ p (get_put_self lp2) (K4.put hp0 _) (by simp [e4])
  have t9 : ∀ (e : Env), e 1 = ptr h.next 0 → e 3 = .int .i64 n → e 4 = ptr p 0 → G T (fin [RV.t 2] (some []) h.next fun v h' => isW v ∧ Kp h h') c9_1e [Fr.block 0, Fr.seq c14_1e] e H := fun e e1 e3 e4 => by
    obtain ⟨V, hV, hl, hz⟩ : ∃ V : List Value, V = [.int .i64 55, .int .i64 54, .int .i64 55, .int .i64 57, .int .i64 59, .int .i64 56, .int .i64 58, .int .i64 60, .int .i64 11, .int .i64 61] ∧ isZs V 10 := ⟨_, rfl, isZs_map [55, 54, 55, 57, 59, 56, 58, 60, 11, 61]⟩
    obtain ⟨j, hj, hj2⟩ := tmod_ix (n := n.tdiv 16) (m := 10) q0 (by omega)
    have hj : (n.tdiv 16).tmod 10 = (j : Int) := hj
    obtain ⟨c, hc⟩ := hz j hj2
    have hc2 : ∀ hh : j < V.length, V[j]'hh = .int .i64 c := fun hh => by rw [List.getElem?_eq_getElem hh] at hc; exact Option.some.inj hc
    simp (maxSteps:=9^7)(disch:=first|assumption|((try simp only[nX]);omega)|simp) [e1, e3, e4, -g8_1e]
    rw [← hV]
    clear hV hz
    generalize hP : Hp.push H _ = P
    have gP : P.get H.next = some (.cells false V) := by rw [← hP]; exact get_push_self
    have KP : Kp H P := by rw [← hP]; exact (Kp.refl H).push _
    clear hP
    have rB' := rdn_all (n := 7) ((KP.get _ (lt_of_get gB)).trans gB) rfl
    simp (maxSteps:=9^7)(disch:=first|assumption|((try simp only[nX]);omega)|simp) [e1, e3, e4, wq, hj, hj2, hc, hc2, hl, gP, rB']
    refine GC_intro (hi _ _) fun v h2 ⟨⟨i2, hv⟩, K2⟩ => ?_
    subst hv
    have K3 := KP.trans K2
    have gB2 := (K3.get _ (lt_of_get gB)).trans gB
    have gp2 := (K3.get _ (lt_of_get gp)).trans gp
    have lp2 := lt_of_get gp2
    have K4 := K.trans K3
    by_cases k5 : i2.k = 55
    · have bx := bx
      obtain rfl | rfl | rfl | rfl | rfl | rfl | rfl | rfl : b = 0 ∨ b = 1 ∨ b = 2 ∨ b = 3 ∨ b = 4 ∨ b = 5 ∨ b = 6 ∨ b = 7 := by omega
      · simp (maxSteps:=9^7)(disch:=first|assumption|((try simp only[nX]);omega)|simp) [encIns, e1, e4, gp2, lp2, gB2, k5, bx, -g14_1e]
        exact fini _ _ ⟨55, i2.s, i2.t, 12, i2.sh, i2.imm⟩ p ((get_push_ne (by rw [put_next]; omega)).trans (get_put_self lp2)) ((K4.put hp0 _).push _) (by simp [e4])
      · simp (maxSteps:=9^7)(disch:=first|assumption|((try simp only[nX]);omega)|simp) [encIns, e1, e4, gp2, lp2, gB2, k5, bx, -g14_1e]
        exact fini _ _ ⟨55, i2.s, i2.t, 13, i2.sh, i2.imm⟩ p ((get_push_ne (by rw [put_next]; omega)).trans (get_put_self lp2)) ((K4.put hp0 _).push _) (by simp [e4])
      · simp (maxSteps:=9^7)(disch:=first|assumption|((try simp only[nX]);omega)|simp) [encIns, e1, e4, gp2, lp2, gB2, k5, bx, -g14_1e]
        exact fini _ _ ⟨55, i2.s, i2.t, 11, i2.sh, i2.imm⟩ p ((get_push_ne (by rw [put_next]; omega)).trans (get_put_self lp2)) ((K4.put hp0 _).push _) (by simp [e4])
      · simp (maxSteps:=9^7)(disch:=first|assumption|((try simp only[nX]);omega)|simp) [encIns, e1, e4, gp2, lp2, gB2, k5, bx, -g14_1e]
        exact fini _ _ ⟨55, i2.s, i2.t, 9, i2.sh, i2.imm⟩ p ((get_push_ne (by rw [put_next]; omega)).trans (get_put_self lp2)) ((K4.put hp0 _).push _) (by simp [e4])
      · simp (maxSteps:=9^7)(disch:=first|assumption|((try simp only[nX]);omega)|simp) [encIns, e1, e4, gp2, lp2, gB2, k5, bx, -g14_1e]
        exact fini _ _ ⟨55, i2.s, i2.t, 10, i2.sh, i2.imm⟩ p ((get_push_ne (by rw [put_next]; omega)).trans (get_put_self lp2)) ((K4.put hp0 _).push _) (by simp [e4])
      · simp (maxSteps:=9^7)(disch:=first|assumption|((try simp only[nX]);omega)|simp) [encIns, e1, e4, gp2, lp2, gB2, k5, bx, -g14_1e]
        exact fini _ _ ⟨55, i2.s, i2.t, 2, i2.sh, i2.imm⟩ p ((get_push_ne (by rw [put_next]; omega)).trans (get_put_self lp2)) ((K4.put hp0 _).push _) (by simp [e4])
      · simp (maxSteps:=9^7)(disch:=first|assumption|((try simp only[nX]);omega)|simp) [encIns, e1, e4, gp2, lp2, gB2, k5, bx, -g14_1e]
        exact fini _ _ ⟨55, i2.s, i2.t, 0, i2.sh, i2.imm⟩ p ((get_push_ne (by rw [put_next]; omega)).trans (get_put_self lp2)) ((K4.put hp0 _).push _) (by simp [e4])
      · simp (maxSteps:=9^7)(disch:=first|assumption|((try simp only[nX]);omega)|simp) [encIns, e1, e4, gp2, lp2, gB2, k5, bx, -g14_1e]
        exact fini _ _ ⟨55, i2.s, i2.t, 14, i2.sh, i2.imm⟩ p ((get_push_ne (by rw [put_next]; omega)).trans (get_put_self lp2)) ((K4.put hp0 _).push _) (by simp [e4])
    · by_cases k4 : i2.k = 54
      · have bx := bx
        obtain rfl | rfl | rfl | rfl | rfl | rfl | rfl | rfl : b = 0 ∨ b = 1 ∨ b = 2 ∨ b = 3 ∨ b = 4 ∨ b = 5 ∨ b = 6 ∨ b = 7 := by omega
        · simp (maxSteps:=9^7)(disch:=first|assumption|((try simp only[nX]);omega)|simp) [encIns, e1, e4, gp2, lp2, gB2, k4, k5, bx, -g14_1e]
          exact fini _ _ ⟨54, i2.s, i2.t, 12, i2.sh, i2.imm⟩ p ((get_push_ne (by rw [put_next]; omega)).trans (get_put_self lp2)) ((K4.put hp0 _).push _) (by simp [e4])
        · simp (maxSteps:=9^7)(disch:=first|assumption|((try simp only[nX]);omega)|simp) [encIns, e1, e4, gp2, lp2, gB2, k4, k5, bx, -g14_1e]
          exact fini _ _ ⟨54, i2.s, i2.t, 13, i2.sh, i2.imm⟩ p ((get_push_ne (by rw [put_next]; omega)).trans (get_put_self lp2)) ((K4.put hp0 _).push _) (by simp [e4])
        · simp (maxSteps:=9^7)(disch:=first|assumption|((try simp only[nX]);omega)|simp) [encIns, e1, e4, gp2, lp2, gB2, k4, k5, bx, -g14_1e]
          exact fini _ _ ⟨54, i2.s, i2.t, 11, i2.sh, i2.imm⟩ p ((get_push_ne (by rw [put_next]; omega)).trans (get_put_self lp2)) ((K4.put hp0 _).push _) (by simp [e4])
        · simp (maxSteps:=9^7)(disch:=first|assumption|((try simp only[nX]);omega)|simp) [encIns, e1, e4, gp2, lp2, gB2, k4, k5, bx, -g14_1e]
          exact fini _ _ ⟨54, i2.s, i2.t, 9, i2.sh, i2.imm⟩ p ((get_push_ne (by rw [put_next]; omega)).trans (get_put_self lp2)) ((K4.put hp0 _).push _) (by simp [e4])
        · simp (maxSteps:=9^7)(disch:=first|assumption|((try simp only[nX]);omega)|simp) [encIns, e1, e4, gp2, lp2, gB2, k4, k5, bx, -g14_1e]
          exact fini _ _ ⟨54, i2.s, i2.t, 10, i2.sh, i2.imm⟩ p ((get_push_ne (by rw [put_next]; omega)).trans (get_put_self lp2)) ((K4.put hp0 _).push _) (by simp [e4])
        · simp (maxSteps:=9^7)(disch:=first|assumption|((try simp only[nX]);omega)|simp) [encIns, e1, e4, gp2, lp2, gB2, k4, k5, bx, -g14_1e]
          exact fini _ _ ⟨54, i2.s, i2.t, 2, i2.sh, i2.imm⟩ p ((get_push_ne (by rw [put_next]; omega)).trans (get_put_self lp2)) ((K4.put hp0 _).push _) (by simp [e4])
        · simp (maxSteps:=9^7)(disch:=first|assumption|((try simp only[nX]);omega)|simp) [encIns, e1, e4, gp2, lp2, gB2, k4, k5, bx, -g14_1e]
          exact fini _ _ ⟨54, i2.s, i2.t, 0, i2.sh, i2.imm⟩ p ((get_push_ne (by rw [put_next]; omega)).trans (get_put_self lp2)) ((K4.put hp0 _).push _) (by simp [e4])
        · simp (maxSteps:=9^7)(disch:=first|assumption|((try simp only[nX]);omega)|simp) [encIns, e1, e4, gp2, lp2, gB2, k4, k5, bx, -g14_1e]
          exact fini _ _ ⟨54, i2.s, i2.t, 14, i2.sh, i2.imm⟩ p ((get_push_ne (by rw [put_next]; omega)).trans (get_put_self lp2)) ((K4.put hp0 _).push _) (by simp [e4])
      · simp (maxSteps:=9^7)(disch:=first|assumption|((try simp only[nX]);omega)|simp) [encIns, e1, e4, gp2, lp2, gB2, k4, k5, -g14_1e]
        exact fini _ _ ⟨i2.k, i2.s, i2.t, i2.d, i2.sh, i2.imm⟩ p (get_put_self lp2) (K4.put hp0 _) (by simp [e4])
  obtain ⟨j, hj, hj2⟩ := tmod_ix (n := n) (m := 16) w1 (by omega)
  have hj : n.tmod 16 = (j : Int) := hj
  rw [hj]
  by_cases j1 : j = 0 ∨ j = 1
  · rcases j1 with rfl | rfl <;> simp (maxSteps:=9^7)(disch:=first|assumption|((try simp only[nX]);omega)|simp) [gB, K]
  by_cases j2 : j = 2 ∨ j = 3
  · have rB' := rdn_all (n := 7) gB rfl
    rcases j2 with rfl | rfl
    all_goals
      simp (maxSteps:=9^7)(disch:=first|assumption|((try simp only[nX]);omega)|simp) [rB', -g14_1e]
      refine GC_intro (ha _) fun v h2 ⟨⟨i2, hv⟩, K2⟩ => ?_
      subst hv
      have gp2 := (K2.get _ (lt_of_get gp)).trans gp
      have lp2 := lt_of_get gp2
      simp (maxSteps:=9^7)(disch:=first|assumption|((try simp only[nX]);omega)|simp) [encIns, gp2, lp2, -g14_1e]
      exact fini _ _ i2 p (get_put_self lp2) ((K.trans K2).put hp0 _) (by simp)
  by_cases j4 : j = 4 ∨ j = 5 ∨ j = 6
  · rcases j4 with rfl | rfl | rfl
    all_goals
      simp (maxSteps:=9^7)(disch:=first|assumption|((try simp only[nX]);omega)|simp) [-g14_1e, -g2_1e]
      exact t2 _ (by simp) (by simp) (by simp)
  by_cases j7 : j = 7 ∨ j = 8
  · rcases j7 with rfl | rfl
    all_goals
      simp (maxSteps:=9^7)(disch:=first|assumption|((try simp only[nX]);omega)|simp) [-g14_1e, -g5_1e]
      exact t5 _ (by simp) (by simp) (by simp)
  by_cases j9 : j = 9
  · subst j9
    simp (maxSteps:=9^7)(disch:=first|assumption|((try simp only[nX]);omega)|simp) [-g14_1e, -g9_1e]
    exact t9 _ (by simp) (by simp) (by simp)
  have n0 : ¬ (j : Int) = 0 := by omega
  have n1 : ¬ (j : Int) = 1 := by omega
  have n2 : ¬ (j : Int) = 2 := by omega
  have n3 : ¬ (j : Int) = 3 := by omega
  have n4 : ¬ (j : Int) = 4 := by omega
  have n5 : ¬ (j : Int) = 5 := by omega
  have n6 : ¬ (j : Int) = 6 := by omega
  have n7 : ¬ (j : Int) = 7 := by omega
  have n8 : ¬ (j : Int) = 8 := by omega
  have n9 : ¬ (j : Int) = 9 := by omega
  have z0 : ¬ j = 0 := by omega
  have z1 : ¬ j = 1 := by omega
  simp (maxSteps:=9^7)(disch:=first|assumption|((try simp only[nX]);omega)|simp) [z0, z1, n0, n1, n2, n3, n4, n5, n6, n7, n8, n9, -g14_1e]
  exact fini _ _ i p gp K (by simp)
end
end Go.Proofs.YtmgoleiafiffoaaGreat.Cd

/- The document's programs: an image comes, whatever is drawn. -/
set_option maxRecDepth 1000000
set_option maxHeartbeats 8000000
set_option linter.unusedSimpArgs false
set_option linter.unusedVariables false
namespace Go.Proofs.YtmgoleiafiffoaaGreat.Cd
open Go Go.Dx
section
variable {h h' : Hp} {q : Value → Hp → Prop}
/-- Bytes in a block. -/
def Bb (h : Hp) (b N : Nat) : Prop := ∃ B : By, B.length = N ∧ h.get b = some (.cells false (B.map u8))
theorem Bb.set {b N i : Nat} (A : Bb h b N) (hi : i < N) (c : BitVec 8) : ∃ h', h.wr b i [u8 c] = some h' ∧ Bb h' b N ∧ Upd h h' [b] [b] := by
  obtain ⟨B, hl, hg⟩ := A
  refine ⟨_, wr_ok hg (by simp; omega) rfl, ⟨B.set i c, by simp [hl], ?_⟩, ?_⟩
  · rw [get_put_self (lt_of_get hg), over_set (by simp; omega), List.map_set]
  · exact (Kp.upd (.refl h) _).put1
theorem Bb.kp {b N : Nat} (A : Bb h b N) (K : Kp h h') : Bb h' b N := by
  obtain ⟨B, hl, hg⟩ := A
  exact ⟨B, hl, (K.get _ (lt_of_get hg)).trans hg⟩
theorem k_put {bb N a : Nat} {l : List (BitVec 32)} {al : Option Addr} {cl : Nat} (A : Bb h bb N) (S : Sees encW h al l) (hN : N < 2 ^ 40) (ha : a < 2 ^ 40) (hl : l.length < 2 ^ 40) (hne : ∀ D, al = some D → D.block ≠ bb) :
    WC T n_1k [.slice (some ⟨bb, 0, none⟩) N N, .int .i64 (a : Int), .slice al l.length cl] h fun v h' => v = .tuple #[] ∧ Bb h' bb N ∧ Upd h h' [bb] [bb] := by
  rw [w_1k]
  simp (maxSteps:=9^7)(disch:=first|assumption|((try simp only[nX]);omega)|simp)
  refine G_loop (fun j e h' => ∃ i : Nat, j = l.length - i ∧ i ≤ l.length ∧ e 0 = .slice (some ⟨bb, 0, none⟩) N N ∧ e 1 = .int .i64 (a : Int) ∧ e 2 = .slice al l.length cl ∧ e 6 = .int .i64 i ∧ Bb h' bb N ∧ Upd h h' [bb] [bb]) ?_ l.length _ _ ⟨0, rfl, by omega, by simp, by simp, by simp, by simp, A, .refl⟩
  rintro j ih e h' ⟨i, rfl, hi, e0, e1, e2, e6, A', U'⟩
  by_cases c1 : i < l.length
  case neg =>
    have c1' : ¬ (i : Int) < l.length := by omega
    simp (maxSteps:=9^7)(disch:=first|assumption|((try simp only[nX]);omega)|simp) [e0, e1, e2, e6, c1']
    exact ⟨A', U'⟩
  have c1' : (i : Int) < l.length := by omega
  by_cases c2 : a + 4 * i + 4 ≤ N
  case neg =>
    have c2' : ¬ (a : Int) + 4 * i + 4 ≤ N := by omega
    simp (maxSteps:=9^7)(disch:=first|assumption|((try simp only[nX]);omega)|simp) [e0, e1, e2, e6, c1', c2']
    exact ⟨A', U'⟩
  have c2' : (a : Int) + 4 * i + 4 ≤ N := by omega
  simp (maxSteps:=9^7)(disch:=first|assumption|((try simp only[nX]);omega)|simp) [e0, e1, e2, e6, c1', c2']
  refine G_loop (fun j e' h'' => ∃ k : Nat, j = 4 - k ∧ k ≤ 4 ∧ e' 0 = e 0 ∧ e' 1 = e 1 ∧ e' 2 = e 2 ∧ e' 6 = e 6 ∧ e' 7 = .int .i64 k ∧ Bb h'' bb N ∧ Upd h h'' [bb] [bb]) ?_ 4 _ _ ⟨0, rfl, by omega, by simp, by simp, by simp, by simp, by simp, A', U'⟩
  rintro j ih2 e' h'' ⟨k, rfl, hk, f0, f1, f2, f6, f7, A2, U2⟩
  by_cases c3 : k < 4
  case neg =>
    obtain rfl : k = 4 := by omega
    simp (maxSteps:=9^7)(disch:=first|assumption|((try simp only[nX]);omega)|simp) [f0, f1, f2, f6, f7, e6]
    exact ih (l.length - (i + 1)) (by omega) _ _ ⟨i + 1, rfl, by omega, by simp [f0, e0], by simp [f1, e1], by simp [f2, e2], by simp, A2, U2⟩
  have c3' : (k : Int) < 4 := by omega
  have S2 := S.upd U2 fun D hD hm => hne D hD (by simpa using hm)
  have hx : l = l.take i ++ l[i] :: l.drop (i + 1) := by rw [List.getElem_cons_drop, List.take_append_drop]
  obtain ⟨D, ro, C, rfl, hg, hC⟩ := Sees.cell (E := encW) (f := u32) (fun _ => rfl) rfl (us := l.take i) (x := l[i]) (vs := l.drop (i + 1)) (by rw [← hx]; exact S2)
  rw [List.length_take, Nat.min_eq_left (by omega)] at hC
  have hix : ((a : Int) + 4 * i + k).toNat = a + 4 * i + k := by omega
  simp (maxSteps:=9^7)(disch:=first|assumption|((try simp only[nX]);omega)|simp) [f0, f1, f2, f6, f7, e0, e1, e2, e6, c3', c1, c1', hg, hC, hix, -Hp.wr]
  obtain ⟨h3, hw, A3, U3⟩ := A2.set (i := a + 4 * i + k) (by omega) (BitVec.setWidth 8 (l[i] >>> ((24 - 8 * (k : Int)) % 18446744073709551616).toNat))
  rw [hw]
  simp (maxSteps:=9^7)(disch:=first|assumption|((try simp only[nX]);omega)|simp) [f7]
  exact ih2 (4 - (k + 1)) (by omega) _ _ ⟨k + 1, rfl, by omega, by simp [f0], by simp [f1], by simp [f2], by simp [f6], by simp, A3, U2.trans U3⟩
/-- A row of words that grows: a table at first, its own block later; all at or behind lo. -/
def Rz (h : Hp) (lo : Nat) (v : Value) (xs : List (BitVec 32)) : Prop :=
  (∃ b, v = .slice (some ⟨b, 0, none⟩) xs.length xs.length ∧ lo ≤ b ∧ Sees encW h (some ⟨b, 0, none⟩) xs) ∨ (∃ fp, Own encW h v xs fp ∧ ∀ b ∈ fp, lo ≤ b)
/-- What lies ahead of lo is as it was. -/
structure KL (lo : Nat) (h h' : Hp) : Prop where
  le : h.next ≤ h'.next
  get : ∀ b, b < lo → h'.get b = h.get b
theorem KL.trans {lo : Nat} {a b c : Hp} (x : KL lo a b) (y : KL lo b c) : KL lo a c := ⟨Nat.le_trans x.le y.le, fun k hk => (y.get k hk).trans (x.get k hk)⟩
theorem _root_.Go.Dx.Kp.kl {lo : Nat} (K : Kp h h') (hl : lo ≤ h.next) : KL lo h h' := ⟨K.le, fun b hb => K.get b (by omega)⟩
theorem Rz.kp {lo : Nat} {v : Value} {xs : List (BitVec 32)} (R : Rz h lo v xs) (K : Kp h h') : Rz h' lo v xs := by
  rcases R with ⟨b, h1, h2, h3⟩ | ⟨fp, h1, h2⟩
  · exact .inl ⟨b, h1, h2, h3.kp K⟩
  · exact .inr ⟨fp, h1.kp K, h2⟩
theorem Rz.sees {lo : Nat} {v : Value} {xs : List (BitVec 32)} (R : Rz h lo v xs) : ∃ a c, v = .slice a xs.length c ∧ Sees encW h a xs ∧ ∀ A, a = some A → lo ≤ A.block := by
  rcases R with ⟨b, h1, h2, h3⟩ | ⟨fp, h1, h2⟩
  · exact ⟨_, _, h1, h3, fun A hA => by cases hA; exact h2⟩
  · obtain ⟨a, c, e, s, _, m⟩ := h1.len
    exact ⟨a, c, e, s, fun A hA => h2 _ (m A hA)⟩
theorem Rz.app {Q : Ex → Env → Hp → Prop} {k : List Fr} {e : Env} {d : Option Nat} {l : List O} {lo : Nat} {v : Value} {xs : List (BitVec 32)} {x : BitVec 32} (R : Rz h lo v xs) (hlo : lo ≤ h.next) (hl : xs.length < 2 ^ 30)
    (H : ∀ v' h', Rz h' lo v' (xs ++ [x]) → KL lo h h' → GO T Q l k (put e d v') h') : GV T Q (appendV (h.push (.cells false [u32 x])) 1 4 v (.slice (some ⟨h.next, 0, none⟩) 1 1)) d l k e := by
  rcases R with ⟨b, rfl, h2, h3⟩ | ⟨fp, h1, h2⟩
  · have hr := (h3.kp ((Kp.refl h).push (.cells false [u32 x]))).get _ rfl
    simp only [encW_sz, Nat.mul_one] at hr
    have ha : appendV (h.push (.cells false [u32 x])) 1 4 (.slice (some ⟨b, 0, none⟩) xs.length xs.length) (.slice (some ⟨h.next, 0, none⟩) 1 1) = some (.slice (some ⟨h.next + 1, 0, some 1⟩) (xs.length + 1) (xs.length + 1), (h.push (.cells false [u32 x])).push (.cells false (encW.all xs ++ [u32 x]))) := by
      have e2 : elems (h.push (.cells false [u32 x])) 1 1 (.slice (some ⟨h.next, 0, none⟩) 1 1) = some [u32 x] := elems_one (E := encW) (x := x) get_push_self
      simp only [appendV, lenV, e2]
      rw [if_pos (show [u32 x].length = 1 * 1 from rfl), if_neg (by omega), if_pos ⟨by omega, by omega⟩]
      simp only [Nat.mul_one, hr]
      rfl
    rw [ha]
    refine H _ _ (.inr ⟨[h.next + 1], ?_, by simp; omega⟩) ⟨by simp; omega, fun c hc => by rw [get_push_ne (by rw [push_next]; omega), get_push_ne (by omega)]⟩
    have := Own.blk (E := encW) (h := (h.push (.cells false [u32 x])).push (.cells false (encW.all xs ++ [u32 x]))) (b := h.next + 1) (n := xs.length + 1) (c := xs.length + 1) (xs := xs ++ [x]) (r := []) (by
      have : (h.push (.cells false [u32 x])).next = h.next + 1 := rfl
      rw [← this, get_push_self]
      simp [encW]) (by simp) (Nat.le_refl _) (by omega) (by simp)
    exact this
  · refine GV_app1 (E := encW) (bytes := 4) (x := x) h1 (by omega) (by omega) fun v' h' fp' O U => ?_
    refine H v' h' (.inr ⟨fp', O, fun b hb => ?_⟩) ⟨U.le, fun b hb => U.get b (by omega) fun hm => by have := h2 b hm; omega⟩
    rcases U.sub b hb with h5 | h5
    · exact h2 b h5
    · omega
theorem k_image {pg : Nat} {l : List In7} {al : Option Addr} {cl : Nat} (S : Sees encI7 h al l) (hp : 2 ≤ pg ∧ pg ≤ 64) (hl : l.length < 2 ^ 63) :
    WC T n_1f [.slice al l.length cl, .int .i64 (pg : Int)] h fun v h' => (∃ bb, v = .slice (some ⟨bb, 0, none⟩) (1024 * pg) (1024 * pg) ∧ h.next ≤ bb ∧ Bb h' bb (1024 * pg)) ∧ Kp h h' := by
  have e2 : ((pg : Int) * 1024).toNat = 1024 * pg := by omega
  have kw := fun h i => k_word (h := h) (i := i)
  simp only [encIns] at kw
  rw [w_1f]
  simp (maxSteps:=9^7)(disch:=first|assumption|((try simp only[nX]);omega)|simp) [e2]
  generalize hP : Hp.push h _ = P
  have nP : P.next = h.next + 1 := by rw [← hP]; rfl
  have KP : Kp h P := by rw [← hP]; exact (Kp.refl h).push _
  have A : Bb P h.next (1024 * pg) := ⟨List.replicate (1024 * pg) 0#8, List.length_replicate, by rw [← hP, get_push_self]; simp⟩
  clear hP
  refine GC_intro (kw _ ⟨60, 0, 0, 0, 0, 0#32⟩) fun v h1 ⟨⟨w1, hv⟩, K1⟩ => ?_
  subst hv
  have KP := KP.trans K1
  have A := A.kp K1
  simp (maxSteps:=9^7)(disch:=first|assumption|((try simp only[nX]);omega)|simp)
  refine GC_intro (k_put (a := 0) (l := [w1]) (A.kp ((Kp.refl h1).push _)) (sees_new get_push_self rfl) (by omega) (by omega) (by simp) fun D hD => ?_) fun v h2 ⟨hv, A, U2⟩ => ?_
  · cases hD
    have := KP.le
    show h1.next ≠ h.next
    obtain ⟨B, _, hg⟩ := A
    have := lt_of_get hg
    omega
  subst hv
  have KP : Kp h h2 := U2.kp' (KP.push _) (by simp)
  simp (maxSteps:=9^7)(disch:=first|assumption|((try simp only[nX]);omega)|simp)
  refine GC_intro (kw _ ⟨54, 0, 26, 14, 0, 0#32⟩) fun v h3 ⟨⟨w3, hv⟩, K3⟩ => ?_
  subst hv
  have KP := KP.trans K3
  have A := A.kp K3
  simp (maxSteps:=9^7)(disch:=first|assumption|((try simp only[nX]);omega)|simp)
  refine GC_intro (kw _ ⟨47, 26, 26, 0, 0, 4#32⟩) fun v h4 ⟨⟨w4, hv⟩, K4⟩ => ?_
  subst hv
  have KP := KP.trans K4
  have A := A.kp K4
  simp (maxSteps:=9^7)(disch:=first|assumption|((try simp only[nX]);omega)|simp)
  refine GC_intro (kw _ ⟨55, 0, 26, 14, 0, 0#32⟩) fun v h5 ⟨⟨w5, hv⟩, K5⟩ => ?_
  subst hv
  have KP := KP.trans K5
  have A := A.kp K5
  simp (maxSteps:=9^7)(disch:=first|assumption|((try simp only[nX]);omega)|simp)
  refine GC_intro (kw _ ⟨60, 0, 0, 0, 0, 0#32⟩) fun v h6 ⟨⟨w6, hv⟩, K6⟩ => ?_
  subst hv
  have KP := KP.trans K6
  have A := A.kp K6
  simp (maxSteps:=9^7)(disch:=first|assumption|((try simp only[nX]);omega)|simp)
  refine GC_intro (k_put (a := 384) (l := [w3, w4, w5, w6]) (A.kp ((Kp.refl h6).push _)) (sees_new get_push_self rfl) (by omega) (by omega) (by simp) fun D hD => ?_) fun v h7 ⟨hv, A, U7⟩ => ?_
  · cases hD
    show h6.next ≠ h.next
    obtain ⟨B, _, hg⟩ := A
    have := lt_of_get hg
    omega
  subst hv
  have KP : Kp h h7 := U7.kp' (KP.push _) (by simp)
  simp (maxSteps:=9^7)(disch:=first|assumption|((try simp only[nX]);omega)|simp)
  refine GC_intro (kw _ ⟨53, 0, 28, 0, 0, 32768#32⟩) fun v h8 ⟨⟨w8, hv⟩, K8⟩ => ?_
  subst hv
  have KP := KP.trans K8
  have A := A.kp K8
  simp (maxSteps:=9^7)(disch:=first|assumption|((try simp only[nX]);omega)|simp)
  refine GC_intro (kw _ ⟨51, 28, 29, 0, 0, 1024#32⟩) fun v h9 ⟨⟨w9, hv⟩, K9⟩ => ?_
  subst hv
  have KP := KP.trans K9
  have A := A.kp K9
  simp (maxSteps:=9^7)(disch:=first|assumption|((try simp only[nX]);omega)|simp)
  refine GC_intro (kw _ ⟨53, 0, 30, 0, 0, 48896#32⟩) fun v h10 ⟨⟨w10, hv⟩, K10⟩ => ?_
  subst hv
  have KP := KP.trans K10
  have A := A.kp K10
  simp (maxSteps:=9^7)(disch:=first|assumption|((try simp only[nX]);omega)|simp)
  refine GC_intro (kw _ ⟨51, 28, 31, 0, 0, 1536#32⟩) fun v h11 ⟨⟨w11, hv⟩, K11⟩ => ?_
  subst hv
  have KP := KP.trans K11
  have A := A.kp K11
  simp (maxSteps:=9^7)(disch:=first|assumption|((try simp only[nX]);omega)|simp)
  have l11 : h.next < h11.next := by
    obtain ⟨B, _, hg⟩ := A
    exact lt_of_get hg
  obtain ⟨lo, hlo⟩ : ∃ lo, lo = h11.next := ⟨_, rfl⟩
  have R0 : Rz (h11.push (.cells false [u32 w8, u32 w9, u32 w10, u32 w11])) lo (.slice (some ⟨h11.next, 0, none⟩) 4 4) [w8, w9, w10, w11] := .inl ⟨h11.next, rfl, by omega, sees_new get_push_self rfl⟩
  have KP := KP.push (.cells false [u32 w8, u32 w9, u32 w10, u32 w11])
  have A := A.kp ((Kp.refl h11).push (.cells false [u32 w8, u32 w9, u32 w10, u32 w11]))
  have l0 : lo ≤ (h11.push (.cells false [u32 w8, u32 w9, u32 w10, u32 w11])).next := by rw [push_next]; omega
  generalize h11.push (.cells false [u32 w8, u32 w9, u32 w10, u32 w11]) = H0 at *
  rw [← hlo]
  rw [← hlo] at R0 l11
  have hsl := sees_lt S
  refine G_loop (fun j e H => ∃ (i : Nat) (v : Value) (xs : List (BitVec 32)), j = 200 - i ∧ i ≤ l.length ∧ i ≤ 200 ∧ e 0 = .slice al l.length cl ∧ e 5 = .slice (some ⟨h.next, 0, none⟩) (1024 * pg) (1024 * pg) ∧ e 6 = v ∧ e 7 = .int .i64 i ∧ xs.length = i + 4 ∧ Rz H lo v xs ∧ KL lo H0 H) ?_ 200 _ _ ⟨0, _, _, rfl, by omega, by omega, by simp, by simp, by simp, by simp, rfl, R0, ⟨Nat.le_refl _, fun b _ => rfl⟩⟩
  clear R0
  rintro j ih e H ⟨i, v, xs, rfl, i1, i2, e0, e5, e6, e7, hxl, R, KL0⟩
  have hle := KL0.le
  have KH : Kp h H := ⟨by have := KP.le; omega, fun b hb => (KL0.get b (by omega)).trans (KP.get b hb)⟩
  have AH : Bb H h.next (1024 * pg) := by
    obtain ⟨B, hl, hg⟩ := A
    exact ⟨B, hl, (KL0.get _ l11).trans hg⟩
  have SH := S.kp KH
  by_cases c : i < l.length ∧ i < 200
  · obtain ⟨c1, c2⟩ := c
    have c1' : (i : Int) < l.length := by omega
    have c2' : (i : Int) < 200 := by omega
    have hx : l = l.take i ++ l[i] :: l.drop (i + 1) := by rw [List.getElem_cons_drop, List.take_append_drop]
    obtain ⟨D, rfl, hr⟩ := Sees.mid (A := l.take i) (x := l[i]) (B := l.drop (i + 1)) (by rw [← hx]; exact SH)
    rw [List.length_take, Nat.min_eq_left (by omega)] at hr
    have hc := fun h => k_code (h := h) (x := l[i])
    have hr' : H.rdn D.block (D.off + i * 7) 7 = some (encI7.enc l[i]) := hr
    generalize l[i] = x at *
    simp (maxSteps:=9^7)(disch:=first|assumption|((try simp only[nX]);omega)|simp) [e0, e6, e7, c1, c1', c2', hr']
    refine GC_intro (hc _) fun v2 h2 ⟨⟨w, hv⟩, K2⟩ => ?_
    subst hv
    simp (maxSteps:=9^7)(disch:=first|assumption|((try simp only[nX]);omega)|simp)
    have K2l := K2.kl (lo := lo) (by omega)
    refine (R.kp K2).app (by have := K2l.le; omega) (by omega) fun v3 h3 R3 K3 => ?_
    simp (maxSteps:=9^7)(disch:=first|assumption|((try simp only[nX]);omega)|simp) [e7]
    exact ih (200 - (i + 1)) (by omega) _ _ ⟨i + 1, v3, xs ++ [w], rfl, by omega, by omega, by simp [e0], by simp [e5], by simp, by simp, by simp [hxl], R3, (KL0.trans K2l).trans K3⟩
  · have fin2 : ∀ e' : Env, e' 5 = .slice (some ⟨h.next, 0, none⟩) (1024 * pg) (1024 * pg) → e' 6 = v → G T (fin [RV.t 4] (some []) h.next fun v h' => (∃ bb, v = .slice (some ⟨bb, 0, none⟩) (1024 * pg) (1024 * pg) ∧ h.next ≤ bb ∧ Bb h' bb (1024 * pg)) ∧ Kp h h') c2_1f [] e' H := fun e' f5 f6 => by
      obtain ⟨ac, cc, rfl, Sc, hb⟩ := R.sees
      by_cases c3 : xs.length * 4 + 1024 ≤ 1024 * pg
      · have c3' : (xs.length : Int) * 4 + 1024 ≤ 1024 * (pg : Int) := by omega
        simp (maxSteps:=9^7)(disch:=first|assumption|((try simp only[nX]);omega)|simp) [f5, f6, c3']
        refine GC_intro (k_put (a := 1024) AH Sc (by omega) (by omega) (by omega) fun D hD => by have := hb D hD; omega) fun v h2 ⟨hv, A2, U2⟩ => ?_
        subst hv
        simp (maxSteps:=9^7)(disch:=first|assumption|((try simp only[nX]);omega)|simp) [f5]
        exact ⟨A2, U2.kp' KH (by simp)⟩
      · have c3' : ¬ (xs.length : Int) * 4 + 1024 ≤ 1024 * (pg : Int) := by omega
        simp (maxSteps:=9^7)(disch:=first|assumption|((try simp only[nX]);omega)|simp) [f5, f6, c3']
        exact ⟨AH, KH⟩
    by_cases c1 : i < l.length
    · have c1' : (i : Int) < l.length := by omega
      have c2' : ¬ (i : Int) < 200 := by omega
      simp (maxSteps:=9^7)(disch:=first|assumption|((try simp only[nX]);omega)|simp) [e0, e7, c1', c2', -g2_1f]
      exact fin2 _ (by simp [e5]) (by simp [e6])
    · have c1' : ¬ (i : Int) < l.length := by omega
      simp (maxSteps:=9^7)(disch:=first|assumption|((try simp only[nX]);omega)|simp) [e0, e7, c1', -g2_1f]
      exact fin2 _ (by simp [e5]) (by simp [e6])
end
end Go.Proofs.YtmgoleiafiffoaaGreat.Cd

/- BlockEnds: what it answers. -/
set_option maxRecDepth 1000000
set_option maxHeartbeats 8000000
set_option linter.unusedSimpArgs false
set_option linter.unusedVariables false
namespace Go.Proofs.YtmgoleiafiffoaaGreat.Cd
open Go Go.Dx
section
variable {g h h' : Hp} {q : Value → Hp → Prop} {l : List In7} {al : Option Addr} {cl : Nat} {a : BitVec 32} {most less : Int}
end
end Go.Proofs.YtmgoleiafiffoaaGreat.Cd

/- BlockTells: what it answers. -/
set_option maxRecDepth 1000000
set_option maxHeartbeats 8000000
set_option linter.unusedSimpArgs false
set_option linter.unusedVariables false
namespace Go.Proofs.YtmgoleiafiffoaaGreat.Cd
open Go Go.Dx
section
variable {g h h' : Hp} {q : Value → Hp → Prop} {l : List In7} {al ai ar : Option Addr} {cl ci cr : Nat} {a : BitVec 32} {im : By} {rs : List (BitVec 32)} {most : Int}
/-- The memory of a law, told. -/
theorem bmem' {im : By} {ai : Option Addr} {c : Nat} (S : Sees encB h ai im) (hc : im.length ≤ c) (hl : im.length < 2 ^ 63) : WC T n_1s [.slice ai im.length c] h fun v h' => ∃ (x y : Nat) (B : By) (M W M' W' : List Bool), Ra h' x B M W ∧ Ra h' y B M' W' ∧ Kp h h' ∧ B.length = 2048 ∧ v = .tuple #[ptr (x + 3) 0, ptr (y + 3) 0] :=
  bmem S hc hl fun h' x y B M W M' W' a1 a2 a3 a4 a5 a6 => ⟨x, y, B, M, W, M', W', a1, a2, a5, a6, rfl⟩
theorem btells (S : Sees encI7 g al l) (hl : l.length < 2 ^ 63) (S1 : Sees encB g ai im) (hc : im.length ≤ ci) (hi : im.length < 2 ^ 63) (S2 : Sees encW g ar rs) (hr : rs.length < 2 ^ 63) :
    WC T n_1p [.slice al l.length cl, .slice ai im.length ci, u32 a, .int .i64 most, .slice ar rs.length cr] g fun v h' => v = .bool true := by
  have hw1 := fun h q => within_eq (h := h) (q := q) (n := most) (lo := 1) (hi := 32) (by omega) (by omega) (by omega)
  generalize wi most 1 32 = n at *
  rw [w_1p]
  simp (maxSteps:=9^7)(disch:=first|assumption|((try simp only[nX]);omega)|simp)
  refine GC_intro (k_image (pg := 2) S (by omega) hl) fun v h1 ⟨⟨bb, hv, hbb, B0, hB0, hg0⟩, K1⟩ => ?_
  subst hv
  simp (maxSteps:=9^7)(disch:=first|assumption|((try simp only[nX]);omega)|simp)
  have hm := bmem' (h := h1) (im := B0) (ai := some ⟨bb, 0, none⟩) (c := 2048) (sees_b hg0) (by omega) (by omega)
  rw [hB0] at hm
  refine GC_intro hm fun v h2 ⟨x, y, B, MM, WW, MN, WN, R, Q, K2, hB, hv⟩ => ?_
  subst hv
  have K12 := K1.trans K2
  simp (maxSteps:=9^7)(disch:=first|assumption|((try simp only[nX]);omega)|simp)
  refine GC_intro (bmem' (S1.kp K12) hc hi) fun v h3 ⟨x2, y2, B2, MM2, WW2, MN2, WN2, R2, Q2, K3, hB2, hv⟩ => ?_
  subst hv
  simp (maxSteps:=9^7)(disch:=first|assumption|((try simp only[nX]);omega)|simp) [GC_of (hw1 _)]
  have K13 := K12.trans K3
  refine GC_intro (l21_same (R.kp K3) (Q.kp K3) hB (S2.kp K13) hr) fun v h4 ⟨hv, K4⟩ => ?_
  subst hv
  simp (maxSteps:=9^7)(disch:=first|assumption|((try simp only[nX]);omega)|simp)
  refine GC_intro (l21_same ((R.kp K3).kp K4) ((Q.kp K3).kp K4) hB ((S2.kp K13).kp K4) hr) fun v h5 ⟨hv, K5⟩ => ?_
  subst hv
  have K45 := K4.trans K5
  simp (maxSteps:=9^7)(disch:=first|assumption|((try simp only[nX]);omega)|simp)
  refine GC_intro (l21_same (R2.kp K45) (Q2.kp K45) hB2 ((S2.kp K13).kp K45) hr) fun v h6 ⟨hv, K6⟩ => ?_
  subst hv
  simp (maxSteps:=9^7)(disch:=first|assumption|((try simp only[nX]);omega)|simp)
  refine bk21.mono fun u g1 hu => ?_
  obtain ⟨rfl, _⟩ := hu
  simp (maxSteps:=9^7)(disch:=first|assumption|((try simp only[nX]);omega)|simp)
end
end Go.Proofs.YtmgoleiafiffoaaGreat.Cd
