/- Texts of one kind, one behind the other. -/
import Derived.Test.YtmgoleiafiffoaaGreatMeBlockNumbers4
/- BlockNumbers: what it answers. -/
set_option maxRecDepth 1000000
set_option maxHeartbeats 8000000
set_option linter.unusedSimpArgs false
set_option linter.unusedVariables false
namespace Go.Proofs.YtmgoleiafiffoaaGreat.Cd
open Go Go.Dx
section
variable {g h h' : Hp} {q : Value → Hp → Prop}
theorem bnums : WC T n_1n [] g fun v h' => v = .bool true := by
  rw [w_1n]
  simp (maxSteps:=9^7)(disch:=first|assumption|((try simp only[nX]);omega)|simp) [-List.reduceReplicate]
  have z1 : List.replicate 2048 (u8 0#8) = (List.replicate 2048 0#8).map u8 := by rw [List.map_replicate]
  rw [z1]
  have zl : (List.replicate 2048 0#8 : By).length = 2048 := List.length_replicate
  generalize (List.replicate 2048 0#8 : By) = L0 at *
  refine G_loop (fun m e H => ∃ (i : Nat) (L : By), m = 512 - i ∧ i ≤ 512 ∧ L.length = 2048 ∧ H.get g.next = some (.cells false (L.map u8)) ∧ e 1 = .slice (some ⟨g.next, 0, none⟩) 2048 2048 ∧ e 2 = .int .i64 i) ?_ 512 _ _ ⟨0, L0, rfl, by omega, zl, get_push_self, by simp, by simp⟩
  rintro m ih e H ⟨i, L, rfl, hi, hL, gL, e1, e2⟩
  by_cases hi5 : i < 512
  case neg =>
    have hi5' : ¬ (i : Int) < 512 := by omega
    simp (maxSteps:=9^7)(disch:=first|assumption|((try simp only[nX]);omega)|simp) [e1, e2, hi5']
    have hm := bmem' (h := H) (im := L) (ai := some ⟨g.next, 0, none⟩) (c := 2048) (sees_b gL) (by omega) (by omega)
    rw [hL] at hm
    refine GC_intro hm fun v h1 ⟨x, y, B, MM, WW, MN, WN, R, Q, K1, hB, hv⟩ => ?_
    subst hv
    have sm := fun (P : Hp) (K : Kp h1 P) (a : BitVec 32) (n : Int) => l21_same (a := a) (most := n) (cl := 0) (R.kp K) (Q.kp K) hB (Sees.nul (h := P)) (by decide)
    simp only [List.length_nil] at sm
    simp (maxSteps:=9^7)(disch:=first|assumption|((try simp only[nX]);omega)|simp)
    refine G_loop (fun m e H => ∃ j : Nat, m = 35 - j ∧ j ≤ 35 ∧ Kp h1 H ∧ e 5 = ptr (x + 3) 0 ∧ e 6 = ptr (y + 3) 0 ∧ e 7 = u32 (BitVec.ofNat 32 (960 + 4 * j))) ?_ 35 _ _ ⟨0, rfl, by omega, .refl h1, by simp, by simp, by simp⟩
    clear ih e1 e2 gL hm
    rintro m ih e H ⟨j, rfl, hj, K, e5, e6, e7⟩
    by_cases hj5 : j < 35
    case neg =>
      have hc : ¬ (960 + 4 * j) % 4294967296 < 1100 := by omega
      simp (maxSteps:=9^7)(disch:=first|assumption|((try simp only[nX]);omega)|simp) [e7, hc]
      obtain ⟨p, hp⟩ : ∃ p, p = H.next := ⟨_, rfl⟩
      rw [← hp]
      generalize hP : Hp.push H _ = P
      have gP : P.get p = some (.cells false [u32 2040#32, u32 2044#32, u32 2048#32, u32 1#32, u32 4294967292#32]) := by rw [← hP, hp]; exact get_push_self
      have KP : Kp h1 P := by rw [← hP]; exact K.push _
      clear hP
      refine G_loop (fun m e H => ∃ z : Nat, m = 5 - z ∧ z ≤ 5 ∧ Kp h1 H ∧ H.get p = some (.cells false [u32 2040#32, u32 2044#32, u32 2048#32, u32 1#32, u32 4294967292#32]) ∧ e 5 = ptr (x + 3) 0 ∧ e 6 = ptr (y + 3) 0 ∧ e 64 = .slice (some ⟨p, 0, none⟩) 5 5 ∧ e 65 = .int .i64 5 ∧ e 66 = .int .i64 z) ?_ 5 _ _ ⟨0, rfl, by omega, KP, gP, by simp [e5], by simp [e6], by simp, by simp, by simp⟩
      clear ih e5 e6 e7
      rintro m ih2 e H ⟨i, rfl, hi, K, gP, e5, e6, f1, f2, f3⟩
      by_cases hi5 : i < 5
      case neg =>
        obtain rfl : i = 5 := by omega
        simp (maxSteps:=9^7)(disch:=first|assumption|((try simp only[nX]);omega)|simp) [f1, f2, f3]
        refine bk21.mono fun u g1 hu => ?_
        obtain ⟨rfl, _⟩ := hu
        simp (maxSteps:=9^7)(disch:=first|assumption|((try simp only[nX]);omega)|simp)
      rcases (by omega : i = 0 ∨ i = 1 ∨ i = 2 ∨ i = 3 ∨ i = 4) with rfl | rfl | rfl | rfl | rfl
      · simp (maxSteps:=9^7)(disch:=first|assumption|((try simp only[nX]);omega)|simp) [e5, e6, f1, f2, f3, gP]
        refine GC_intro (sm H K (2040#32) 9) fun v h2 ⟨hv, K2⟩ => ?_
        subst hv
        simp (maxSteps:=9^7)(disch:=first|assumption|((try simp only[nX]);omega)|simp) [f3]
        exact ih2 (5 - (0 + 1)) (by omega) _ _ ⟨0 + 1, rfl, by omega, K.trans K2, (K2.get _ (lt_of_get gP)).trans gP, by simp [e5], by simp [e6], by simp [f1], by simp [f2], by simp⟩
      · simp (maxSteps:=9^7)(disch:=first|assumption|((try simp only[nX]);omega)|simp) [e5, e6, f1, f2, f3, gP]
        refine GC_intro (sm H K (2044#32) 9) fun v h2 ⟨hv, K2⟩ => ?_
        subst hv
        simp (maxSteps:=9^7)(disch:=first|assumption|((try simp only[nX]);omega)|simp) [f3]
        exact ih2 (5 - (1 + 1)) (by omega) _ _ ⟨1 + 1, rfl, by omega, K.trans K2, (K2.get _ (lt_of_get gP)).trans gP, by simp [e5], by simp [e6], by simp [f1], by simp [f2], by simp⟩
      · simp (maxSteps:=9^7)(disch:=first|assumption|((try simp only[nX]);omega)|simp) [e5, e6, f1, f2, f3, gP]
        refine GC_intro (sm H K (2048#32) 9) fun v h2 ⟨hv, K2⟩ => ?_
        subst hv
        simp (maxSteps:=9^7)(disch:=first|assumption|((try simp only[nX]);omega)|simp) [f3]
        exact ih2 (5 - (2 + 1)) (by omega) _ _ ⟨2 + 1, rfl, by omega, K.trans K2, (K2.get _ (lt_of_get gP)).trans gP, by simp [e5], by simp [e6], by simp [f1], by simp [f2], by simp⟩
      · simp (maxSteps:=9^7)(disch:=first|assumption|((try simp only[nX]);omega)|simp) [e5, e6, f1, f2, f3, gP]
        refine GC_intro (sm H K (1#32) 9) fun v h2 ⟨hv, K2⟩ => ?_
        subst hv
        simp (maxSteps:=9^7)(disch:=first|assumption|((try simp only[nX]);omega)|simp) [f3]
        exact ih2 (5 - (3 + 1)) (by omega) _ _ ⟨3 + 1, rfl, by omega, K.trans K2, (K2.get _ (lt_of_get gP)).trans gP, by simp [e5], by simp [e6], by simp [f1], by simp [f2], by simp⟩
      · simp (maxSteps:=9^7)(disch:=first|assumption|((try simp only[nX]);omega)|simp) [e5, e6, f1, f2, f3, gP]
        refine GC_intro (sm H K (4294967292#32) 9) fun v h2 ⟨hv, K2⟩ => ?_
        subst hv
        simp (maxSteps:=9^7)(disch:=first|assumption|((try simp only[nX]);omega)|simp) [f3]
        exact ih2 (5 - (4 + 1)) (by omega) _ _ ⟨4 + 1, rfl, by omega, K.trans K2, (K2.get _ (lt_of_get gP)).trans gP, by simp [e5], by simp [e6], by simp [f1], by simp [f2], by simp⟩
    have hc : (960 + 4 * j) % 4294967296 < 1100 := by omega
    simp (maxSteps:=9^7)(disch:=first|assumption|((try simp only[nX]);omega)|simp) [e7, hc]
    have ofs : BitVec.ofNat 32 (960 + 4 * j) + 4#32 = BitVec.ofNat 32 (960 + 4 * (j + 1)) := by
      apply BitVec.eq_of_toNat_eq
      simp
      omega
    obtain ⟨p, hp⟩ : ∃ p, p = H.next := ⟨_, rfl⟩
    rw [← hp]
    generalize hP : Hp.push H _ = P
    have gP : P.get p = some (.cells false [.int .i64 (-1), .int .i64 0, .int .i64 1, .int .i64 2, .int .i64 3, .int .i64 8, .int .i64 32, .int .i64 50]) := by rw [← hP, hp]; exact get_push_self
    have KP : Kp h1 P := by rw [← hP]; exact K.push _
    clear hP
    refine G_loop (fun m e H => ∃ z : Nat, m = 8 - z ∧ z ≤ 8 ∧ Kp h1 H ∧ H.get p = some (.cells false [.int .i64 (-1), .int .i64 0, .int .i64 1, .int .i64 2, .int .i64 3, .int .i64 8, .int .i64 32, .int .i64 50]) ∧ e 5 = ptr (x + 3) 0 ∧ e 6 = ptr (y + 3) 0 ∧ e 7 = u32 (BitVec.ofNat 32 (960 + 4 * j)) ∧ e 51 = .slice (some ⟨p, 0, none⟩) 8 8 ∧ e 52 = .int .i64 8 ∧ e 53 = .int .i64 z) ?_ 8 _ _ ⟨0, rfl, by omega, KP, gP, by simp [e5], by simp [e6], by simp [e7], by simp, by simp, by simp⟩
    clear e5 e6 e7
    rintro m ih2 e H ⟨i, rfl, hi, K, gP, e5, e6, e7, f1, f2, f3⟩
    by_cases hi5 : i < 8
    case neg =>
      obtain rfl : i = 8 := by omega
      simp (maxSteps:=9^7)(disch:=first|assumption|((try simp only[nX]);omega)|simp) [e7, f2, f3]
      exact ih (35 - (j + 1)) (by omega) _ _ ⟨j + 1, rfl, by omega, K, by simp [e5], by simp [e6], by simp; exact congrArg u32 ofs⟩
    rcases (by omega : i = 0 ∨ i = 1 ∨ i = 2 ∨ i = 3 ∨ i = 4 ∨ i = 5 ∨ i = 6 ∨ i = 7) with rfl | rfl | rfl | rfl | rfl | rfl | rfl | rfl
    · simp (maxSteps:=9^7)(disch:=first|assumption|((try simp only[nX]);omega)|simp) [e5, e6, e7, f1, f2, f3, gP]
      refine GC_intro (sm H K (BitVec.ofNat 32 (960 + 4 * j)) (-1)) fun v h2 ⟨hv, K2⟩ => ?_
      subst hv
      simp (maxSteps:=9^7)(disch:=first|assumption|((try simp only[nX]);omega)|simp) [f3]
      exact ih2 (8 - (0 + 1)) (by omega) _ _ ⟨0 + 1, rfl, by omega, K.trans K2, (K2.get _ (lt_of_get gP)).trans gP, by simp [e5], by simp [e6], by simp [e7], by simp [f1], by simp [f2], by simp⟩
    · simp (maxSteps:=9^7)(disch:=first|assumption|((try simp only[nX]);omega)|simp) [e5, e6, e7, f1, f2, f3, gP]
      refine GC_intro (sm H K (BitVec.ofNat 32 (960 + 4 * j)) (0)) fun v h2 ⟨hv, K2⟩ => ?_
      subst hv
      simp (maxSteps:=9^7)(disch:=first|assumption|((try simp only[nX]);omega)|simp) [f3]
      exact ih2 (8 - (1 + 1)) (by omega) _ _ ⟨1 + 1, rfl, by omega, K.trans K2, (K2.get _ (lt_of_get gP)).trans gP, by simp [e5], by simp [e6], by simp [e7], by simp [f1], by simp [f2], by simp⟩
    · simp (maxSteps:=9^7)(disch:=first|assumption|((try simp only[nX]);omega)|simp) [e5, e6, e7, f1, f2, f3, gP]
      refine GC_intro (sm H K (BitVec.ofNat 32 (960 + 4 * j)) (1)) fun v h2 ⟨hv, K2⟩ => ?_
      subst hv
      simp (maxSteps:=9^7)(disch:=first|assumption|((try simp only[nX]);omega)|simp) [f3]
      exact ih2 (8 - (2 + 1)) (by omega) _ _ ⟨2 + 1, rfl, by omega, K.trans K2, (K2.get _ (lt_of_get gP)).trans gP, by simp [e5], by simp [e6], by simp [e7], by simp [f1], by simp [f2], by simp⟩
    · simp (maxSteps:=9^7)(disch:=first|assumption|((try simp only[nX]);omega)|simp) [e5, e6, e7, f1, f2, f3, gP]
      refine GC_intro (sm H K (BitVec.ofNat 32 (960 + 4 * j)) (2)) fun v h2 ⟨hv, K2⟩ => ?_
      subst hv
      simp (maxSteps:=9^7)(disch:=first|assumption|((try simp only[nX]);omega)|simp) [f3]
      exact ih2 (8 - (3 + 1)) (by omega) _ _ ⟨3 + 1, rfl, by omega, K.trans K2, (K2.get _ (lt_of_get gP)).trans gP, by simp [e5], by simp [e6], by simp [e7], by simp [f1], by simp [f2], by simp⟩
    · simp (maxSteps:=9^7)(disch:=first|assumption|((try simp only[nX]);omega)|simp) [e5, e6, e7, f1, f2, f3, gP]
      refine GC_intro (sm H K (BitVec.ofNat 32 (960 + 4 * j)) (3)) fun v h2 ⟨hv, K2⟩ => ?_
      subst hv
      simp (maxSteps:=9^7)(disch:=first|assumption|((try simp only[nX]);omega)|simp) [f3]
      exact ih2 (8 - (4 + 1)) (by omega) _ _ ⟨4 + 1, rfl, by omega, K.trans K2, (K2.get _ (lt_of_get gP)).trans gP, by simp [e5], by simp [e6], by simp [e7], by simp [f1], by simp [f2], by simp⟩
    · simp (maxSteps:=9^7)(disch:=first|assumption|((try simp only[nX]);omega)|simp) [e5, e6, e7, f1, f2, f3, gP]
      refine GC_intro (sm H K (BitVec.ofNat 32 (960 + 4 * j)) (8)) fun v h2 ⟨hv, K2⟩ => ?_
      subst hv
      simp (maxSteps:=9^7)(disch:=first|assumption|((try simp only[nX]);omega)|simp) [f3]
      exact ih2 (8 - (5 + 1)) (by omega) _ _ ⟨5 + 1, rfl, by omega, K.trans K2, (K2.get _ (lt_of_get gP)).trans gP, by simp [e5], by simp [e6], by simp [e7], by simp [f1], by simp [f2], by simp⟩
    · simp (maxSteps:=9^7)(disch:=first|assumption|((try simp only[nX]);omega)|simp) [e5, e6, e7, f1, f2, f3, gP]
      refine GC_intro (sm H K (BitVec.ofNat 32 (960 + 4 * j)) (32)) fun v h2 ⟨hv, K2⟩ => ?_
      subst hv
      simp (maxSteps:=9^7)(disch:=first|assumption|((try simp only[nX]);omega)|simp) [f3]
      exact ih2 (8 - (6 + 1)) (by omega) _ _ ⟨6 + 1, rfl, by omega, K.trans K2, (K2.get _ (lt_of_get gP)).trans gP, by simp [e5], by simp [e6], by simp [e7], by simp [f1], by simp [f2], by simp⟩
    · simp (maxSteps:=9^7)(disch:=first|assumption|((try simp only[nX]);omega)|simp) [e5, e6, e7, f1, f2, f3, gP]
      refine GC_intro (sm H K (BitVec.ofNat 32 (960 + 4 * j)) (50)) fun v h2 ⟨hv, K2⟩ => ?_
      subst hv
      simp (maxSteps:=9^7)(disch:=first|assumption|((try simp only[nX]);omega)|simp) [f3]
      exact ih2 (8 - (7 + 1)) (by omega) _ _ ⟨7 + 1, rfl, by omega, K.trans K2, (K2.get _ (lt_of_get gP)).trans gP, by simp [e5], by simp [e6], by simp [e7], by simp [f1], by simp [f2], by simp⟩
  have hi5' : (i : Int) < 512 := by omega
  have hw7 : IntKind.i64.wrap ((i : Int) * 7) = (i : Int) * 7 := wrap_i64 (by omega) (by omega)
  have hw4 : IntKind.i64.wrap (4 * (i : Int)) = 4 * (i : Int) := wrap_i64 (by omega) (by omega)
  obtain ⟨r, hr, hr10⟩ : ∃ r : Nat, ((i : Int) * 7).tmod 10 = (r : Int) ∧ r < 10 := ⟨i * 7 % 10, by rw [Int.tmod_eq_emod_of_nonneg (by omega)]; omega, by omega⟩
  have inner : ∀ (e : Env) (H : Hp), H.get g.next = some (.cells false (L.map u8)) → e 1 = .slice (some ⟨g.next, 0, none⟩) 2048 2048 → e 2 = .int .i64 i → (∃ w, e 3 = u32 w) → e 4 = .int .i64 0 →
      G T (fin [RV.t 0] (some []) g.next fun v h' => v = Value.bool true) c1_1n.loop [Fr.block 2, Fr.block 1, Fr.seq (C.ops [{ d := some 15, g := none, o := Op.mov (X.t 2) }, { d := some 16, g := none, o := Op.bin BinOp.add (X.t 15) (X.c (Value.int IntKind.i64 1)) }, { d := some 2, g := none, o := Op.mov (X.t 16) }]), Fr.loop c3_1n, Fr.block 0, Fr.seq c11_1n] e H := fun e H gL e1 e2 ⟨w, e3⟩ e4 => by
    refine G_loop (fun m e H => ∃ (k : Nat) (L : By), m = 4 - k ∧ k ≤ 4 ∧ L.length = 2048 ∧ H.get g.next = some (.cells false (L.map u8)) ∧ e 1 = .slice (some ⟨g.next, 0, none⟩) 2048 2048 ∧ e 2 = .int .i64 i ∧ e 3 = u32 w ∧ e 4 = .int .i64 k) ?_ 4 _ _ ⟨0, L, rfl, by omega, hL, gL, e1, e2, e3, e4⟩
    rintro m ih2 e H ⟨k, L, rfl, hk, hL, gL, e1, e2, e3, e4⟩
    have lH := lt_of_get gL
    by_cases hk4 : k < 4
    case neg =>
      obtain rfl : k = 4 := by omega
      have hw1 : IntKind.i64.wrap ((i : Int) + 1) = (i : Int) + 1 := wrap_i64 (by omega) (by omega)
      simp (maxSteps:=9^7)(disch:=first|assumption|((try simp only[nX]);omega)|simp) [e1, e2, e3, e4, hw1]
      exact ih (512 - (i + 1)) (by omega) _ _ ⟨i + 1, L, rfl, by omega, hL, gL, by simp [e1], by simp⟩
    have o1 := fun n v (hn : n < 2048) => over_set (l := L.map u8) (i := n) (v := v) (by simp; omega)
    obtain ⟨n, hn, hn2⟩ : ∃ n : Nat, 4 * (i : Int) = n ∧ n + 3 < 2048 := ⟨4 * i, by omega, by omega⟩
    rw [hn] at hw4
    rcases (by omega : k = 0 ∨ k = 1 ∨ k = 2 ∨ k = 3) with rfl | rfl | rfl | rfl
    · have hn3 : n ≤ 2047 := by omega
      have hn4 : (n : Int) < 2048 := by omega
      have hn5 : n < 2048 := by omega
      simp (maxSteps:=9^7)(disch:=first|assumption|((try simp only[nX]);omega)|simp) [e1, e2, e3, e4, hn, hw4, gL, hL, hn5, hn3, hn4, o1, -over]
      exact ih2 (4 - (0 + 1)) (by omega) _ _ ⟨0 + 1, L.set n _, rfl, by omega, by simp [hL], by rw [get_put_self lH, List.map_set], by simp [e1], by simp [e2], by simp [e3], by simp⟩
    · obtain ⟨n1, hk1, hk2⟩ : ∃ m : Nat, IntKind.i64.wrap ((n : Int) + 1) = m ∧ m < 2048 := ⟨n + 1, by rw [wrap_i64 (by omega) (by omega)]; omega, by omega⟩
      have hn3 : n1 ≤ 2047 := by omega
      have hn4 : (n1 : Int) < 2048 := by omega
      have hn5 : n1 < 2048 := by omega
      simp (maxSteps:=9^7)(disch:=first|assumption|((try simp only[nX]);omega)|simp) [e1, e2, e3, e4, hn, hw4, gL, hL, hk1, hn5, hn3, hn4, o1, -over]
      exact ih2 (4 - (1 + 1)) (by omega) _ _ ⟨1 + 1, L.set n1 _, rfl, by omega, by simp [hL], by rw [get_put_self lH, List.map_set], by simp [e1], by simp [e2], by simp [e3], by simp⟩
    · obtain ⟨n2, hk1, hk2⟩ : ∃ m : Nat, IntKind.i64.wrap ((n : Int) + 2) = m ∧ m < 2048 := ⟨n + 2, by rw [wrap_i64 (by omega) (by omega)]; omega, by omega⟩
      have hn3 : n2 ≤ 2047 := by omega
      have hn4 : (n2 : Int) < 2048 := by omega
      have hn5 : n2 < 2048 := by omega
      simp (maxSteps:=9^7)(disch:=first|assumption|((try simp only[nX]);omega)|simp) [e1, e2, e3, e4, hn, hw4, gL, hL, hk1, hn5, hn3, hn4, o1, -over]
      exact ih2 (4 - (2 + 1)) (by omega) _ _ ⟨2 + 1, L.set n2 _, rfl, by omega, by simp [hL], by rw [get_put_self lH, List.map_set], by simp [e1], by simp [e2], by simp [e3], by simp⟩
    · obtain ⟨n3, hk1, hk2⟩ : ∃ m : Nat, IntKind.i64.wrap ((n : Int) + 3) = m ∧ m < 2048 := ⟨n + 3, by rw [wrap_i64 (by omega) (by omega)]; omega, by omega⟩
      have hn3 : n3 ≤ 2047 := by omega
      have hn4 : (n3 : Int) < 2048 := by omega
      have hn5 : n3 < 2048 := by omega
      simp (maxSteps:=9^7)(disch:=first|assumption|((try simp only[nX]);omega)|simp) [e1, e2, e3, e4, hn, hw4, gL, hL, hk1, hn5, hn3, hn4, o1, -over]
      exact ih2 (4 - (3 + 1)) (by omega) _ _ ⟨3 + 1, L.set n3 _, rfl, by omega, by simp [hL], by rw [get_put_self lH, List.map_set], by simp [e1], by simp [e2], by simp [e3], by simp⟩
  rcases (by omega : r = 0 ∨ r = 1 ∨ r = 2 ∨ r = 3 ∨ r = 4 ∨ r = 5 ∨ r = 6 ∨ r = 7 ∨ r = 8 ∨ r = 9) with rfl | rfl | rfl | rfl | rfl | rfl | rfl | rfl | rfl | rfl <;>
    (simp (maxSteps:=9^7)(disch:=first|assumption|((try simp only[nX]);omega)|simp) [e1, e2, hi5', hw7, hr]
     exact inner _ _ ((get_push_ne (by have := lt_of_get gL; omega)).trans gL) (by simp [e1]) (by simp [e2]) ⟨_, rfl⟩ (by simp))
end
end Go.Proofs.YtmgoleiafiffoaaGreat.Cd
