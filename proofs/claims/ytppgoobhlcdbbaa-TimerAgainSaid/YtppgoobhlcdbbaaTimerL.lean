/- TimerAgain: what it answers. -/
import Derived.Test.YtppgoobhlcdbbaaTimer
set_option maxRecDepth 1000000
set_option linter.unusedSimpArgs false
set_option linter.unusedVariables false
namespace Go.Proofs.Ytppgoobhlcdbbaa.Cd
open Go Go.Dx
section
variable {g h : Hp}
theorem TW.new {d : Int} : TW g ((g.push (.cells false [.slice none 0 0, .int .i64 0])).push (.cells false [.int .i64 d, ptr g.next 0, u32 0#32, u32 0#32, u32 0#32])) (g.next + 1) g.next d 0#32 0#32 0#32 [] 0 [] :=
  ⟨by unfold Tm; rw [show g.next + 1 = (g.push (.cells false [.slice none 0 0, .int .i64 0])).next from rfl, get_push_self], Wh.new.kp ((Kp.refl _).push _), .nil, by simp, ((Kp.refl g).push _).push _, by simp, by omega⟩
theorem tknown : WC T n_pianolalaw11_known [] g fun v h' => v = .bool true ∧ Kp g h' := by
  rw [w_pianolalaw11_known]
  simp (disch := first | assumption | ((try simp only [push_next, put_next, adv_next, List.length_cons, List.length_nil]); omega) | simp) [GC_of (fun q => wnew), GC_of (fun q => tnew (h := g.push (.cells false [.slice none 0 0, .int .i64 0])) (w := g.next) (d := 1) (q := q) (by simp))]
  have X := TW.new (g := g) (d := 1)
  generalize (g.push (.cells false [.slice none 0 0, .int .i64 0])).push (.cells false [.int .i64 1, ptr g.next 0, u32 0#32, u32 0#32, u32 0#32]) = h0 at *
  refine twrite X (by omega) (by omega) fun c1 p1 s1 L1 n1 h1 fp1 X1 _ h4 _ _ => ?_
  obtain ⟨rfl, rfl, rfl, rfl, rfl⟩ := h4 rfl
  simp (disch := first | assumption | ((try simp only [push_next, put_next, adv_next, List.length_cons, List.length_nil]); omega) | simp) [tat]
  refine twrite X1 (by omega) (by omega) fun c1 p1 s1 L1 n1 h1 fp1 X2 hz _ _ _ => ?_
  obtain ⟨rfl, rfl, rfl, hL, _⟩ := hz rfl
  obtain ⟨rfl, rfl⟩ := hL (by decide)
  have e1 : insl (·.at') (⟨10 + per 5#32, 1, 0⟩ : Ev) (wcan 1 []) = [⟨15, 1, 0⟩] := rfl
  rw [e1] at X2
  simp (disch := first | assumption | ((try simp only [push_next, put_next, adv_next, List.length_cons, List.length_nil]); omega) | simp) [tat]
  refine wat X2.wh (by simp) fun h2 K2 => ?_
  have X3 := X2.more K2
  have e2 : ([(⟨15, 1, 0⟩ : Ev)].find? fun x => decide (x.dev = 1)).elim 0 (·.at') = 15 := rfl
  have e3 : whas 1 [(⟨15, 1, 0⟩ : Ev)] = true := rfl
  simp (disch := first | assumption | ((try simp only [push_next, put_next, adv_next, List.length_cons, List.length_nil]); omega) | simp) [e2, e3, GC_of (fun q => tread X3.tm)]
  refine tfire X3 (by omega) (by omega) fun c' L' n' h3 fp3 X4 _ _ => ?_
  simp (disch := first | assumption | ((try simp only [push_next, put_next, adv_next, List.length_cons, List.length_nil]); omega) | simp) [GC_of (fun q => tline X4.tm), GC_of (fun q => tnew_nil), tat]
  exact X4.kp
theorem per_of : ∀ P : Nat, P < 21 → 1 ≤ P → per (BitVec.ofNat 32 P) = P := by decide
/-- How it ends. -/
theorem tend {e : Env} {t w cnt N P : Nat} {d q : Int} {c p s : BitVec 32} {L : List Ev} {fp : List Nat} {again : Bool} (X : TW g h t w d c p s L q fp) (hP : 1 ≤ P) (hN : N ≤ 100) (hs : (s != 0#32) = decide (0 < cnt)) (hc : if again = true then N / P = cnt else min (N / P) 1 = cnt)
    (e1 : e 1 = .bool again) (e8 : e 8 = ptr t 0) (e9 : e 9 = .int .i64 P) (e11 : e 11 = .int .i64 N) (e12 : e 12 = .int .i64 cnt) : G T (fin [.t 6] (some []) g.next fun v h' => v = .bool true) c4_pianolalaw11_TimerAgain [] e h := by
  have hne : (P : Int) ≠ 0 := by omega
  have hdiv : (N : Int).tdiv P = ((N / P : Nat) : Int) := by
    rw [Int.tdiv_eq_ediv_of_nonneg (by omega)]
    rfl
  have hle : N / P ≤ N := Nat.div_le_self N P
  have hcp : (decide (0 < cnt)) = decide ((0 : Int) < cnt) := by
    by_cases h : 0 < cnt
    · simp [h]
    · simp [h]
  generalize N / P = D at *
  cases again with
  | true =>
    simp at hc
    subst hc
    simp (disch := first | assumption | ((try simp only [push_next, put_next, adv_next, List.length_cons, List.length_nil]); omega) | simp) [e1, e8, e9, e11, e12, hne, hdiv, GC_of (fun q => tline X.tm), hs]
    exact GC_intro tknown fun v h hv => by simp (disch := first | assumption | ((try simp only [push_next, put_next, adv_next, List.length_cons, List.length_nil]); omega) | simp) [hv.1]
  | false =>
    simp at hc
    have hm : (if (1 : Int) < D then (1 : Int) else D) = cnt := by
      split <;> omega
    simp (disch := first | assumption | ((try simp only [push_next, put_next, adv_next, List.length_cons, List.length_nil]); omega) | simp) [e1, e8, e9, e11, e12, hne, hdiv, hm, GC_of (fun q => tline X.tm), hs]
    exact GC_intro tknown fun v h hv => by simp (disch := first | assumption | ((try simp only [push_next, put_next, adv_next, List.length_cons, List.length_nil]); omega) | simp) [hv.1]
theorem tloop {e : Env} {t w N P : Nat} {q : Int} {p : BitVec 32} {fp : List Nat} {again : Bool} (X : TW g h t w 1 (if again = true then 3#32 else 1#32) p 0#32 [⟨P, 1, 0⟩] q fp) (hP : 1 ≤ P) (hp : per p = P) (hP' : P ≤ 20) (hN : N ≤ 100)
    (e1 : e 1 = .bool again) (e7 : e 7 = ptr w 0) (e8 : e 8 = ptr t 0) (e9 : e 9 = .int .i64 P) (e11 : e 11 = .int .i64 N) (e12 : e 12 = .int .i64 0) (e13 : e 13 = .int .i64 0) : G T (fin [.t 6] (some []) g.next fun v h' => v = .bool true) (.loop c2_pianolalaw11_TimerAgain) [.block 0, .seq c4_pianolalaw11_TimerAgain] e h := by
  have hne : (P : Int) ≠ 0 := by omega
  cases again with
  | true =>
    refine G_loop (fun k e h => ∃ (now cnt nx : Nat) (s : BitVec 32) (sq q : Int) (fp : List Nat), k = N + 1 - now ∧ now ≤ N + 1 ∧ TW g h t w 1 3#32 p s [⟨nx, 1, sq⟩] q fp ∧ nx = P * (cnt + 1) ∧ (s != 0#32) = decide (0 < cnt) ∧ (cnt = 0 ∨ P * cnt < now) ∧ now ≤ nx ∧ e 1 = .bool true ∧ e 7 = ptr w 0 ∧ e 8 = ptr t 0 ∧ e 9 = .int .i64 P ∧ e 11 = .int .i64 N ∧ e 12 = .int .i64 cnt ∧ e 13 = .int .i64 now) ?_ (N + 1) _ _ ⟨0, 0, P, 0#32, 0, q, fp, rfl, by omega, X, by omega, rfl, .inl rfl, by omega, e1, e7, e8, e9, e11, e12, e13⟩
    rintro k ih e h ⟨now, cnt, nx, s, sq, q, fp, rfl, hnow, X, hnx, hs, hlo, hhi, e1, e7, e8, e9, e11, e12, e13⟩
    by_cases hend : now = N + 1
    · have hlt : ¬ ((N : Int) + 1 ≤ N) := by omega
      subst hend
      simp (disch := first | assumption | ((try simp only [push_next, put_next, adv_next, List.length_cons, List.length_nil]); omega) | simp) [e11, e13, hlt, -g4_pianolalaw11_TimerAgain]
      refine tend (again := true) X hP hN hs ?_ (by simp [e1]) (by simp [e8]) (by simp [e9]) (by simp [e11]) (by simp [e12])
      rw [if_pos rfl]
      refine Nat.div_eq_of_lt_le ?_ ?_
      · rw [Nat.mul_comm]
        rcases hlo with rfl | hlo
        · simp
        · omega
      · rw [Nat.mul_comm]
        omega
    · have hle : (now : Int) ≤ N := by omega
      simp (disch := first | assumption | ((try simp only [push_next, put_next, adv_next, List.length_cons, List.length_nil]); omega) | simp) [e7, e11, e13, hle]
      refine wtake X.wh (by simp) (fun hno h1 K1 => ?_) fun x B hx hxle h1 fp1 W1 U1 => ?_
      · have hlt : (now : Int) < nx := hno ⟨nx, 1, sq⟩ (by simp)
        have X1 := (X.more K1).more (kp_laid (Kp.refl h1) (.cells false [.int .i64 0, .int .i64 0, .int .i64 0]) (.cells false [.int .i64 0, .int .i64 0, .int .i64 0]))
        simp (disch := first | assumption | ((try simp only [push_next, put_next, adv_next, List.length_cons, List.length_nil]); omega) | simp) [e13]
        apply ih (N + 1 - (now + 1)) (by omega)
        exact ⟨now + 1, cnt, nx, s, sq, q, fp, rfl, by omega, X1, hnx, hs, by omega, by omega, by simp [e1], by simp [e7], by simp [e8], by simp [e9], by simp [e11], by simp [e12], by simp⟩
      · simp at hx
        obtain ⟨rfl, rfl⟩ := hx
        simp at hxle
        have hnn : nx = now := by omega
        subst hnn
        have X1 := (X.arm W1 U1 .nil).more (kp_laid (Kp.refl h1) (.cells false [.int .i64 0, .int .i64 0, .int .i64 0]) (.cells false [.int .i64 nx, .int .i64 1, .int .i64 sq]))
        have z1 : ((h1.push (.cells false [.int .i64 0, .int .i64 0, .int .i64 0])).put h1.next (some (.cells false [.int .i64 nx, .int .i64 1, .int .i64 sq]))).get h1.next = some (.cells false [.int .i64 nx, .int .i64 1, .int .i64 sq]) := get_put_self (by simp)
        have hmod : (nx : Int).tmod P = 0 := by
          rw [hnx]
          push_cast
          exact Int.mul_tmod_right _ _
        have hcb : cnt ≤ nx := by
          rw [hnx, Nat.mul_add]
          have := Nat.le_mul_of_pos_left cnt (show 0 < P by omega)
          omega
        simp (disch := first | assumption | ((try simp only [push_next, put_next, adv_next, List.length_cons, List.length_nil]); omega) | simp) [e1, e8, e9, e12, e13, encEv, hne, hmod]
        generalize (h1.push (.cells false [.int .i64 0, .int .i64 0, .int .i64 0])).put h1.next (some (.cells false [.int .i64 nx, .int .i64 1, .int .i64 sq])) = h2 at *
        refine tfire X1 (by omega) (by omega) fun c' L' n' h3 fp3 X3 ha _ => ?_
        obtain ⟨rfl, rfl, rfl⟩ := ha (by decide)
        have e5 : insl (·.at') (⟨(nx : Int) + per p, 1, q⟩ : Ev) (wcan 1 []) = [⟨((nx + P : Nat) : Int), 1, q⟩] := by rw [hp]; rfl
        rw [e5] at X3
        simp (disch := first | assumption | ((try simp only [push_next, put_next, adv_next, List.length_cons, List.length_nil]); omega) | simp) [e12, e13]
        apply ih (N + 1 - (nx + 1)) (by omega)
        refine ⟨nx + 1, cnt + 1, nx + P, 1#32, q, _, fp3, rfl, by omega, X3, ?_, by simp, ?_, by omega, by simp [e1], by simp [e7], by simp [e8], by simp [e9], by simp [e11], by simp, by simp⟩
        · rw [hnx, ← Nat.mul_succ]
        · exact .inr (by omega)
  | false =>
    refine G_loop (fun k e h => ∃ (now cnt : Nat) (c s : BitVec 32) (L : List Ev) (q : Int) (fp : List Nat), k = N + 1 - now ∧ now ≤ N + 1 ∧ TW g h t w 1 c p s L q fp ∧ (s != 0#32) = decide (0 < cnt) ∧ (cnt = 0 ∧ c = 1#32 ∧ now ≤ P ∧ L = [⟨P, 1, 0⟩] ∨ cnt = 1 ∧ P < now ∧ L = []) ∧ e 1 = .bool false ∧ e 7 = ptr w 0 ∧ e 8 = ptr t 0 ∧ e 9 = .int .i64 P ∧ e 11 = .int .i64 N ∧ e 12 = .int .i64 cnt ∧ e 13 = .int .i64 now) ?_ (N + 1) _ _ ⟨0, 0, 1#32, 0#32, _, q, fp, rfl, by omega, X, rfl, .inl ⟨rfl, rfl, by omega, rfl⟩, e1, e7, e8, e9, e11, e12, e13⟩
    rintro k ih e h ⟨now, cnt, c, s, L, q, fp, rfl, hnow, X, hs, hcs, e1, e7, e8, e9, e11, e12, e13⟩
    by_cases hend : now = N + 1
    · have hlt : ¬ ((N : Int) + 1 ≤ N) := by omega
      subst hend
      simp (disch := first | assumption | ((try simp only [push_next, put_next, adv_next, List.length_cons, List.length_nil]); omega) | simp) [e11, e13, hlt, -g4_pianolalaw11_TimerAgain]
      refine tend (again := false) X hP hN hs ?_ (by simp [e1]) (by simp [e8]) (by simp [e9]) (by simp [e11]) (by simp [e12])
      simp
      rcases hcs with ⟨h1, _, h2, _⟩ | ⟨h1, h2, _⟩
      · rw [h1, Nat.div_eq_of_lt (by omega)]
        rfl
      · have : 1 ≤ N / P := (Nat.one_le_div_iff (by omega)).2 (by omega)
        rw [h1]
        omega
    · have hle : (now : Int) ≤ N := by omega
      simp (disch := first | assumption | ((try simp only [push_next, put_next, adv_next, List.length_cons, List.length_nil]); omega) | simp) [e7, e11, e13, hle]
      have hLl : L.length < 2 ^ 40 := by rcases hcs with ⟨_, _, _, rfl⟩ | ⟨_, _, rfl⟩ <;> simp
      refine wtake X.wh hLl (fun hno h1 K1 => ?_) fun x B hx hxle h1 fp1 W1 U1 => ?_
      · have X1 := (X.more K1).more (kp_laid (Kp.refl h1) (.cells false [.int .i64 0, .int .i64 0, .int .i64 0]) (.cells false [.int .i64 0, .int .i64 0, .int .i64 0]))
        simp (disch := first | assumption | ((try simp only [push_next, put_next, adv_next, List.length_cons, List.length_nil]); omega) | simp) [e13]
        apply ih (N + 1 - (now + 1)) (by omega)
        refine ⟨now + 1, cnt, c, s, L, q, fp, rfl, by omega, X1, hs, ?_, by simp [e1], by simp [e7], by simp [e8], by simp [e9], by simp [e11], by simp [e12], by simp⟩
        rcases hcs with ⟨h1, h2, h3, h4⟩ | ⟨h1, h2, h3⟩
        · have := hno ⟨P, 1, 0⟩ (by rw [h4]; simp)
          simp at this
          exact .inl ⟨h1, h2, by omega, h4⟩
        · exact .inr ⟨h1, by omega, h3⟩
      · rcases hcs with ⟨h1', h2', h3', h4'⟩ | ⟨_, _, h3'⟩
        · rw [h4'] at hx
          simp at hx
          obtain ⟨rfl, rfl⟩ := hx
          simp at hxle
          have hnn : P = now := by omega
          subst hnn
          subst h1'
          subst h2'
          have X1 := (X.arm W1 U1 .nil).more (kp_laid (Kp.refl h1) (.cells false [.int .i64 0, .int .i64 0, .int .i64 0]) (.cells false [.int .i64 P, .int .i64 1, .int .i64 0]))
          have z1 : ((h1.push (.cells false [.int .i64 0, .int .i64 0, .int .i64 0])).put h1.next (some (.cells false [.int .i64 P, .int .i64 1, .int .i64 0]))).get h1.next = some (.cells false [.int .i64 P, .int .i64 1, .int .i64 0]) := get_put_self (by simp)
          have hmod : (P : Int).tmod P = 0 := Int.tmod_self
          simp (disch := first | assumption | ((try simp only [push_next, put_next, adv_next, List.length_cons, List.length_nil]); omega) | simp) [e1, e8, e9, e12, e13, encEv, hne, hmod]
          generalize (h1.push (.cells false [.int .i64 0, .int .i64 0, .int .i64 0])).put h1.next (some (.cells false [.int .i64 P, .int .i64 1, .int .i64 0])) = h2 at *
          refine tfire X1 (by omega) (by omega) fun c' L' n' h3 fp3 X3 _ ha => ?_
          obtain ⟨rfl, rfl, rfl⟩ := ha (by decide)
          simp (disch := first | assumption | ((try simp only [push_next, put_next, adv_next, List.length_cons, List.length_nil]); omega) | simp) [e12, e13]
          apply ih (N + 1 - (P + 1)) (by omega)
          exact ⟨P + 1, 1, _, 1#32, [], _, fp3, rfl, by omega, X3, rfl, .inr ⟨rfl, by omega, rfl⟩, by simp [e1], by simp [e7], by simp [e8], by simp [e9], by simp [e11], by simp, by simp⟩
        · rw [h3'] at hx
          cases hx
theorem tagain {period : BitVec 32} {again : Bool} {steps : Int} : WC T n_pianolalaw11_TimerAgain [u32 period, .bool again, .int .i64 steps] g fun v h' => v = .bool true := by
  rw [w_pianolalaw11_TimerAgain]
  have X := TW.new (g := g) (d := 1)
  have hP : ∃ P : Nat, ((period.toNat : Int) % 20 + 1) = P ∧ 1 ≤ P ∧ P ≤ 20 := ⟨period.toNat % 20 + 1, by simp, by omega, by omega⟩
  obtain ⟨P, hPi, hP1, hP2⟩ := hP
  have rest : ∀ e h, TW g h (g.next + 1) g.next 1 0#32 0#32 0#32 [] 0 [] → e 1 = .bool again → e 2 = .int .i64 steps → e 7 = ptr g.next 0 → e 8 = ptr (g.next + 1) 0 → e 9 = .int .i64 P → e 10 = u32 (if again = true then 3#32 else 1#32) → G T (fin [.t 6] (some []) g.next fun v h' => v = .bool true) c6_pianolalaw11_TimerAgain [] e h := by
    intro e h X e1 e2 e7 e8 e9 e10
    simp (disch := first | assumption | ((try simp only [push_next, put_next, adv_next, List.length_cons, List.length_nil]); omega) | simp) [e8, e9, e10]
    refine twrite X (by omega) (by omega) fun c1 p1 s1 L1 n1 h1 fp1 X1 _ h4 _ _ => ?_
    obtain ⟨rfl, rfl, rfl, rfl, rfl⟩ := h4 rfl
    simp (disch := first | assumption | ((try simp only [push_next, put_next, adv_next, List.length_cons, List.length_nil]); omega) | simp) [tat, e8, e9, e10]
    have hp := per_of P (by omega) hP1
    refine twrite X1 (by omega) (by omega) fun c1 p1 s1 L1 n1 h1 fp1 X2 hz _ _ _ => ?_
    obtain ⟨rfl, rfl, rfl, hL, _⟩ := hz rfl
    obtain ⟨rfl, rfl⟩ := hL (by cases again <;> decide)
    have e5 : insl (·.at') (⟨0 + per (BitVec.ofNat 32 P), 1, 0⟩ : Ev) (wcan 1 []) = [⟨P, 1, 0⟩] := by rw [hp]; simp [wcan]
    rw [e5] at X2
    have hcc : (if again = true then 3#32 else 1#32) &&& 3#32 = if again = true then 3#32 else 1#32 := by cases again <;> rfl
    rw [hcc] at X2
    simp (disch := first | assumption | ((try simp only [push_next, put_next, adv_next, List.length_cons, List.length_nil]); omega) | simp) [tat, e2]
    refine within (by decide) (by decide) (by decide) fun m hm1 hm2 => ?_
    obtain ⟨N, rfl⟩ := Int.eq_ofNat_of_zero_le (show 0 ≤ m by omega)
    simp (disch := first | assumption | ((try simp only [push_next, put_next, adv_next, List.length_cons, List.length_nil]); omega) | simp)
    refine tloop (again := again) (N := N) (P := P) X2 hP1 hp hP2 (by omega) ?_ ?_ ?_ ?_ ?_ ?_ ?_ <;> simp [e1, e7, e8, e9]
  simp (disch := first | assumption | ((try simp only [push_next, put_next, adv_next, List.length_cons, List.length_nil]); omega) | simp) [GC_of (fun q => wnew), GC_of (fun q => tnew (h := g.push (.cells false [.slice none 0 0, .int .i64 0])) (w := g.next) (d := 1) (q := q) (by simp)), -g6_pianolalaw11_TimerAgain, hPi]
  cases again with
  | true =>
    simp (disch := first | assumption | ((try simp only [push_next, put_next, adv_next, List.length_cons, List.length_nil]); omega) | simp) [-g6_pianolalaw11_TimerAgain]
    apply rest _ _ X <;> simp
  | false =>
    simp (disch := first | assumption | ((try simp only [push_next, put_next, adv_next, List.length_cons, List.length_nil]); omega) | simp) [-g6_pianolalaw11_TimerAgain]
    apply rest _ _ X <;> simp
end
end Go.Proofs.Ytppgoobhlcdbbaa.Cd
