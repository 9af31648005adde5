/- Slices, equality of structs and arrays, maps, texts, channels, make, append, copy. -/
import Derived.Test.YtppgoobhlcdbbaaDx4
set_option linter.unusedSimpArgs false
set_option linter.unusedVariables false
namespace Go.Dx
section
variable {P : Program} {φ : Phi} {e : Env} {a : Act} {h h' : Hp} {w : World} {v : Value} {o : Oper}

theorem cxo_ev {x : Option Operand} {y : Option X} (hc : cxo x = some y) (he : ER φ e a) : OpR φ (y.map (·.ev e)) (x.map a.eval) := by
  cases x with
  | none => simp [cxo] at hc; subst hc; exact trivial
  | some x =>
    simp only [cxo, Option.map_eq_some_iff] at hc
    obtain ⟨z, hz, rfl⟩ := hc
    exact cx_ev hz he

theorem good_sls {t : TypeId} {x : Operand} {lo hi : Option Operand} {x' : X} {lo' hi' : Option X} (ht : P.underlying t = some .string) (hx : VR φ (x'.ev e) (a.eval x)) (hlo : cxo lo = some lo') (hhi : cxo hi = some hi') (he : ER φ e a)
    (ho : o.op = .slice t x lo hi none) (hr : HR φ h w) (hv : opV e h (.sls x' lo' hi') = some (v, h')) : Good ((execOp a.eval o).run P w) φ h w v h' := by
  simp only [opV] at hv
  split at hv
  case h_2 => cases hv
  rename_i s hs
  simp only [Option.map_eq_some_iff] at hv
  obtain ⟨⟨l, k, m⟩, hb, heq⟩ := hv
  cases heq
  obtain ⟨m', hrun, _⟩ := run_bounds (P := P) (w := w) (is := false) hb (Nat.le_refl _) (cxo_ev hlo he) (cxo_ev hhi he) (mx' := none) trivial
  rw [hs] at hx
  simp only [execOp, ho, hx.str_inv]
  refine .pure _ hr (u := .string (s.extract l k)) ?_ (.str _)
  simp [Instr.sliceAt, Instr.slice, run_underlying' ht, hrun]

theorem good_sl {t el : TypeId} {x : Operand} {lo hi mx : Option Operand} {x' : X} {lo' hi'' mx' : Option X} {i : TypeInfo} (ht : P.underlying t = some (.slice el)) (hi' : P.info? el = some i) (hx : VR φ (x'.ev e) (a.eval x))
    (hlo : cxo lo = some lo') (hhi : cxo hi = some hi'') (hmx : cxo mx = some mx') (he : ER φ e a)
    (ho : o.op = .slice t x lo hi mx) (hr : HR φ h w) (hv : opV e h (.sl i.size x' lo' hi'' mx') = some (v, h')) : Good ((execOp a.eval o).run P w) φ h w v h' := by
  simp only [opV, Option.map_eq_some_iff] at hv
  obtain ⟨r, hv, heq⟩ := hv
  cases heq
  unfold sliceV at hv
  split at hv
  case h_2 => cases hv
  rename_i ad len cap hs
  split at hv
  case h_1 => cases hv
  rename_i l k m hb
  rw [hs] at hx
  simp only [execOp, ho]
  generalize a.eval x = xu at *
  cases hx with
  | snil n c =>
    simp only [Option.some.injEq] at hv
    subst hv
    obtain ⟨m', hrun, hm, _⟩ := run_bounds (P := P) (w := w) (is := true) hb (Nat.le_refl _) (cxo_ev hlo he) (cxo_ev hhi he) (cxo_ev hmx he)
    have hmm : m' = m := by split at hm <;> omega
    subst hmm
    refine .pure _ hr (u := .slice none (k - l) (m' - l)) ?_ (.snil _ _)
    simp [Instr.sliceAt, Instr.slice, run_underlying' ht, hrun, run_sizeOf' hi']
  | @sl b1 b1' m1 off n c hφ =>
    simp only [Option.some.injEq] at hv
    subst hv
    obtain ⟨m', hrun, hm, _⟩ := run_bounds (P := P) (w := w) (is := true) hb (Nat.le_refl _) (cxo_ev hlo he) (cxo_ev hhi he) (cxo_ev hmx he)
    have hmm : m' = m := by split at hm <;> omega
    subst hmm
    refine .pure _ hr (u := .slice (some (if m' = l then ⟨b1', off, none⟩ else ⟨b1', off + l * i.size, none⟩)) (k - l) (m' - l)) ?_ ?_
    · by_cases hml : m' = l <;> simp [Instr.sliceAt, Instr.slice, run_underlying' ht, hrun, run_sizeOf' hi', hml, addr_add]
    · by_cases hml : m' = l
      · simp only [hml, if_true]; exact .sl _ _ _ hφ
      · simp only [hml, if_false]; exact .sl _ _ _ hφ
  | @slo b1 b1' m1 off off' n c c' e2 hφ hc ho' hn hv' =>
    simp only [] at hv
    split at hv
    case isTrue => cases hv
    rename_i hee
    have hee : e2 = i.size := by simpa using hee
    subst hee
    by_cases hms : (mx'.map (·.ev e)).isSome = true
    · obtain ⟨m', hrun, hm, hlk, hkm, hmc, hl0⟩ := run_bounds (P := P) (w := w) (is := true) hb hc (cxo_ev hlo he) (cxo_ev hhi he) (cxo_ev hmx he)
      rw [if_pos hms] at hm
      subst hm
      have hkm := hkm (.inr hms)
      simp only [hms, true_and, if_true] at hv
      by_cases hml : m' = l
      · subst hml
        simp only [ne_eq, not_true_eq_false, if_false, Option.some.injEq] at hv
        subst hv
        have hk : k - m' = 0 := by omega
        refine .pure _ hr (u := .slice (some ⟨b1', off', none⟩) 0 0) ?_ ?_
        · simp [Instr.sliceAt, Instr.slice, run_underlying' ht, hrun, run_sizeOf' hi', hk]
        · refine .slo _ _ _ _ _ _ hφ (Nat.le_refl _) (fun h0 => absurd h0 (by omega)) (Nat.le_refl _) ?_
          have : off' ≤ off' + c' * i.size := Nat.le_add_right _ _
          omega
      · simp only [ne_eq, hml, not_false_eq_true, if_true, Option.some.injEq] at hv
        subst hv
        have ho2 := ho' (by omega)
        subst ho2
        refine .pure _ hr (u := .slice (some ⟨b1', off' + l * i.size, none⟩) (k - l) (m' - l)) ?_ (.sl _ _ _ hφ)
        simp [Instr.sliceAt, Instr.slice, run_underlying' ht, hrun, run_sizeOf' hi', hml, addr_add]
    have hmn : mx' = none := by
      cases mx' with
      | none => rfl
      | some q => simp at hms
    subst hmn
    simp only [Option.map_none, Option.isSome_none, Bool.false_eq_true, false_and, if_false, Option.some.injEq] at hv
    subst hv
    have hmx0 : mx = none := by
      cases mx with
      | none => rfl
      | some q => simp [cxo] at hmx
    subst hmx0
    obtain ⟨m', hrun, hm, hlk, hkm, hmc, hl0⟩ := run_bounds (P := P) (w := w) (is := true) hb hc (cxo_ev hlo he) (cxo_ev hhi he) (mx' := none) trivial
    simp only [Option.map_none, Option.isSome_none, Bool.false_eq_true, if_false] at hm
    obtain ⟨rfl, rfl⟩ := hm
    have hkc : k ≤ m := by
      cases hhi' : hi'' with
      | none => rw [hhi'] at hl0; have := hl0 rfl; omega
      | some q => rw [hhi'] at hkm; exact hkm (by simp)
    refine .pure _ hr (u := .slice (some (if m' = l then ⟨b1', off', none⟩ else ⟨b1', off' + l * i.size, none⟩)) (k - l) (m' - l)) ?_ ?_
    · by_cases hml : m' = l
      · subst hml; simp [Instr.sliceAt, Instr.slice, run_underlying' ht, hrun, run_sizeOf' hi', addr_add]
      · simp [Instr.sliceAt, Instr.slice, run_underlying' ht, hrun, run_sizeOf' hi', hml, addr_add]
    · by_cases hml : m' = l
      · simp only [hml, if_true]
        refine .slo _ _ _ _ _ _ hφ (by omega) (by omega) (by omega) ?_
        simp
        have : off' ≤ off' + m' * i.size := Nat.le_add_right _ _
        omega
      · simp only [hml, if_false]
        refine .slo _ _ _ _ _ _ hφ (by omega) (fun hp => ?_) (by omega) ?_
        · rw [ho' (by omega)]
        · have : l * i.size + (m' - l) * i.size = m' * i.size := by
            rw [← Nat.add_mul]; congr 1; omega
          omega

theorem good_sla {t el : TypeId} {x : Operand} {lo hi mx : Option Operand} {x' : X} {lo' hi'' mx' : Option X} {i : TypeInfo} {n : Nat}
    (ht : P.underlying t = some (.array n el) ∨ ∃ b, P.underlying t = some (.pointer b) ∧ P.underlying b = some (.array n el)) (hi' : P.info? el = some i) (hx : VR φ (x'.ev e) (a.eval x))
    (hlo : cxo lo = some lo') (hhi : cxo hi = some hi'') (hmx : cxo mx = some mx') (he : ER φ e a)
    (ho : o.op = .slice t x lo hi mx) (hr : HR φ h w) (hv : opV e h (.sla n i.size x' lo' hi'' mx') = some (v, h')) : Good ((execOp a.eval o).run P w) φ h w v h' := by
  simp only [opV, Option.bind_eq_some_iff, Option.map_eq_some_iff] at hv
  obtain ⟨⟨b, off⟩, hp, ⟨l, k, m⟩, hb, heq⟩ := hv
  cases heq
  obtain ⟨b', q, hu, hφ, _⟩ := hx.at hp
  obtain ⟨m', hrun, hm, _⟩ := run_bounds (P := P) (w := w) (is := false) hb (Nat.le_refl _) (cxo_ev hlo he) (cxo_ev hhi he) (cxo_ev hmx he)
  have hmm : m' = m := by split at hm <;> omega
  subst hmm
  simp only [execOp, ho, hu]
  refine .pure _ hr (u := .slice (some (if m' = l then ⟨b', off, none⟩ else ⟨b', off + l * i.size, none⟩)) (k - l) (m' - l)) ?_ ?_
  · rcases ht with ht | ⟨c, ht, hc⟩
    · by_cases hml : m' = l <;> simp [Instr.sliceAt, Instr.slice, Instr.sureAddr, run_underlying' ht, hrun, run_sizeOf' hi', hml, addr_add]
    · by_cases hml : m' = l <;> simp [Instr.sliceAt, Instr.slice, asAddr, run_underlying' ht, run_underlying' hc, hrun, run_sizeOf' hi', hml, addr_add]
  · by_cases hml : m' = l
    · simp only [hml, if_true]; exact .sl _ _ _ hφ
    · simp only [hml, if_false]; exact .sl _ _ _ hφ

def kd4 (d : TypeDesc) : Nat := match d with | .string => 0 | .slice _ => 1 | .map .. => 2 | .chan .. => 3 | _ => 9
theorem good_len {t : TypeId} {x : Operand} {x' : X} {ty : TypeId} {d : TypeDesc} (ht : P.underlying t = some d)
    (hx : VR φ (x'.ev e) (a.eval x)) (hr : HR φ h w) (hv : opV e h (.len (kd4 d) x') = some (v, h')) : Good ((do Pure.pure (Next.value (← Builtin.len_ #[t] ty #[a.eval x])) : Sem Next).run P w) φ h w v h' := by
  simp only [opV] at hv
  generalize x'.ev e = xv at *
  generalize a.eval x = xu at *
  cases d <;> simp only [kd4] at hv
  case string =>
    cases xv <;> simp at hv
    obtain ⟨rfl, rfl⟩ := hv
    cases hx
    exact .pure _ hr (u := goInt _) (by simp [Builtin.len_, run_underlying' ht]) (.int _ _)
  case slice =>
    cases xv <;> simp at hv
    obtain ⟨rfl, rfl⟩ := hv
    cases hx <;> exact .pure _ hr (u := goInt _) (by simp [Builtin.len_, run_underlying' ht]) (.int _ _)
  case map =>
    cases xv <;> first | (simp at hv; done) | skip
    rename_i r
    cases r with
    | none =>
      simp at hv
      obtain ⟨rfl, rfl⟩ := hv
      cases hx
      exact .pure _ hr (u := goInt 0) (by simp [Builtin.len_, run_underlying' ht]) (.int _ _)
    | some r =>
      change (match h.get r with | some (.map es) => some (goInt es.length, h) | _ => none) = some (v, h') at hv
      split at hv
      case h_2 => cases hv
      rename_i es hes
      cases hv
      cases hx with
      | map hφ =>
        obtain ⟨arr, clock, h1, h2, _⟩ := hr.get hes hφ
        have h2' : arr.size = es.length := by simpa using h2
        exact .pure _ hr (u := goInt es.length) (by simp [Builtin.len_, run_underlying' ht, getObj, Sem.run, h1, h2']) (.int _ _)
  case chan =>
    cases xv <;> first | (simp at hv; done) | skip
    rename_i r
    cases r with
    | none => simp at hv
    | some r =>
      change (match h.get r with | some (.chan _ buf) => some (goInt buf.length, h) | _ => none) = some (v, h') at hv
      split at hv
      case h_2 => cases hv
      rename_i cap buf hes
      cases hv
      cases hx with
      | chan hφ =>
        obtain ⟨arr, s, q, h1, h2⟩ := hr.get hes hφ
        have h2' : arr.size = buf.length := by have := h2.1; simp at this; omega
        exact .pure _ hr (u := goInt buf.length) (by simp [Builtin.len_, run_underlying' ht, getObj, Sem.run, h1, h2']) (.int _ _)
  all_goals simp at hv

/-- Equality. -/
theorem eqFields_ok {d : Nat} {xs ys us zs : List Value} {n m : Nat} (hx : LR φ xs us) (hy : LR φ ys zs) (ih : ∀ t ty x y u z b, tyOf P n t = some ty → eqAt m ty x y = some b → VR φ x u → VR φ y z → (Op.equalIn d t u z).run P w = .ok b w) :
    ∀ (fs : List Field) (ps : List (Nat × Nat × Bool × Ty)) (b : Bool),
      (fs.mapM fun f => if f.name = "_" then none else (isAggT P f.type).bind fun a => (tyOf P n f.type).map fun ty => (f.offset, P.cellsOf f.type, a, ty)) = some ps →
      eqParts (eqAt m) xs ys ps = some b → (Op.eqFields d us.toArray zs.toArray fs).run P w = .ok b w := by
  intro fs
  induction fs with
  | nil =>
    intro ps b hp hb
    simp at hp
    subst hp
    simp [eqParts] at hb
    subst hb
    simp [Op.eqFields]
  | cons f fs ihf =>
    intro ps b hp hb
    simp only [List.mapM_cons] at hp
    obtain ⟨q, hq, hp⟩ := Option.bind_eq_some_iff.1 hp
    obtain ⟨qs, hqs, hp⟩ := Option.bind_eq_some_iff.1 hp
    cases hp
    split at hq
    case isTrue => cases hq
    rename_i hname
    obtain ⟨is, his, hq⟩ := Option.bind_eq_some_iff.1 hq
    obtain ⟨ty, hty, hq⟩ := Option.map_eq_some_iff.1 hq
    subst hq
    simp only [eqParts] at hb
    have hpart : ∀ (c d : List Value) (x : Value), LR φ c d → (if is = true then some (Value.agg ((c.drop f.offset).take (P.cellsOf f.type)).toArray) else c[f.offset]?) = some x →
        ∃ u, (part f.type d.toArray f.offset).run P w = .ok u w ∧ VR φ x u := by
      intro c d x hcd hx
      cases is with
      | true =>
        simp only [if_true, Option.some.injEq] at hx
        subst hx
        refine ⟨_, run_part_agg his, ?_⟩
        rw [extract_eq]
        exact VR.aggL ((hcd.drop _).take _)
      | false =>
        simp only [Bool.false_eq_true, if_false] at hx
        obtain ⟨u, hu, hv⟩ := hcd.get hx
        exact ⟨u, run_part_one his (by simpa using hu), hv⟩
    split at hb
    case h_2 => cases hb
    rename_i x y ex ey
    obtain ⟨u, hu, hvu⟩ := hpart xs us x hx ex
    obtain ⟨z, hz, hvz⟩ := hpart ys zs y hy ey
    simp only [Op.eqFields, ne_eq, hname, not_false_eq_true, if_true, Sem.run_bind, hu, hz, Result.andThen_ok]
    split at hb
    · rename_i he
      rw [ih _ _ _ _ _ _ _ hty he hvu hvz]
      simp only [Result.andThen_ok, Bool.not_true, Bool.false_eq_true, if_false]
      exact ihf qs b hqs hb
    · rename_i he
      cases hb
      rw [ih _ _ _ _ _ _ _ hty he hvu hvz]
      simp
    · cases hb

theorem run_equalIn_array {d len : Nat} {t el : TypeId} {i : TypeInfo} {xs ys : Array Value} (ht : P.underlying t = some (.array len el)) (hi : P.info? el = some i) :
    (Op.equalIn (d + 1) t (.agg xs) (.agg ys)).run P w =
      ((forIn (List.range' 0 len) (none, ()) fun k (r : Option Bool × Unit) => (do
        if !(← Op.equalIn d el (← part el xs (k * i.size)) (← part el ys (k * i.size))) then Pure.pure (ForInStep.done (some false, ())) else Pure.pure (ForInStep.yield (none, ())) : Sem (ForInStep (Option Bool × Unit)))).run P w).andThen
        fun r w' => (match r.1 with | none => Pure.pure true | some b => Pure.pure b : Sem Bool).run P w' := by
  simp only [Op.equalIn, Sem.run_bind, run_underlying' ht, Result.andThen_ok, run_sizeOf' hi]
  rw [Std.Legacy.Range.forIn_eq_forIn_range']
  simp only [Std.Legacy.Range.size, Nat.sub_zero, Nat.add_sub_cancel, Nat.div_one]
  congr 1
  funext r w'
  rcases r with ⟨_ | b, u⟩ <;> rfl

theorem eqArray_ok {d : Nat} {el : TypeId} {i : TypeInfo} {is : Bool} {ty : Ty} {xs ys us zs : List Value} {m : Nat} (hx : LR φ xs us) (hy : LR φ ys zs) (hi : P.info? el = some i) (his : isAggT P el = some is)
    (ih : ∀ x y u z b, eqAt m ty x y = some b → VR φ x u → VR φ y z → (Op.equalIn d el u z).run P w = .ok b w) :
    ∀ (n k : Nat) (b : Bool), eqParts (eqAt m) xs ys ((List.range' k n).map fun j => (j * i.size, i.size, is, ty)) = some b →
      ∃ r : Option Bool, (forIn (List.range' k n) (none, ()) fun k (r : Option Bool × Unit) => (do
        if !(← Op.equalIn d el (← part el us.toArray (k * i.size)) (← part el zs.toArray (k * i.size))) then Pure.pure (ForInStep.done (some false, ())) else Pure.pure (ForInStep.yield (none, ())) : Sem (ForInStep (Option Bool × Unit)))).run P w = .ok (r, ()) w ∧ r.getD true = b := by
  intro n
  induction n with
  | zero =>
    intro k b hb
    simp [eqParts] at hb
    subst hb
    exact ⟨none, by simp, rfl⟩
  | succ n ihn =>
    intro k b hb
    simp only [List.range'_succ, List.map_cons, eqParts] at hb
    have hpart : ∀ (c d : List Value) (x : Value), LR φ c d → (if is = true then some (Value.agg ((c.drop (k * i.size)).take i.size).toArray) else c[k * i.size]?) = some x →
        ∃ u, (part el d.toArray (k * i.size)).run P w = .ok u w ∧ VR φ x u := by
      intro c d x hcd hx
      cases is with
      | true =>
        simp only [if_true, Option.some.injEq] at hx
        subst hx
        refine ⟨_, run_part_agg his, ?_⟩
        rw [extract_eq, cellsOf_info hi]
        exact VR.aggL ((hcd.drop _).take _)
      | false =>
        simp only [Bool.false_eq_true, if_false] at hx
        obtain ⟨u, hu, hv⟩ := hcd.get hx
        exact ⟨u, run_part_one his (by simpa using hu), hv⟩
    split at hb
    case h_2 => cases hb
    rename_i x y ex ey
    obtain ⟨u, hu, hvu⟩ := hpart xs us x hx ex
    obtain ⟨z, hz, hvz⟩ := hpart ys zs y hy ey
    simp only [List.range'_succ, List.forIn_cons, Sem.run_bind, hu, hz, Result.andThen_ok]
    split at hb
    · rename_i he
      rw [ih _ _ _ _ _ he hvu hvz]
      simp only [Result.andThen_ok, Bool.not_true, Bool.false_eq_true, if_false, Sem.run_pure]
      exact ihn (k + 1) b hb
    · rename_i he
      cases hb
      rw [ih _ _ _ _ _ he hvu hvz]
      exact ⟨some false, by simp, rfl⟩
    · cases hb

theorem equal_ok : ∀ (n : Nat) (d m : Nat) (t : TypeId) (ty : Ty) (x y u z : Value) (b : Bool), n ≤ d → tyOf P n t = some ty → eqAt m ty x y = some b → VR φ x u → VR φ y z →
    (Op.equalIn d t u z).run P w = .ok b w := by
  intro n
  induction n with
  | zero => intro d m t ty x y u z b _ ht; simp [tyOf] at ht
  | succ n ih =>
    intro d m t ty x y u z b hd ht hb hx hy
    obtain ⟨d, rfl⟩ : ∃ k, d = k + 1 := ⟨d - 1, by omega⟩
    cases m with
    | zero => simp [eqAt] at hb
    | succ m =>
    unfold tyOf at ht
    split at ht
    · rename_i hu
      cases ht
      cases x <;> cases y <;> simp [eqAt] at hb
      subst hb
      rw [hx.bool_inv, hy.bool_inv]
      exact run_equalIn_bool' w d t _ _ hu
    · rename_i k hu
      cases ht
      cases x <;> cases y <;> simp [eqAt] at hb
      obtain ⟨⟨rfl, rfl⟩, rfl⟩ := hb
      rw [hx.int_inv, hy.int_inv]
      exact run_equalIn_int w d t _ _ _ _ hu
    · rename_i hu
      cases ht
      cases x <;> cases y <;> simp [eqAt] at hb
      subst hb
      rw [hx.str_inv, hy.str_inv, run_equalIn_string w d t _ _ hu, beq_toListBytes]
    · rename_i fs hu
      split at ht
      case isTrue => cases ht
      rename_i hst
      obtain ⟨ps, hps, rfl⟩ := Option.map_eq_some_iff.1 ht
      cases x <;> cases y <;> simp only [eqAt] at hb
      case agg.agg xs ys =>
        obtain ⟨us, rfl, hlx⟩ := hx.agg_inv
        obtain ⟨zs, rfl, hly⟩ := hy.agg_inv
        have hf : P.fieldsOf t = fs := by simp [Program.fieldsOf, hu]
        rw [run_equalIn_struct w d t us zs (by rw [hf]; exact hu) (by simpa using hst), hf]
        have := eqFields_ok (P := P) (w := w) (d := d) (n := n) (m := m) hlx hly (fun t ty x y u z b h1 h2 h3 h4 => ih d m t ty x y u z b (by omega) h1 h2 h3 h4) fs.toList ps b hps hb
        simpa using this
      all_goals (cases hb)
    · rename_i len el hu
      obtain ⟨is, his, ht⟩ := Option.bind_eq_some_iff.1 ht
      obtain ⟨tye, htye, rfl⟩ := Option.map_eq_some_iff.1 ht
      cases x <;> cases y <;> simp only [eqAt] at hb
      case agg.agg xs ys =>
        obtain ⟨us, rfl, hlx⟩ := hx.agg_inv
        obtain ⟨zs, rfl, hly⟩ := hy.agg_inv
        obtain ⟨i, hi⟩ : ∃ i, P.info? el = some i := by
          unfold isAggT at his
          cases hue : P.underlying el with
          | none => simp [hue] at his
          | some de => exact info_of_underlying hue
        rw [run_equalIn_array hu hi]
        rw [cellsOf_info hi, List.range_eq_range'] at hb
        obtain ⟨r, hr1, hr2⟩ := eqArray_ok (P := P) (w := w) (d := d) hlx hly hi his (fun x y u z b h1 h2 h3 => ih d m el tye x y u z b (by omega) htye h1 h2 h3) len 0 b hb
        simp only [Array.toArray_toList] at hr1
        rw [hr1]
        cases r <;> simp at hr2 <;> subst hr2 <;> rfl
      all_goals (cases hb)
    · cases ht

theorem good_eqt {op : BinOp} {neg : Bool} {t yt : TypeId} {ty : Ty} {x y : Operand} {x' y' : X} (ht : tyOf P 20 t = some ty) (hd : (∃ fs, P.underlying t = some (.struct fs)) ∨ (∃ n e, P.underlying t = some (.array n e)))
    (hg : P.eqGuardType P.depth t = false) (hop : op = if neg then .neq else .eql) (hx : VR φ (x'.ev e) (a.eval x)) (hy : VR φ (y'.ev e) (a.eval y))
    (ho : o.op = .binOp op t x y yt) (hr : HR φ h w) (hv : opV e h (.eqt neg ty x' y') = some (v, h')) : Good ((execOp a.eval o).run P w) φ h w v h' := by
  simp only [opV, Option.map_eq_some_iff] at hv
  obtain ⟨b, hb, heq⟩ := hv
  cases heq
  have hE := equal_ok (P := P) (w := w) 20 10000 20 t ty _ _ _ _ b (by omega) ht hb hx hy
  have haggs : ∃ us zs, a.eval x = .agg us ∧ a.eval y = .agg zs := by
    have hagg : ∃ ps, ty = .agg ps := by
      unfold tyOf at ht
      rcases hd with ⟨fs, hu⟩ | ⟨n, el, hu⟩
      · simp only [hu] at ht
        split at ht
        · cases ht
        · obtain ⟨ps, _, rfl⟩ := Option.map_eq_some_iff.1 ht; exact ⟨_, rfl⟩
      · simp only [hu] at ht
        obtain ⟨is, _, ht⟩ := Option.bind_eq_some_iff.1 ht
        obtain ⟨tye, _, rfl⟩ := Option.map_eq_some_iff.1 ht
        exact ⟨_, rfl⟩
    obtain ⟨ps, rfl⟩ := hagg
    generalize x'.ev e = xv at *
    generalize y'.ev e = yv at *
    cases xv <;> cases yv <;> simp [eqV, eqAt] at hb
    obtain ⟨us, h1, _⟩ := hx.agg_inv
    obtain ⟨zs, h2, _⟩ := hy.agg_inv
    exact ⟨us, zs, h1, h2⟩
  obtain ⟨us, zs, h1, h2⟩ := haggs
  simp only [execOp, ho]
  refine .pure _ hr (u := .bool (b != neg)) ?_ (.bool _)
  rw [h1, h2] at hE ⊢
  rw [run_two, run_eqGuard_agg w op t x y us zs hg]
  simp only [Result.andThen_ok]
  cases neg <;> simp only [Bool.false_eq_true, if_false, if_true] at hop <;> subst hop
  · rw [run_eql_struct, hE]; simp
  · rw [run_neq_struct, hE]; simp
end
end Go.Dx
