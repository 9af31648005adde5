/- Append, copy, make, channels, maps, clear, texts. -/
import Derived.Test.YtppgoobhlcdbbaaDx5
set_option linter.unusedSimpArgs false
set_option linter.unusedVariables false
namespace Go.Dx
section
variable {P : Program} {φ : Phi} {e : Env} {a : Act} {h h' : Hp} {w : World} {v : Value} {o : Oper}

theorem good_mx {x y : Operand} {x' y' : X} {ty : TypeId} {ts : Array TypeId} (hx : VR φ (x'.ev e) (a.eval x)) (hy : VR φ (y'.ev e) (a.eval y)) (hr : HR φ h w) (hv : opV e h (.mx x' y') = some (v, h')) :
    Good ((do Pure.pure (Next.value (← Builtin.max_ ts ty #[a.eval x, a.eval y])) : Sem Next).run P w) φ h w v h' := by
  simp only [opV] at hv
  split at hv
  case h_2 => cases hv
  rename_i k m j n e1 e2
  split at hv
  case isFalse => cases hv
  rename_i hk
  subst hk
  cases hv
  rw [e1] at hx
  rw [e2] at hy
  rw [hx.int_inv, hy.int_inv]
  exact .pure _ hr (u := .int k (if n > m then n else m)) (by simp [Builtin.max_, Builtin.max2]) (.int _ _)
theorem good_mn {x y : Operand} {x' y' : X} {ty : TypeId} {ts : Array TypeId} (hx : VR φ (x'.ev e) (a.eval x)) (hy : VR φ (y'.ev e) (a.eval y)) (hr : HR φ h w) (hv : opV e h (.mn x' y') = some (v, h')) :
    Good ((do Pure.pure (Next.value (← Builtin.min_ ts ty #[a.eval x, a.eval y])) : Sem Next).run P w) φ h w v h' := by
  simp only [opV] at hv
  split at hv
  case h_2 => cases hv
  rename_i k m j n e1 e2
  split at hv
  case isFalse => cases hv
  rename_i hk
  subst hk
  cases hv
  rw [e1] at hx
  rw [e2] at hy
  rw [hx.int_inv, hy.int_inv]
  exact .pure _ hr (u := .int k (if n < m then n else m)) (by simp [Builtin.min_, Builtin.min2]) (.int _ _)

theorem lenV_inv {x u : Value} {n : Nat} (hx : VR φ x u) (hl : lenV x = some n) : (Builtin.lenOf u).run P w = .ok n w := by
  cases hx <;> simp [lenV] at hl <;> subst hl <;> simp [Builtin.lenOf]

/-- What is appended or copied. -/
theorem elems_ok {x u : Value} {n sz : Nat} {es : List Value} (hx : VR φ x u) (hr : HR φ h w) (he : elems h sz n x = some es) (hn : ∃ m, lenV x = some m ∧ n ≤ m) :
    ∃ us, (∀ w' : World, w'.heap = w.heap → (Builtin.firstCells sz n u).run P w' = .ok us w') ∧ LR φ es us.toList := by
  cases hx <;> simp only [elems] at he
  case str s =>
    cases he
    refine ⟨_, fun w' _ => by simp only [Builtin.firstCells, Sem.run_pure]; rfl, ?_⟩
    rw [Array.toList_map]
    exact .map _ _ _ fun x _ => .int _ _
  case snil => cases he; exact ⟨#[], fun w' _ => by simp [Builtin.firstCells], .nil _⟩
  case sl b b' m off k c hφ =>
    obtain ⟨us, h1, h2, _, _⟩ := hr.rdn (P := P) he hφ
    exact ⟨us.toArray, fun w' hh => by simpa [Builtin.firstCells] using h1 w' hh, by simpa using h2⟩
  case slo b b' m off off' k c c' e2 hφ hc ho hn' hv =>
    obtain ⟨mm, hm, hle⟩ := hn
    simp [lenV] at hm
    subst hm
    by_cases h0 : 0 < c
    · have := ho h0
      subst this
      obtain ⟨us, h1, h2, _, _⟩ := hr.rdn (P := P) he hφ
      exact ⟨us.toArray, fun w' hh => by simpa [Builtin.firstCells] using h1 w' hh, by simpa using h2⟩
    · have hn0 : n = 0 := by omega
      subst hn0
      simp only [Nat.zero_mul] at he ⊢
      have : es = [] := by
        unfold Hp.rdn at he
        obtain ⟨cc, _, he⟩ := Option.bind_eq_some_iff.1 he
        split at he
        · cases he; simp
        · cases he
      subst this
      exact ⟨#[], fun w' _ => by simp [Builtin.firstCells, loadCells, loadCellsFrom], .nil _⟩
  all_goals cases he

theorem wr_nil_or {b o : Nat} {vs : List Value} (hw : h.wr b o vs = some h') : True := trivial

theorem good_cpy {t el : TypeId} {ts : List TypeId} {ty : TypeId} {x y : Operand} {x' y' : X} {i : TypeInfo} (ht : P.underlying t = some (.slice el)) (hi : P.info? el = some i) (hx : VR φ (x'.ev e) (a.eval x)) (hy : VR φ (y'.ev e) (a.eval y)) (hr : HR φ h w)
    (hv : opV e h (.cpy i.size x' y') = some (v, h')) : Good ((do Pure.pure (Next.value (← Builtin.copy_ (t :: ts).toArray ty #[a.eval x, a.eval y])) : Sem Next).run P w) φ h w v h' := by
  simp only [opV, copyV] at hv
  generalize x'.ev e = xv at *
  generalize y'.ev e = yv at *
  generalize a.eval x = xu at *
  generalize a.eval y = yu at *
  split at hv
  case h_2 => cases hv
  rename_i base len cap m hm
  split at hv
  case h_1 => cases hv
  rename_i es hes
  have hlen := lenV_inv (P := P) (w := w) hy hm
  obtain ⟨us, hfc, hlr⟩ := elems_ok (P := P) hy hr hes ⟨m, hm, Nat.min_le_left _ _⟩
  have hfc := hfc w rfl
  have hmin : m.min len = min m len := rfl
  cases hx with
  | snil n c =>
    simp only at hv
    split at hv
    case isFalse => cases hv
    cases hv
    refine .pure _ hr (u := goInt _) ?_ (.int _ _)
    simp [Builtin.copy_, run_underlying' ht, run_sizeOf' hi, hlen, hfc, hmin]
  | @sl b b' q off n c hφ =>
    simp only at hv
    split at hv
    · rename_i h0
      cases hv
      have hus : us.toList = [] := by
        have h1 : (Builtin.firstCells i.size 0 yu).run P w = .ok us w := by rw [← h0]; exact hfc
        have hz : es.length = 0 := by
          rw [h0] at hes
          cases yv <;> simp [elems] at hes
          · subst hes; simp
          · rename_i p _ _
            cases p with
            | none => simp [elems] at hes; subst hes; rfl
            | some p =>
              simp only [elems, Nat.zero_mul, Hp.rdn] at hes
              obtain ⟨cc, _, hes⟩ := Option.bind_eq_some_iff.1 hes
              split at hes
              · cases hes; simp
              · cases hes
        have := hlr.1
        cases hu : us.toList <;> simp_all
      have hus' : us = #[] := by simpa using hus
      subst hus'
      refine .pure _ hr (u := goInt _) ?_ (.int _ _)
      simp [Builtin.copy_, run_underlying' ht, run_sizeOf' hi, hlen, hfc, hmin, storeCells]
    · rename_i h0
      simp only [Option.map_eq_some_iff] at hv
      obtain ⟨g, hw, heq⟩ := hv
      cases heq
      obtain ⟨w', hrun, hext⟩ := hr.wr (P := P) hw hφ hlr
      refine ⟨φ, goInt _, w', .inl (run_value _ ?_), hext, .int _ _⟩
      simp [Builtin.copy_, run_underlying' ht, run_sizeOf' hi, hlen, hfc, hmin, hrun]
  | @slo b b' q off off' n c c' e2 hφ hc ho hn hvv =>
    simp only at hv
    split at hv
    · rename_i h0
      cases hv
      have hus : us = #[] := by
        have hz : es.length = 0 := by
          rw [h0] at hes
          cases yv <;> simp [elems] at hes
          · subst hes; simp
          · rename_i p _ _
            cases p with
            | none => simp [elems] at hes; subst hes; rfl
            | some p =>
              simp only [elems, Nat.zero_mul, Hp.rdn] at hes
              obtain ⟨cc, _, hes⟩ := Option.bind_eq_some_iff.1 hes
              split at hes
              · cases hes; simp
              · cases hes
        have := hlr.1
        have : us.toList.length = 0 := by omega
        simpa using this
      subst hus
      refine .pure _ hr (u := goInt _) ?_ (.int _ _)
      simp [Builtin.copy_, run_underlying' ht, run_sizeOf' hi, hlen, hfc, hmin, storeCells]
    · rename_i h0
      have := ho (by omega)
      subst this
      simp only [Option.map_eq_some_iff] at hv
      obtain ⟨g, hw, heq⟩ := hv
      cases heq
      obtain ⟨w', hrun, hext⟩ := hr.wr (P := P) hw hφ hlr
      refine ⟨φ, goInt _, w', .inl (run_value _ ?_), hext, .int _ _⟩
      simp [Builtin.copy_, run_underlying' ht, run_sizeOf' hi, hlen, hfc, hmin, hrun]

theorem growBy_le (n : Nat) : ∀ (r c : Nat), c ≤ 2 * n + 1000 → Builtin.growBy n r c ≤ 2 * n + 1000
  | 0, c, hc => hc
  | r + 1, c, hc => by
    unfold Builtin.growBy
    split
    · exact hc
    · exact growBy_le n r _ (by omega)
theorem nextslicecap_le {n c : Nat} (hc : c < n) : Builtin.nextslicecap n c ≤ 2 * n + 1000 := by
  unfold Builtin.nextslicecap
  split
  · omega
  · split
    · omega
    · exact growBy_le n 4 c (by omega)

/-- The way of an append that makes a new row. -/
theorem run_append_new {t u el : TypeId} {ty : TypeId} {i : TypeInfo} {d : TypeDesc} {zv : Value} {base : Option Addr} {yu : Value} {len cap n : Nat} {old us : Array Value}
    (ht : P.underlying t = some (.slice el)) (hu : P.underlying u = some d) (hd : ∀ k, d ≠ .int k) (hi : P.info? el = some i) (hz : i.zero = some zv)
    (hlen : (Builtin.lenOf yu).run P w = .ok n w) (hc : cap < len + n) (hb : (2 * (len + n) + 1000) * i.bytes ≤ 2 ^ 47) (hb2 : len + n < 2 ^ 62)
    (hold : ∀ w' : World, w'.heap = w.heap → (Builtin.firstCells i.size len (.slice base len cap)).run P w' = .ok old w') (hus : ∀ w' : World, w'.heap = w.heap → (Builtin.firstCells i.size n yu).run P w' = .ok us w') :
    ∃ (q : Nat) (w' : World), len + n ≤ q ∧ w'.heap = w.heap ∧ w'.os = w.os ∧ w'.tape = w.tape ∧ w'.output = w.output ∧
      (Builtin.append_ #[t, u] ty #[.slice base len cap, yu]).run P w =
        .ok (.slice (some ⟨w.heap.size, 0, none⟩) (len + n) q) { w' with heap := w.heap.push (.cells (old ++ us ++ Builtin.zeroCells zv.cells (q - (len + n))) el) } := by
  have hzero : (match d with | .int _ => true | _ => false) = false := by
    cases d <;> first | rfl | (exact absurd rfl (hd _))
  have hnc := nextslicecap_le (n := len + n) (c := cap) hc
  have hmul : Builtin.nextslicecap (len + n) cap * i.bytes ≤ 2 ^ 47 := Nat.le_trans (Nat.mul_le_mul_right _ hnc) hb
  have hno1 : ¬ (((len + n : Nat) : Int) > IntKind.i64.max ∧ i.bytes = 0) := by
    have : IntKind.i64.max = 9223372036854775807 := by decide
    omega
  have hno2 : ¬ (Builtin.nextslicecap (len + n) cap * i.bytes > 2 ^ 48) := by omega
  have hno3 : ¬ (len + n ≤ cap) := by omega
  refine ⟨len + n + w.tape w.drawn (.appendCap (len + n) cap el) % (2 ^ 63 - (len + n)), { w with drawn := w.drawn + 1 }, by omega, rfl, rfl, rfl, rfl, ?_⟩
  have h1 := hold { w with drawn := w.drawn + 1 } rfl
  have h2 := hus { w with drawn := w.drawn + 1 } rfl
  unfold Builtin.append_
  simp only [List.getElem?_toArray, List.getElem?_cons_zero, List.getElem?_cons_succ]
  simp only [Sem.run_bind, run_underlying' ht, run_underlying' hu, run_sizeOf' hi, Result.andThen_ok, Sem.run_pure]
  cases d <;> first
    | exact absurd rfl (hd _)
    | skip
  all_goals
    simp only [Bool.false_eq_true, if_false, hlen, Sem.run_bind, Result.andThen_ok, run_typeInfo' hi, if_neg hno3, false_or, if_neg hno1, if_neg hno2, run_choose, Question.forced, Question.cut, run_askRoom, h1, Bool.not_false, if_true, h2]
    simp [zeroValue, run_typeInfo' hi, hz, newRow, h1, h2]
    rfl

theorem run_append_in {t u el : TypeId} {ty : TypeId} {i : TypeInfo} {d : TypeDesc} {base : Option Addr} {yu : Value} {len cap n : Nat} {us : Array Value}
    (ht : P.underlying t = some (.slice el)) (hu : P.underlying u = some d) (hd : ∀ k, d ≠ .int k) (hi : P.info? el = some i)
    (hlen : (Builtin.lenOf yu).run P w = .ok n w) (hc : len + n ≤ cap) (hus : (Builtin.firstCells i.size n yu).run P w = .ok us w) :
    (Builtin.append_ #[t, u] ty #[.slice base len cap, yu]).run P w =
      (match base with
       | some b => (storeCells (b.add (len * i.size)) us.toList).run P w
       | none => .ok () w).andThen fun _ w' => .ok (.slice base (len + n) cap) w' := by
  unfold Builtin.append_
  simp only [List.getElem?_toArray, List.getElem?_cons_zero, List.getElem?_cons_succ]
  simp only [Sem.run_bind, run_underlying' ht, run_underlying' hu, run_sizeOf' hi, Result.andThen_ok, Sem.run_pure]
  cases d <;> first
    | exact absurd rfl (hd _)
    | skip
  all_goals
    simp only [Bool.false_eq_true, if_false, hlen, Sem.run_bind, Result.andThen_ok, if_pos hc, Bool.not_false, if_true, hus]
    cases base <;> simp

theorem elems_nil {x : Value} {sz : Nat} {es : List Value} (he : elems h sz 0 x = some es) : es = [] := by
  cases x <;> simp only [elems] at he
  case string s => cases he; simp
  case slice p _ _ =>
    cases p with
    | none => simpa [elems] using he
    | some p =>
      simp only [elems, Nat.zero_mul, Hp.rdn] at he
      obtain ⟨cc, _, he⟩ := Option.bind_eq_some_iff.1 he
      split at he
      · cases he; simp
      · cases he
  all_goals cases he

/-- A row of an append's own. -/
theorem alloc_more (hr : HR φ h w) {c : List Value} {us rest : Array Value} {el : TypeId} (w₁ : World) (hw : w₁.heap = w.heap) (hos : w₁.os = w.os) (ht : w₁.tape = w.tape) (ho : w₁.output = w.output) (hl : LR φ c us.toList) :
    ∃ φ', Ext φ h w φ' (h.push (.cells false c)) { w₁ with heap := w.heap.push (.cells (us ++ rest) el) } ∧ φ' h.next = some (w.heap.size, us.size + rest.size) := by
  refine ⟨ups φ h.next (w.heap.size, us.size + rest.size), .alloc .next hr _ (.cells (us ++ rest) el) _ rfl hos ht ho ⟨us ++ rest, el, (0, 0), by simp, by simp, ?_, ?_, fun _ => .inl rfl⟩, by simp [ups]⟩
  · have := hl.1; simp at this; omega
  · have h1 := hl.1
    rw [Array.toList_append, List.take_append_of_le_length (by omega), h1, List.take_of_length_le (Nat.le_refl _)]
    refine hl.mono fun b x hb => ?_
    unfold ups
    split
    · rename_i e; subst e; rw [hr.fresh _ (Nat.le_refl _)] at hb; cases hb
    · exact hb

theorem zeroCells_size (z : Array Value) (n : Nat) : (Builtin.zeroCells z n).size = n * z.size := by simp [Builtin.zeroCells]

theorem HR.heap {w' : World} (hh : w'.heap = w.heap) (r : HR φ h w) : HR φ h w' :=
  ⟨fun b o hb => let ⟨b', n, h1, h2⟩ := r.live b o hb; ⟨b', n, h1, h2.mono (.refl _) (by rw [hh])⟩, r.inj, r.fresh⟩

set_option maxHeartbeats 2000000 in
theorem good_app {t u el : TypeId} {ty : TypeId} {x y : Operand} {x' y' : X} {i : TypeInfo} {d : TypeDesc} {zv : Value} (ht : P.underlying t = some (.slice el)) (hu : P.underlying u = some d) (hd : ∀ k, d ≠ .int k) (hi : P.info? el = some i)
    (hz : i.zero = some zv) (hzs : zv.cells.size = i.size)
    (hx : VR φ (x'.ev e) (a.eval x)) (hy : VR φ (y'.ev e) (a.eval y)) (hr : HR φ h w)
    (hv : opV e h (.app i.size i.bytes x' y') = some (v, h')) : Good ((do Pure.pure (Next.value (← Builtin.append_ #[t, u] ty #[a.eval x, a.eval y])) : Sem Next).run P w) φ h w v h' := by
  simp only [opV, appendV] at hv
  generalize x'.ev e = xv at *
  generalize y'.ev e = yv at *
  generalize a.eval x = xu at *
  generalize a.eval y = yu at *
  split at hv
  case h_2 => cases hv
  rename_i base len cap n hn
  split at hv
  case h_1 => cases hv
  rename_i es hes
  split at hv
  case isFalse => cases hv
  rename_i hsz
  have hlen := lenV_inv (P := P) (w := w) hy hn
  obtain ⟨us, hus, hlr⟩ := elems_ok (P := P) hy hr hes ⟨n, hn, Nat.le_refl _⟩
  have hussz : us.size = n * i.size := by have := hlr.1; simp at this; omega
  split at hv
  · -- in place
    rename_i hle
    cases hx with
    | snil _ _ =>
      simp only at hv
      split at hv
      case isFalse => cases hv
      rename_i h0
      cases hv
      subst h0
      refine .pure _ hr (u := .slice none (len + 0) cap) ?_ (.snil _ _)
      rw [run_append_in ht hu hd hi hlen hle (hus w rfl)]
      rfl
    | @sl b b' q off _ _ hφ =>
      simp only [if_true] at hv
      split at hv
      · rename_i h0
        cases hv
        subst h0
        have := elems_nil hes
        subst this
        have hu0 : us.toList = [] := by have := hlr.1; cases hh : us.toList <;> simp_all
        refine .pure _ hr (u := .slice (some ⟨b', off, none⟩) (len + 0) cap) ?_ (.sl _ _ _ hφ)
        rw [run_append_in ht hu hd hi hlen hle (hus w rfl), hu0]
        rfl
      · obtain ⟨g, hw, heq⟩ := Option.map_eq_some_iff.1 hv
        cases heq
        obtain ⟨w', hrun, hext⟩ := hr.wr (P := P) hw hφ hlr
        refine ⟨φ, .slice (some ⟨b', off, none⟩) (len + n) cap, w', .inl (run_value _ ?_), hext, .sl _ _ _ (hext.sub _ _ hφ)⟩
        rw [run_append_in ht hu hd hi hlen hle (hus w rfl)]
        simp only [addr_add, hrun, Result.andThen_ok]
    | @slo b b' q off off' _ _ c' e2 hφ hc ho hnn hvv =>
      simp only at hv
      split at hv
      · rename_i h0
        cases hv
        subst h0
        have := elems_nil hes
        subst this
        have hu0 : us.toList = [] := by have := hlr.1; cases hh : us.toList <;> simp_all
        refine .pure _ hr (u := .slice (some ⟨b', off', none⟩) (len + 0) c') ?_ (.slo _ _ _ _ _ _ hφ hc ho hnn hvv)
        rw [run_append_in ht hu hd hi hlen (by omega) (hus w rfl), hu0]
        rfl
      · rename_i h0
        split at hv
        case isFalse => cases hv
        obtain ⟨g, hw, heq⟩ := Option.map_eq_some_iff.1 hv
        cases heq
        have := ho (by omega)
        subst this
        obtain ⟨w', hrun, hext⟩ := hr.wr (P := P) hw hφ hlr
        refine ⟨φ, .slice (some ⟨b', off', none⟩) (len + n) c', w', .inl (run_value _ ?_), hext, .slo _ _ _ _ _ _ (hext.sub _ _ hφ) hc ho hle hvv⟩
        rw [run_append_in ht hu hd hi hlen (by omega) (hus w rfl)]
        simp only [addr_add, hrun, Result.andThen_ok]
  · rename_i hgt
    split at hv
    case isFalse => cases hv
    rename_i hb
    obtain ⟨hb1, hb2⟩ := hb
    have hnew : ∀ {q : Nat} (b2 len' : Nat), True := fun _ _ => trivial
    cases hx with
    | snil _ _ =>
      simp only at hv
      split at hv
      case isFalse => cases hv
      rename_i h0
      cases hv
      subst h0
      obtain ⟨q, w1, hq, e1, e2, e3, e4, hrun⟩ := run_append_new (ty := ty) (zv := zv) ht hu hd hi hz hlen (len := 0) (cap := cap) (by omega) hb1 hb2 (old := #[]) (us := us) (base := none) (fun w' _ => by simp [Builtin.firstCells]) hus
      obtain ⟨φ', hext, hφ⟩ := alloc_more (rest := Builtin.zeroCells zv.cells (q - (0 + n))) (el := el) hr w1 e1 e2 e3 e4 hlr
      refine ⟨φ', .slice (some ⟨w.heap.size, 0, none⟩) (0 + n) q, _, .inl (run_value _ hrun), ?_, ?_⟩
      · simpa using hext
      · rw [Nat.zero_add] at *
        refine .slo _ _ _ _ _ _ hφ hq (fun _ => rfl) (Nat.le_refl _) ?_
        rw [zeroCells_size, hussz, hzs, Nat.sub_mul]
        have := Nat.mul_le_mul_right i.size hq
        omega
    | @sl b b' m off _ _ hφ =>
      simp only at hv
      split at hv
      case h_1 => cases hv
      rename_i old hold
      cases hv
      obtain ⟨os, ho1, ho2, ho3, _⟩ := hr.rdn (P := P) hold hφ
      obtain ⟨q, w1, hq, e1, e2, e3, e4, hrun⟩ := run_append_new (ty := ty) (zv := zv) ht hu hd hi hz hlen (len := len) (cap := cap) (by omega) hb1 hb2 (old := os.toArray) (us := us) (base := some ⟨b', off, none⟩) (fun w' hh => by simpa [Builtin.firstCells] using ho1 w' hh) hus
      obtain ⟨φ', hext, hφ'⟩ := alloc_more (us := os.toArray ++ us) (rest := Builtin.zeroCells zv.cells (q - (len + n))) (el := el) hr w1 e1 e2 e3 e4 (by simpa using ho2.append hlr)
      refine ⟨φ', .slice (some ⟨w.heap.size, 0, none⟩) (len + n) q, _, .inl (run_value _ hrun), hext, ?_⟩
      refine .slo _ _ _ _ _ _ hφ' hq (fun _ => rfl) (Nat.le_refl _) ?_
      have hos : os.length = len * i.size := by have := ho2.1; omega
      rw [zeroCells_size, Array.size_append, List.size_toArray, hussz, hzs, hos, Nat.sub_mul]
      have := Nat.mul_le_mul_right i.size hq
      rw [Nat.add_mul] at this ⊢
      omega
    | @slo b b' m off off' _ _ c' e2 hφ hc ho hnn hvv =>
      simp only at hv
      split at hv
      case h_1 => cases hv
      rename_i old hold
      split at hv
      case isFalse => cases hv
      rename_i hcond
      obtain ⟨rfl, hoff, hcap, hone⟩ := hcond
      have := ho hcap
      subst this
      subst hoff
      split at hv
      case h_2 => cases hv
      rename_i cc hgc
      cases hv
      obtain ⟨os, ho1, ho2, ho3, ho4⟩ := hr.rdn (P := P) hold hφ
      have hos : os.length = len * i.size := by have := ho2.1; omega
      have hHR : HR φ (h.put b none) w := hr.less (Nat.le_refl _) fun c o hc => by
        simp only [Hp.put] at hc
        split at hc
        · cases hc
        · exact hc
      by_cases hin : len + n ≤ c'
      · -- there is room: the same row stands for the new one
        obtain ⟨arr, elem, fr, g1, g2, g3, g4, g5⟩ := hr.get hgc hφ
        have hlen' : len * i.size + us.toList.length ≤ arr.size := by
          have h1 := Nat.mul_le_mul_right i.size hin
          rw [Nat.add_mul] at h1
          simp only [Array.length_toList]
          omega
        have hst := run_storeCells_cells (P := P) b' (len * i.size) us.toList 0 w (fun j hj => by
            simp only [World.cell?, g1, Option.isSome_none, Bool.false_eq_true, if_false, Nat.add_zero]
            rw [Array.getElem?_eq_getElem (by omega)]
            rfl) (fun j hj => by
            have := g5 rfl
            simp only [World.frozen?, g1]
            simp only [Bool.and_eq_false_iff, decide_eq_false_iff_not]
            omega) (hlr.one hone)
        obtain ⟨k1, k2, k3, k4⟩ := heap_setCells b' arr elem fr us.toList (len * i.size) w g1 hlen'
        have hblt := (Array.getElem?_eq_some_iff.1 g1).1
        have hnlt : b < h.next := by
          rcases Nat.lt_or_ge b h.next with hl | hl
          · exact hl
          · rw [h.wf b hl] at hgc; cases hgc
        have hsub : Sub φ (ups φ h.next (b', m)) := fun x y hy => by
          unfold ups
          split
          · rename_i e; subst e; rw [hr.fresh _ (Nat.le_refl _)] at hy; cases hy
          · exact hy
        have hold' : ∀ k, k ≠ b' → (w.setCells b' (len * i.size) us.toList).heap[k]? = w.heap[k]? := fun k hk => by
          rw [k1, Array.getElem?_setIfInBounds_ne (Ne.symm hk)]
        refine ⟨ups φ h.next (b', m), .slice (some ⟨b', 0, none⟩) (len + n) c', w.setCells b' (len * i.size) us.toList, .inl (run_value _ ?_), ⟨hsub, ⟨?_, ?_, ?_⟩, k2, k3, k4, by rw [k1]; simp, ?_, ?_, fun c hc => .inl (by simp only [ups]; rw [if_neg (by omega)])⟩, ?_⟩
        · rw [run_append_in ht hu hd hi hlen hin (hus w rfl)]
          simp only [addr_add, Nat.zero_add]
          simp only [Nat.add_zero] at hst
          rw [hst]
          rfl
        · intro c o hco
          simp only [Hp.push, Hp.put] at hco
          by_cases e : c = h.next
          · simp only [e, if_true, Option.some.injEq] at hco
            subst hco
            subst e
            refine ⟨b', m, by simp [ups], _, elem, fr, by rw [k1, Array.getElem?_setIfInBounds_self_of_lt hblt], ?_, ?_, ?_, g5⟩
            · simp only [List.size_toArray, List.length_append, List.length_take, List.length_drop, Array.length_toList]
              simp only [Array.length_toList] at hlen'
              omega
            · simp only [List.length_append]
              simp only [Array.length_toList] at hlen'
              rw [ho3, hsz]
              omega
            · simp only [List.length_append]
              rw [ho3, hsz]
              have e1 : arr.toList.take (len * i.size) = os := by
                have h1 := ho1 w rfl
                have h2 : (loadCells ⟨b', 0, none⟩ (len * i.size)).run P w = .ok (arr.toList.take (len * i.size)).toArray w := by
                  have hl : (arr.toList.take (len * i.size)).length = len * i.size := by simp; omega
                  conv => lhs; rw [← hl]
                  refine run_loadCells_list w _ _ fun j v hj => ?_
                  have hj' : j < len * i.size := by
                    rcases Nat.lt_or_ge j (len * i.size) with hh | hh
                    · exact hh
                    · rw [List.getElem?_eq_none (by omega)] at hj; cases hj
                  rw [addr_add, Nat.zero_add]
                  simp only [World.cell?, g1, Option.isSome_none, Bool.false_eq_true, if_false]
                  rw [List.getElem?_take_of_lt hj', Array.getElem?_toList] at hj
                  exact hj
                rw [h1] at h2
                simp only [Result.ok.injEq, and_true] at h2
                have := congrArg Array.toList h2
                simpa using this.symm
              rw [e1]
              have hul : us.toList.length = n * i.size := by simpa using hussz
              rw [List.append_assoc, List.take_append, List.take_of_length_le (by omega), List.take_append, List.take_of_length_le (l := us.toList) (by omega)]
              have : len * i.size + n * i.size - os.length - us.toList.length = 0 := by omega
              rw [this, List.take_zero, List.append_nil]
              exact (ho2.append hlr).mono hsub
          · simp only [e, if_false] at hco
            split at hco
            · cases hco
            · rename_i e3
              obtain ⟨c2, k, q1, q2⟩ := hr.live c o hco
              refine ⟨c2, k, by simp [ups, e, q1], q2.mono hsub (hold' c2 fun hh => e3 ⟨?_, hnlt⟩)⟩
              subst hh
              exact hr.inj c b c2 k m (by simp [hco]) (by simp [hgc]) q1 hφ
        · intro c1 c2 c3 n1 n2 hc1 hc2 q1 q2
          simp only [Hp.push, Hp.put] at hc1 hc2
          have key : ∀ c, c ≠ h.next → (if c = h.next then some (Ob.cells false (old ++ es)) else if c = b ∧ b < h.next then none else h.get c).isSome = true → c ≠ b ∧ (h.get c).isSome = true := fun c hc hs => by
            simp only [hc, if_false] at hs
            split at hs
            · cases hs
            · rename_i hh
              exact ⟨fun hb => hh ⟨hb, hnlt⟩, hs⟩
          by_cases e1 : c1 = h.next <;> by_cases e2 : c2 = h.next
          · rw [e1, e2]
          · obtain ⟨hb, hs⟩ := key c2 e2 hc2
            simp only [ups, e1, if_true, e2, if_false, Option.some.injEq, Prod.mk.injEq] at q1 q2
            exact absurd (hr.inj c2 b c3 n2 m hs (by simp [hgc]) q2 (by rw [hφ, q1.1])) hb
          · obtain ⟨hb, hs⟩ := key c1 e1 hc1
            simp only [ups, e1, if_false, e2, if_true, Option.some.injEq, Prod.mk.injEq] at q1 q2
            exact absurd (hr.inj c1 b c3 n1 m hs (by simp [hgc]) q1 (by rw [hφ, q2.1])) hb
          · simp only [ups, e1, e2, if_false] at q1 q2
            exact hr.inj c1 c2 c3 n1 n2 (key c1 e1 hc1).2 (key c2 e2 hc2).2 q1 q2
        · intro c hc
          have hc' : h.next + 1 ≤ c := hc
          simp only [ups]
          rw [if_neg (by omega)]
          exact hr.fresh c (by omega)
        · intro c hc hn
          refine hold' c fun hh => ?_
          subst hh
          exact hn b m (by simp [Hp.wrt, hgc]) hφ
        · intro c c2 k hs q1 hlt
          simp only [Hp.push, Hp.put] at hs
          by_cases e1 : c = h.next
          · simp only [ups, e1, if_true, Option.some.injEq, Prod.mk.injEq] at q1
            exact ⟨b, m, by simp [hgc], by rw [hφ, q1.1], fun _ => by simp [Hp.wrt, hgc]⟩
          · simp only [e1, if_false] at hs
            split at hs
            · cases hs
            · rename_i e3
              simp only [ups, e1, if_false] at q1
              refine ⟨c, k, hs, q1, fun hw => ?_⟩
              unfold Hp.wrt at hw ⊢
              simp only [Hp.push, Hp.put, e1, if_false, e3] at hw
              exact hw
        · exact .slo _ _ _ _ _ _ (by simp [ups]) hin (fun _ => rfl) (Nat.le_refl _) hvv
      · obtain ⟨q, w1, hq, e1, e2, e3, e4, hrun⟩ := run_append_new (ty := ty) (zv := zv) ht hu hd hi hz hlen (cap := c') (by omega) hb1 hb2 (old := os.toArray) (us := us) (base := some ⟨b', 0, none⟩) (fun w' hh => by simpa [Builtin.firstCells] using ho1 w' hh) hus
        obtain ⟨φ', hext, hφ'⟩ := alloc_more (us := os.toArray ++ us) (rest := Builtin.zeroCells zv.cells (q - (len + n))) (el := el) hHR w1 e1 e2 e3 e4 (by simpa using ho2.append hlr)
        have hpre : Ext φ h w φ (h.put b none) w := (Ext.refl hr).less (Nat.le_refl _) (fun c o hc => by
          simp only [Hp.put] at hc
          split at hc
          · cases hc
          · exact hc) (.refl _)
        have hple : Le h (h.put b none) := ⟨Nat.le_refl _, fun c _ hc => by simp only [Hp.put]; split <;> first | rfl | exact hc⟩
        refine ⟨φ', .slice (some ⟨w.heap.size, 0, none⟩) (len + n) q, _, .inl (run_value _ hrun), hpre.trans hr hext hple, ?_⟩
        refine .slo _ _ _ _ _ _ hφ' hq (fun _ => rfl) (Nat.le_refl _) ?_
        rw [zeroCells_size, Array.size_append, List.size_toArray, hussz, hzs, hos, Nat.sub_mul]
        have := Nat.mul_le_mul_right i.size hq
        rw [Nat.add_mul] at this ⊢
        omega
end
end Go.Dx
