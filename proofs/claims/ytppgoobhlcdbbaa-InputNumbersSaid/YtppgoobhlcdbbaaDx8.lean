/- Maps and clear; then every single operation. -/
import Derived.Test.YtppgoobhlcdbbaaDx7
set_option linter.unusedSimpArgs false
set_option linter.unusedVariables false
namespace Go.Dx
section
variable {P : Program} {φ : Phi} {e : Env} {a : Act} {h h' : Hp} {w : World} {v : Value} {o : Oper}

/-- The entries stand for one another. -/
def MR (φ : Phi) (es : List (Value × Value)) (xs : List MapEntry) : Prop :=
  xs.length = es.length ∧ ∀ (i : Nat) (e : Value × Value), es[i]? = some e → ∃ x : MapEntry, xs[i]? = some x ∧ VR φ e.1 x.key ∧ VR φ e.2 x.val
theorem MR.cons {p : Value × Value} {es : List (Value × Value)} {xs : List MapEntry} (h : MR φ (p :: es) xs) : ∃ x ys, xs = x :: ys ∧ VR φ p.1 x.key ∧ VR φ p.2 x.val ∧ MR φ es ys := by
  cases xs with
  | nil => have := h.1; simp at this
  | cons x ys =>
    obtain ⟨y, h1, h2, h3⟩ := h.2 0 p rfl
    simp at h1
    subst h1
    exact ⟨x, ys, rfl, h2, h3, by have := h.1; simpa using this, fun i e he => by simpa using h.2 (i + 1) e (by simpa using he)⟩

def FR (φ : Phi) : Option (Nat × Value) → Option (Nat × Value) → Prop
  | none, none => True
  | some (i, v), some (j, u) => i = j ∧ VR φ v u
  | _, _ => False

theorem findAsking_ok {kt : TypeId} {ty : Ty} {k u : Value} (ht : tyOf P 20 kt = some ty) (hk : VR φ k u) : ∀ (es : List (Value × Value)) (xs : List MapEntry) (i : Nat) (r : Option (Nat × Value)), MR φ es xs → find ty k es i = some r →
    ∃ r', (Instr.findAsking kt u xs i).run P w = .ok r' w ∧ FR φ r r' := by
  intro es
  induction es with
  | nil =>
    intro xs i r hm hf
    simp [find] at hf
    subst hf
    have : xs = [] := by have := hm.1; simpa using this
    subst this
    exact ⟨none, by simp [Instr.findAsking], trivial⟩
  | cons p es ih =>
    intro xs i r hm hf
    obtain ⟨x, ys, rfl, h1, h2, h3⟩ := hm.cons
    simp only [find] at hf
    split at hf
    · rename_i he
      cases hf
      have hE := equal_ok (P := P) (w := w) 20 10000 20 kt ty _ _ _ _ true (by omega) ht he hk h1
      have hE' : (Op.equal kt u x.key).run P w = .ok true w := hE
      exact ⟨some (i, x.val), by simp [Instr.findAsking, hE'], rfl, h2⟩
    · rename_i he
      have hE := equal_ok (P := P) (w := w) 20 10000 20 kt ty _ _ _ _ false (by omega) ht he hk h1
      have hE' : (Op.equal kt u x.key).run P w = .ok false w := hE
      obtain ⟨r', hr1, hr2⟩ := ih ys (i + 1) r h3 hf
      exact ⟨r', by simp [Instr.findAsking, hE', hr1], hr2⟩
    · cases hf

theorem findKey_ok {kt : TypeId} {fs : Array Field} {ty : Ty} {k u : Value} (hs : P.underlying kt = some (.struct fs)) (ht : tyOf P 20 kt = some ty) (hk : VR φ k u) {es : List (Value × Value)} {xs : List MapEntry} {r : Option (Nat × Value)} (hm : MR φ es xs)
    (hf : find ty k es 0 = some r) : ∃ r', (Instr.findKey kt u xs).run P w = .ok r' w ∧ FR φ r r' := by
  cases xs with
  | nil =>
    have : es = [] := by have := hm.1; simpa using this.symm
    subst this
    simp [find] at hf
    subst hf
    exact ⟨none, by simp [Instr.findKey, run_underlying' hs, Instr.findNow], trivial⟩
  | cons x ys =>
    obtain ⟨r', h1, h2⟩ := findAsking_ok (P := P) (w := w) ht hk es (x :: ys) 0 r hm hf
    refine ⟨r', ?_, h2⟩
    simp only [Instr.findKey, Sem.run_bind, run_underlying' hs, Result.andThen_ok, Instr.findNow, Instr.sameNow]
    exact h1

theorem keyTy_tyOf {kt : TypeId} {ty : Ty} (h : keyTy P kt = some ty) : tyOf P 20 kt = some ty := by
  obtain ⟨ty', h1, h2⟩ := Option.bind_eq_some_iff.1 h
  split at h2
  · cases h2; exact h1
  · cases h2

theorem HR.mapAt (r : HR φ h w) {b b' n : Nat} {es : List (Value × Value)} (hb : h.get b = some (.map es)) (hφ : φ b = some (b', n)) : ∃ arr clock, w.heap[b']? = some (.map arr clock) ∧ MR φ es arr.toList := by
  obtain ⟨arr, clock, h1, h2, h3⟩ := r.get hb hφ
  exact ⟨arr, clock, h1, h2, h3⟩
theorem run_getMap {b' : Nat} {arr : Array MapEntry} {clock : Nat} (h1 : w.heap[b']? = some (.map arr clock)) : (getObj b').run P w = .ok (.map arr clock) w := by
  simp [getObj, Sem.run, h1]
theorem run_setMap {b' : Nat} {arr : Array MapEntry} {clock : Nat} {x : Obj} (h1 : w.heap[b']? = some (.map arr clock)) : (setObj b' x).run P w = .ok () { w with heap := w.heap.setIfInBounds b' x } := by
  simp [setObj, Sem.run, h1]

theorem good_look {t kt el : TypeId} {fs : Array Field} {ty : Ty} {z : Value} {ok : Bool} {m k : Operand} {m' k' : X} {i : TypeInfo} (ht : P.underlying t = some (.map kt el)) (hs : P.underlying kt = some (.struct fs)) (hty : keyTy P kt = some ty)
    (hi : P.info? el = some i) (hz : i.zero = some z) (hzv : ∀ φ, VR φ z z) (hm : VR φ (m'.ev e) (a.eval m)) (hk : VR φ (k'.ev e) (a.eval k)) (ho : o.op = .lookup t m k ok) (hr : HR φ h w)
    (hv : opV e h (.look ty z ok m' k') = some (v, h')) : Good ((execOp a.eval o).run P w) φ h w v h' := by
  simp only [opV] at hv
  simp only [execOp, ho]
  generalize m'.ev e = mv at *
  generalize k'.ev e = kv at *
  generalize a.eval m = mu at *
  generalize a.eval k = ku at *
  split at hv
  case h_1 => cases hv
  rename_i es hes
  obtain ⟨r, hf, heq⟩ := Option.map_eq_some_iff.1 hv
  cases heq
  split at hf
  case isFalse => cases hf
  rename_i hself
  have main : ∀ (xs : Array MapEntry) (mu : Value), MR φ es xs.toList → ((mu = .map none ∧ xs = #[]) ∨ ∃ b' clock, mu = .map (some b') ∧ w.heap[b']? = some (.map xs clock)) → ∃ u, (Instr.lookup t mu ku ok).run P w = .ok u w ∧
      VR φ (lookV ok z r) u := by
    intro xs mu hmr hmu
    obtain ⟨r', h1, h2⟩ := findKey_ok (P := P) (w := w) hs (keyTy_tyOf hty) hk hmr hf
    have hck := checkKey_ok (P := P) (w := w) (b := xs.isEmpty) hs hty hself hk
    have hrun : ∀ (q : Value) (b : Bool), (match r' with | some (_, v) => (v, true) | none => (z, false)) = (q, b) → (Instr.lookup t mu ku ok).run P w = .ok (if ok then .tuple #[q, .bool b] else q) w := by
      intro q b hq
      rcases hmu with ⟨rfl, rfl⟩ | ⟨b', clock, rfl, hg⟩
      · cases r' with
        | none =>
          cases hq
          simp only [Instr.lookup, Sem.run_bind, run_underlying' ht, Result.andThen_ok, Sem.run_pure, hck, h1, zeroValue, run_typeInfo' hi, hz]
        | some p =>
          cases hq
          simp only [Instr.lookup, Sem.run_bind, run_underlying' ht, Result.andThen_ok, Sem.run_pure, hck, h1]
      · cases r' with
        | none =>
          cases hq
          simp only [Instr.lookup, Sem.run_bind, run_underlying' ht, Result.andThen_ok, Sem.run_pure, run_getMap hg, hck, h1, zeroValue, run_typeInfo' hi, hz]
        | some p =>
          cases hq
          simp only [Instr.lookup, Sem.run_bind, run_underlying' ht, Result.andThen_ok, Sem.run_pure, run_getMap hg, hck, h1]
    cases r with
    | none =>
      cases r' with
      | some q => cases h2
      | none =>
        refine ⟨_, hrun z false rfl, ?_⟩
        cases ok
        · exact hzv φ
        · exact VR.tupleL (.cons (hzv φ) (.cons (.bool _) (.nil _)))
    | some q =>
      obtain ⟨j, q⟩ := q
      cases r' with
      | none => cases h2
      | some q' =>
        obtain ⟨j', q'⟩ := q'
        obtain ⟨_, hq⟩ := h2
        refine ⟨_, hrun q' true rfl, ?_⟩
        cases ok
        · exact hq
        · exact VR.tupleL (.cons hq (.cons (.bool _) (.nil _)))
  split at hes
  · cases hes
    cases hm
    obtain ⟨u, h1, h2⟩ := main #[] _ ⟨rfl, fun i e he => by simp at he⟩ (.inl ⟨rfl, rfl⟩)
    exact .pure _ hr (u := u) h1 h2
  · rename_i b
    split at hes
    case h_2 => cases hes
    rename_i es' hg
    cases hes
    cases hm with
    | map hφ =>
      obtain ⟨arr, clock, g1, g2⟩ := hr.mapAt hg hφ
      obtain ⟨u, h1, h2⟩ := main arr _ g2 (.inr ⟨_, clock, rfl, g1⟩)
      exact .pure _ hr (u := u) h1 h2
  · cases hes

theorem sameF_VR {x y u z : Value} (hs : sameF x y = true) (hx : VR φ x u) (hy : VR φ y z) : Instr.sameBits 9999 z u = true := by
  cases x <;> cases y <;> simp [sameF] at hs
  · subst hs; rw [hx.bool_inv, hy.bool_inv]; simp [Instr.sameBits]
  · obtain ⟨rfl, rfl⟩ := hs; rw [hx.int_inv, hy.int_inv]; simp [Instr.sameBits]
  · rw [hx.str_inv, hy.str_inv]
    simp only [Instr.sameBits]
    rw [beq_toListBytes] at hs ⊢
    simp only [beq_iff_eq] at hs ⊢
    exact hs.symm
theorem sameL_VR : ∀ (xs ys us zs : List Value), sameL xs ys = true → LR φ xs us → LR φ ys zs → us.length = zs.length ∧ ((zs.zip us).all fun p => Instr.sameBits 9999 p.1 p.2) = true
  | [], [], us, zs, _, h1, h2 => by
    have := h1.1
    have := h2.1
    cases us <;> cases zs <;> simp_all
  | x :: xs, y :: ys, us, zs, hs, h1, h2 => by
    simp only [sameL, Bool.and_eq_true] at hs
    obtain ⟨u, us, rfl, a1, a2⟩ := h1.head
    obtain ⟨z, zs, rfl, b1, b2⟩ := h2.head
    obtain ⟨l1, l2⟩ := sameL_VR xs ys us zs hs.2 a2 b2
    exact ⟨by simp [l1], by simp only [List.zip_cons_cons, List.all_cons, sameF_VR hs.1 a1 b1, l2, Bool.and_self]⟩
  | [], _ :: _, _, _, hs, _, _ => by simp [sameL] at hs
  | _ :: _, [], _, _, hs, _, _ => by simp [sameL] at hs
theorem sameK_VR {x y u z : Value} (hs : sameK x y = true) (hx : VR φ x u) (hy : VR φ y z) : Instr.sameBits 10000 z u = true := by
  cases x <;> cases y <;> simp only [sameK] at hs
  case agg.agg xs ys =>
    obtain ⟨us, rfl, h1⟩ := hx.agg_inv
    obtain ⟨zs, rfl, h2⟩ := hy.agg_inv
    obtain ⟨l1, l2⟩ := sameL_VR _ _ _ _ hs h1 h2
    have l1' : zs.size = us.size := by simpa using l1.symm
    show (zs.size == us.size && (zs.toList.zip us.toList).all fun (x, y) => Instr.sameBits 9999 x y) = true
    simp only [l1', beq_self_eq_true, Bool.true_and]
    exact l2
  all_goals cases hs

theorem find_lt {ty : Ty} {k : Value} : ∀ (es : List (Value × Value)) (i j : Nat) (v : Value), find ty k es i = some (some (j, v)) → i ≤ j ∧ j < i + es.length
  | [], i, j, v, h => by simp [find] at h
  | p :: es, i, j, v, h => by
    simp only [find] at h
    split at h
    · cases h; simp
    · have := find_lt es (i + 1) j v h; simp; omega
    · cases h

theorem good_mset {t kt el : TypeId} {fs : Array Field} {ty : Ty} {m k x : Operand} {m' k' x' : X} (ht : P.underlying t = some (.map kt el)) (hs : P.underlying kt = some (.struct fs)) (hty : keyTy P kt = some ty)
    (hm : VR φ (m'.ev e) (a.eval m)) (hk : VR φ (k'.ev e) (a.eval k)) (hx : VR φ (x'.ev e) (a.eval x)) (ho : o.op = .mapUpdate t m k x) (hr : HR φ h w)
    (hv : opV e h (.mset ty m' k' x') = some (v, h')) : Good ((execOp a.eval o).run P w) φ h w v h' := by
  simp only [opV] at hv
  simp only [execOp, ho]
  generalize m'.ev e = mv at *
  generalize k'.ev e = kv at *
  generalize x'.ev e = xv at *
  generalize a.eval m = mu at *
  generalize a.eval k = ku at *
  generalize a.eval x = xu at *
  split at hv
  case h_2 => cases hv
  rename_i b
  split at hv
  case h_2 => cases hv
  rename_i es hg
  split at hv
  case isFalse => cases hv
  rename_i hself
  cases hm with
  | @map _ b' n hφ =>
    obtain ⟨arr, clock, g1, g2⟩ := hr.mapAt hg hφ
    have hblt := (Array.getElem?_eq_some_iff.1 g1).1
    have hck := checkKey_ok (P := P) (w := w) (b := false) hs hty hself hk
    have hwrt : h.wrt b = true := by simp [Hp.wrt, hg]
    split at hv
    · rename_i i q hf
      split at hv
      case h_2 => cases hv
      rename_i old hold
      split at hv
      case isFalse => cases hv
      rename_i hsame
      cases hv
      obtain ⟨r', h1, h2⟩ := findKey_ok (P := P) (w := w) hs (keyTy_tyOf hty) hk g2 hf
      cases r' with
      | none => cases h2
      | some p =>
        obtain ⟨i', q'⟩ := p
        obtain ⟨rfl, _⟩ := h2
        obtain ⟨x0, hx0, hk0, _⟩ := g2.2 i old hold
        have hx0' : arr[i]? = some x0 := by simpa using hx0
        have hsb := sameK_VR hsame hk hk0
        let arr' := arr.modify i fun e => { e with key := ku, val := xu }
        refine ⟨φ, undef, { w with heap := w.heap.setIfInBounds b' (.map arr' clock) }, .inr ⟨run_skip _ ?_, rfl⟩, .set hr hg hwrt hφ rfl rfl rfl rfl ?_, .undef _⟩
        · simp only [Instr.mapUpdate, Sem.run_bind, run_underlying' ht, Result.andThen_ok, run_getMap g1, hck, h1, hx0', Option.map_some, Option.getD_some, Instr.keyThatStays, hsb, if_true, Sem.run_pure]
          exact run_setMap g1
        · refine ⟨arr', clock, by simp [hblt], by have := g2.1; simp [arr'] at this ⊢; exact this, fun j p hp => ?_⟩
          rw [List.getElem?_set] at hp
          by_cases e1 : i = j
          · subst e1
            have hlt : i < es.length := (List.getElem?_eq_some_iff.1 hold).1
            simp only [if_true, hlt] at hp
            cases hp
            have hlt' : i < arr.size := (Array.getElem?_eq_some_iff.1 hx0').1
            exact ⟨{ x0 with key := ku, val := xu }, by simp [arr', Array.getElem?_modify, hx0'], hk, hx⟩
          · simp only [e1, if_false] at hp
            obtain ⟨y, hy, hy2⟩ := g2.2 j p hp
            refine ⟨y, ?_, hy2⟩
            have : arr[j]? = some y := by simpa using hy
            simp [arr', Array.getElem?_modify, e1, this]
    · rename_i hf
      cases hv
      obtain ⟨r', h1, h2⟩ := findKey_ok (P := P) (w := w) hs (keyTy_tyOf hty) hk g2 hf
      cases r' with
      | some p => cases h2
      | none =>
        refine ⟨φ, undef, { w with heap := w.heap.setIfInBounds b' (.map (arr.push { key := ku, val := xu, born := clock }) (clock + 1)) }, .inr ⟨run_skip _ ?_, rfl⟩, .set hr hg hwrt hφ rfl rfl rfl rfl ?_, .undef _⟩
        · simp only [Instr.mapUpdate, Sem.run_bind, run_underlying' ht, Result.andThen_ok, run_getMap g1, hck, h1]
          exact run_setMap g1
        · refine ⟨arr.push { key := ku, val := xu, born := clock }, clock + 1, by simp [hblt], by have := g2.1; simp at this ⊢; exact this, fun j p hp => ?_⟩
          have hlen : arr.size = es.length := by have := g2.1; simpa using this
          by_cases e1 : j < es.length
          · rw [List.getElem?_append_left e1] at hp
            obtain ⟨y, hy, hy2⟩ := g2.2 j p hp
            refine ⟨y, ?_, hy2⟩
            have : arr[j]? = some y := by simpa using hy
            simp only [Array.getElem?_toList, Array.getElem?_push]
            rw [if_neg (by omega)]
            exact this
          · rw [List.getElem?_append_right (by omega)] at hp
            have : j - es.length = 0 := by
              rcases Nat.eq_zero_or_pos (j - es.length) with hh | hh
              · exact hh
              · rw [List.getElem?_eq_none (by simp; omega)] at hp; cases hp
            rw [this] at hp
            simp at hp
            subst hp
            refine ⟨{ key := ku, val := xu, born := clock }, ?_, hk, hx⟩
            simp only [Array.getElem?_toList, Array.getElem?_push]
            rw [if_pos (by omega)]
    · cases hv

theorem eraseIdx_eq (arr : Array MapEntry) (i : Nat) : (arr.eraseIdxIfInBounds i).toList = arr.toList.eraseIdx i := by
  simp

theorem good_del {t kt el : TypeId} {fs : Array Field} {ty : Ty} {m k : Operand} {m' k' : X} {ts : List TypeId} {rt : TypeId} (ht : P.underlying t = some (.map kt el)) (hs : P.underlying kt = some (.struct fs)) (hty : keyTy P kt = some ty)
    (hm : VR φ (m'.ev e) (a.eval m)) (hk : VR φ (k'.ev e) (a.eval k)) (hr : HR φ h w)
    (hv : opV e h (.del ty m' k') = some (v, h')) : Good ((do Pure.pure (Next.value (← Builtin.delete_ (t :: ts).toArray rt #[a.eval m, a.eval k])) : Sem Next).run P w) φ h w v h' := by
  simp only [opV] at hv
  generalize m'.ev e = mv at *
  generalize k'.ev e = kv at *
  generalize a.eval m = mu at *
  generalize a.eval k = ku at *
  split at hv
  case h_2 => cases hv
  rename_i b
  split at hv
  case h_2 => cases hv
  rename_i es hg
  split at hv
  case isFalse => cases hv
  rename_i hself
  obtain ⟨r, hf, heq⟩ := Option.map_eq_some_iff.1 hv
  cases hm with
  | @map _ b' n hφ =>
    obtain ⟨arr, clock, g1, g2⟩ := hr.mapAt hg hφ
    have hblt := (Array.getElem?_eq_some_iff.1 g1).1
    have hck := checkKey_ok (P := P) (w := w) (b := arr.isEmpty) hs hty hself hk
    have hwrt : h.wrt b = true := by simp [Hp.wrt, hg]
    obtain ⟨r', h1, h2⟩ := findKey_ok (P := P) (w := w) hs (keyTy_tyOf hty) hk g2 hf
    have hset := fun x => run_setMap (P := P) (x := x) g1
    cases r with
    | none =>
      cases heq
      cases r' with
      | some p => cases h2
      | none =>
        have hbase : Ext φ h w φ (h.put b (some (.map es))) { w with heap := w.heap.setIfInBounds b' (.map arr clock) } := .set hr hg hwrt hφ rfl rfl rfl rfl ⟨arr, clock, by simp [hblt], g2.1, g2.2⟩
        refine ⟨φ, .tuple #[], { w with heap := w.heap.setIfInBounds b' (.map arr clock) }, .inl (run_value _ ?_), hbase.less (Nat.le_refl _) (fun c o hc => ?_) (.put (.inl (by simp [hg]))), .undef _⟩
        · have hset' := hset (.map arr clock)
          simp only [Builtin.delete_, List.getElem?_toArray, List.getElem?_cons_zero, List.getElem?_cons_succ]
          simp only [Sem.run_bind, run_underlying' ht, Result.andThen_ok, run_getMap g1, hck, h1, hset', Sem.run_pure]
        · simp only [Hp.put]
          split
          · rename_i e1; rw [e1.1, hg] at hc; exact hc
          · exact hc
    | some p =>
      obtain ⟨i, q⟩ := p
      cases heq
      cases r' with
      | none => cases h2
      | some p' =>
        obtain ⟨i', q'⟩ := p'
        obtain ⟨rfl, _⟩ := h2
        refine ⟨φ, .tuple #[], { w with heap := w.heap.setIfInBounds b' (.map (arr.eraseIdxIfInBounds i) clock) }, .inl (run_value _ ?_), .set hr hg hwrt hφ rfl rfl rfl rfl ⟨arr.eraseIdxIfInBounds i, clock, by simp [hblt], ?_, ?_⟩, .undef _⟩
        · have hset' := hset (.map (arr.eraseIdxIfInBounds i) clock)
          simp only [Builtin.delete_, List.getElem?_toArray, List.getElem?_cons_zero, List.getElem?_cons_succ]
          simp only [Sem.run_bind, run_underlying' ht, Result.andThen_ok, run_getMap g1, hck, h1, hset', Sem.run_pure]
        · rw [eraseIdx_eq]
          have := g2.1
          simp only [List.length_eraseIdx, this]
        · intro j p hp
          rw [eraseIdx_eq]
          rw [List.getElem?_eraseIdx] at hp ⊢
          split at hp
          · rename_i hlt; rw [if_pos hlt]; exact g2.2 j p hp
          · rename_i hlt; rw [if_neg hlt]; exact g2.2 (j + 1) p hp

theorem good_clr_map {t kt el : TypeId} {m : Operand} {m' : X} {rt : TypeId} (ht : P.underlying t = some (.map kt el))
    (hm : VR φ (m'.ev e) (a.eval m)) (hr : HR φ h w)
    (hv : opV e h (.clrm m') = some (v, h')) : Good ((do Pure.pure (Next.value (← Builtin.clear_ #[t] rt #[a.eval m])) : Sem Next).run P w) φ h w v h' := by
  simp only [opV] at hv
  generalize m'.ev e = mv at *
  generalize a.eval m = mu at *
  split at hv
  case h_2 => cases hv
  rename_i b
  split at hv
  case h_2 => cases hv
  rename_i es hg
  cases hv
  cases hm with
  | @map _ b' n hφ =>
    obtain ⟨arr, clock, g1, g2⟩ := hr.mapAt hg hφ
    have hblt := (Array.getElem?_eq_some_iff.1 g1).1
    have hset := run_setMap (P := P) (x := .map #[] clock) g1
    refine ⟨φ, .tuple #[], { w with heap := w.heap.setIfInBounds b' (.map #[] clock) }, .inl (run_value _ ?_), .set hr hg (by simp [Hp.wrt, hg]) hφ rfl rfl rfl rfl ⟨#[], clock, by simp [hblt], rfl, fun i e he => by simp at he⟩, .undef _⟩
    simp only [Builtin.clear_, List.getElem?_toArray, List.getElem?_cons_zero]
    simp only [Sem.run_bind, run_underlying' ht, Result.andThen_ok, run_getMap g1, hset, Sem.run_pure]
end
end Go.Dx
