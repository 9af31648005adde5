/- Make, channels, maps, clear, texts. -/
import Derived.Test.YtppgoobhlcdbbaaDx6
set_option linter.unusedSimpArgs false
set_option linter.unusedVariables false
namespace Go.Dx
section
variable {P : Program} {φ : Phi} {e : Env} {a : Act} {h h' : Hp} {w : World} {v : Value} {o : Oper}

theorem wrap64_id {n : Int} (h0 : 0 ≤ n) (h1 : n < 2 ^ 62) : IntKind.i64.wrap n = n := by
  unfold IntKind.wrap
  have hm : n % (2 ^ IntKind.i64.bits : Int) = n := Int.emod_eq_of_lt h0 (by simp [IntKind.bits]; omega)
  simp only [hm]
  have : ¬ (n ≥ (2 ^ (IntKind.i64.bits - 1) : Int)) := by simp [IntKind.bits]; omega
  simp [this]

theorem good_mks {id : Nat} {fill : Ob → Hp} {ob : Ob} (sl : Slot φ h id fill) {t el : TypeId} {l c : Operand} {l' c' : X} {i : TypeInfo} {z : List Value} (ht : P.underlying t = some (.slice el)) (hi : P.info? el = some i) (hz : zeroOf P el = some z) (hzl : z.length = i.size)
    (hl : VR φ (l'.ev e) (a.eval l)) (hc : VR φ (c'.ev e) (a.eval c)) (ho : o.op = .makeSlice t l c) (hr : HR φ h w) (hv : opA id e (.mks z i.bytes l' c') = some (v, ob)) : Good ((execOp a.eval o).run P w) φ h w v (fill ob) := by
  simp only [opA, makeS] at hv
  split at hv
  case h_2 => cases hv
  rename_i k1 n k2 m e1 e2
  split at hv
  case isFalse => cases hv
  rename_i hcond
  obtain ⟨h0, hle, hb, hb2⟩ := hcond
  cases hv
  rw [e1] at hl
  rw [e2] at hc
  simp only [execOp, ho, hl.int_inv, hc.int_inv]
  obtain ⟨zv, hz1, hz2, hz3⟩ := zeroOf_run (w := w) hz
  have hcells : ∃ zs : Array Value, (if m.toNat * i.size = 0 then Pure.pure #[] else do Pure.pure (← zeroValue el).cells : Sem (Array Value)).run P w = .ok zs w ∧
      LR φ (List.replicate m.toNat z).flatten ((Array.range (m.toNat * i.size)).map (zs[· % zs.size]!)).toList := by
    by_cases hn0 : m.toNat * i.size = 0
    · refine ⟨#[], by simp [hn0], ?_⟩
      have : (List.replicate m.toNat z).flatten = [] := by
        rcases Nat.mul_eq_zero.1 hn0 with hh | hh
        · simp [hh]
        · have : z = [] := List.length_eq_zero_iff.1 (by omega)
          subst this
          simp
      rw [this, hn0]
      simpa using LR.nil φ
    · refine ⟨zv.cells, by simp [hn0, hz1], ?_⟩
      have hs : i.size = zv.cells.size := by rw [← hzl, ← hz2]; simp
      have hpos : 0 < zv.cells.size := by
        rcases Nat.eq_zero_or_pos i.size with hh | hh
        · simp [hh] at hn0
        · omega
      rw [hs, range_mod _ _ hpos, hz2]
      exact .ground (by
        simp only [List.all_eq_true, List.mem_flatten, List.mem_replicate]
        rintro x ⟨l, ⟨_, rfl⟩, hx⟩
        exact List.all_eq_true.1 hz3 x hx)
  obtain ⟨zs, hzs, hlr⟩ := hcells
  obtain ⟨φ', hext, hφ⟩ := alloc_cells sl hr el hlr
  refine ⟨φ', .slice (some ⟨w.heap.size, 0, none⟩) n.toNat m.toNat, _, .inl (run_value _ ?_), hext, .sl 0 _ _ hφ⟩
  have w1 : IntKind.i64.wrap n = n := wrap64_id h0 (by omega)
  have w2 : IntKind.i64.wrap m = m := wrap64_id (by omega) hb2
  have hno : (decide (m < 0) || decide ((i.bytes : Int) * m > 2 ^ 48) || decide (n < 0) || decide (n > m)) = false := by
    simp only [Bool.or_eq_false_iff, decide_eq_false_iff_not]
    have : (2 : Int) ^ 47 ≤ 2 ^ 48 := by decide
    omega
  simp only [Instr.makeSlice, Sem.run_bind, run_underlying' ht, Result.andThen_ok, asInt, asIntOf, Sem.run_pure, run_typeInfo' hi, w1, w2]
  simp only [hno, Bool.false_eq_true, if_false, Sem.run_bind, run_askRoom, Result.andThen_ok, run_sizeOf' hi]
  by_cases hn0 : m.toNat * i.size = 0
  · simp only [if_pos hn0, Sem.run_bind, Sem.run_pure, Result.andThen_ok] at hzs ⊢
    cases hzs
    simp [newRow]
  · simp only [if_neg hn0, Sem.run_bind, Sem.run_pure, Result.andThen_ok, hz1] at hzs ⊢
    cases hzs
    simp [newRow]

theorem good_mkm {id : Nat} {fill : Ob → Hp} {ob : Ob} (sl : Slot φ h id fill) {t : TypeId} (ho : o.op = .makeMap t none) (hr : HR φ h w) (hv : opA id e .mkm = some (v, ob)) : Good ((execOp a.eval o).run P w) φ h w v (fill ob) := by
  simp only [opA, Option.some.injEq, Prod.mk.injEq] at hv
  obtain ⟨rfl, rfl⟩ := hv
  simp only [execOp, ho]
  refine ⟨ups φ id (w.heap.size, 0), .map (some w.heap.size), { w with heap := w.heap.push (.map #[] 0) }, .inl (run_value _ ?_), .alloc sl hr _ (.map #[] 0) 0 rfl rfl rfl rfl ⟨#[], 0, by simp, rfl, fun i e he => by simp at he⟩, .map (n := 0) (by simp [ups])⟩
  simp [Instr.makeMap]
theorem good_mkc {id : Nat} {fill : Ob → Hp} {ob : Ob} (sl : Slot φ h id fill) {t el : TypeId} {x : Operand} {x' : X} {i : TypeInfo} {dir : ChanDir} (ht : P.underlying t = some (.chan dir el)) (hi : P.info? el = some i) (hx : VR φ (x'.ev e) (a.eval x)) (ho : o.op = .makeChan t x) (hr : HR φ h w)
    (hv : opA id e (.mkc i.bytes x') = some (v, ob)) : Good ((execOp a.eval o).run P w) φ h w v (fill ob) := by
  simp only [opA] at hv
  split at hv
  case h_2 => cases hv
  rename_i k n hx'
  split at hv
  case isFalse => cases hv
  rename_i hc
  obtain ⟨h0, h1, h2⟩ := hc
  cases hv
  rw [hx'] at hx
  simp only [execOp, ho, hx.int_inv]
  refine ⟨ups φ id (w.heap.size, 0), .chan (some w.heap.size), { w with heap := w.heap.push (.chan n.toNat #[] false 0 0 false) }, .inl (run_value _ ?_), .alloc sl hr _ (.chan n.toNat #[] false 0 0 false) 0 rfl rfl rfl rfl ⟨#[], 0, 0, by simp, .nil _⟩, .chan (n := 0) (by simp [ups])⟩
  have hno : ¬ (n < 0 ∨ n > IntKind.i64.max ∨ (i.bytes : Int) * n > 2 ^ 48 - 112) := by
    have : (2 : Int) ^ 47 ≤ 2 ^ 48 - 112 := by decide
    omega
  simp only [Instr.makeChan, asInt, asIntOf, Sem.run_bind, run_underlying' ht, run_typeInfo' hi, Result.andThen_ok, Sem.run_pure]
  rw [if_neg hno]
  simp

theorem oneInt {u : Value} {n : Int} {k : IntKind} (h : VR φ (.int k n) u) : u = .int k n := h.int_inv

theorem run_b2s_loop (f : Value → ByteArray → Sem (ForInStep ByteArray)) (hf : ∀ (n : Int) (r : ByteArray), (f (.int .u8 n) r).run P w = .ok (.yield (r.push (UInt8.ofNat n.toNat))) w)
    (us : List Value) (ls : List UInt8) (hm : us.mapM (fun | .int .u8 n => some (UInt8.ofNat n.toNat) | _ => none) = some ls) : ∀ (s : ByteArray),
    (forIn us s f).run P w = .ok ⟨s.data ++ ls.toArray⟩ w := by
  induction us generalizing ls with
  | nil => intro s; simp at hm; subst hm; simp
  | cons u us ih =>
    intro s
    simp only [List.mapM_cons] at hm
    obtain ⟨b, hb, hm⟩ := Option.bind_eq_some_iff.1 hm
    obtain ⟨bs, hbs, hm⟩ := Option.bind_eq_some_iff.1 hm
    cases hm
    split at hb
    case h_2 => cases hb
    cases hb
    simp only [List.forIn_cons, Sem.run_bind, hf, Result.andThen_ok]
    rw [ih _ hbs]
    simp [ByteArray.push]

theorem mapM_VR {vs us : List Value} {ls : List UInt8} (hl : LR φ vs us) (hm : vs.mapM (fun | .int .u8 n => some (UInt8.ofNat n.toNat) | _ => none) = some ls) : us.mapM (fun | .int .u8 n => some (UInt8.ofNat n.toNat) | _ => none) = some ls := by
  induction vs generalizing us ls with
  | nil => have := hl.1; cases us <;> simp_all
  | cons v vs ih =>
    obtain ⟨u, us, rfl, h1, h2⟩ := hl.head
    simp only [List.mapM_cons] at hm ⊢
    obtain ⟨b, hb, hm⟩ := Option.bind_eq_some_iff.1 hm
    obtain ⟨bs, hbs, hm⟩ := Option.bind_eq_some_iff.1 hm
    cases hm
    split at hb
    case h_2 => cases hb
    rw [h1.int_inv]
    cases hb
    simp [ih h2 hbs]

theorem good_b2s {s d el : TypeId} {x : Operand} {x' : X} (hs : P.underlying s = some (.slice el)) (hd : P.underlying d = some .string) (hel : P.underlying el = some (.int .u8)) (hx : VR φ (x'.ev e) (a.eval x)) (ho : o.op = .convert s d x) (hr : HR φ h w)
    (hv : opV e h (.b2s x') = some (v, h')) : Good ((execOp a.eval o).run P w) φ h w v h' := by
  simp only [opV] at hv
  simp only [execOp, ho]
  generalize x'.ev e = xv at *
  generalize a.eval x = xu at *
  have main : ∀ (p : Addr) (n c : Nat) (us : List Value) (ls : List UInt8), (loadCells p n).run P w = .ok us.toArray w → us.mapM (fun | .int .u8 n => some (UInt8.ofNat n.toNat) | _ => none) = some ls →
      (convert s d (.slice (some p) n c)).run P w = .ok (.string ⟨ls.toArray⟩) w := by
    intro p n c us ls h1 h2
    simp only [convert, Sem.run_bind, run_underlying' hs, run_underlying' hd, Result.andThen_ok, run_underlying' hel, Conv.bytesToString, h1]
    simp only [List.forIn_toArray]
    rw [run_b2s_loop _ (by intro n r; simp [Sem.run_pure]) us ls h2]
    simp [ByteArray.empty, ByteArray.emptyWithCapacity]
    rfl
  split at hv
  · cases hv
    cases hx
    refine .pure _ hr (u := .string .empty) ?_ (.str _)
    simp [convert, run_underlying' hs, run_underlying' hd, run_underlying' hel, Conv.bytesToString]
  · rename_i ad n c
    simp only [Option.map_eq_some_iff, Option.bind_eq_some_iff] at hv
    obtain ⟨ls, ⟨cs, hcs, hm⟩, heq⟩ := hv
    cases heq
    refine .pure _ hr (u := .string ⟨ls.toArray⟩) ?_ (.str _)
    split at hcs
    · rename_i h0
      cases hcs
      simp at hm
      subst hm
      subst h0
      cases hx <;> exact main _ _ _ [] [] (by simp [loadCells, loadCellsFrom]) (by simp)
    · rename_i h0
      cases hx with
      | sl off _ _ hφ =>
        obtain ⟨us, h1, h2, _, _⟩ := hr.rdn (P := P) hcs hφ
        exact main _ _ _ us ls (h1 w rfl) (mapM_VR h2 hm)
      | slo off off' _ _ c' e2 hφ hc ho' hn hvv =>
        have := ho' (by omega)
        subst this
        obtain ⟨us, h1, h2, _, _⟩ := hr.rdn (P := P) hcs hφ
        exact main _ _ _ us ls (h1 w rfl) (mapM_VR h2 hm)
  · cases hv

theorem good_s2b {s d el : TypeId} {x : Operand} {x' : X} (hs : P.underlying s = some .string) (hd : P.underlying d = some (.slice el)) (hel : P.underlying el = some (.int .u8)) (hx : VR φ (x'.ev e) (a.eval x)) (ho : o.op = .convert s d x) (hr : HR φ h w)
    (hv : opV e h (.s2b x') = some (v, h')) : Good ((execOp a.eval o).run P w) φ h w v h' := by
  simp only [opV] at hv
  split at hv
  case h_2 => cases hv
  rename_i st hx'
  cases hv
  rw [hx'] at hx
  simp only [execOp, ho, hx.str_inv]
  let q := st.size + w.tape w.drawn (.appendCap st.size 0 el) % (2 ^ 63 - st.size)
  let arr : Array Value := (st.data.map fun b => Value.int .u8 b.toNat) ++ Array.replicate (q - st.size) (.int .u8 0)
  have hqs : q - st.size + st.size = q := by simp only [q]; omega
  have harr : arr.size = q := by
    have hss : st.data.size = st.size := rfl
    simp only [arr, Array.size_append, Array.size_map, Array.size_replicate, hss]
    omega
  let w' : World := { w with heap := w.heap.push (.cells arr el (q, q + 1)), drawn := w.drawn + 1 }
  have hext : Ext φ h w (ups φ h.next (w.heap.size, q)) (h.push (.cells false (st.data.toList.map fun b => .int .u8 b.toNat))) w' := by
    refine .alloc .next hr _ (.cells arr el (q, q + 1)) q rfl rfl rfl rfl ⟨arr, el, (q, q + 1), by simp [w'], harr, ?_, ?_, fun _ => .inr (Nat.le_refl _)⟩
    · have hss : st.data.size = st.size := rfl
      simp only [List.length_map, Array.length_toList, hss, q]
      omega
    · have : arr.toList.take (st.data.toList.map fun b => Value.int .u8 b.toNat).length = st.data.toList.map fun b => Value.int .u8 b.toNat := by
        simp only [arr, Array.toList_append, Array.toList_map]
        rw [List.take_left]
      rw [this]
      exact .map _ _ _ fun x _ => .int _ _
  refine ⟨ups φ h.next (w.heap.size, q), .slice (some ⟨w.heap.size, 0, none⟩) st.size q, w', .inl (run_value _ ?_), hext, .slo (m := q) _ _ _ _ _ _ (by simp [ups]) (by simp only [q]; omega) (fun _ => rfl) (Nat.le_refl _) (by omega)⟩
  simp only [convert, Sem.run_bind, run_underlying' hs, run_underlying' hd, run_underlying' hel, Result.andThen_ok, Conv.stringToBytes, run_choose, Question.forced, Question.cut, Bool.false_eq_true, if_false]
  simp only [newRow, Sem.run_bind, run_newObj, Result.andThen_ok, Sem.run_pure, markStringish, run_shape]
  have hsh : ({ w with heap := w.heap.push (.cells arr el), drawn := w.drawn + 1 } : World).shape? w.heap.size = some (el, q) := by
    simp [World.shape?, harr]
  show ((match ({ w with heap := w.heap.push (.cells arr el), drawn := w.drawn + 1 } : World).shape? w.heap.size with
    | some (_, n) => freeze { block := w.heap.size, off := n } 1
    | _ => Pure.pure () : Sem Unit).run P { w with heap := w.heap.push (.cells arr el), drawn := w.drawn + 1 }).andThen (fun _ w2 => Result.ok (Value.slice (some ⟨w.heap.size, 0, none⟩) st.size q) w2) = _
  rw [hsh]
  simp only [run_freeze, Result.andThen_ok]
  congr 1
  simp only [World.freeze, w']
  rw [if_neg (by decide)]
  congr 1
  apply Array.ext'
  apply List.ext_getElem?
  intro k
  simp only [Array.getElem?_toList, Array.getElem?_modify, Array.getElem?_push]
  by_cases hk : w.heap.size = k
  · subst hk
    simp
  · have : ¬ k = w.heap.size := fun e => hk e.symm
    simp [hk, this]

/-- Keys of maps. -/
theorem forIn_unit {α : Type} (f : α → Sem Unit) : ∀ (l : List α), (∀ x ∈ l, (f x).run P w = .ok () w) → (forIn l () fun x (_ : Unit) => (do f x; Pure.pure (ForInStep.yield ()) : Sem (ForInStep Unit))).run P w = .ok () w
  | [], _ => by simp
  | x :: l, hl => by
    simp only [List.forIn_cons, Sem.run_bind, hl x (by simp), Result.andThen_ok, Sem.run_pure]
    exact forIn_unit f l fun y hy => hl y (by simp [hy])

theorem key_parts {n m : Nat} : ∀ (fs : List Field) (ps : List (Nat × Nat × Bool × Ty)) (xs us : List Value), LR φ xs us →
    (fs.mapM fun f => if f.name = "_" then none else (isAggT P f.type).bind fun a => (tyOf P n f.type).map fun ty => (f.offset, P.cellsOf f.type, a, ty)) = some ps →
    ps.all (fun p => !p.2.2.1) = true → (eqParts (eqAt m) xs xs ps).isSome = true →
    ∀ f ∈ fs, ∃ u, (part f.type us.toArray f.offset).run P w = .ok u w ∧ (∃ d, P.underlying f.type = some d ∧ (d = .bool ∨ (∃ k, d = .int k) ∨ d = .string)) := by
  intro fs
  induction fs with
  | nil => intro ps xs us _ _ _ _ f hf; cases hf
  | cons g fs ih =>
    intro ps xs us hl hp hall hs f hf
    simp only [List.mapM_cons] at hp
    obtain ⟨q, hq, hp⟩ := Option.bind_eq_some_iff.1 hp
    obtain ⟨qs, hqs, hp⟩ := Option.bind_eq_some_iff.1 hp
    cases hp
    split at hq
    case isTrue => cases hq
    obtain ⟨is, his, hq⟩ := Option.bind_eq_some_iff.1 hq
    obtain ⟨ty, hty, hq⟩ := Option.map_eq_some_iff.1 hq
    subst hq
    simp only [List.all_cons, Bool.and_eq_true, Bool.not_eq_true'] at hall
    obtain ⟨h1, hall⟩ := hall
    subst h1
    simp only [eqParts, Bool.false_eq_true, if_false] at hs
    split at hs
    case h_2 => simp at hs
    rename_i x y ex ey
    rw [ex] at ey
    cases ey
    have hty' : (∃ d, P.underlying g.type = some d ∧ (d = .bool ∨ (∃ k, d = .int k) ∨ d = .string)) ∧ (ty = .bool ∨ (∃ k, ty = .int k) ∨ ty = .str) := by
      cases n with
      | zero => simp [tyOf] at hty
      | succ n =>
        unfold tyOf at hty
        unfold isAggT at his
        split at hty
        · rename_i hu; cases hty; exact ⟨⟨_, hu, .inl rfl⟩, .inl rfl⟩
        · rename_i k hu; cases hty; exact ⟨⟨_, hu, .inr (.inl ⟨k, rfl⟩)⟩, .inr (.inl ⟨k, rfl⟩)⟩
        · rename_i hu; cases hty; exact ⟨⟨_, hu, .inr (.inr rfl)⟩, .inr (.inr rfl)⟩
        · rename_i fs hu; simp [hu] at his
        · rename_i l el hu; simp [hu] at his
        · cases hty
    rcases List.mem_cons.1 hf with rfl | hf
    · obtain ⟨u, hu, hv⟩ := hl.get ex
      exact ⟨u, run_part_one his (by simpa using hu), hty'.1⟩
    · refine ih qs xs us hl hqs hall ?_ f hf
      have hrefl : ∀ b, eqAt m ty x x = some b → b = true := by
        intro b hb
        cases m with
        | zero => simp [eqAt] at hb
        | succ m =>
          rcases hty'.2 with rfl | ⟨k, rfl⟩ | rfl <;> cases x <;> simp [eqAt] at hb
          · exact hb
          · exact hb.2
          · rw [beq_toListBytes] at hb; simpa using hb.symm
      split at hs
      · exact hs
      · rename_i he; have := hrefl _ he; cases this
      · simp at hs

theorem checkKey_leaf {t : TypeId} {d : TypeDesc} {u : Value} {b : Bool} (hd : P.underlying t = some d) (hc : d = .bool ∨ (∃ k, d = .int k) ∨ d = .string) (n : Nat) : (Instr.checkKey b (n + 1) t u).run P w = .ok () w := by
  rcases hc with rfl | ⟨k, rfl⟩ | rfl <;> simp [Instr.checkKey, run_underlying' hd]
theorem checkKey_struct {kt : TypeId} {fs : Array Field} {b : Bool} (hu : P.underlying kt = some (.struct fs)) (us : Array Value)
    (hall : ∀ f ∈ fs.toList, ∃ u, (part f.type us.toList.toArray f.offset).run P w = .ok u w ∧ (∃ d, P.underlying f.type = some d ∧ (d = .bool ∨ (∃ k, d = .int k) ∨ d = .string))) (m : Nat)
    (hm : ∀ (t : TypeId) (d : TypeDesc) (u : Value), P.underlying t = some d → (d = .bool ∨ (∃ k, d = .int k) ∨ d = .string) → (Instr.checkKey b m t u).run P w = .ok () w) :
    (Instr.checkKey b (m + 1) kt (.agg us)).run P w = .ok () w := by
  simp only [Instr.checkKey, Sem.run_bind, run_underlying' hu, Result.andThen_ok]
  rw [← Array.forIn_toList]
  generalize fs.toList = l at hall
  clear hu
  induction l with
  | nil => simp
  | cons f l ih =>
    obtain ⟨u, hp, d, hd, hc⟩ := hall f (by simp)
    simp only [Array.toArray_toList] at hp
    simp only [List.forIn_cons, Sem.run_bind, Sem.run_ite]
    split
    · simp only [hp, Result.andThen_ok, hm _ _ u hd hc, Sem.run_pure]
      exact ih fun g hg => hall g (by simp [hg])
    · simp only [Sem.run_pure, Result.andThen_ok]
      exact ih fun g hg => hall g (by simp [hg])
theorem checkKey_ok {kt : TypeId} {fs : Array Field} {ty : Ty} {k u : Value} {b : Bool} (hu : P.underlying kt = some (.struct fs)) (ht : keyTy P kt = some ty) (hk : (eqV ty k k).isSome = true) (hv : VR φ k u) :
    (Instr.checkKey b 10000 kt u).run P w = .ok () w := by
  obtain ⟨ty', ht1, ht2⟩ := Option.bind_eq_some_iff.1 ht
  split at ht2
  case isFalse => cases ht2
  rename_i hflat
  cases ht2
  unfold tyOf at ht1
  rw [hu] at ht1
  simp only at ht1
  split at ht1
  case isTrue => cases ht1
  obtain ⟨ps, hps, rfl⟩ := Option.map_eq_some_iff.1 ht1
  unfold eqV at hk
  cases k <;> simp only [eqAt] at hk
  case agg xs =>
    obtain ⟨us, rfl, hl⟩ := hv.agg_inv
    have hall := key_parts (P := P) (w := w) fs.toList ps xs.toList us.toList hl hps (by simpa [flatTy] using hflat) hk
    exact checkKey_struct hu us hall 9999 fun t d u h1 h2 => checkKey_leaf h1 h2 9998
  all_goals simp at hk

/-- A literal's bytes, called bytes. -/
theorem good_ms {s el : TypeId} {x : Operand} {x' : X} (hs : P.underlying s = some (.slice el)) (hel : P.underlying el = some (.int .u8)) (hx : VR φ (x'.ev e) (a.eval x)) (ho : o.op = .convert s s x) (hr : HR φ h w)
    (hv : opV e h (.ms x') = some (v, h')) : Good ((execOp a.eval o).run P w) φ h w v h' := by
  simp only [opV] at hv
  split at hv
  case h_2 => cases hv
  rename_i b off n c hx'
  split at hv
  case h_2 => cases hv
  rename_i cs hg
  cases hv
  rw [hx'] at hx
  simp only [execOp, ho]
  generalize a.eval x = u at *
  cases hx with
  | @sl _ b' m _ _ _ hφ =>
    obtain ⟨arr, elem, ⟨lo, hi⟩, h1, h2, h3, h4, h5⟩ := hr.get hg hφ
    have hblt := (Array.getElem?_eq_some_iff.1 h1).1
    have hsh : w.shape? b' = some (elem, m) := by simp [World.shape?, h1, h2]
    have hh : (w.freeze ⟨b', m, none⟩ 1).heap = w.heap.setIfInBounds b' (.cells arr elem (if lo == hi then (m, m + 1) else (min lo m, max hi (m + 1)))) := by
      simp only [World.freeze]
      rw [if_neg (by decide)]
      apply Array.ext'
      apply List.ext_getElem?
      intro i
      simp only [Array.getElem?_toList, Array.getElem?_modify, Array.getElem?_setIfInBounds]
      by_cases e : b' = i
      · subst e
        obtain ⟨_, he⟩ := Array.getElem?_eq_some_iff.1 h1
        simp [he, hblt]
      · simp [e]
    have hext : Ext φ h w φ (h.put b (some (.cells false cs))) (w.freeze ⟨b', m, none⟩ 1) := by
      refine Ext.set hr hg (by simp [Hp.wrt, hg]) hφ hh (by simp [World.freeze]) (by simp [World.freeze]) (by simp [World.freeze]) ?_
      refine ⟨arr, elem, (if lo == hi then (m, m + 1) else (min lo m, max hi (m + 1))), by rw [hh]; simp [hblt], h2, h3, h4, fun _ => .inr ?_⟩
      split
      · exact Nat.le_refl _
      · rename_i hne
        have := h5 rfl
        simp at hne this ⊢
        omega
    have hsame : h.put b (some (.cells false cs)) = h := Hp.ext' rfl fun k => by
      simp only [Hp.put]
      split
      · rename_i e; rw [e.1, hg]
      · rfl
    rw [hsame] at hext
    refine ⟨φ, .slice (some ⟨b', off, none⟩) n c, w.freeze ⟨b', m, none⟩ 1, .inl (run_value _ ?_), hext, .sl _ _ _ hφ⟩
    simp only [convert, Sem.run_bind, run_underlying' hs, Result.andThen_ok, run_underlying' hel, beq_self_eq_true, markStringish, run_shape, hsh, run_freeze, Sem.run_pure]
end
end Go.Dx
