/- The operations on temporaries alone: numbers, tests, parts of aggregates, places, slices of slices. -/
import Derived.Test.YtppgoobhlcdbbaaDx3
set_option linter.unusedSimpArgs false
set_option linter.unusedVariables false
namespace Go.Dx
section
variable {P : Program} {φ : Phi} {e : Env} {a : Act} {h h' : Hp} {w : World} {v : Value} {o : Oper}

theorem VR.int_inv {k : IntKind} {n : Int} {u : Value} (h : VR φ (.int k n) u) : u = .int k n := by cases h; rfl
theorem VR.bool_inv {b : Bool} {u : Value} (h : VR φ (.bool b) u) : u = .bool b := by cases h; rfl
theorem VR.str_inv {b : ByteArray} {u : Value} (h : VR φ (.string b) u) : u = .string b := by cases h; rfl

theorem good_nilc {x : X} {y : Operand} (hu : VR φ (x.ev e) (a.eval y)) (ho : o.op = .nilCheck y) (hr : HR φ h w) (hv : opV e h (.nilc x) = some (v, h')) :
    Good ((execOp a.eval o).run P w) φ h w v h' := by
  simp only [opV] at hv
  simp only [execOp, ho]
  generalize x.ev e = xv at *
  generalize a.eval y = yv at *
  split at hv
  · cases hv
    cases hu with
    | ptr o h => exact .val hr rfl (.ptr o h)
  · cases hv
    obtain ⟨k, cs', hk, hb, rfl, hl⟩ := hu.func_inv
    cases hk
    subst hb
    exact .val hr rfl (by simpa using VR.funcL hl)
  · cases hv

theorem run_binI {op : BinOp} {k : IntKind} {x y : Int} {t : TypeId} (hv : binV op (.int k x) (.int k y) = some v) (hns : op ≠ .shl ∧ op ≠ .shr) : (binOp op t (.int k x) (.int k y)).run P w = .ok v w := by
  cases op <;> simp [binV, binI] at hv hns
  all_goals first
    | (subst hv; simp [binOp, Op.intArith, Op.intBits, Op.intCmp]; done)
    | (obtain ⟨h0, hv⟩ := hv; subst hv; simp [binOp, Op.intDiv, h0])
theorem run_shiftI {op : BinOp} {k j : IntKind} {x y : Int} {t : TypeId} (hv : binV op (.int k x) (.int j y) = some v) (hs : op = .shl ∨ op = .shr) : (binOp op t (.int k x) (.int j y)).run P w = .ok v w := by
  rcases hs with rfl | rfl
  all_goals
    simp [binV, shiftI] at hv
    obtain ⟨h0, hv⟩ := hv
    subst hv
    have : ¬ (y < 0) := by omega
    simp [binOp, Op.shift, this]

theorem run_binV {op : BinOp} {x y : Value} {t : TypeId} (hv : binV op x y = some v) : (binOp op t x y).run P w = .ok v w := by
  cases x <;> cases y <;> simp only [binV] at hv
  case int.int k n j m =>
    by_cases hs : op = .shl ∨ op = .shr
    · exact run_shiftI (by simpa only [binV] using hv) hs
    · have hkj : k = j := by
        cases op <;> simp at hs hv <;> exact hv.1
      subst hkj
      exact run_binI (by simpa only [binV] using hv) (by simpa using hs)
  case string.string x y =>
    cases op <;> simp [binS] at hv
    all_goals (subst hv; simp [binOp, Op.stringOp])
  all_goals (cases hv)

theorem binV_plain {op : BinOp} {x y u z : Value} (hv : binV op x y = some v) (hx : VR φ x u) (hy : VR φ y z) : u = x ∧ z = y ∧ flat v = true ∧ flat x = true ∧ flat y = true := by
  cases x <;> cases y <;> simp only [binV] at hv
  case int.int k n j m =>
    refine ⟨hx.int_inv, hy.int_inv, ?_, rfl, rfl⟩
    cases op <;> simp [shiftI, binI] at hv
    all_goals first
      | (obtain ⟨_, hv⟩ := hv; subst hv; rfl)
      | (obtain ⟨_, _, hv⟩ := hv; subst hv; rfl)
      | (subst hv; rfl)
  case string.string x y =>
    refine ⟨hx.str_inv, hy.str_inv, ?_, rfl, rfl⟩
    cases op <;> simp [binS] at hv
    all_goals (subst hv; rfl)
  all_goals (cases hv)

theorem VR.flat {c : Value} (hf : flat c = true) : VR φ c c := by
  cases c <;> simp [Dx.flat] at hf
  · exact .bool _
  · exact .int _ _
  · exact .str _

theorem run_eqGuard_flat {op : BinOp} {t : TypeId} {x y : Operand} {u z : Value} (h1 : flat u = true) (h2 : flat z = true) : (eqGuard op t x y u z).run P w = .ok () w := by
  cases u <;> simp [flat] at h1 <;> cases z <;> simp [flat] at h2 <;> cases op <;> simp [eqGuard]

theorem good_bin {op : BinOp} {t yt : TypeId} {x y : Operand} {x' y' : X} (hx : VR φ (x'.ev e) (a.eval x)) (hy : VR φ (y'.ev e) (a.eval y)) (ho : o.op = .binOp op t x y yt) (hr : HR φ h w)
    (hv : opV e h (.bin op x' y') = some (v, h')) : Good ((execOp a.eval o).run P w) φ h w v h' := by
  simp only [opV, Option.map_eq_some_iff] at hv
  obtain ⟨r, hb, heq⟩ := hv
  cases heq
  obtain ⟨h1, h2, h3, h4, h5⟩ := binV_plain hb hx hy
  simp only [execOp, ho]
  refine .pure _ hr (u := v) ?_ (.flat h3)
  rw [h1, h2]
  simp [run_eqGuard_flat h4 h5, run_binV hb]

theorem good_eqb {op : BinOp} {neg : Bool} {t yt : TypeId} {x y : Operand} {x' y' : X} (ht : P.underlying t = some .bool) (hop : op = if neg then .neq else .eql) (hx : VR φ (x'.ev e) (a.eval x)) (hy : VR φ (y'.ev e) (a.eval y))
    (ho : o.op = .binOp op t x y yt) (hr : HR φ h w) (hv : opV e h (.eqb neg x' y') = some (v, h')) : Good ((execOp a.eval o).run P w) φ h w v h' := by
  simp only [opV] at hv
  split at hv
  case h_2 => cases hv
  rename_i p q e1 e2
  cases hv
  rw [e1] at hx
  rw [e2] at hy
  simp only [execOp, ho]
  refine .pure _ hr (u := .bool ((p == q) != neg)) ?_ (.bool _)
  rw [hx.bool_inv, hy.bool_inv]
  have hg : (eqGuard op t x y (.bool p) (.bool q)).run P w = .ok () w := run_eqGuard_flat rfl rfl
  have hE : (Op.equal t (.bool p) (.bool q)).run P w = .ok (p == q) w := run_equalIn_bool' w 9999 t p q ht
  cases neg <;> simp only [Bool.false_eq_true, if_false, if_true] at hop <;> subst hop <;> simp [hg, binOp, hE]

theorem run_two (s : Sem Unit) (r : Sem Value) : (do s; r : Sem Value).run P w = (s.run P w).andThen fun _ w' => r.run P w' := by simp

def refl? : Value → Bool
  | .pointer _ | .slice .. | .map _ | .nilFunc | .func .. => true
  | _ => false
theorem run_guardNil {op : BinOp} {t : TypeId} {x y : Operand} {u z : Value} (hu : refl? u = true) : (eqGuard op t x y u z).run P w = .ok () w := by
  cases u <;> simp [refl?] at hu <;> cases op <;> simp [eqGuard]
theorem run_eqNil {op : BinOp} {neg b : Bool} {t : TypeId} {u z : Value} (hop : op = if neg then .neq else .eql) (hu : refl? u = true) (hE : ∀ d, (Op.equalIn (d + 1) t u z).run P w = .ok b w) :
    (binOp op t u z).run P w = .ok (.bool (b != neg)) w := by
  have hE' : (Op.equal t u z).run P w = .ok b w := hE 9999
  cases u <;> simp [refl?] at hu <;> cases neg <;> simp only [Bool.false_eq_true, if_false, if_true] at hop <;> subst hop <;> simp [binOp, hE']

def nilOf : Nat → Value → Bool
  | 0, .pointer none | 1, .slice none _ _ | 2, .map none | 3, .nilFunc => true
  | _, _ => false
theorem nil_eq {kd : Nat} {d : TypeDesc} {t : TypeId} {b : Bool} {u z : Value} (hk : kindOf d = some kd) (ht : P.underlying t = some d) (hb : isNil kd u = some b) (hz : nilOf kd z = true) :
    (∀ n, (Op.equalIn (n + 1) t u z).run P w = .ok b w ∧ (Op.equalIn (n + 1) t z u).run P w = .ok b w) ∧ refl? u = true ∧ refl? z = true := by
  cases d <;> simp [kindOf] at hk <;> subst hk
  · cases u <;> simp [isNil] at hb
    cases z <;> simp [nilOf] at hz
    rename_i p q
    cases q <;> simp [nilOf] at hz
    subst hb
    refine ⟨fun n => ?_, rfl, rfl⟩
    cases p <;> simp [Op.equalIn, run_underlying' ht]
  · cases u <;> simp [isNil] at hb
    cases z <;> simp [nilOf] at hz
    rename_i p _ _ q _ _
    cases q <;> simp [nilOf] at hz
    subst hb
    refine ⟨fun n => ?_, rfl, rfl⟩
    cases p <;> simp [Op.equalIn, run_underlying' ht]
  · cases u <;> simp [isNil] at hb
    cases z <;> simp [nilOf] at hz
    rename_i p q
    cases q <;> simp [nilOf] at hz
    subst hb
    refine ⟨fun n => ?_, rfl, rfl⟩
    cases p <;> simp [Op.equalIn, run_underlying' ht]
  · cases z <;> simp [nilOf] at hz
    cases u <;> simp [isNil] at hb
    · subst hb
      exact ⟨fun n => by simp [Op.equalIn, run_underlying' ht], rfl, rfl⟩
    · subst hb
      exact ⟨fun n => by simp [Op.equalIn, run_underlying' ht], rfl, rfl⟩
theorem isNil_VR {kd : Nat} {b : Bool} {xv u : Value} (hx : VR φ xv u) (hb : isNil kd xv = some b) : isNil kd u = some b := by
  unfold isNil at hb
  split at hb
  all_goals first
    | (cases hb; done)
    | (cases hb; cases hx <;> rfl)
theorem isNil_eq {kd : Nat} {d : TypeDesc} {t : TypeId} {op : BinOp} {neg b : Bool} {x y : Operand} {u z xv : Value} (hk : kindOf d = some kd) (ht : P.underlying t = some d) (hop : op = if neg then .neq else .eql)
    (hx : VR φ xv u) (hb : isNil kd xv = some b) (hz : nilOf kd z = true) :
    (do eqGuard op t x y u z; binOp op t u z : Sem Value).run P w = .ok (.bool (b != neg)) w ∧ (do eqGuard op t x y z u; binOp op t z u : Sem Value).run P w = .ok (.bool (b != neg)) w := by
  obtain ⟨h1, h2, h3⟩ := nil_eq (w := w) hk ht (isNil_VR hx hb) hz
  constructor
  · rw [run_two, run_guardNil h2]
    exact run_eqNil hop h2 fun d => (h1 d).1
  · rw [run_two, run_guardNil h3]
    exact run_eqNil hop h3 fun d => (h1 d).2

theorem good_eqn {op : BinOp} {neg : Bool} {d : TypeDesc} {kd : Nat} {t yt : TypeId} {x y : Operand} {x' : X} (hk : kindOf d = some kd) (ht : P.underlying t = some d) (hop : op = if neg then .neq else .eql)
    (hx : (VR φ (x'.ev e) (a.eval x) ∧ isNilC kd y = true) ∨ (VR φ (x'.ev e) (a.eval y) ∧ isNilC kd x = true))
    (ho : o.op = .binOp op t x y yt) (hr : HR φ h w) (hv : opV e h (.eqn kd neg x') = some (v, h')) : Good ((execOp a.eval o).run P w) φ h w v h' := by
  simp only [opV, Option.map_eq_some_iff] at hv
  obtain ⟨b, hb, heq⟩ := hv
  cases heq
  have hconst : ∀ y, isNilC kd y = true → nilOf kd (a.eval y) = true := fun y hy => by
    unfold isNilC at hy
    split at hy
    all_goals first | rfl | (cases hy)
  simp only [execOp, ho]
  refine .pure _ hr (u := .bool (b != neg)) ?_ (.bool _)
  rcases hx with ⟨hx, hn⟩ | ⟨hx, hn⟩
  · exact (isNil_eq hk ht hop hx hb (hconst y hn)).1
  · exact (isNil_eq hk ht hop hx hb (hconst x hn)).2

theorem good_un {op : UnOp} {t : TypeId} {x : Operand} {x' : X} (hx : VR φ (x'.ev e) (a.eval x)) (ho : o.op = .unOp op t x) (hr : HR φ h w) (hv : opV e h (.un op x') = some (v, h')) :
    Good ((execOp a.eval o).run P w) φ h w v h' := by
  simp only [opV, Option.map_eq_some_iff] at hv
  obtain ⟨r, hb, heq⟩ := hv
  cases heq
  simp only [execOp, ho]
  generalize x'.ev e = xv at *
  cases op <;> cases xv <;> simp [unV] at hb
  all_goals subst hb
  · rw [hx.int_inv]; exact .pure _ hr (u := .int _ _) (by simp [Op.unary, Op.intArith]) (.int _ _)
  · rw [hx.int_inv]; exact .pure _ hr (u := .int _ _) (by simp [Op.unary, Op.intBits]) (.int _ _)
  · rw [hx.bool_inv]; exact .pure _ hr (u := .bool _) (by simp [Op.unary]) (.bool _)

theorem good_conv {s d : TypeId} {j k : IntKind} {x : Operand} {x' : X} (hs : P.underlying s = some (.int j)) (hd : P.underlying d = some (.int k)) (hx : VR φ (x'.ev e) (a.eval x)) (ho : o.op = .convert s d x) (hr : HR φ h w)
    (hv : opV e h (.conv k x') = some (v, h')) : Good ((execOp a.eval o).run P w) φ h w v h' := by
  simp only [opV] at hv
  split at hv
  case h_2 => cases hv
  rename_i i n hx'
  cases hv
  rw [hx'] at hx
  simp only [execOp, ho]
  rw [hx.int_inv]
  exact .pure _ hr (u := .int k (k.wrap n)) (by simp [convert, run_underlying' hs, run_underlying' hd, Conv.intToInt]) (.int _ _)

theorem good_mkf {f : Nat} {first caps : Array Operand} {l : List X} (h0 : first.size = 0) (hl : cxs caps.toList = some l) (he : ER φ e a) (ho : o.op = .makeFunc (.func f) first caps) (hr : HR φ h w)
    (hv : opV e h (.mkf f l) = some (v, h')) : Good ((execOp a.eval o).run P w) φ h w v h' := by
  simp only [opV, Option.some.injEq, Prod.mk.injEq] at hv
  obtain ⟨rfl, rfl⟩ := hv
  have : first = #[] := by simpa using h0
  subst this
  simp only [execOp, ho]
  refine .pure _ hr (u := .func (.func f) #[] (caps.map a.eval)) (by simp [Instr.makeFunc]) ?_
  have := VR.funcL (f := f) (cxs_ev hl he)
  rw [← Array.toList_map, Array.toArray_toList] at this
  exact this

theorem good_fa {t : TypeId} {x : Operand} {x' : X} {k : Nat} {fs : Array Field} {f : Field} {i : TypeInfo} (ht : P.underlying t = some (.struct fs)) (hf : fs[k]? = some f) (hi : P.info? f.type = some i) (h0 : i.size ≠ 0)
    (hx : VR φ (x'.ev e) (a.eval x)) (ho : o.op = .fieldAddr t x k) (hr : HR φ h w) (hv : opV e h (.fa f.offset x') = some (v, h')) : Good ((execOp a.eval o).run P w) φ h w v h' := by
  simp only [opV, Option.map_eq_some_iff] at hv
  obtain ⟨⟨b, off⟩, hp, heq⟩ := hv
  cases heq
  obtain ⟨b', n, hu, hφ, _⟩ := hx.at hp
  simp only [execOp, ho]
  refine .pure _ hr (u := .pointer (some ⟨b', off + f.offset, none⟩)) ?_ (.ptr _ hφ)
  rw [hu]
  simp [Instr.fieldAt, run_underlying' ht, hf, Instr.sureAddr, fieldPlace, run_sizeOf' hi, h0, addr_add]

theorem run_part_one {t : TypeId} {cs : Array Value} {off : Nat} {u : Value} (hb : isAggT P t = some false) (hu : cs[off]? = some u) : (part t cs off).run P w = .ok u w := by
  simp [part, run_isAgg' hb, hu]
theorem run_part_agg {t : TypeId} {cs : Array Value} {off : Nat} (hb : isAggT P t = some true) : (part t cs off).run P w = .ok (.agg (cs.extract off (off + P.cellsOf t))) w := by
  simp [part, run_isAgg' hb, cellsOf_of_isAgg hb]
theorem extract_eq (cs : Array Value) (o n : Nat) : cs.extract o (o + n) = ((cs.toList.drop o).take n).toArray := by
  apply Array.ext'
  simp

theorem good_fld {t : TypeId} {x : Operand} {x' : X} {k : Nat} {fs : Array Field} {f : Field} (ht : P.underlying t = some (.struct fs)) (hf : fs[k]? = some f) (hb : isAggT P f.type = some false)
    (hx : VR φ (x'.ev e) (a.eval x)) (ho : o.op = .field t x k) (hr : HR φ h w) (hv : opV e h (.fld f.offset x') = some (v, h')) : Good ((execOp a.eval o).run P w) φ h w v h' := by
  simp only [opV] at hv
  split at hv
  case h_2 => cases hv
  rename_i cs hcs
  obtain ⟨u, hu, heq⟩ := Option.map_eq_some_iff.1 hv
  cases heq
  rw [hcs] at hx
  obtain ⟨cs', e1, hl⟩ := hx.agg_inv
  obtain ⟨z, hz, hvz⟩ := hl.get hu
  simp only [execOp, ho]
  refine .pure _ hr (u := z) ?_ hvz
  rw [e1]
  have hz' : cs'[f.offset]? = some z := by simpa using hz
  simp [Instr.field, run_underlying' ht, hf, asAgg, run_part_one hb hz']
theorem good_fldn {t : TypeId} {x : Operand} {x' : X} {k : Nat} {fs : Array Field} {f : Field} (ht : P.underlying t = some (.struct fs)) (hf : fs[k]? = some f) (hb : isAggT P f.type = some true)
    (hx : VR φ (x'.ev e) (a.eval x)) (ho : o.op = .field t x k) (hr : HR φ h w) (hv : opV e h (.fldn f.offset (P.cellsOf f.type) x') = some (v, h')) : Good ((execOp a.eval o).run P w) φ h w v h' := by
  simp only [opV] at hv
  split at hv
  case h_2 => cases hv
  rename_i cs hcs
  split at hv
  case isFalse => cases hv
  cases hv
  rw [hcs] at hx
  obtain ⟨cs', e1, hl⟩ := hx.agg_inv
  simp only [execOp, ho]
  refine .pure _ hr (u := .agg _) ?_ (VR.aggL ((hl.drop f.offset).take (P.cellsOf f.type)))
  rw [e1, ← extract_eq]
  simp [Instr.field, run_underlying' ht, hf, asAgg, run_part_agg hb]

theorem indexA_inv {n : Nat} {i u : Value} {k : Nat} (hi : indexA n i = some k) (hv : VR φ i u) : ∃ j, u = .int j (k : Int) ∧ k < n := by
  cases i <;> simp [indexA] at hi
  rename_i j m
  obtain ⟨⟨h0, h1⟩, h2⟩ := hi
  refine ⟨j, ?_, by omega⟩
  rw [hv.int_inv, ← h2]
  congr 1
  omega

theorem good_ia {t el : TypeId} {x i : Operand} {x' i' : X} {s : TypeInfo} (ht : P.underlying t = some (.slice el)) (hs : P.info? el = some s) (hx : VR φ (x'.ev e) (a.eval x)) (hi : VR φ (i'.ev e) (a.eval i))
    (ho : o.op = .indexAddr t x i) (hr : HR φ h w) (hv : opV e h (.ia s.size x' i') = some (v, h')) : Good ((execOp a.eval o).run P w) φ h w v h' := by
  simp only [opV] at hv
  split at hv
  case h_2 => cases hv
  rename_i ad n c hx'
  obtain ⟨k, hk, heq⟩ := Option.map_eq_some_iff.1 hv
  cases heq
  obtain ⟨j, hj, hlt⟩ := indexA_inv hk hi
  simp only [execOp, ho, hj]
  rw [hx'] at hx
  have hlt' : (k : Int) < (n : Int) := by omega
  generalize a.eval x = xu at *
  cases hx with
  | sl o n c hφ =>
    refine .pure _ hr (u := .pointer (some ⟨_, o + k * s.size, none⟩)) ?_ (.ptr _ hφ)
    simp [Instr.indexAt, asIntOf, run_underlying' ht, run_sizeOf' hs, hlt, hlt', addr_add]
  | slo o o' n c c' e2 hφ hc ho' hn hv' =>
    have h0 := ho' (by omega)
    subst h0
    refine .pure _ hr (u := .pointer (some ⟨_, o' + k * s.size, none⟩)) ?_ (.ptr _ hφ)
    simp [Instr.indexAt, asIntOf, run_underlying' ht, run_sizeOf' hs, hlt, hlt', addr_add]
theorem good_iaa {t el : TypeId} {x i : Operand} {x' i' : X} {s : TypeInfo} {n : Nat} (ht : P.underlying t = some (.array n el)) (hs : P.info? el = some s) (hx : VR φ (x'.ev e) (a.eval x)) (hi : VR φ (i'.ev e) (a.eval i))
    (ho : o.op = .indexAddr t x i) (hr : HR φ h w) (hv : opV e h (.iaa n s.size x' i') = some (v, h')) : Good ((execOp a.eval o).run P w) φ h w v h' := by
  simp only [opV, Option.bind_eq_some_iff, Option.map_eq_some_iff] at hv
  obtain ⟨⟨b, off⟩, hp, k, hk, heq⟩ := hv
  cases heq
  obtain ⟨j, hj, hlt⟩ := indexA_inv hk hi
  obtain ⟨b', m, hu, hφ, _⟩ := hx.at hp
  simp only [execOp, ho, hj, hu]
  have hlt' : (k : Int) < (n : Int) := by omega
  refine .pure _ hr (u := .pointer (some ⟨_, off + k * s.size, none⟩)) ?_ (.ptr _ hφ)
  simp [Instr.indexAt, Instr.sureAddr, asIntOf, run_underlying' ht, run_sizeOf' hs, hlt, hlt', addr_add]

theorem good_ixs {t : TypeId} {x i : Operand} {x' i' : X} (ht : P.underlying t = some .string) (hx : VR φ (x'.ev e) (a.eval x)) (hi : VR φ (i'.ev e) (a.eval i))
    (ho : o.op = .index t x i) (hr : HR φ h w) (hv : opV e h (.ixs x' i') = some (v, h')) : Good ((execOp a.eval o).run P w) φ h w v h' := by
  simp only [opV] at hv
  split at hv
  case h_2 => cases hv
  rename_i s hx'
  simp only [Option.bind_eq_some_iff, Option.map_eq_some_iff] at hv
  obtain ⟨k, hk, b, hb, heq⟩ := hv
  cases heq
  obtain ⟨j, hj, hlt⟩ := indexA_inv hk hi
  rw [hx'] at hx
  simp only [execOp, ho, hj, hx.str_inv]
  refine .pure _ hr (u := .int .u8 b.toNat) ?_ (.int _ _)
  have hb' : s[k]? = some b := by
    have h1 : k < s.data.size := hlt
    have h2 : s.data[k]? = some b := by simpa using hb
    obtain ⟨h3, h4⟩ := Array.getElem?_eq_some_iff.1 h2
    show (if h : k < s.size then some s[k] else none) = some b
    rw [dif_pos hlt]
    exact congrArg some h4
  simp [Instr.index, asIntOf, run_underlying' ht, hb']
theorem good_ixa {t el : TypeId} {x i : Operand} {x' i' : X} {n : Nat} (ht : P.underlying t = some (.array n el)) (hb : isAggT P el = some false) (hs : P.cellsOf el = 1) (hx : VR φ (x'.ev e) (a.eval x)) (hi : VR φ (i'.ev e) (a.eval i))
    (ho : o.op = .index t x i) (hr : HR φ h w) (hv : opV e h (.ixa n x' i') = some (v, h')) : Good ((execOp a.eval o).run P w) φ h w v h' := by
  simp only [opV] at hv
  split at hv
  case h_2 => cases hv
  rename_i cs hx'
  simp only [Option.bind_eq_some_iff, Option.map_eq_some_iff] at hv
  obtain ⟨k, hk, b, hbb, heq⟩ := hv
  cases heq
  obtain ⟨j, hj, hlt⟩ := indexA_inv hk hi
  rw [hx'] at hx
  obtain ⟨cs', e1, hl⟩ := hx.agg_inv
  obtain ⟨z, hz, hvz⟩ := hl.get hbb
  have hz' : cs'[k]? = some z := by simpa using hz
  simp only [execOp, ho, hj, e1]
  refine .pure _ hr (u := z) ?_ hvz
  have hlt' : (k : Int) < (n : Int) := by omega
  simp [Instr.index, asIntOf, run_underlying' ht, hlt, hlt', cellsOf_of_isAgg hb, hs, run_part_one hb hz']
theorem good_ixan {t el : TypeId} {x i : Operand} {x' i' : X} {n : Nat} (ht : P.underlying t = some (.array n el)) (hb : isAggT P el = some true) (hx : VR φ (x'.ev e) (a.eval x)) (hi : VR φ (i'.ev e) (a.eval i))
    (ho : o.op = .index t x i) (hr : HR φ h w) (hv : opV e h (.ixan n (P.cellsOf el) x' i') = some (v, h')) : Good ((execOp a.eval o).run P w) φ h w v h' := by
  simp only [opV] at hv
  split at hv
  case h_2 => cases hv
  rename_i cs hx'
  simp only [Option.bind_eq_some_iff] at hv
  obtain ⟨k, hk, hv⟩ := hv
  split at hv
  case isFalse => cases hv
  cases hv
  obtain ⟨j, hj, hlt⟩ := indexA_inv hk hi
  rw [hx'] at hx
  obtain ⟨cs', e1, hl⟩ := hx.agg_inv
  simp only [execOp, ho, hj, e1]
  refine .pure _ hr (u := .agg _) ?_ (VR.aggL ((hl.drop (k * P.cellsOf el)).take (P.cellsOf el)))
  have hlt' : (k : Int) < (n : Int) := by omega
  rw [← extract_eq]
  simp [Instr.index, asIntOf, run_underlying' ht, hlt, hlt', cellsOf_of_isAgg hb, run_part_agg hb]

theorem good_ext {x : Operand} {x' : X} {k : Nat} (hx : VR φ (x'.ev e) (a.eval x)) (ho : o.op = .extract x k) (hr : HR φ h w) (hv : opV e h (.ext x' k) = some (v, h')) :
    Good ((execOp a.eval o).run P w) φ h w v h' := by
  simp only [opV] at hv
  split at hv
  case h_2 => cases hv
  rename_i cs hx'
  obtain ⟨u, hu, heq⟩ := Option.map_eq_some_iff.1 hv
  cases heq
  rw [hx'] at hx
  obtain ⟨cs', e1, hl⟩ := hx.tuple_inv
  obtain ⟨z, hz, hvz⟩ := hl.get hu
  have hz' : cs'[k]? = some z := by simpa using hz
  simp only [execOp, ho, e1]
  exact .pure _ hr (u := z) (by simp [Instr.extract, hz']) hvz

theorem good_pick {c x y : Operand} {c' x' y' : X} (hc : VR φ (c'.ev e) (a.eval c)) (hx : VR φ (x'.ev e) (a.eval x)) (hy : VR φ (y'.ev e) (a.eval y)) (ho : o.op = .pick c x y) (hr : HR φ h w)
    (hv : opV e h (.pick c' x' y') = some (v, h')) : Good ((execOp a.eval o).run P w) φ h w v h' := by
  simp only [opV] at hv
  split at hv
  case h_2 => cases hv
  rename_i t ht
  cases hv
  rw [ht] at hc
  simp only [execOp, ho, hc.bool_inv]
  cases t
  · exact .val hr (u := a.eval y) (by simp [asBool]) (by simpa using hy)
  · exact .val hr (u := a.eval x) (by simp [asBool]) (by simpa using hx)

/-- The bounds of a slice expression. -/
theorem asN_inv {x u : Value} {n : Nat} (hx : asN x = some n) (hv : VR φ x u) : ∃ k, u = .int k (n : Int) := by
  cases x <;> simp [asN] at hx
  rename_i k m
  refine ⟨k, ?_⟩
  rw [hv.int_inv, ← hx.2]
  congr 1
  omega
theorem run_bound {x u : Value} {n m c : Nat} {code : BoundsCode} (hx : asN x = some n) (hv : VR φ x u) (hm : n ≤ m) (hc : m ≤ c) : (Instr.sliceBound u c code).run P w = .ok n w := by
  obtain ⟨k, rfl⟩ := asN_inv hx hv
  have : (n : Int) ≤ (c : Int) := by omega
  simp [Instr.sliceBound, asIntOf, this]

/-- Optional operands. -/
def OpR (φ : Phi) : Option Value → Option Value → Prop
  | none, none => True
  | some x, some u => VR φ x u
  | _, _ => False

theorem run_bounds {len cap cap' l hh m : Nat} {lo hi mx lo' hi' mx' : Option Value} {is : Bool} (hb : bounds len cap lo hi mx = some (l, hh, m)) (hc : cap ≤ cap') (h1 : OpR φ lo lo') (h2 : OpR φ hi hi') (h3 : OpR φ mx mx') :
    ∃ m', (Instr.sliceBounds is len cap' lo' hi' mx').run P w = .ok (l, hh, m') w ∧ (if mx.isSome then m' = m else m' = cap' ∧ m = cap) ∧ l ≤ hh ∧ (hi.isSome ∨ mx.isSome → hh ≤ m) ∧ m ≤ cap ∧ (hi = none → hh = len) := by
  unfold bounds at hb
  cases mx with
  | none =>
    cases mx' with
    | some => simp [OpR] at h3
    | none =>
      simp only [Option.isSome_none, Bool.false_eq_true, if_false] at hb ⊢
      cases hi with
      | none =>
        cases hi' with
        | some => simp [OpR] at h2
        | none =>
          cases lo with
          | none =>
            cases lo' with
            | some => simp [OpR] at h1
            | none =>
              simp at hb
              obtain ⟨rfl, rfl, rfl⟩ := hb
              exact ⟨cap', by simp [Instr.sliceBounds], ⟨rfl, rfl⟩, by omega, by simp, by omega, fun _ => rfl⟩
          | some x =>
            cases lo' with
            | none => simp [OpR] at h1
            | some u =>
              simp only [Option.bind_eq_some_iff] at hb
              cases hx : asN x with
              | none => simp [hx] at hb
              | some n =>
                simp only [hx, Option.bind_some] at hb
                split at hb
                case h_1 => cases hb
                rename_i q hq
                split at hq
                case isFalse => cases hq
                cases hq
                cases hb
                exact ⟨cap', by simp [Instr.sliceBounds, run_bound hx h1 (by assumption) (Nat.le_refl _)], ⟨rfl, rfl⟩, by omega, by simp, by omega, fun _ => rfl⟩
      | some y =>
        cases hi' with
        | none => simp [OpR] at h2
        | some z =>
          cases hy : asN y with
          | none => simp [hy] at hb
          | some n2 =>
            simp only [hy, Option.bind_some] at hb
            by_cases hle : n2 ≤ cap
            · simp only [hle, if_true] at hb
              have hrun2 : ∀ code, (Instr.sliceBound z cap' code).run P w = .ok n2 w := fun code => run_bound hy h2 hle hc
              cases lo with
              | none =>
                cases lo' with
                | some => simp [OpR] at h1
                | none =>
                  simp at hb
                  obtain ⟨rfl, rfl, rfl⟩ := hb
                  exact ⟨cap', by simp [Instr.sliceBounds, hrun2], ⟨rfl, rfl⟩, by omega, fun _ => hle, by omega, by simp⟩
              | some x =>
                cases lo' with
                | none => simp [OpR] at h1
                | some u =>
                  cases hx : asN x with
                  | none => simp [hx] at hb
                  | some n =>
                    simp only [hx, Option.bind_some] at hb
                    split at hb
                    case h_1 => cases hb
                    rename_i q hq
                    split at hq
                    case isFalse => cases hq
                    cases hq
                    cases hb
                    exact ⟨cap', by simp [Instr.sliceBounds, hrun2, run_bound hx h1 (by assumption) (Nat.le_refl _)], ⟨rfl, rfl⟩, by omega, fun _ => hle, by omega, by simp⟩
            · simp [hle] at hb
  | some xm =>
    cases mx' with
    | none => simp [OpR] at h3
    | some um =>
      cases hm : asN xm with
      | none => simp [hm] at hb
      | some n3 =>
        simp only [hm, Option.bind_some] at hb
        by_cases hle3 : n3 ≤ cap
        · simp only [hle3, if_true] at hb
          have hrun3 : ∀ code, (Instr.sliceBound um cap' code).run P w = .ok n3 w := fun code => run_bound hm h3 hle3 hc
          simp only [Option.isSome_some, if_true] at hb ⊢
          cases hi with
          | none => simp at hb
          | some y =>
            cases hi' with
            | none => simp [OpR] at h2
            | some z =>
              cases hy : asN y with
              | none => simp [hy] at hb
              | some n2 =>
                simp only [hy, Option.bind_some] at hb
                by_cases hle : n2 ≤ n3
                · simp only [hle, if_true] at hb
                  have hrun2 : ∀ code, (Instr.sliceBound z n3 code).run P w = .ok n2 w := fun code => run_bound hy h2 hle (Nat.le_refl _)
                  cases lo with
                  | none =>
                    cases lo' with
                    | some => simp [OpR] at h1
                    | none =>
                      simp at hb
                      obtain ⟨rfl, rfl, rfl⟩ := hb
                      exact ⟨n3, by simp [Instr.sliceBounds, hrun2, hrun3], rfl, by omega, fun _ => hle, by omega, by simp⟩
                  | some x =>
                    cases lo' with
                    | none => simp [OpR] at h1
                    | some u =>
                      cases hx : asN x with
                      | none => simp [hx] at hb
                      | some n =>
                        simp only [hx, Option.bind_some] at hb
                        split at hb
                        case h_1 => cases hb
                        rename_i q hq
                        split at hq
                        case isFalse => cases hq
                        cases hq
                        cases hb
                        exact ⟨m, by simp [Instr.sliceBounds, hrun2, hrun3, run_bound hx h1 (by assumption) (Nat.le_refl _)], rfl, by omega, fun _ => hle, by omega, by simp⟩
                · simp [hle] at hb
        · simp [hle3] at hb
end
end Go.Dx
