/- Each single operation of the model does what the interpreter's does. -/
import Derived.Test.YtppgoobhlcdbbaaDx1
import Derived.Test.YtppgoobhlcdbbaaDx2
import Derived.Laws.StructEq
set_option linter.unusedSimpArgs false
set_option linter.unusedVariables false
namespace Go.Dx

def ER (φ : Phi) (e : Env) (a : Act) : Prop := ∀ t, VR φ (e t) (a.eval (.tmp t))

def Good (r : Result Next) (φ : Phi) (h : Hp) (w : World) (v : Value) (h' : Hp) : Prop :=
  ∃ φ' u w', (r = .ok (.value u) w' ∨ (r = .ok .skip w' ∧ u = undef)) ∧ Ext φ h w φ' h' w' ∧ VR φ' v u

section
variable {P : Program} {φ : Phi} {e : Env} {a : Act} {h h' : Hp} {w : World} {v : Value} {o : Oper}

theorem VR.ground {c : Value} (hg : ground c = true) : VR φ c c := by
  cases c <;> simp [Dx.ground] at hg
  case bool => exact .bool _
  case int => exact .int _ _
  case string => exact .str _
  case pointer p => cases p <;> simp at hg; exact .pnil
  case slice p n c => cases p <;> simp at hg; exact .snil _ _
  case map p => cases p <;> simp at hg; exact .mnil
  case chan p => cases p <;> simp at hg; exact .cnil
  case nilFunc => exact .nilFunc
  case nilIface => exact .nilIface
theorem LR.ground {l : List Value} (hg : l.all Dx.ground = true) : LR φ l l := by
  induction l with
  | nil => exact .nil _
  | cons x l ih =>
    simp only [List.all_cons, Bool.and_eq_true] at hg
    exact .cons (.ground hg.1) (ih hg.2)

theorem cx_ev {x : Operand} {y : X} (hc : cx x = some y) (he : ER φ e a) : VR φ (y.ev e) (a.eval x) := by
  cases x with
  | tmp t => simp [cx] at hc; subst hc; exact he t
  | const c =>
    simp only [cx] at hc
    split at hc
    · rename_i hg; cases hc; exact .ground hg
    · cases hc
  | func f => simp [cx] at hc; subst hc; exact .func f _ _ rfl fun i hi => by simp at hi
  | global g => simp [cx] at hc
theorem cxs_ev {l : List Operand} {m : List X} (hc : cxs l = some m) (he : ER φ e a) : LR φ (evs e m) (l.map a.eval) := by
  induction l generalizing m with
  | nil => simp [cxs] at hc; subst hc; exact .nil _
  | cons x l ih =>
    simp only [cxs, List.mapM_cons] at hc
    cases hx : cx x with
    | none => simp [hx] at hc
    | some y =>
      cases hl : cxs l with
      | none => simp [hx, cxs] at hc hl; simp [hl] at hc
      | some k =>
        have hl' := hl
        simp only [cxs] at hl'
        simp [hx, hl'] at hc
        subst hc
        exact .cons (cx_ev hx he) (ih hl)

theorem Good.val {r : Result Next} {u : Value} (hr : HR φ h w) (hrun : r = .ok (.value u) w) (hv : VR φ v u) : Good r φ h w v h :=
  ⟨φ, u, w, .inl hrun, .refl hr, hv⟩

theorem run_value (s : Sem Value) {u : Value} {w' : World} (hs : s.run P w = .ok u w') : (do pure (Next.value (← s)) : Sem Next).run P w = .ok (.value u) w' := by
  simp [hs]
theorem run_skip (s : Sem Unit) {w' : World} (hs : s.run P w = .ok () w') : (do s; pure Next.skip : Sem Next).run P w = .ok .skip w' := by
  simp [hs]

theorem Good.pure (s : Sem Value) {u : Value} (hr : HR φ h w) (hs : s.run P w = .ok u w) (hv : VR φ v u) : Good ((do Pure.pure (Next.value (← s)) : Sem Next).run P w) φ h w v h :=
  ⟨φ, u, w, .inl (run_value s hs), .refl hr, hv⟩

/-- A place. -/
theorem VR.at {x u : Value} {b o : Nat} (hx : VR φ x u) (hp : at? x = some (b, o)) : ∃ b' n, u = .pointer (some ⟨b', o, none⟩) ∧ φ b = some (b', n) ∧ x = .pointer (some ⟨b, o, none⟩) := by
  cases hx <;> simp [at?] at hp
  case ptr b' n o h => obtain ⟨rfl, rfl⟩ := hp; exact ⟨b', n, rfl, h, rfl⟩

theorem run_typeInfo' {t : TypeId} {i : TypeInfo} (hi : P.info? t = some i) : (typeInfo t).run P w = .ok i w := by
  simp [typeInfo, hi]
theorem run_underlying' {t : TypeId} {d : TypeDesc} (hd : P.underlying t = some d) : (underlying t).run P w = .ok d w := by
  simp [underlying, hd]
theorem run_sizeOf' {t : TypeId} {i : TypeInfo} (hi : P.info? t = some i) : (sizeOf t).run P w = .ok i.size w := by
  simp [sizeOf, run_typeInfo' hi]
theorem info_of_underlying {t : TypeId} {d : TypeDesc} (hd : P.underlying t = some d) : ∃ i, P.info? t = some i := by
  unfold Program.underlying at hd
  cases hi : P.info? t with
  | none => simp [hi] at hd
  | some i => exact ⟨i, rfl⟩
theorem run_isAgg' {t : TypeId} {b : Bool} (hb : isAggT P t = some b) : (isAgg t).run P w = .ok b w := by
  unfold isAggT at hb
  cases hu : P.underlying t with
  | none => simp [hu] at hb
  | some d =>
    simp only [hu, Option.map_some, Option.some.injEq] at hb
    subst hb
    simp only [isAgg, Sem.run_bind, run_underlying' hu, Result.andThen_ok]
    cases d <;> rfl
theorem cellsOf_of_isAgg {t : TypeId} {b : Bool} (hb : isAggT P t = some b) : (sizeOf t).run P w = .ok (P.cellsOf t) w := by
  unfold isAggT at hb
  cases hu : P.underlying t with
  | none => simp [hu] at hb
  | some d =>
    obtain ⟨i, hi⟩ := info_of_underlying hu
    rw [run_sizeOf' hi]
    simp [Program.cellsOf, hi]
theorem cellsOf_info {t : TypeId} {i : TypeInfo} (hi : P.info? t = some i) : P.cellsOf t = i.size := by simp [Program.cellsOf, hi]

theorem addr_add (b o k : Nat) : (⟨b, o, none⟩ : Addr).add k = ⟨b, o + k, none⟩ := by
  unfold Addr.add; split <;> simp_all

/-- Loads. -/
theorem good_ld {t : TypeId} {x : X} {u : Value} (hb : isAggT P t = some false) (hx : VR φ (x.ev e) u) (hr : HR φ h w) (hv : opV e h (.ld x) = some (v, h')) :
    Good ((do Pure.pure (Next.value (← Instr.loadAt t u)) : Sem Next).run P w) φ h w v h' := by
  simp only [opV, Option.bind_eq_some_iff, Option.map_eq_some_iff] at hv
  obtain ⟨⟨b, o⟩, hp, v', hrd, heq⟩ := hv
  cases heq
  obtain ⟨b', n, rfl, hφ, _⟩ := hx.at hp
  obtain ⟨y, hy, hvy⟩ := hr.rd hrd hφ
  refine .pure _ hr ?_ hvy
  simp [Instr.loadAt, Instr.sureAddr, loadVar, run_isAgg' hb, hy]
theorem good_ldn {t : TypeId} {x : X} {u : Value} (hb : isAggT P t = some true) (hx : VR φ (x.ev e) u) (hr : HR φ h w) (hv : opV e h (.ldn (P.cellsOf t) x) = some (v, h')) :
    Good ((do Pure.pure (Next.value (← Instr.loadAt t u)) : Sem Next).run P w) φ h w v h' := by
  simp only [opV, Option.bind_eq_some_iff, Option.map_eq_some_iff] at hv
  obtain ⟨⟨b, o⟩, hp, v', hrd, heq⟩ := hv
  cases heq
  obtain ⟨b', n, rfl, hφ, _⟩ := hx.at hp
  obtain ⟨y, hy, hvy, _, _⟩ := hr.rdn (P := P) hrd hφ
  refine .pure _ hr ?_ (VR.aggL hvy)
  simp [Instr.loadAt, Instr.sureAddr, loadVar, run_isAgg' hb, cellsOf_of_isAgg hb, hy w rfl]

theorem one_cells {v u : Value} (h : VR φ v u) (h1 : one v = true) : u.cells = #[u] := by
  cases h <;> first | rfl | (simp [one] at h1; done) | skip
  cases u <;> first | rfl | cases h1

/-- Stores. -/
theorem good_st {t : TypeId} {x y : X} {u z : Value} (hb : isAggT P t = some false) (hs : P.cellsOf t = 1) (hx : VR φ (x.ev e) u) (hy : VR φ (y.ev e) z) (hr : HR φ h w)
    (hv : opV e h (.st x y) = some (v, h')) : Good ((do Instr.storeAt t u z; Pure.pure Next.skip : Sem Next).run P w) φ h w v h' := by
  simp only [opV, Option.bind_eq_some_iff] at hv
  obtain ⟨⟨b, o⟩, hp, hv⟩ := hv
  split at hv
  case isFalse => cases hv
  rename_i h1
  simp only [Option.map_eq_some_iff] at hv
  obtain ⟨g, hw, heq⟩ := hv
  cases heq
  obtain ⟨b', n, rfl, hφ, _⟩ := hx.at hp
  obtain ⟨w', hrun, hext⟩ := hr.wr (P := P) hw hφ (.cons hy (.nil _))
  refine ⟨φ, undef, w', .inr ⟨run_skip _ ?_, rfl⟩, hext, .undef _⟩
  simp [Instr.storeAt, Instr.sureAddr, storeVar, one_cells hy h1, cellsOf_of_isAgg hb, hs, hrun]
theorem good_stn {t : TypeId} {x y : X} {u z : Value} (hb : isAggT P t = some true) (hx : VR φ (x.ev e) u) (hy : VR φ (y.ev e) z) (hr : HR φ h w)
    (hv : opV e h (.stn (P.cellsOf t) x y) = some (v, h')) : Good ((do Instr.storeAt t u z; Pure.pure Next.skip : Sem Next).run P w) φ h w v h' := by
  simp only [opV, Option.bind_eq_some_iff] at hv
  obtain ⟨⟨b, o⟩, hp, hv⟩ := hv
  split at hv
  case h_2 => cases hv
  rename_i cs hcs
  split at hv
  case isFalse => cases hv
  rename_i hsz
  simp only [Option.map_eq_some_iff] at hv
  obtain ⟨g, hw, heq⟩ := hv
  cases heq
  obtain ⟨b', n, rfl, hφ, _⟩ := hx.at hp
  rw [hcs] at hy
  obtain ⟨cs', rfl, hl⟩ := hy.agg_inv
  have hsz' : cs'.size = P.cellsOf t := by have := hl.1; simp at this; omega
  obtain ⟨w', hrun, hext⟩ := hr.wr (P := P) hw hφ hl
  refine ⟨φ, undef, w', .inr ⟨run_skip _ ?_, rfl⟩, hext, .undef _⟩
  simp [Instr.storeAt, Instr.sureAddr, storeVar, Value.cells, cellsOf_of_isAgg hb, hsz', hrun]

/-- New blocks of cells. -/
theorem alloc_cells {id : Nat} {fill : Ob → Hp} (sl : Slot φ h id fill) (hr : HR φ h w) {c : List Value} {arr : Array Value} (elem : TypeId) (hl : LR φ c arr.toList) :
    ∃ φ', Ext φ h w φ' (fill (.cells false c)) { w with heap := w.heap.push (.cells arr elem) } ∧ φ' id = some (w.heap.size, arr.size) := by
  refine ⟨ups φ id (w.heap.size, arr.size), .alloc sl hr _ (.cells arr elem) arr.size rfl rfl rfl rfl ⟨arr, elem, (0, 0), by simp, rfl, ?_, ?_, fun _ => .inl rfl⟩, by simp [ups]⟩
  · have := hl.1; simp at this; omega
  · have h1 := hl.1
    rw [h1, List.take_of_length_le (Nat.le_refl _)]
    refine hl.mono fun b x hb => ?_
    unfold ups
    split
    · rename_i e; subst e; rw [sl.phi hr] at hb; cases hb
    · exact hb
theorem good_new {id : Nat} {fill : Ob → Hp} {ob : Ob} {t : TypeId} {z : List Value} (sl : Slot φ h id fill) (hz : zeroOf P t = some z) (hr : HR φ h w) (hv : opA id e (.new z) = some (v, ob)) :
    Good ((do Pure.pure (Next.value (← Instr.alloc t true (.tuple #[]))) : Sem Next).run P w) φ h w v (fill ob) := by
  simp only [opA, Option.some.injEq, Prod.mk.injEq] at hv
  obtain ⟨rfl, rfl⟩ := hv
  unfold zeroOf at hz
  cases hi : P.info? t with
  | none => simp [hi] at hz
  | some i =>
    cases hz' : i.zero with
    | none => simp [hi, hz'] at hz
    | some zv =>
      simp only [hi, hz', Option.bind_some] at hz
      split at hz
      case isFalse => cases hz
      rename_i hg
      cases hz
      obtain ⟨φ', hext, hφ⟩ := alloc_cells sl hr t (LR.ground (φ := φ) hg)
      refine ⟨φ', .pointer (some ⟨w.heap.size, 0, none⟩), _, .inl (run_value _ ?_), hext, .ptr 0 hφ⟩
      simp [Instr.alloc, zeroValue, run_typeInfo' hi, hz', newVar, newRow]
theorem good_box {id : Nat} {fill : Ob → Hp} {ob : Ob} {t : TypeId} {x : X} {u : Value} (sl : Slot φ h id fill) (hx : VR φ (x.ev e) u) (hr : HR φ h w) (hv : opA id e (.box x) = some (v, ob)) :
    Good ((do Pure.pure (Next.value (← Instr.box t u)) : Sem Next).run P w) φ h w v (fill ob) := by
  simp only [opA] at hv
  split at hv
  · cases hv
  rename_i hj
  simp only [Option.some.injEq, Prod.mk.injEq] at hv
  obtain ⟨rfl, rfl⟩ := hv
  obtain ⟨φ', hext, hφ⟩ := alloc_cells sl hr t (hx.cells (by simpa using hj))
  refine ⟨φ', .pointer (some ⟨w.heap.size, 0, none⟩), _, .inl (run_value _ ?_), hext, .ptr 0 hφ⟩
  simp [Instr.box, newVar, newRow]

theorem zipIdx_foldl (off : Nat) : ∀ (l : List Value) (k : Nat) (cs : Array Value), off + k + l.length ≤ cs.size →
    ((l.zipIdx k).foldl (fun cs p => cs.setIfInBounds (off + p.2) p.1) cs).toList = over cs.toList (off + k) l := by
  intro l
  induction l with
  | nil => intro k cs _; simp [over]
  | cons x l ih =>
    intro k cs hs
    simp only [List.length_cons] at hs
    simp only [List.zipIdx_cons, List.foldl_cons]
    rw [ih (k + 1) _ (by simp; omega)]
    have ho : off + k < cs.toList.length := by simp; omega
    simp only [over, Array.toList_setIfInBounds, List.length_cons]
    rw [show off + (k + 1) = off + k + 1 by omega, List.take_set, List.take_add_one, List.drop_set, if_pos (by omega), List.getElem?_eq_getElem ho, List.set_append_right _ _ (by simp; omega)]
    have : off + k - (cs.toList.take (off + k)).length = 0 := by simp; omega
    rw [this, show off + k + 1 + l.length = off + k + (l.length + 1) by omega]
    simp

theorem over_LR {c d vs us : List Value} (o : Nat) (hc : LR φ c d) (hv : LR φ vs us) : LR φ (over c o vs) (over d o us) := by
  unfold over
  rw [← hv.1]
  exact ((hc.take o).append hv).append (hc.drop _)

theorem fill_ok {pl : Nat → Option (Nat × Nat)} : ∀ (ps : List (Nat × Operand)) (qs : List (Nat × Nat × X)) (c r : List Value) (d : Array Value), cparts pl ps = some qs → ER φ e a →
    LR φ c d.toList → fillIn c (evp e qs) = some r → ∃ d', Instr.fill pl d (ps.map fun p => (p.1, a.eval p.2)) = some d' ∧ LR φ r d'.toList := by
  intro ps
  induction ps with
  | nil =>
    intro qs c r d hq he hc hf
    simp [cparts] at hq
    subst hq
    simp [evp, fillIn] at hf
    subst hf
    exact ⟨d, rfl, hc⟩
  | cons p ps ih =>
    intro qs c r d hq he hc hf
    simp only [cparts, List.mapM_cons] at hq
    obtain ⟨q, hq1, hq⟩ := Option.bind_eq_some_iff.1 hq
    obtain ⟨q', hq2, hq⟩ := Option.bind_eq_some_iff.1 hq
    cases hq
    obtain ⟨⟨off, size⟩, hpl, hq1⟩ := Option.bind_eq_some_iff.1 hq1
    obtain ⟨x, hx, hq1⟩ := Option.map_eq_some_iff.1 hq1
    subst hq1
    simp only [evp, List.map_cons, fillIn] at hf
    split at hf
    case isFalse => cases hf
    rename_i hcond
    obtain ⟨hj, h1, h2⟩ := hcond
    have hvx := cx_ev hx he
    have hcells := hvx.cells hj
    have hsz : (a.eval p.2).cells.size = size := by have := hcells.1; simp at this; omega
    have hlen : d.size = c.length := by have := hc.1; simp at this; omega
    have hfold : ((a.eval p.2).cells.zipIdx.foldl (fun cs (x : Value × Nat) => cs.setIfInBounds (off + x.2) x.1) d).toList = over d.toList off (a.eval p.2).cells.toList := by
      rw [← Array.foldl_toList, Array.toList_zipIdx]
      simpa using zipIdx_foldl off (a.eval p.2).cells.toList 0 d (by simp; omega)
    obtain ⟨d', hd1, hd2⟩ := ih q' _ r ((a.eval p.2).cells.zipIdx.foldl (fun cs (x : Value × Nat) => cs.setIfInBounds (off + x.2) x.1) d) hq2 he (by rw [hfold]; exact over_LR off hc hcells) hf
    refine ⟨d', ?_, hd2⟩
    simp only [List.map_cons, Instr.fill, hpl]
    have hno : ((a.eval p.2).cells.size ≠ size || decide (off + (a.eval p.2).cells.size > d.size)) = false := by
      simp [hsz]; omega
    simp only [hno, Bool.false_eq_true, if_false]
    exact hd1

theorem run_mapM_pure {α β : Type} (f : α → Sem β) (g : α → β) (hf : ∀ x, (f x).run P w = .ok (g x) w) (l : List α) : (l.mapM f).run P w = .ok (l.map g) w := by
  induction l with
  | nil => simp
  | cons x l ih => simp [List.mapM_cons, hf, ih]
theorem run_mapM_mem {α β : Type} (f : α → Sem β) (g : α → β) : ∀ (l : List α), (∀ x ∈ l, (f x).run P w = .ok (g x) w) → (l.mapM f).run P w = .ok (l.map g) w
  | [], _ => by simp
  | x :: l, hf => by simp [List.mapM_cons, hf x (by simp), run_mapM_mem f g l fun y hy => hf y (by simp [hy])]

theorem zeroOf_run {t : TypeId} {z : List Value} (hz : zeroOf P t = some z) : ∃ zv, (zeroValue t).run P w = .ok zv w ∧ zv.cells.toList = z ∧ z.all ground = true := by
  unfold zeroOf at hz
  cases hi : P.info? t with
  | none => simp [hi] at hz
  | some i =>
    cases hz' : i.zero with
    | none => simp [hi, hz'] at hz
    | some zv =>
      simp only [hi, hz', Option.bind_some] at hz
      split at hz
      case isFalse => cases hz
      rename_i hg
      cases hz
      exact ⟨zv, by simp [zeroValue, run_typeInfo' hi, hz'], rfl, hg⟩

theorem good_build_struct {t : TypeId} {fs : Array Field} {z : List Value} {ps : Array (Nat × Operand)} {qs : List (Nat × Nat × X)} (hu : P.underlying t = some (.struct fs)) (hz : zeroOf P t = some z)
    (hall : fs.toList.all (fun f => (P.info? f.type).isSome) = true) (hq : cparts (place P fs) ps.toList = some qs) (he : ER φ e a) (hr : HR φ h w) (hv : opV e h (.build z qs) = some (v, h')) :
    Good ((do Pure.pure (Next.value (← Instr.build t (ps.map fun (i, x) => (i, a.eval x)))) : Sem Next).run P w) φ h w v h' := by
  simp only [opV, Option.map_eq_some_iff] at hv
  obtain ⟨c, hf, heq⟩ := hv
  cases heq
  obtain ⟨zv, hz1, hz2, hz3⟩ := zeroOf_run (w := w) hz
  obtain ⟨d, hd1, hd2⟩ := fill_ok ps.toList qs z c zv.cells hq he (by rw [hz2]; exact .ground hz3) hf
  refine .pure _ hr (u := .agg d) ?_ (by simpa using VR.aggL hd2)
  have hm : (fs.mapM fun f => do Pure.pure (f.offset, ← sizeOf f.type) : Sem (Array (Nat × Nat))).run P w = .ok (fs.map fun f => (f.offset, P.cellsOf f.type)) w := by
    have : (fs.mapM fun f => do Pure.pure (f.offset, ← sizeOf f.type) : Sem (Array (Nat × Nat))) = List.toArray <$> (fs.toList.mapM fun f => do Pure.pure (f.offset, ← sizeOf f.type) : Sem (List (Nat × Nat))) := by
      rw [Array.mapM_eq_mapM_toList]
    rw [this, Sem.run_map, run_mapM_mem _ (fun f => (f.offset, P.cellsOf f.type))]
    · simp only [Result.andThen_ok]
      rw [← Array.toList_map]
    · intro f hf
      have := List.all_eq_true.1 hall f hf
      obtain ⟨i, hi⟩ := Option.isSome_iff_exists.1 this
      simp [run_sizeOf' hi, cellsOf_info hi]
  have hpl : (fun x => (fs.map fun f => (f.offset, P.cellsOf f.type))[x]?) = place P fs := by
    funext k
    simp only [place, Array.getElem?_map]
    cases hk : fs[k]? with
    | none => rfl
    | some f =>
      have := List.all_eq_true.1 hall f (by simpa using Array.mem_of_getElem? hk)
      obtain ⟨i, hi⟩ := Option.isSome_iff_exists.1 this
      simp [hi, cellsOf_info hi]
  simp only [Instr.build, Sem.run_bind, hz1, run_underlying' hu, Result.andThen_ok, hm, hpl, Array.toList_map]
  rw [hd1]
  rfl
theorem good_build_array {t el : TypeId} {n : Nat} {i : TypeInfo} {z : List Value} {ps : Array (Nat × Operand)} {qs : List (Nat × Nat × X)} (hu : P.underlying t = some (.array n el)) (hz : zeroOf P t = some z)
    (hi : P.info? el = some i) (hq : cparts (fun k => some (k * i.size, i.size)) ps.toList = some qs) (he : ER φ e a) (hr : HR φ h w) (hv : opV e h (.build z qs) = some (v, h')) :
    Good ((do Pure.pure (Next.value (← Instr.build t (ps.map fun (i, x) => (i, a.eval x)))) : Sem Next).run P w) φ h w v h' := by
  simp only [opV, Option.map_eq_some_iff] at hv
  obtain ⟨c, hf, heq⟩ := hv
  cases heq
  obtain ⟨zv, hz1, hz2, hz3⟩ := zeroOf_run (w := w) hz
  obtain ⟨d, hd1, hd2⟩ := fill_ok ps.toList qs z c zv.cells hq he (by rw [hz2]; exact .ground hz3) hf
  refine .pure _ hr (u := .agg d) ?_ (by simpa using VR.aggL hd2)
  simp only [Instr.build, Sem.run_bind, hz1, run_underlying' hu, Result.andThen_ok, run_sizeOf' hi, Array.toList_map]
  rw [hd1]
  rfl

theorem range_mod (z : Array Value) (n : Nat) (hz : 0 < z.size) : ((Array.range (n * z.size)).map (fun i => z[i % z.size]!)).toList = (List.replicate n z.toList).flatten := by
  induction n with
  | zero => simp
  | succ n ih =>
    rw [Array.toList_map, Array.toList_range] at ih ⊢
    rw [Nat.succ_mul, List.range_add, List.map_append, ih, List.replicate_succ', List.flatten_append]
    congr 1
    simp only [List.map_map, List.flatten_cons, List.flatten_nil, List.append_nil]
    apply List.ext_getElem?
    intro k
    by_cases hk : k < z.size
    · simp [hk, Nat.mod_eq_of_lt hk]
    · simp [hk]

theorem good_bsl {id : Nat} {fill : Ob → Hp} {ob : Ob} (sl : Slot φ h id fill) {t el : TypeId} {n : Nat} {i : TypeInfo} {z : List Value} {ps : Array (Nat × Operand)} {qs : List (Nat × Nat × X)} (hu : P.underlying t = some (.slice el))
    (hi : P.info? el = some i) (hn : n * i.size ≤ 2 ^ 24)
    (hz : (if n * i.size = 0 then some [] else (zeroOf P el).bind fun z => if z.length = i.size then some (List.replicate n z).flatten else none) = some z)
    (hq : cparts (fun k => some (k * i.size, i.size)) ps.toList = some qs) (he : ER φ e a) (hr : HR φ h w) (hv : opA id e (.bsl n z qs) = some (v, ob)) :
    Good ((do Pure.pure (Next.value (← Instr.buildSlice t n (ps.map fun (i, x) => (i, a.eval x)))) : Sem Next).run P w) φ h w v (fill ob) := by
  simp only [opA, Option.map_eq_some_iff] at hv
  obtain ⟨c, hf, heq⟩ := hv
  cases heq
  have hcells : ∃ zs : Array Value, (if n * i.size = 0 then Pure.pure #[] else do Pure.pure (← zeroValue el).cells : Sem (Array Value)).run P w = .ok zs w ∧
      LR φ z ((Array.range (n * i.size)).map (zs[· % zs.size]!)).toList := by
    by_cases h0 : n * i.size = 0
    · simp only [h0, if_true] at hz ⊢
      cases hz
      exact ⟨#[], rfl, by simpa using LR.nil φ⟩
    · simp only [h0, if_false] at hz ⊢
      obtain ⟨z0, hz0, hz⟩ := Option.bind_eq_some_iff.1 hz
      split at hz
      case isFalse => cases hz
      rename_i hlen
      cases hz
      obtain ⟨zv, hz1, hz2, hz3⟩ := zeroOf_run (w := w) hz0
      refine ⟨zv.cells, by simp [hz1], ?_⟩
      have hs : i.size = zv.cells.size := by rw [← hlen, ← hz2]; simp
      have hpos : 0 < zv.cells.size := by
        rcases Nat.eq_zero_or_pos i.size with hh | hh
        · simp [hh] at h0
        · omega
      rw [hs, range_mod _ _ hpos, hz2]
      exact .ground (by
        simp only [List.all_eq_true, List.mem_flatten, List.mem_replicate]
        rintro x ⟨l, ⟨_, rfl⟩, hx⟩
        exact List.all_eq_true.1 hz3 x hx)
  obtain ⟨zs, hzs, hlr⟩ := hcells
  obtain ⟨d, hd1, hd2⟩ := fill_ok ps.toList qs z c _ hq he hlr hf
  obtain ⟨φ', hext, hφ⟩ := alloc_cells sl hr el hd2
  refine ⟨φ', .slice (some ⟨w.heap.size, 0, none⟩) n n, _, .inl (run_value _ ?_), hext, .sl 0 n n hφ⟩
  have hgt : ¬ (n * i.size > 2 ^ 24) := by omega
  simp only [Instr.buildSlice, Sem.run_bind, run_underlying' hu, Result.andThen_ok, run_sizeOf' hi]
  rw [if_neg hgt]
  by_cases h0 : n * i.size = 0
  · simp only [if_pos h0, Sem.run_bind, Sem.run_pure, Result.andThen_ok, Array.toList_map] at hzs ⊢
    cases hzs
    rw [hd1]
    simp [newRow]
  · simp only [if_neg h0, Sem.run_bind, Sem.run_pure, Result.andThen_ok, Array.toList_map] at hzs ⊢
    generalize (zeroValue el).run P w = r at *
    cases r with
    | halt x y => simp at hzs
    | ok zv w1 =>
      simp only [Result.andThen_ok, Result.ok.injEq] at hzs ⊢
      obtain ⟨rfl, rfl⟩ := hzs
      rw [hd1]
      simp [newRow]
end
end Go.Dx
