/- Every single operation (but calls and selects) of the model does what the interpreter's does. -/
import Derived.Test.YtppgoobhlcdbbaaDx8
set_option linter.unusedSimpArgs false
set_option linter.unusedVariables false
namespace Go.Dx
section
variable {P : Program} {φ : Phi} {e : Env} {a : Act} {h h' : Hp} {w : World} {v : Value} {o : Oper} {op : Op}

theorem good_clr_slice {t el : TypeId} {m : Operand} {m' : X} {z : List Value} {rt : TypeId} (ht : P.underlying t = some (.slice el)) (hz : zeroOf P el = some z)
    (hm : VR φ (m'.ev e) (a.eval m)) (hr : HR φ h w)
    (hv : opV e h (.clr z m') = some (v, h')) : Good ((do Pure.pure (Next.value (← Builtin.clear_ #[t] rt #[a.eval m])) : Sem Next).run P w) φ h w v h' := by
  simp only [opV] at hv
  generalize m'.ev e = mv at *
  generalize a.eval m = mu at *
  obtain ⟨zv, hz1, hz2, hz3⟩ := zeroOf_run (w := w) hz
  have hzc : ∀ n, (Builtin.zeroCells zv.cells n).toList = (List.replicate n z).flatten := by
    intro n
    rcases Nat.eq_zero_or_pos zv.cells.size with h0 | h0
    · have : z = [] := by rw [← hz2]; exact List.length_eq_zero_iff.1 (by simpa using h0)
      subst this
      have : (Builtin.zeroCells zv.cells n).size = 0 := by rw [zeroCells_size, h0, Nat.mul_zero]
      simp at this
      simp [this]
    · rw [← hz2]; exact range_mod _ _ h0
  have hlr : ∀ n, LR φ (List.replicate n z).flatten (List.replicate n z).flatten := fun n => .ground (by
    simp only [List.all_eq_true, List.mem_flatten, List.mem_replicate]
    rintro x ⟨l, ⟨_, rfl⟩, hx⟩
    exact List.all_eq_true.1 hz3 x hx)
  split at hv
  · cases hv
    cases hm
    refine .pure _ hr (u := .tuple #[]) ?_ (.undef _)
    simp only [Builtin.clear_, List.getElem?_toArray, List.getElem?_cons_zero]
    simp only [Sem.run_bind, run_underlying' ht, Result.andThen_ok, Sem.run_pure]
  · rename_i ad n c
    split at hv
    · rename_i h0
      subst h0
      cases hv
      cases hm
      all_goals
        refine .pure _ hr (u := .tuple #[]) ?_ (.undef _)
        simp only [Builtin.clear_, List.getElem?_toArray, List.getElem?_cons_zero]
        simp only [Sem.run_bind, run_underlying' ht, Result.andThen_ok, Sem.run_pure]
    · rename_i h0
      obtain ⟨k, rfl⟩ : ∃ k, n = k + 1 := ⟨n - 1, by omega⟩
      obtain ⟨g, hw, heq⟩ := Option.map_eq_some_iff.1 hv
      cases heq
      cases hm with
      | sl off _ _ hφ =>
        obtain ⟨w', hrun, hext⟩ := hr.wr (P := P) hw hφ (hlr _)
        refine ⟨φ, .tuple #[], w', .inl (run_value _ ?_), hext, .undef _⟩
        simp only [Builtin.clear_, List.getElem?_toArray, List.getElem?_cons_zero]
        simp only [Sem.run_bind, run_underlying' ht, Result.andThen_ok, hz1, hzc, hrun, Sem.run_pure]
      | slo off off' _ _ c' e2 hφ hc ho' hn hvv =>
        have := ho' (by omega)
        subst this
        obtain ⟨w', hrun, hext⟩ := hr.wr (P := P) hw hφ (hlr _)
        refine ⟨φ, .tuple #[], w', .inl (run_value _ ?_), hext, .undef _⟩
        simp only [Builtin.clear_, List.getElem?_toArray, List.getElem?_cons_zero]
        simp only [Sem.run_bind, run_underlying' ht, Result.andThen_ok, hz1, hzc, hrun, Sem.run_pure]
  · cases hv

theorem bin_sound {b : BinOp} {t yt : TypeId} {x y : Operand} (hc : compBin P b t x y = some op) (ho : o.op = .binOp b t x y yt) (he : ER φ e a) (hr : HR φ h w) (hv : opV e h op = some (v, h')) :
    Good ((execOp a.eval o).run P w) φ h w v h' := by
  unfold compBin at hc
  have two : ∀ (f : X → X → Op), ((cx x).bind fun a => (cx y).map fun b => f a b) = some op → ∃ x' y', cx x = some x' ∧ cx y = some y' ∧ op = f x' y' := fun f hf => by
    obtain ⟨x', hx, hf⟩ := Option.bind_eq_some_iff.1 hf
    obtain ⟨y', hy, hf⟩ := Option.map_eq_some_iff.1 hf
    exact ⟨x', y', hx, hy, hf.symm⟩
  have nil : ∀ (neg : Bool) (d : TypeDesc) (kd : Nat), P.underlying t = some d → kindOf d = some kd → b = (if neg then .neq else .eql) →
      (if isNilC kd y = true then (cx x).map (.eqn kd neg) else if isNilC kd x = true then (cx y).map (.eqn kd neg) else none) = some op → Good ((execOp a.eval o).run P w) φ h w v h' := by
    intro neg d kd hu hk hb hf
    split at hf
    · rename_i hn
      obtain ⟨x', hx, rfl⟩ := Option.map_eq_some_iff.1 hf
      exact good_eqn hk hu hb (.inl ⟨cx_ev hx he, hn⟩) ho hr hv
    · split at hf
      · rename_i hn
        obtain ⟨y', hy, rfl⟩ := Option.map_eq_some_iff.1 hf
        exact good_eqn hk hu hb (.inr ⟨cx_ev hy he, hn⟩) ho hr hv
      · cases hf
  split at hc
  · obtain ⟨x', y', hx, hy, rfl⟩ := two _ hc
    exact good_bin (cx_ev hx he) (cx_ev hy he) ho hr hv
  · obtain ⟨x', y', hx, hy, rfl⟩ := two _ hc
    exact good_bin (cx_ev hx he) (cx_ev hy he) ho hr hv
  · rename_i hu
    split at hc
    · obtain ⟨x', y', hx, hy, rfl⟩ := two _ hc
      exact good_eqb (neg := false) (op := .eql) hu rfl (cx_ev hx he) (cx_ev hy he) ho hr hv
    · obtain ⟨x', y', hx, hy, rfl⟩ := two _ hc
      exact good_eqb (neg := true) (op := .neq) hu rfl (cx_ev hx he) (cx_ev hy he) ho hr hv
    · cases hc
  · rename_i hu
    split at hc
    case isTrue => cases hc
    rename_i hg
    split at hc
    · obtain ⟨ty, hty, hc⟩ := Option.bind_eq_some_iff.1 hc
      obtain ⟨x', y', hx, hy, rfl⟩ := two _ hc
      exact good_eqt (neg := false) (op := .eql) hty (.inl ⟨_, hu⟩) (by simpa using hg) rfl (cx_ev hx he) (cx_ev hy he) ho hr hv
    · obtain ⟨ty, hty, hc⟩ := Option.bind_eq_some_iff.1 hc
      obtain ⟨x', y', hx, hy, rfl⟩ := two _ hc
      exact good_eqt (neg := true) (op := .neq) hty (.inl ⟨_, hu⟩) (by simpa using hg) rfl (cx_ev hx he) (cx_ev hy he) ho hr hv
    · cases hc
  · rename_i hu
    split at hc
    case isTrue => cases hc
    rename_i hg
    split at hc
    · obtain ⟨ty, hty, hc⟩ := Option.bind_eq_some_iff.1 hc
      obtain ⟨x', y', hx, hy, rfl⟩ := two _ hc
      exact good_eqt (neg := false) (op := .eql) hty (.inr ⟨_, _, hu⟩) (by simpa using hg) rfl (cx_ev hx he) (cx_ev hy he) ho hr hv
    · obtain ⟨ty, hty, hc⟩ := Option.bind_eq_some_iff.1 hc
      obtain ⟨x', y', hx, hy, rfl⟩ := two _ hc
      exact good_eqt (neg := true) (op := .neq) hty (.inr ⟨_, _, hu⟩) (by simpa using hg) rfl (cx_ev hx he) (cx_ev hy he) ho hr hv
    · cases hc
  · rename_i d _ _ _ _ _ hu
    obtain ⟨kd, hk, hc⟩ := Option.bind_eq_some_iff.1 hc
    split at hc
    · exact nil false d kd hu hk rfl hc
    · exact nil true d kd hu hk rfl hc
    · cases hc
  · cases hc

theorem conv_sound {s d : TypeId} {x : Operand} (hc : compConv P s d x = some op) (ho : o.op = .convert s d x) (he : ER φ e a) (hr : HR φ h w) (hv : opV e h op = some (v, h')) :
    Good ((execOp a.eval o).run P w) φ h w v h' := by
  unfold compConv at hc
  split at hc
  · rename_i hs hd
    obtain ⟨x', hx, rfl⟩ := Option.map_eq_some_iff.1 hc
    exact good_conv hs hd (cx_ev hx he) ho hr hv
  · rename_i hs hd
    split at hc
    · rename_i hel
      obtain ⟨x', hx, rfl⟩ := Option.map_eq_some_iff.1 hc
      exact good_b2s hs hd hel (cx_ev hx he) ho hr hv
    · cases hc
  · rename_i hs hd
    split at hc
    · rename_i hel
      obtain ⟨x', hx, rfl⟩ := Option.map_eq_some_iff.1 hc
      exact good_s2b hs hd hel (cx_ev hx he) ho hr hv
    · cases hc
  · rename_i hs hd
    split at hc
    case isFalse => cases hc
    rename_i hsd
    subst hsd
    split at hc
    · rename_i hel
      obtain ⟨x', hx, rfl⟩ := Option.map_eq_some_iff.1 hc
      exact good_ms hd hel (cx_ev hx he) ho hr hv
    · cases hc
  · cases hc

/-- What a built-in function's call comes to. -/
def builtinSem (b : Builtin) (ts : Array TypeId) (ty : TypeId) (args : Array Value) : Sem Value :=
  match b with
  | .len => Builtin.len_ ts ty args
  | .append => Builtin.append_ ts ty args
  | .copy => Builtin.copy_ ts ty args
  | .max => Builtin.max_ ts ty args
  | .min => Builtin.min_ ts ty args
  | .delete => Builtin.delete_ ts ty args
  | .clear => Builtin.clear_ ts ty args
  | _ => stuck ""

theorem builtin_sound {b : Builtin} {args : Array Operand} {ts : Array TypeId} (hc : compBuiltin P b args.toList ts.toList = some op) (ho : o.op = .call { callee := .builtin b, args, argTypes := ts }) (he : ER φ e a) (hr : HR φ h w)
    (hv : opV e h op = some (v, h')) : Good ((execOp a.eval o).run P w) φ h w v h' := by
  have hrun : ∀ b', b' = b → (b' = .len ∨ b' = .append ∨ b' = .copy ∨ b' = .max ∨ b' = .min ∨ b' = .delete ∨ b' = .clear) →
      (execOp a.eval o).run P w = (do Pure.pure (Next.value (← builtinSem b ts o.type (args.map a.eval))) : Sem Next).run P w := by
    intro b' hb hb'
    subst hb
    simp only [execOp, ho, resolve, Sem.run_bind, Sem.run_pure, Result.andThen_ok, invoke]
    rcases hb' with rfl | rfl | rfl | rfl | rfl | rfl | rfl <;> simp [builtin, builtinSem]
  unfold compBuiltin at hc
  split at hc
  · -- len
    rename_i x t h1 h2
    have h1' : args = #[x] := by simpa using congrArg List.toArray h1
    have h2' : ts = #[t] := by simpa using congrArg List.toArray h2
    subst h1' h2'
    rw [hrun _ rfl (by simp)]
    simp only [List.map_toArray, List.map_cons, List.map_nil, builtinSem]
    split at hc
    · rename_i hu
      obtain ⟨x', hx, rfl⟩ := Option.map_eq_some_iff.1 hc
      exact good_len (d := .string) hu (cx_ev hx he) hr hv
    · rename_i hu
      obtain ⟨x', hx, rfl⟩ := Option.map_eq_some_iff.1 hc
      exact good_len hu (cx_ev hx he) hr hv
    · rename_i hu
      obtain ⟨x', hx, rfl⟩ := Option.map_eq_some_iff.1 hc
      exact good_len hu (cx_ev hx he) hr hv
    · rename_i hu
      obtain ⟨x', hx, rfl⟩ := Option.map_eq_some_iff.1 hc
      exact good_len hu (cx_ev hx he) hr hv
    · rename_i n el hu
      cases hc
      simp only [opV, Option.some.injEq, Prod.mk.injEq] at hv
      obtain ⟨rfl, rfl⟩ := hv
      refine .pure _ hr (u := goInt n) ?_ (.int _ _)
      generalize a.eval x = xu
      simp only [Builtin.len_, List.getElem?_toArray, List.getElem?_cons_zero]
      simp only [Sem.run_bind, run_underlying' hu, Result.andThen_ok]
      cases xu <;> rfl
    · rename_i b hu
      split at hc
      case h_2 => cases hc
      rename_i n el hb
      cases hc
      simp only [opV, Option.some.injEq, Prod.mk.injEq] at hv
      obtain ⟨rfl, rfl⟩ := hv
      refine .pure _ hr (u := goInt n) ?_ (.int _ _)
      generalize a.eval x = xu
      simp only [Builtin.len_, List.getElem?_toArray, List.getElem?_cons_zero]
      simp only [Sem.run_bind, run_underlying' hu, Result.andThen_ok]
      cases xu <;> simp [run_underlying' hb]
    · cases hc
  · -- append
    rename_i x y t u h1 h2
    have h1' : args = #[x, y] := by simpa using congrArg List.toArray h1
    have h2' : ts = #[t, u] := by simpa using congrArg List.toArray h2
    subst h1' h2'
    rw [hrun _ rfl (by simp)]
    simp only [List.map_toArray, List.map_cons, List.map_nil, builtinSem]
    split at hc
    case h_2 => cases hc
    rename_i el d ht hu
    have hd : (∀ k, d ≠ .int k) ∧ ((P.info? el).bind fun i => if (match i.zero with | some z => z.cells.size == i.size | none => false) = true then (cx x).bind fun a => (cx y).map fun b => Op.app i.size i.bytes a b else none) = some op := by
      cases d <;> first
        | (cases hc; done)
        | exact ⟨fun k => by simp, hc⟩
    obtain ⟨hd, hc⟩ := hd
    obtain ⟨i, hi, hc⟩ := Option.bind_eq_some_iff.1 hc
    cases hz : i.zero with
    | none => simp [hz] at hc
    | some zv =>
      simp only [hz] at hc
      split at hc
      case isFalse => cases hc
      rename_i hzz
      simp only [beq_iff_eq] at hzz
      obtain ⟨x', hx, hc⟩ := Option.bind_eq_some_iff.1 hc
      obtain ⟨y', hy, rfl⟩ := Option.map_eq_some_iff.1 hc
      exact good_app ht hu hd hi hz hzz (cx_ev hx he) (cx_ev hy he) hr hv
  · -- copy
    rename_i x y t tl h1 h2
    have h1' : args = #[x, y] := by simpa using congrArg List.toArray h1
    have h2' : ts = (t :: tl).toArray := by simpa using congrArg List.toArray h2
    subst h1' h2'
    rw [hrun _ rfl (by simp)]
    simp only [List.map_toArray, List.map_cons, List.map_nil, builtinSem]
    split at hc
    case h_2 => cases hc
    rename_i el ht
    obtain ⟨i, hi, hc⟩ := Option.bind_eq_some_iff.1 hc
    obtain ⟨x', hx, hc⟩ := Option.bind_eq_some_iff.1 hc
    obtain ⟨y', hy, rfl⟩ := Option.map_eq_some_iff.1 hc
    exact good_cpy ht hi (cx_ev hx he) (cx_ev hy he) hr hv
  · rename_i x y h1
    have h1' : args = #[x, y] := by simpa using congrArg List.toArray h1
    subst h1'
    rw [hrun _ rfl (by simp)]
    simp only [List.map_toArray, List.map_cons, List.map_nil, builtinSem]
    obtain ⟨x', hx, hc⟩ := Option.bind_eq_some_iff.1 hc
    obtain ⟨y', hy, rfl⟩ := Option.map_eq_some_iff.1 hc
    exact good_mx (cx_ev hx he) (cx_ev hy he) hr hv
  · rename_i x y h1
    have h1' : args = #[x, y] := by simpa using congrArg List.toArray h1
    subst h1'
    rw [hrun _ rfl (by simp)]
    simp only [List.map_toArray, List.map_cons, List.map_nil, builtinSem]
    obtain ⟨x', hx, hc⟩ := Option.bind_eq_some_iff.1 hc
    obtain ⟨y', hy, rfl⟩ := Option.map_eq_some_iff.1 hc
    exact good_mn (cx_ev hx he) (cx_ev hy he) hr hv
  · rename_i m k t tl h1 h2
    have h1' : args = #[m, k] := by simpa using congrArg List.toArray h1
    have h2' : ts = (t :: tl).toArray := by simpa using congrArg List.toArray h2
    subst h1' h2'
    rw [hrun _ rfl (by simp)]
    simp only [List.map_toArray, List.map_cons, List.map_nil, builtinSem]
    split at hc
    case h_2 => cases hc
    rename_i kt el ht
    split at hc
    case h_2 => cases hc
    rename_i fs hs
    obtain ⟨ty, hty, hc⟩ := Option.bind_eq_some_iff.1 hc
    obtain ⟨m', hm, hc⟩ := Option.bind_eq_some_iff.1 hc
    obtain ⟨k', hk, rfl⟩ := Option.map_eq_some_iff.1 hc
    exact good_del ht hs hty (cx_ev hm he) (cx_ev hk he) hr hv
  · rename_i x t h1 h2
    have h1' : args = #[x] := by simpa using congrArg List.toArray h1
    have h2' : ts = #[t] := by simpa using congrArg List.toArray h2
    subst h1' h2'
    rw [hrun _ rfl (by simp)]
    simp only [List.map_toArray, List.map_cons, List.map_nil, builtinSem]
    split at hc
    · rename_i ht
      obtain ⟨x', hx, rfl⟩ := Option.map_eq_some_iff.1 hc
      exact good_clr_map ht (cx_ev hx he) hr hv
    · rename_i el ht
      obtain ⟨z, hz, hc⟩ := Option.bind_eq_some_iff.1 hc
      obtain ⟨x', hx, rfl⟩ := Option.map_eq_some_iff.1 hc
      exact good_clr_slice ht hz (cx_ev hx he) hr hv
    · cases hc
  · cases hc

/-- The operations that are calls of the program's own functions. -/
def isCall : Op → Bool
  | .call .. | .callv .. => true
  | _ => false

/-- The operations of the model that make a block. -/
def gopA : Go.Op → Bool
  | .alloc _ | .box .. | .buildSlice .. | .makeMap .. | .makeChan .. | .makeSlice .. => true
  | _ => false

theorem alloc_sound {id : Nat} {fill : Ob → Hp} {ob : Ob} (sl : Slot φ h id fill) (hg : gopA o.op = true) (hc : comp P o = some op) (he : ER φ e a) (hr : HR φ h w) (hv : opA id e op = some (v, ob)) : Good ((execOp a.eval o).run P w) φ h w v (fill ob) := by
  obtain ⟨dst, gop, ty, pos, after, guard⟩ := o
  cases gop <;> simp only [comp] at hc
  case alloc t =>
    obtain ⟨z, hz, rfl⟩ := Option.map_eq_some_iff.1 hc
    exact good_new sl hz hr hv
  case box t x =>
    obtain ⟨x', hx, rfl⟩ := Option.map_eq_some_iff.1 hc
    exact good_box sl (cx_ev hx he) hr hv
  case buildSlice t n ps =>
    split at hc
    case h_2 => cases hc
    rename_i el hu
    obtain ⟨i, hi, hc⟩ := Option.bind_eq_some_iff.1 hc
    split at hc
    case isFalse => cases hc
    rename_i hn
    obtain ⟨z, hz, hc⟩ := Option.bind_eq_some_iff.1 hc
    obtain ⟨qs, hq, rfl⟩ := Option.map_eq_some_iff.1 hc
    exact good_bsl sl hu hi hn hz hq he hr hv
  case makeMap t r =>
    cases r with
    | some r => cases hc
    | none => cases hc; exact good_mkm sl rfl hr hv
  case makeChan t x =>
    split at hc
    case h_2 => cases hc
    rename_i dir el hu
    obtain ⟨i, hi, hc⟩ := Option.bind_eq_some_iff.1 hc
    obtain ⟨x', hx, rfl⟩ := Option.map_eq_some_iff.1 hc
    exact good_mkc sl hu hi (cx_ev hx he) rfl hr hv
  case makeSlice t l c =>
    split at hc
    case h_2 => cases hc
    rename_i el hu
    obtain ⟨i, hi, hc⟩ := Option.bind_eq_some_iff.1 hc
    obtain ⟨z, hz, hc⟩ := Option.bind_eq_some_iff.1 hc
    split at hc
    case isFalse => cases hc
    rename_i hzl
    obtain ⟨l', hl, hc⟩ := Option.bind_eq_some_iff.1 hc
    obtain ⟨c', hc', rfl⟩ := Option.map_eq_some_iff.1 hc
    exact good_mks sl hu hi hz hzl (cx_ev hl he) (cx_ev hc' he) rfl hr hv
  all_goals simp [gopA] at hg

theorem op_sound (hc : comp P o = some op) (he : ER φ e a) (hr : HR φ h w) (hv : opV e h op = some (v, h')) : Good ((execOp a.eval o).run P w) φ h w v h' := by
  by_cases hg : gopA o.op = true
  · have : ∃ ob, opA h.next e op = some (v, ob) ∧ h' = h.push ob := by
      have hA : isA op = true := by
        obtain ⟨dst, gop, ty, pos, after, guard⟩ := o
        cases gop <;> simp [gopA] at hg <;> simp only [comp] at hc
        case alloc t => obtain ⟨z, hz, rfl⟩ := Option.map_eq_some_iff.1 hc; rfl
        case box t x => obtain ⟨x', hx, rfl⟩ := Option.map_eq_some_iff.1 hc; rfl
        case buildSlice t n ps =>
          split at hc
          case h_2 => cases hc
          obtain ⟨i, hi, hc⟩ := Option.bind_eq_some_iff.1 hc
          split at hc
          case isFalse => cases hc
          obtain ⟨z, hz, hc⟩ := Option.bind_eq_some_iff.1 hc
          obtain ⟨qs, hq, rfl⟩ := Option.map_eq_some_iff.1 hc
          rfl
        case makeMap t r =>
          cases r with
          | some r => cases hc
          | none => cases hc; rfl
        case makeChan t x =>
          split at hc
          case h_2 => cases hc
          obtain ⟨i, hi, hc⟩ := Option.bind_eq_some_iff.1 hc
          obtain ⟨x', hx, rfl⟩ := Option.map_eq_some_iff.1 hc
          rfl
        case makeSlice t l c =>
          split at hc
          case h_2 => cases hc
          obtain ⟨i, hi, hc⟩ := Option.bind_eq_some_iff.1 hc
          obtain ⟨z, hz, hc⟩ := Option.bind_eq_some_iff.1 hc
          split at hc
          case isFalse => cases hc
          obtain ⟨l', hl, hc⟩ := Option.bind_eq_some_iff.1 hc
          obtain ⟨c', hc', rfl⟩ := Option.map_eq_some_iff.1 hc
          rfl
      cases op <;> simp [isA] at hA <;> simp only [opV, Option.map_eq_some_iff] at hv <;> obtain ⟨⟨r, ob⟩, h1, h2⟩ := hv <;> cases h2 <;> exact ⟨ob, h1, rfl⟩
    obtain ⟨ob, h1, rfl⟩ := this
    exact alloc_sound .next hg hc he hr h1
  obtain ⟨dst, gop, ty, pos, after, guard⟩ := o
  cases gop <;> simp [gopA] at hg <;> simp only [comp] at hc
  case move x =>
    obtain ⟨x', hx, rfl⟩ := Option.map_eq_some_iff.1 hc
    simp only [opV, Option.some.injEq, Prod.mk.injEq] at hv
    obtain ⟨rfl, rfl⟩ := hv
    exact .val hr (u := a.eval x) rfl (cx_ev hx he)
  case assign x =>
    obtain ⟨x', hx, rfl⟩ := Option.map_eq_some_iff.1 hc
    simp only [opV, Option.some.injEq, Prod.mk.injEq] at hv
    obtain ⟨rfl, rfl⟩ := hv
    exact .val hr (u := a.eval x) rfl (cx_ev hx he)
  case pick c x y =>
    obtain ⟨c', hc', hc⟩ := Option.bind_eq_some_iff.1 hc
    obtain ⟨x', hx, hc⟩ := Option.bind_eq_some_iff.1 hc
    obtain ⟨y', hy, rfl⟩ := Option.map_eq_some_iff.1 hc
    exact good_pick (cx_ev hc' he) (cx_ev hx he) (cx_ev hy he) rfl hr hv
  case build t ps =>
    obtain ⟨z, hz, hc⟩ := Option.bind_eq_some_iff.1 hc
    split at hc
    · rename_i fs hu
      split at hc
      case isFalse => cases hc
      rename_i hall
      obtain ⟨qs, hq, rfl⟩ := Option.map_eq_some_iff.1 hc
      exact good_build_struct hu hz hall hq he hr hv
    · rename_i n el hu
      obtain ⟨i, hi, hc⟩ := Option.bind_eq_some_iff.1 hc
      obtain ⟨qs, hq, rfl⟩ := Option.map_eq_some_iff.1 hc
      exact good_build_array hu hz hi hq he hr hv
    · cases hc
  case load t x =>
    obtain ⟨x', hx, hc⟩ := Option.bind_eq_some_iff.1 hc
    obtain ⟨b, hb, hc⟩ := Option.map_eq_some_iff.1 hc
    cases b with
    | true => simp only [if_true] at hc; subst hc; exact good_ldn hb (cx_ev hx he) hr hv
    | false => simp only [Bool.false_eq_true, if_false] at hc; subst hc; exact good_ld hb (cx_ev hx he) hr hv
  case store t x y =>
    obtain ⟨x', hx, hc⟩ := Option.bind_eq_some_iff.1 hc
    obtain ⟨y', hy, hc⟩ := Option.bind_eq_some_iff.1 hc
    obtain ⟨b, hb, hc⟩ := Option.bind_eq_some_iff.1 hc
    cases b with
    | true => simp only [if_true, Option.some.injEq] at hc; subst hc; exact good_stn hb (cx_ev hx he) (cx_ev hy he) hr hv
    | false =>
      simp only [Bool.false_eq_true, if_false] at hc
      split at hc
      case isFalse => cases hc
      rename_i h1
      cases hc
      exact good_st hb h1 (cx_ev hx he) (cx_ev hy he) hr hv
  case nilCheck x =>
    obtain ⟨x', hx, rfl⟩ := Option.map_eq_some_iff.1 hc
    exact good_nilc (cx_ev hx he) rfl hr hv
  case binOp b t x y yt => exact bin_sound hc rfl he hr hv
  case unOp b t x =>
    obtain ⟨x', hx, rfl⟩ := Option.map_eq_some_iff.1 hc
    exact good_un (cx_ev hx he) rfl hr hv
  case convert s d x => exact conv_sound hc rfl he hr hv
  case makeFunc fn first caps =>
    cases fn <;> simp only at hc
    case func f =>
      split at hc
      case isFalse => cases hc
      rename_i h0
      obtain ⟨l, hl, rfl⟩ := Option.map_eq_some_iff.1 hc
      exact good_mkf h0 hl he rfl hr hv
    all_goals cases hc
  case slice t x lo hi mx =>
    obtain ⟨x', hx, hc⟩ := Option.bind_eq_some_iff.1 hc
    obtain ⟨lo', hlo, hc⟩ := Option.bind_eq_some_iff.1 hc
    obtain ⟨hi', hhi, hc⟩ := Option.bind_eq_some_iff.1 hc
    obtain ⟨mx', hmx, hc⟩ := Option.bind_eq_some_iff.1 hc
    split at hc
    · rename_i hu
      split at hc
      case isFalse => cases hc
      rename_i hn
      cases hc
      have : mx = none := by
        cases mx with
        | none => rfl
        | some q =>
          simp only [cxo, Option.map_eq_some_iff] at hmx
          obtain ⟨q', _, rfl⟩ := hmx
          simp at hn
      subst this
      exact good_sls hu (cx_ev hx he) hlo hhi he rfl hr hv
    · rename_i el hu
      obtain ⟨i, hi2, rfl⟩ := Option.map_eq_some_iff.1 hc
      exact good_sl hu hi2 (cx_ev hx he) hlo hhi hmx he rfl hr hv
    · rename_i n el hu
      obtain ⟨i, hi2, rfl⟩ := Option.map_eq_some_iff.1 hc
      exact good_sla (.inl hu) hi2 (cx_ev hx he) hlo hhi hmx he rfl hr hv
    · rename_i b hu
      split at hc
      case h_2 => cases hc
      rename_i n el hb
      obtain ⟨i, hi2, rfl⟩ := Option.map_eq_some_iff.1 hc
      exact good_sla (.inr ⟨b, hu, hb⟩) hi2 (cx_ev hx he) hlo hhi hmx he rfl hr hv
    · cases hc
  case fieldAddr t x k =>
    split at hc
    case h_2 => cases hc
    rename_i fs hu
    obtain ⟨f, hf, hc⟩ := Option.bind_eq_some_iff.1 hc
    obtain ⟨i, hi, hc⟩ := Option.bind_eq_some_iff.1 hc
    split at hc
    case isTrue => cases hc
    rename_i h0
    obtain ⟨x', hx, rfl⟩ := Option.map_eq_some_iff.1 hc
    exact good_fa hu hf hi h0 (cx_ev hx he) rfl hr hv
  case field t x k =>
    split at hc
    case h_2 => cases hc
    rename_i fs hu
    obtain ⟨f, hf, hc⟩ := Option.bind_eq_some_iff.1 hc
    obtain ⟨b, hb, hc⟩ := Option.bind_eq_some_iff.1 hc
    obtain ⟨x', hx, hc⟩ := Option.map_eq_some_iff.1 hc
    cases b with
    | true => simp only [if_true] at hc; subst hc; exact good_fldn hu hf hb (cx_ev hx he) rfl hr hv
    | false => simp only [Bool.false_eq_true, if_false] at hc; subst hc; exact good_fld hu hf hb (cx_ev hx he) rfl hr hv
  case indexAddr t x i =>
    split at hc
    · rename_i el hu
      obtain ⟨s, hs, hc⟩ := Option.bind_eq_some_iff.1 hc
      obtain ⟨x', hx, hc⟩ := Option.bind_eq_some_iff.1 hc
      obtain ⟨i', hi, rfl⟩ := Option.map_eq_some_iff.1 hc
      exact good_ia hu hs (cx_ev hx he) (cx_ev hi he) rfl hr hv
    · rename_i n el hu
      obtain ⟨s, hs, hc⟩ := Option.bind_eq_some_iff.1 hc
      obtain ⟨x', hx, hc⟩ := Option.bind_eq_some_iff.1 hc
      obtain ⟨i', hi, rfl⟩ := Option.map_eq_some_iff.1 hc
      exact good_iaa hu hs (cx_ev hx he) (cx_ev hi he) rfl hr hv
    · cases hc
  case index t x i =>
    split at hc
    · rename_i hu
      obtain ⟨x', hx, hc⟩ := Option.bind_eq_some_iff.1 hc
      obtain ⟨i', hi, rfl⟩ := Option.map_eq_some_iff.1 hc
      exact good_ixs hu (cx_ev hx he) (cx_ev hi he) rfl hr hv
    · rename_i n el hu
      obtain ⟨b, hb, hc⟩ := Option.bind_eq_some_iff.1 hc
      obtain ⟨x', hx, hc⟩ := Option.bind_eq_some_iff.1 hc
      obtain ⟨i', hi, hc⟩ := Option.bind_eq_some_iff.1 hc
      cases b with
      | true => simp only [if_true, Option.some.injEq] at hc; subst hc; exact good_ixan hu hb (cx_ev hx he) (cx_ev hi he) rfl hr hv
      | false =>
        simp only [Bool.false_eq_true, if_false] at hc
        split at hc
        case isFalse => cases hc
        rename_i h1
        cases hc
        exact good_ixa hu hb h1 (cx_ev hx he) (cx_ev hi he) rfl hr hv
    · cases hc
  case lookup t m k ok =>
    split at hc
    case h_2 => cases hc
    rename_i kt el hu
    split at hc
    case h_2 => cases hc
    rename_i fs hs
    obtain ⟨tk, hty, hc⟩ := Option.bind_eq_some_iff.1 hc
    obtain ⟨z, hz, hc⟩ := Option.bind_eq_some_iff.1 hc
    obtain ⟨m', hm, hc⟩ := Option.bind_eq_some_iff.1 hc
    obtain ⟨k', hk, rfl⟩ := Option.map_eq_some_iff.1 hc
    cases hi : P.info? el with
    | none => simp [hi] at hz
    | some i =>
      cases hzz : i.zero with
      | none => simp [hi, hzz] at hz
      | some zz =>
        simp only [hi, hzz, Option.bind_some] at hz
        have hzv : z = zz ∧ ∀ φ, VR φ z z := by
          split at hz
          · rename_i cs hcs
            cases hcs
            split at hz
            · rename_i hg
              cases hz
              exact ⟨rfl, fun φ => by simpa using VR.aggL (LR.ground (φ := φ) hg)⟩
            · cases hz
          · rename_i q _ hq
            cases hq
            split at hz
            · rename_i hg; cases hz; exact ⟨rfl, fun φ => .ground hg⟩
            · cases hz
          · rename_i hq; cases hq
        obtain ⟨rfl, hzv⟩ := hzv
        exact good_look hu hs hty hi hzz hzv (cx_ev hm he) (cx_ev hk he) rfl hr hv
  case mapUpdate t m k x =>
    split at hc
    case h_2 => cases hc
    rename_i kt el hu
    split at hc
    case h_2 => cases hc
    rename_i fs hs
    obtain ⟨tk, hty, hc⟩ := Option.bind_eq_some_iff.1 hc
    obtain ⟨m', hm, hc⟩ := Option.bind_eq_some_iff.1 hc
    obtain ⟨k', hk, hc⟩ := Option.bind_eq_some_iff.1 hc
    obtain ⟨x', hx, rfl⟩ := Option.map_eq_some_iff.1 hc
    exact good_mset hu hs hty (cx_ev hm he) (cx_ev hk he) (cx_ev hx he) rfl hr hv
  case extract x i =>
    obtain ⟨x', hx, rfl⟩ := Option.map_eq_some_iff.1 hc
    exact good_ext (cx_ev hx he) rfl hr hv
  case call c =>
    obtain ⟨callee, args, ts⟩ := c
    cases callee with
    | builtin b => exact builtin_sound hc rfl he hr hv
    | invoke r m => cases hc
    | value f =>
      cases f with
      | func f =>
        simp only at hc
        split at hc
        · obtain ⟨l, _, rfl⟩ := Option.map_eq_some_iff.1 hc
          simp [opV] at hv
        · cases hc
      | tmp t =>
        obtain ⟨x, _, hc⟩ := Option.bind_eq_some_iff.1 hc
        obtain ⟨l, _, rfl⟩ := Option.map_eq_some_iff.1 hc
        simp [opV] at hv
      | const t =>
        obtain ⟨x, _, hc⟩ := Option.bind_eq_some_iff.1 hc
        obtain ⟨l, _, rfl⟩ := Option.map_eq_some_iff.1 hc
        simp [opV] at hv
      | global t =>
        obtain ⟨x, hx, hc⟩ := Option.bind_eq_some_iff.1 hc
        simp [cx] at hx
  all_goals cases hc
end
end Go.Dx
