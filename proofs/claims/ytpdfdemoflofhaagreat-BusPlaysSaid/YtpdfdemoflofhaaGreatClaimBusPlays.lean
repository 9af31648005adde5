/- BusPlays: for every input it answers true, and each argument reads as it did. -/
import Derived.Test.YtpdfdemoflofhaaGreatRows
import Derived.Test.YtpdfdemoflofhaaGreatMeBusPlays2
import Derived.Test.YtpdfdemoflofhaaGreatMh0
set_option linter.unusedVariables false
set_option linter.unusedSimpArgs false
set_option maxRecDepth 100000
namespace Go.Proofs.YtpdfdemoflofhaaGreat
open Go.ChangeShapes Go.WideShapes Go.ChangeAt Go.RowKit
open Go.Dx (Dec dec_struct dec_one sees_arg arg_one absA absH WC law_calls Kd wf_u8 wf_u32 wf_u64)

theorem own : ownKnob Tryz.prog.godebug = none := by kernel_rfl
theorem run {H : Type} {enc : TypeId × Value → H} {W : World} {base : Nat} {args : Array Value} {ds gs : List (DataW H)} {before : List MemPlace}
    (hval : ∀ (j : Nat) t v, Tryz.f4.params[j]? = some t → args[j]? = some v → Value.okWide Tryz.prog W .any base t v)
    (hW : DataW.Whole enc Tryz.prog Tryz.f4.params.toList Rows.busPlaysSpec.vars false W args.toList ds gs before) :
    WC Cd.T Cd.n_pianolalaw15_BusPlays (args.toList.map (absA W.heap.size)) (absH W) fun v _ => v = .bool true := by
  obtain ⟨p, q, hA0, hV, rfl, hfz, hnd⟩ := hW
  have hA : DataW.TrodAll enc Tryz.prog W 0 (fun _ => true) true Tryz.f4.params.toList args.toList ds p := hA0
  clear hA0
  rw [Tryz.params4] at hA hval
  obtain ⟨v0, vs0, d0, ds0, p0, q0, hargs0, rfl, rfl, h0, r0⟩ := trodAll_cons hA
  obtain ⟨v1, vs1, d1, ds1, p1, q1, hargs1, rfl, rfl, h1, r1⟩ := trodAll_cons r0
  obtain ⟨v2, vs2, d2, ds2, p2, q2, hargs2, rfl, rfl, h2, r2⟩ := trodAll_cons r1
  obtain ⟨hargs3, rfl, rfl⟩ := trodAll_nil r2
  subst hargs3
  subst hargs2
  subst hargs1
  have hargs : args.toList = [v0, v1, v2] := hargs0
  have D0 : Dec enc Tryz.prog W Go.Dx.encB 5 := dec_one (k := .int .u8) (by kernel_rfl) (by kernel_rfl) (fun v hv => by
      obtain ⟨y0, rfl, w0⟩ := hv
      obtain ⟨x0, e0⟩ := wf_u8 w0
      exact ⟨x0, by simp [Go.Dx.encB, e0]⟩)
  obtain ⟨a0, c0, xs0, rfl, e0, s0, l0, m0⟩ := sees_arg Tryz.underlying24 D0 (hval 0 24 v0 rfl (by rw [← Array.getElem?_toList, hargs]; rfl)) h0
  have D1 : Dec enc Tryz.prog W Go.Dx.encB 5 := dec_one (k := .int .u8) (by kernel_rfl) (by kernel_rfl) (fun v hv => by
      obtain ⟨y0, rfl, w0⟩ := hv
      obtain ⟨x0, e0⟩ := wf_u8 w0
      exact ⟨x0, by simp [Go.Dx.encB, e0]⟩)
  obtain ⟨a1, c1, xs1, rfl, e1, s1, l1, m1⟩ := sees_arg Tryz.underlying24 D1 (hval 1 24 v1 rfl (by rw [← Array.getElem?_toList, hargs]; rfl)) h1
  have D2 : Dec enc Tryz.prog W Cd.encAskB 94 := dec_struct (ks := [.int .i64, .int .i64, .int .i64, .int .u32, .int .u32, .int .i64, .int .u8]) Tryz.underlying94 (by kernel_rfl) (by kernel_rfl) rfl (by kernel_rfl) (fun vs k0 => by
        obtain ⟨_, _, rfl, ⟨y0, rfl, _⟩, k1⟩ := Dx.okL_cons k0
        obtain ⟨_, _, rfl, ⟨y1, rfl, _⟩, k2⟩ := Dx.okL_cons k1
        obtain ⟨_, _, rfl, ⟨y2, rfl, _⟩, k3⟩ := Dx.okL_cons k2
        obtain ⟨_, _, rfl, ⟨y3, rfl, w3⟩, k4⟩ := Dx.okL_cons k3
        obtain ⟨_, _, rfl, ⟨y4, rfl, w4⟩, k5⟩ := Dx.okL_cons k4
        obtain ⟨_, _, rfl, ⟨y5, rfl, _⟩, k6⟩ := Dx.okL_cons k5
        obtain ⟨_, _, rfl, ⟨y6, rfl, w6⟩, k7⟩ := Dx.okL_cons k6
        obtain rfl := Dx.okL_nil k7
        obtain ⟨x3, e3⟩ := wf_u32 w3
        obtain ⟨x4, e4⟩ := wf_u32 w4
        obtain ⟨x6, e6⟩ := wf_u8 w6
        exact ⟨⟨y0, y1, y2, x3, x4, y5, x6⟩, by simp [Cd.encAskB, e3, e4, e6]⟩)
  obtain ⟨a2, c2, xs2, rfl, e2, s2, l2, m2⟩ := sees_arg Tryz.underlying36 D2 (hval 2 36 v2 rfl (by rw [← Array.getElem?_toList, hargs]; rfl)) h2
  rw [hargs]
  simp only [List.map_cons, List.map_nil, e0, e1, e2]
  exact Cd.bplays s0 l0 s1 l1 s2 (by unfold maxLen at m2; omega)

theorem contract {H : Type} (enc : TypeId × Value → H) (W : World) (base : Nat) (args : Array Value) (ds gs : List (DataW H)) (before : List MemPlace)
    (hval : ∀ (j : Nat) t v, Tryz.f4.params[j]? = some t → args[j]? = some v → Value.okWide Tryz.prog W .any base t v)
    (hW : DataW.Whole enc Tryz.prog Tryz.f4.params.toList Rows.busPlaysSpec.vars false W args.toList ds gs before) :
    Calls Tryz.prog 4 args W fun e W' => ∃ v, e = .returned v ∧ Rows.busPlaysSpec.post enc Tryz.prog Tryz.f4 false true false false W args v W' :=
  law_calls Cd.tab (by kernel_rfl) (by kernel_rfl) rfl (fun ds h => by
    rw [show Tryz.f4.params.toList = [24, 24, 36] from by rw [Tryz.params4]] at h
    match ds, h with
    | [d0, d1, d2], _ => rfl) rfl Tryz.underlying4 hW (run hval hW)

theorem lifted (os : Os) (started : os.Started) (H : Type) (enc : TypeId × Value → H) :
    ReturnsInHanded {} Tryz.checked os 4 .any (Rows.busPlaysSpec.pre6 enc Tryz.prog Tryz.f4 Rows.busPlaysRow.domain false) (Rows.busPlaysSpec.post enc Tryz.prog Tryz.f4 false true false false) := by
  refine returnsInHanded_of_change (C := Tryz.checked) own started (by kernel_rfl) Tryz.func4
    (ChangeSpec.witness6 (enc := enc) (C := Tryz.checked) false ⟨#[], #[.slice none 0 0, .slice none 0 0, .slice none 0 0], []⟩ 8 (by kernel_rfl) (by kernel_rfl) (by kernel_rfl) (by kernel_rfl)) ?_
  intro W base args ds gs before hval hW hcnd _
  exact contract enc W base args ds gs before hval hW

theorem over : Rows.busPlaysRow.holds Tryz.pinned (OpenSpec.ofChange Rows.busPlaysSpec) :=
  OpenClaim.holds_of_wide 4 Tryz.f4 rfl rfl rfl rfl rfl rfl rfl ⟨rfl, rfl, rfl, rfl, rfl⟩ rfl rfl rfl rfl rfl (by kernel_rfl) Tryz.func4 (by kernel_rfl)
    (of_decide_eq_true (by kernel_rfl)) (by unfold Func.isWrapper; first | (rw [if_pos (by decide +kernel)]; kernel_rfl) | (rw [if_neg (by decide +kernel)]; exact ⟨rfl, rfl⟩))
    (fun os started H enc _ => lifted os started H enc)

theorem proved : Rows.BusPlaysSaid :=
  over
end Go.Proofs.YtpdfdemoflofhaaGreat
