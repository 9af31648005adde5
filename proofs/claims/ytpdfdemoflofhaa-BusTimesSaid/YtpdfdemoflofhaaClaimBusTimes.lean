/- BusTimes: for every input it answers true, and each argument reads as it did. -/
import Derived.Test.YtpdfdemoflofhaaRows
import Derived.Test.YtpdfdemoflofhaaMeBusTimes1
import Derived.Test.YtpdfdemoflofhaaMh0
set_option linter.unusedVariables false
set_option linter.unusedSimpArgs false
set_option maxRecDepth 100000
namespace Go.Proofs.Ytpdfdemoflofhaa
open Go.ChangeShapes Go.WideShapes Go.ChangeAt Go.RowKit
open Go.Dx (Dec dec_struct dec_one sees_arg arg_one absA absH WC law_calls Kd wf_u8 wf_u32 wf_u64)

theorem own : ownKnob Try.prog.godebug = none := by kernel_rfl
theorem run {H : Type} {enc : TypeId × Value → H} {W : World} {base : Nat} {args : Array Value} {ds gs : List (DataW H)} {before : List MemPlace}
    (hval : ∀ (j : Nat) t v, Try.f8.params[j]? = some t → args[j]? = some v → Value.okWide Try.prog W .any base t v)
    (hW : DataW.Whole enc Try.prog Try.f8.params.toList Rows.busTimesSpec.vars false W args.toList ds gs before) :
    WC Cd.T Cd.n_pianolalaw15_BusTimes (args.toList.map (absA W.heap.size)) (absH W) fun v _ => v = .bool true := by
  obtain ⟨p, q, hA0, hV, rfl, hfz, hnd⟩ := hW
  have hA : DataW.TrodAll enc Try.prog W 0 (fun _ => true) true Try.f8.params.toList args.toList ds p := hA0
  clear hA0
  rw [Try.params8] at hA hval
  obtain ⟨v0, vs0, d0, ds0, p0, q0, hargs0, rfl, rfl, h0, r0⟩ := trodAll_cons hA
  obtain ⟨v1, vs1, d1, ds1, p1, q1, hargs1, rfl, rfl, h1, r1⟩ := trodAll_cons r0
  obtain ⟨v2, vs2, d2, ds2, p2, q2, hargs2, rfl, rfl, h2, r2⟩ := trodAll_cons r1
  obtain ⟨hargs3, rfl, rfl⟩ := trodAll_nil r2
  subst hargs3
  subst hargs2
  subst hargs1
  have hargs : args.toList = [v0, v1, v2] := hargs0
  obtain ⟨⟨n0, rfl, w0⟩, e0⟩ := arg_one (k := .int .u32) (by kernel_rfl) (hval 0 28 v0 rfl (by rw [← Array.getElem?_toList, hargs]; rfl)) h0
  obtain ⟨x0, g0⟩ := wf_u32 w0
  rw [← g0] at e0
  obtain ⟨⟨n1, rfl, w1⟩, e1⟩ := arg_one (k := .int .u32) (by kernel_rfl) (hval 1 28 v1 rfl (by rw [← Array.getElem?_toList, hargs]; rfl)) h1
  obtain ⟨x1, g1⟩ := wf_u32 w1
  rw [← g1] at e1
  have D2 : Dec enc Try.prog W Cd.encI 2 := dec_one (k := .int .i64) (by kernel_rfl) (by kernel_rfl) (fun v hv => by
      obtain ⟨y0, rfl, w0⟩ := hv
      exact ⟨y0, by simp [Cd.encI]⟩)
  obtain ⟨a2, c2, xs2, rfl, e2, s2, l2, m2⟩ := sees_arg Try.underlying63 D2 (hval 2 63 v2 rfl (by rw [← Array.getElem?_toList, hargs]; rfl)) h2
  rw [hargs]
  simp only [List.map_cons, List.map_nil, ← g0, e0, ← g1, e1, e2]
  exact Cd.btimesR s2 (by unfold maxLen at m2; omega)

theorem contract {H : Type} (enc : TypeId × Value → H) (W : World) (base : Nat) (args : Array Value) (ds gs : List (DataW H)) (before : List MemPlace)
    (hval : ∀ (j : Nat) t v, Try.f8.params[j]? = some t → args[j]? = some v → Value.okWide Try.prog W .any base t v)
    (hW : DataW.Whole enc Try.prog Try.f8.params.toList Rows.busTimesSpec.vars false W args.toList ds gs before) :
    Calls Try.prog 8 args W fun e W' => ∃ v, e = .returned v ∧ Rows.busTimesSpec.post enc Try.prog Try.f8 false true false false W args v W' :=
  law_calls Cd.tab (by kernel_rfl) (by kernel_rfl) rfl (fun ds h => by
    rw [show Try.f8.params.toList = [28, 28, 63] from by rw [Try.params8]] at h
    match ds, h with
    | [d0, d1, d2], _ => rfl) rfl Try.underlying4 hW (run hval hW)

theorem lifted (os : Os) (started : os.Started) (H : Type) (enc : TypeId × Value → H) :
    ReturnsInHanded {} Try.checked os 8 .any (Rows.busTimesSpec.pre6 enc Try.prog Try.f8 Rows.busTimesRow.domain false) (Rows.busTimesSpec.post enc Try.prog Try.f8 false true false false) := by
  refine returnsInHanded_of_change (C := Try.checked) own started (by kernel_rfl) Try.func8
    (ChangeSpec.witness6 (enc := enc) (C := Try.checked) false ⟨#[], #[.int .u32 0, .int .u32 0, .slice none 0 0], []⟩ 8 (by kernel_rfl) (by kernel_rfl) (by kernel_rfl) (by kernel_rfl)) ?_
  intro W base args ds gs before hval hW hcnd _
  exact contract enc W base args ds gs before hval hW

theorem over : Rows.busTimesRow.holds Try.pinned (OpenSpec.ofChange Rows.busTimesSpec) :=
  OpenClaim.holds_of_wide 8 Try.f8 rfl rfl rfl rfl rfl rfl rfl ⟨rfl, rfl, rfl, rfl, rfl⟩ rfl rfl rfl rfl rfl (by kernel_rfl) Try.func8 (by kernel_rfl)
    (of_decide_eq_true (by kernel_rfl)) (by unfold Func.isWrapper; first | (rw [if_pos (by decide +kernel)]; kernel_rfl) | (rw [if_neg (by decide +kernel)]; exact ⟨rfl, rfl⟩))
    (fun os started H enc _ => lifted os started H enc)

theorem proved : Rows.BusTimesSaid :=
  over
end Go.Proofs.Ytpdfdemoflofhaa
