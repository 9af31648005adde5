/- InputParts: for every input it answers true, and each argument reads as it did. -/
import Derived.Test.YtppgoobhlcdbbaaRows
import Derived.Test.YtppgoobhlcdbbaaInputP
import Derived.Test.YtppgoobhlcdbbaaSx10
set_option linter.unusedVariables false
set_option linter.unusedSimpArgs false
set_option maxRecDepth 100000
namespace Go.Proofs.Ytppgoobhlcdbbaa
open Go.ChangeShapes Go.WideShapes Go.ChangeAt Go.RowKit
open Go.Dx (Dec dec_struct dec_one sees_arg arg_one absA absH WC law_calls Kd wf_u8 wf_u32 wf_u64)

theorem own : ownKnob Try.prog.godebug = none := by kernel_rfl
theorem run {H : Type} {enc : TypeId × Value → H} {W : World} {base : Nat} {args : Array Value} {ds gs : List (DataW H)} {before : List MemPlace}
    (hval : ∀ (j : Nat) t v, Try.f8.params[j]? = some t → args[j]? = some v → Value.okWide Try.prog W .any base t v)
    (hW : DataW.Whole enc Try.prog Try.f8.params.toList Rows.inputPartsSpec.vars false W args.toList ds gs before) :
    WC Cd.T Cd.n_pianolalaw24_InputParts (args.toList.map (absA W.heap.size)) (absH W) fun v _ => v = .bool true := by
  obtain ⟨p, q, hA0, hV, rfl, hfz, hnd⟩ := hW
  have hA : DataW.TrodAll enc Try.prog W 0 (fun _ => true) true Try.f8.params.toList args.toList ds p := hA0
  clear hA0
  rw [Try.params8] at hA hval
  obtain ⟨v0, vs0, d0, ds0, p0, q0, hargs0, rfl, rfl, h0, r0⟩ := trodAll_cons hA
  obtain ⟨v1, vs1, d1, ds1, p1, q1, hargs1, rfl, rfl, h1, r1⟩ := trodAll_cons r0
  obtain ⟨hargs2, rfl, rfl⟩ := trodAll_nil r1
  subst hargs2
  subst hargs1
  have hargs : args.toList = [v0, v1] := hargs0
  have D0 : Dec enc Try.prog W Cd.encKey 39 := dec_struct (ks := [.int .i64, .int .u8]) Try.underlying39 (by kernel_rfl) (by kernel_rfl) rfl (by kernel_rfl) (fun vs k0 => by
        obtain ⟨_, _, rfl, ⟨y0, rfl, _⟩, k1⟩ := Dx.okL_cons k0
        obtain ⟨_, _, rfl, ⟨y1, rfl, w1⟩, k2⟩ := Dx.okL_cons k1
        obtain rfl := Dx.okL_nil k2
        obtain ⟨x1, e1⟩ := wf_u8 w1
        exact ⟨⟨y0, x1⟩, by simp [Cd.encKey, e1]⟩)
  obtain ⟨a0, c0, xs0, rfl, e0, s0, l0, m0⟩ := sees_arg Try.underlying37 D0 (hval 0 37 v0 rfl (by rw [← Array.getElem?_toList, hargs]; rfl)) h0
  have D1 : Dec enc Try.prog W Cd.encI 2 := dec_one (k := .int .i64) (by kernel_rfl) (by kernel_rfl) (fun v hv => by
      obtain ⟨y0, rfl, w0⟩ := hv
      exact ⟨y0, by simp [Cd.encI]⟩)
  obtain ⟨a1, c1, xs1, rfl, e1, s1, l1, m1⟩ := sees_arg Try.underlying44 D1 (hval 1 44 v1 rfl (by rw [← Array.getElem?_toList, hargs]; rfl)) h1
  rw [hargs]
  simp only [List.map_cons, List.map_nil, e0, e1]
  exact Cd.iparts s0 s1

theorem contract {H : Type} (enc : TypeId × Value → H) (W : World) (base : Nat) (args : Array Value) (ds gs : List (DataW H)) (before : List MemPlace)
    (hval : ∀ (j : Nat) t v, Try.f8.params[j]? = some t → args[j]? = some v → Value.okWide Try.prog W .any base t v)
    (hW : DataW.Whole enc Try.prog Try.f8.params.toList Rows.inputPartsSpec.vars false W args.toList ds gs before) :
    Calls Try.prog 8 args W fun e W' => ∃ v, e = .returned v ∧ Rows.inputPartsSpec.post enc Try.prog Try.f8 false true false false W args v W' :=
  law_calls Cd.tab (by kernel_rfl) (by kernel_rfl) rfl (fun ds h => by
    rw [show Try.f8.params.toList = [37, 44] from by rw [Try.params8]] at h
    match ds, h with
    | [d0, d1], _ => rfl) rfl Try.underlying4 hW (run hval hW)

theorem lifted (os : Os) (started : os.Started) (H : Type) (enc : TypeId × Value → H) :
    ReturnsInHanded {} Try.checked os 8 .any (Rows.inputPartsSpec.pre6 enc Try.prog Try.f8 Rows.inputPartsRow.domain false) (Rows.inputPartsSpec.post enc Try.prog Try.f8 false true false false) := by
  refine returnsInHanded_of_change (C := Try.checked) own started (by kernel_rfl) Try.func8
    (ChangeSpec.witness6 (enc := enc) (C := Try.checked) false ⟨#[], #[.slice none 0 0, .slice none 0 0], []⟩ 8 (by kernel_rfl) (by kernel_rfl) (by kernel_rfl) (by kernel_rfl)) ?_
  intro W base args ds gs before hval hW hcnd _
  exact contract enc W base args ds gs before hval hW

theorem over : Rows.inputPartsRow.holds Try.pinned (OpenSpec.ofChange Rows.inputPartsSpec) :=
  OpenClaim.holds_of_wide 8 Try.f8 rfl rfl rfl rfl rfl rfl rfl ⟨rfl, rfl, rfl, rfl, rfl⟩ rfl rfl rfl rfl rfl (by kernel_rfl) Try.func8 (by kernel_rfl)
    (of_decide_eq_true (by kernel_rfl)) (by unfold Func.isWrapper; first | (rw [if_pos (by decide +kernel)]; kernel_rfl) | (rw [if_neg (by decide +kernel)]; exact ⟨rfl, rfl⟩))
    (fun os started H enc _ => lifted os started H enc)

theorem proved : Rows.InputPartsSaid :=
  over
end Go.Proofs.Ytppgoobhlcdbbaa
