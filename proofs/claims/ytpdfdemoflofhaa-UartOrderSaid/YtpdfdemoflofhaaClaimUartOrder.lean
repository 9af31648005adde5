/- UartOrder: for every input it answers true, and each argument reads as it did. -/
import Derived.Test.YtpdfdemoflofhaaRows
import Derived.Test.YtpdfdemoflofhaaMeUartOrder1
import Derived.Test.YtpdfdemoflofhaaMh0
set_option linter.unusedVariables false
set_option linter.unusedSimpArgs false
set_option maxRecDepth 100000
namespace Go.Proofs.Ytpdfdemoflofhaa
open Go.ChangeShapes Go.WideShapes Go.ChangeAt Go.RowKit
open Go.Dx (Dec dec_struct dec_one sees_arg arg_one absA absH WC law_calls Kd wf_u8 wf_u32 wf_u64)

theorem own : ownKnob Try.prog.godebug = none := by kernel_rfl
theorem run {H : Type} {enc : TypeId × Value → H} {W : World} {base : Nat} {args : Array Value} {ds gs : List (DataW H)} {before : List MemPlace}
    (hval : ∀ (j : Nat) t v, Try.f3.params[j]? = some t → args[j]? = some v → Value.okWide Try.prog W .any base t v)
    (hW : DataW.Whole enc Try.prog Try.f3.params.toList Rows.uartOrderSpec.vars false W args.toList ds gs before) :
    WC Cd.T Cd.n_pianolalaw12_UartOrder (args.toList.map (absA W.heap.size)) (absH W) fun v _ => v = .bool true := by
  obtain ⟨p, q, hA0, hV, rfl, hfz, hnd⟩ := hW
  have hA : DataW.TrodAll enc Try.prog W 0 (fun _ => true) true Try.f3.params.toList args.toList ds p := hA0
  clear hA0
  rw [Try.params3] at hA hval
  obtain ⟨v0, vs0, d0, ds0, p0, q0, hargs0, rfl, rfl, h0, r0⟩ := trodAll_cons hA
  obtain ⟨v1, vs1, d1, ds1, p1, q1, hargs1, rfl, rfl, h1, r1⟩ := trodAll_cons r0
  obtain ⟨hargs2, rfl, rfl⟩ := trodAll_nil r1
  subst hargs2
  subst hargs1
  have hargs : args.toList = [v0, v1] := hargs0
  have D0 : Dec enc Try.prog W Go.Dx.encB 5 := dec_one (k := .int .u8) (by kernel_rfl) (by kernel_rfl) (fun v hv => by
      obtain ⟨y0, rfl, w0⟩ := hv
      obtain ⟨x0, e0⟩ := wf_u8 w0
      exact ⟨x0, by simp [Go.Dx.encB, e0]⟩)
  obtain ⟨a0, c0, xs0, rfl, e0, s0, l0, m0⟩ := sees_arg Try.underlying22 D0 (hval 0 22 v0 rfl (by rw [← Array.getElem?_toList, hargs]; rfl)) h0
  have D1 : Dec enc Try.prog W Go.Dx.encB 5 := dec_one (k := .int .u8) (by kernel_rfl) (by kernel_rfl) (fun v hv => by
      obtain ⟨y0, rfl, w0⟩ := hv
      obtain ⟨x0, e0⟩ := wf_u8 w0
      exact ⟨x0, by simp [Go.Dx.encB, e0]⟩)
  obtain ⟨a1, c1, xs1, rfl, e1, s1, l1, m1⟩ := sees_arg Try.underlying22 D1 (hval 1 22 v1 rfl (by rw [← Array.getElem?_toList, hargs]; rfl)) h1
  rw [hargs]
  simp only [List.map_cons, List.map_nil, e0, e1]
  exact Cd.uorder s0 (by unfold maxLen at m0; omega) l0 s1 (by unfold maxLen at m1; omega) l1

theorem contract {H : Type} (enc : TypeId × Value → H) (W : World) (base : Nat) (args : Array Value) (ds gs : List (DataW H)) (before : List MemPlace)
    (hval : ∀ (j : Nat) t v, Try.f3.params[j]? = some t → args[j]? = some v → Value.okWide Try.prog W .any base t v)
    (hW : DataW.Whole enc Try.prog Try.f3.params.toList Rows.uartOrderSpec.vars false W args.toList ds gs before) :
    Calls Try.prog 3 args W fun e W' => ∃ v, e = .returned v ∧ Rows.uartOrderSpec.post enc Try.prog Try.f3 false true false false W args v W' :=
  law_calls Cd.tab (by kernel_rfl) (by kernel_rfl) rfl (fun ds h => by
    rw [show Try.f3.params.toList = [22, 22] from by rw [Try.params3]] at h
    match ds, h with
    | [d0, d1], _ => rfl) rfl Try.underlying4 hW (run hval hW)

theorem lifted (os : Os) (started : os.Started) (H : Type) (enc : TypeId × Value → H) :
    ReturnsInHanded {} Try.checked os 3 .any (Rows.uartOrderSpec.pre6 enc Try.prog Try.f3 Rows.uartOrderRow.domain false) (Rows.uartOrderSpec.post enc Try.prog Try.f3 false true false false) := by
  refine returnsInHanded_of_change (C := Try.checked) own started (by kernel_rfl) Try.func3
    (ChangeSpec.witness6 (enc := enc) (C := Try.checked) false ⟨#[], #[.slice none 0 0, .slice none 0 0], []⟩ 8 (by kernel_rfl) (by kernel_rfl) (by kernel_rfl) (by kernel_rfl)) ?_
  intro W base args ds gs before hval hW hcnd _
  exact contract enc W base args ds gs before hval hW

theorem over : Rows.uartOrderRow.holds Try.pinned (OpenSpec.ofChange Rows.uartOrderSpec) :=
  OpenClaim.holds_of_wide 3 Try.f3 rfl rfl rfl rfl rfl rfl rfl ⟨rfl, rfl, rfl, rfl, rfl⟩ rfl rfl rfl rfl rfl (by kernel_rfl) Try.func3 (by kernel_rfl)
    (of_decide_eq_true (by kernel_rfl)) (by unfold Func.isWrapper; first | (rw [if_pos (by decide +kernel)]; kernel_rfl) | (rw [if_neg (by decide +kernel)]; exact ⟨rfl, rfl⟩))
    (fun os started H enc _ => lifted os started H enc)

theorem proved : Rows.UartOrderSaid :=
  over
end Go.Proofs.Ytpdfdemoflofhaa
