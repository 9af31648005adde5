/- OptLifts: for every input it answers true, and each argument reads as it did. -/
import Derived.Test.YtjobkhnanbkcjaaRows
import Derived.Test.YtjobkhnanbkcjaaMeOptLifts0
import Derived.Test.YtjobkhnanbkcjaaMh0
set_option linter.unusedVariables false
set_option linter.unusedSimpArgs false
set_option maxRecDepth 100000
namespace Go.Proofs.Ytjobkhnanbkcjaa
open Go.ChangeShapes Go.WideShapes Go.ChangeAt Go.RowKit
open Go.Dx (Dec dec_struct dec_one sees_arg arg_one absA absH WC law_calls Kd wf_u8 wf_u32 wf_u64)

theorem own : ownKnob Try.prog.godebug = none := by kernel_rfl
theorem run {H : Type} {enc : TypeId × Value → H} {W : World} {base : Nat} {args : Array Value} {ds gs : List (DataW H)} {before : List MemPlace}
    (hval : ∀ (j : Nat) t v, Try.f11.params[j]? = some t → args[j]? = some v → Value.okWide Try.prog W .any base t v)
    (hW : DataW.Whole enc Try.prog Try.f11.params.toList Rows.optLiftsSpec.vars false W args.toList ds gs before) :
    WC Cd.T Cd.n_pianolalaw20_OptLifts (args.toList.map (absA W.heap.size)) (absH W) fun v _ => v = .bool true := by
  obtain ⟨p, q, hA0, hV, rfl, hfz, hnd⟩ := hW
  have hA : DataW.TrodAll enc Try.prog W 0 (fun _ => true) true Try.f11.params.toList args.toList ds p := hA0
  clear hA0
  rw [Try.params11] at hA hval
  obtain ⟨v0, vs0, d0, ds0, p0, q0, hargs0, rfl, rfl, h0, r0⟩ := trodAll_cons hA
  obtain ⟨v1, vs1, d1, ds1, p1, q1, hargs1, rfl, rfl, h1, r1⟩ := trodAll_cons r0
  obtain ⟨v2, vs2, d2, ds2, p2, q2, hargs2, rfl, rfl, h2, r2⟩ := trodAll_cons r1
  obtain ⟨hargs3, rfl, rfl⟩ := trodAll_nil r2
  subst hargs3
  subst hargs2
  subst hargs1
  have hargs : args.toList = [v0, v1, v2] := hargs0
  have D0 : Dec enc Try.prog W Go.Dx.encW 25 := dec_one (k := .int .u32) (by kernel_rfl) (by kernel_rfl) (fun v hv => by
      obtain ⟨y0, rfl, w0⟩ := hv
      obtain ⟨x0, e0⟩ := wf_u32 w0
      exact ⟨x0, by simp [Go.Dx.encW, e0]⟩)
  obtain ⟨a0, c0, xs0, rfl, e0, s0, l0, m0⟩ := sees_arg Try.underlying22 D0 (hval 0 22 v0 rfl (by rw [← Array.getElem?_toList, hargs]; rfl)) h0
  have D1 : Dec enc Try.prog W Go.Dx.encOp 33 := dec_struct (ks := [.int .i64, .int .i64, .int .i64, .int .i64, .int .u32]) Try.underlying33 (by kernel_rfl) (by kernel_rfl) rfl (by kernel_rfl) (fun vs k0 => by
        obtain ⟨_, _, rfl, ⟨y0, rfl, _⟩, k1⟩ := Dx.okL_cons k0
        obtain ⟨_, _, rfl, ⟨y1, rfl, _⟩, k2⟩ := Dx.okL_cons k1
        obtain ⟨_, _, rfl, ⟨y2, rfl, _⟩, k3⟩ := Dx.okL_cons k2
        obtain ⟨_, _, rfl, ⟨y3, rfl, _⟩, k4⟩ := Dx.okL_cons k3
        obtain ⟨_, _, rfl, ⟨y4, rfl, w4⟩, k5⟩ := Dx.okL_cons k4
        obtain rfl := Dx.okL_nil k5
        obtain ⟨x4, e4⟩ := wf_u32 w4
        exact ⟨⟨y0, y1, y2, y3, x4⟩, by simp [Go.Dx.encOp, e4]⟩)
  obtain ⟨a1, c1, xs1, rfl, e1, s1, l1, m1⟩ := sees_arg Try.underlying23 D1 (hval 1 23 v1 rfl (by rw [← Array.getElem?_toList, hargs]; rfl)) h1
  have D2 : Dec enc Try.prog W Go.Dx.encW 25 := dec_one (k := .int .u32) (by kernel_rfl) (by kernel_rfl) (fun v hv => by
      obtain ⟨y0, rfl, w0⟩ := hv
      obtain ⟨x0, e0⟩ := wf_u32 w0
      exact ⟨x0, by simp [Go.Dx.encW, e0]⟩)
  obtain ⟨a2, c2, xs2, rfl, e2, s2, l2, m2⟩ := sees_arg Try.underlying22 D2 (hval 2 22 v2 rfl (by rw [← Array.getElem?_toList, hargs]; rfl)) h2
  rw [hargs]
  simp only [List.map_cons, List.map_nil, e0, e1, e2]
  exact Cd.optlifts s0 (by unfold maxLen at m0; omega) s1 (by unfold maxLen at m1; omega) l1 s2 (by unfold maxLen at m2; omega)

theorem contract {H : Type} (enc : TypeId × Value → H) (W : World) (base : Nat) (args : Array Value) (ds gs : List (DataW H)) (before : List MemPlace)
    (hval : ∀ (j : Nat) t v, Try.f11.params[j]? = some t → args[j]? = some v → Value.okWide Try.prog W .any base t v)
    (hW : DataW.Whole enc Try.prog Try.f11.params.toList Rows.optLiftsSpec.vars false W args.toList ds gs before) :
    Calls Try.prog 11 args W fun e W' => ∃ v, e = .returned v ∧ Rows.optLiftsSpec.post enc Try.prog Try.f11 false true false false W args v W' :=
  law_calls Cd.tab (by kernel_rfl) (by kernel_rfl) rfl (fun ds h => by
    rw [show Try.f11.params.toList = [22, 23, 22] from by rw [Try.params11]] at h
    match ds, h with
    | [d0, d1, d2], _ => rfl) rfl Try.underlying4 hW (run hval hW)

theorem lifted (os : Os) (started : os.Started) (H : Type) (enc : TypeId × Value → H) :
    ReturnsInHanded {} Try.checked os 11 .any (Rows.optLiftsSpec.pre6 enc Try.prog Try.f11 Rows.optLiftsRow.domain false) (Rows.optLiftsSpec.post enc Try.prog Try.f11 false true false false) := by
  refine returnsInHanded_of_change (C := Try.checked) own started (by kernel_rfl) Try.func11
    (ChangeSpec.witness6 (enc := enc) (C := Try.checked) false ⟨#[], #[.slice none 0 0, .slice none 0 0, .slice none 0 0], []⟩ 8 (by kernel_rfl) (by kernel_rfl) (by kernel_rfl) (by kernel_rfl)) ?_
  intro W base args ds gs before hval hW hcnd _
  exact contract enc W base args ds gs before hval hW

theorem over : Rows.optLiftsRow.holds Try.pinned (OpenSpec.ofChange Rows.optLiftsSpec) :=
  OpenClaim.holds_of_wide 11 Try.f11 rfl rfl rfl rfl rfl rfl rfl ⟨rfl, rfl, rfl, rfl, rfl⟩ rfl rfl rfl rfl rfl (by kernel_rfl) Try.func11 (by kernel_rfl)
    (of_decide_eq_true (by kernel_rfl)) (by unfold Func.isWrapper; first | (rw [if_pos (by decide +kernel)]; kernel_rfl) | (rw [if_neg (by decide +kernel)]; exact ⟨rfl, rfl⟩))
    (fun os started H enc _ => lifted os started H enc)

theorem proved : Rows.OptLiftsSaid :=
  over
end Go.Proofs.Ytjobkhnanbkcjaa
