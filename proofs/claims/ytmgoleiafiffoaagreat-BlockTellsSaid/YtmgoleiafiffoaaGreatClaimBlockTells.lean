/- BlockTells: for every input it answers true, and each argument reads as it did. -/
import Derived.Test.YtmgoleiafiffoaaGreatRows
import Derived.Test.YtmgoleiafiffoaaGreatMeBlockTells5
import Derived.Test.YtmgoleiafiffoaaGreatMh0
set_option linter.unusedVariables false
set_option linter.unusedSimpArgs false
set_option maxRecDepth 100000
namespace Go.Proofs.YtmgoleiafiffoaaGreat
open Go.ChangeShapes Go.WideShapes Go.ChangeAt Go.RowKit
open Go.Dx (Dec dec_struct dec_one sees_arg arg_one absA absH WC law_calls Kd wf_u8 wf_u32 wf_u64)

theorem own : ownKnob Tryz.prog.godebug = none := by kernel_rfl
theorem run {H : Type} {enc : TypeId × Value → H} {W : World} {base : Nat} {args : Array Value} {ds gs : List (DataW H)} {before : List MemPlace}
    (hval : ∀ (j : Nat) t v, Tryz.f4.params[j]? = some t → args[j]? = some v → Value.okWide Tryz.prog W .any base t v)
    (hW : DataW.Whole enc Tryz.prog Tryz.f4.params.toList Rows.blockTellsSpec.vars false W args.toList ds gs before) :
    WC Cd.T Cd.n_1p (args.toList.map (absA W.heap.size)) (absH W) fun v _ => v = .bool true := by
  obtain ⟨p, q, hA0, hV, rfl, hfz, hnd⟩ := hW
  have hA : DataW.TrodAll enc Tryz.prog W 0 (fun _ => true) true Tryz.f4.params.toList args.toList ds p := hA0
  clear hA0
  rw [Tryz.params4] at hA hval
  obtain ⟨v0, vs0, d0, ds0, p0, q0, hargs0, rfl, rfl, h0, r0⟩ := trodAll_cons hA
  obtain ⟨v1, vs1, d1, ds1, p1, q1, hargs1, rfl, rfl, h1, r1⟩ := trodAll_cons r0
  obtain ⟨v2, vs2, d2, ds2, p2, q2, hargs2, rfl, rfl, h2, r2⟩ := trodAll_cons r1
  obtain ⟨v3, vs3, d3, ds3, p3, q3, hargs3, rfl, rfl, h3, r3⟩ := trodAll_cons r2
  obtain ⟨v4, vs4, d4, ds4, p4, q4, hargs4, rfl, rfl, h4, r4⟩ := trodAll_cons r3
  obtain ⟨hargs5, rfl, rfl⟩ := trodAll_nil r4
  subst hargs5
  subst hargs4
  subst hargs3
  subst hargs2
  subst hargs1
  have hargs : args.toList = [v0, v1, v2, v3, v4] := hargs0
  have D0 : Dec enc Tryz.prog W Cd.encI7 78 := dec_struct (ks := [.int .i64, .int .i64, .int .i64, .int .i64, .int .i64, .int .u32, .int .u32]) Tryz.underlying78 (by kernel_rfl) (by kernel_rfl) rfl (by kernel_rfl) (fun vs k0 => by
        obtain ⟨_, _, rfl, ⟨y0, rfl, _⟩, k1⟩ := Dx.okL_cons k0
        obtain ⟨_, _, rfl, ⟨y1, rfl, _⟩, k2⟩ := Dx.okL_cons k1
        obtain ⟨_, _, rfl, ⟨y2, rfl, _⟩, k3⟩ := Dx.okL_cons k2
        obtain ⟨_, _, rfl, ⟨y3, rfl, _⟩, k4⟩ := Dx.okL_cons k3
        obtain ⟨_, _, rfl, ⟨y4, rfl, _⟩, k5⟩ := Dx.okL_cons k4
        obtain ⟨_, _, rfl, ⟨y5, rfl, w5⟩, k6⟩ := Dx.okL_cons k5
        obtain ⟨_, _, rfl, ⟨y6, rfl, w6⟩, k7⟩ := Dx.okL_cons k6
        obtain rfl := Dx.okL_nil k7
        obtain ⟨x5, e5⟩ := wf_u32 w5
        obtain ⟨x6, e6⟩ := wf_u32 w6
        exact ⟨⟨y0, y1, y2, y3, y4, x5, x6⟩, by simp [Cd.encI7, e5, e6]⟩)
  obtain ⟨a0, c0, xs0, rfl, e0, s0, l0, m0⟩ := sees_arg Tryz.underlying33 D0 (hval 0 33 v0 rfl (by rw [← Array.getElem?_toList, hargs]; rfl)) h0
  have D1 : Dec enc Tryz.prog W Go.Dx.encB 5 := dec_one (k := .int .u8) (by kernel_rfl) (by kernel_rfl) (fun v hv => by
      obtain ⟨y0, rfl, w0⟩ := hv
      obtain ⟨x0, e0⟩ := wf_u8 w0
      exact ⟨x0, by simp [Go.Dx.encB, e0]⟩)
  obtain ⟨a1, c1, xs1, rfl, e1, s1, l1, m1⟩ := sees_arg Tryz.underlying22 D1 (hval 1 22 v1 rfl (by rw [← Array.getElem?_toList, hargs]; rfl)) h1
  obtain ⟨⟨n2, rfl, w2⟩, e2⟩ := arg_one (k := .int .u32) (by kernel_rfl) (hval 2 23 v2 rfl (by rw [← Array.getElem?_toList, hargs]; rfl)) h2
  obtain ⟨x2, g2⟩ := wf_u32 w2
  rw [← g2] at e2
  obtain ⟨⟨n3, rfl, w3⟩, e3⟩ := arg_one (k := .int .i64) (by kernel_rfl) (hval 3 3 v3 rfl (by rw [← Array.getElem?_toList, hargs]; rfl)) h3
  have D4 : Dec enc Tryz.prog W Go.Dx.encW 23 := dec_one (k := .int .u32) (by kernel_rfl) (by kernel_rfl) (fun v hv => by
      obtain ⟨y0, rfl, w0⟩ := hv
      obtain ⟨x0, e0⟩ := wf_u32 w0
      exact ⟨x0, by simp [Go.Dx.encW, e0]⟩)
  obtain ⟨a4, c4, xs4, rfl, e4, s4, l4, m4⟩ := sees_arg Tryz.underlying24 D4 (hval 4 24 v4 rfl (by rw [← Array.getElem?_toList, hargs]; rfl)) h4
  rw [hargs]
  simp only [List.map_cons, List.map_nil, e0, e1, ← g2, e2, e3, e4]
  exact Cd.btells s0 (by unfold maxLen at m0; omega) s1 l1 (by unfold maxLen at m1; omega) s4 (by unfold maxLen at m4; omega)

theorem contract {H : Type} (enc : TypeId × Value → H) (W : World) (base : Nat) (args : Array Value) (ds gs : List (DataW H)) (before : List MemPlace)
    (hval : ∀ (j : Nat) t v, Tryz.f4.params[j]? = some t → args[j]? = some v → Value.okWide Tryz.prog W .any base t v)
    (hW : DataW.Whole enc Tryz.prog Tryz.f4.params.toList Rows.blockTellsSpec.vars false W args.toList ds gs before) :
    Calls Tryz.prog 4 args W fun e W' => ∃ v, e = .returned v ∧ Rows.blockTellsSpec.post enc Tryz.prog Tryz.f4 false true false false W args v W' :=
  law_calls Cd.tab (by kernel_rfl) (by kernel_rfl) rfl (fun ds h => by
    rw [show Tryz.f4.params.toList = [33, 22, 23, 3, 24] from by rw [Tryz.params4]] at h
    match ds, h with
    | [d0, d1, d2, d3, d4], _ => rfl) rfl Tryz.underlying4 hW (run hval hW)

theorem lifted (os : Os) (started : os.Started) (H : Type) (enc : TypeId × Value → H) :
    ReturnsInHanded {} Tryz.checked os 4 .any (Rows.blockTellsSpec.pre6 enc Tryz.prog Tryz.f4 Rows.blockTellsRow.domain false) (Rows.blockTellsSpec.post enc Tryz.prog Tryz.f4 false true false false) := by
  refine returnsInHanded_of_change (C := Tryz.checked) own started (by kernel_rfl) Tryz.func4
    (ChangeSpec.witness6 (enc := enc) (C := Tryz.checked) false ⟨#[], #[.slice none 0 0, .slice none 0 0, .int .u32 0, .int .i64 0, .slice none 0 0], []⟩ 8 (by kernel_rfl) (by kernel_rfl) (by kernel_rfl) (by kernel_rfl)) ?_
  intro W base args ds gs before hval hW hcnd _
  exact contract enc W base args ds gs before hval hW

theorem over : Rows.blockTellsRow.holds Tryz.pinned (OpenSpec.ofChange Rows.blockTellsSpec) :=
  OpenClaim.holds_of_wide 4 Tryz.f4 rfl rfl rfl rfl rfl rfl rfl ⟨rfl, rfl, rfl, rfl, rfl⟩ rfl rfl rfl rfl rfl (by kernel_rfl) Tryz.func4 (by kernel_rfl)
    (of_decide_eq_true (by kernel_rfl)) (by unfold Func.isWrapper; first | (rw [if_pos (by decide +kernel)]; kernel_rfl) | (rw [if_neg (by decide +kernel)]; exact ⟨rfl, rfl⟩))
    (fun os started H enc _ => lifted os started H enc)

theorem proved : Rows.BlockTellsSaid :=
  over
end Go.Proofs.YtmgoleiafiffoaaGreat
