/- Texts of one kind, one behind the other. -/
import Derived.Test.YtoiiphcbkejliaaGreatRows
import Derived.Test.YtoiiphcbkejliaaGreatMeShellBack2
import Derived.Test.YtoiiphcbkejliaaGreatMh0
import Derived.Test.YtoiiphcbkejliaaGreatMj0
/- ShellBack: for every input it answers true, and each argument reads as it did. -/
set_option linter.unusedVariables false
set_option linter.unusedSimpArgs false
set_option maxRecDepth 100000
namespace Go.Proofs.YtoiiphcbkejliaaGreat
open Go.ChangeShapes Go.WideShapes Go.ChangeAt Go.RowKit
open Go.Dx (Dec dec_struct dec_one sees_arg arg_one absA absH WC law_calls Kd wf_u8 wf_u32 wf_u64)

theorem own : ownKnob Tryz.prog.godebug = none := by kernel_rfl
theorem run {H : Type} {enc : TypeId × Value → H} {W : World} {base : Nat} {args : Array Value} {ds gs : List (DataW H)} {before : List MemPlace}
    (hval : ∀ (j : Nat) t v, Tryz.f6.params[j]? = some t → args[j]? = some v → Value.okWide Tryz.prog W .any base t v)
    (hW : DataW.Whole enc Tryz.prog Tryz.f6.params.toList Rows.shellBackSpec.vars false W args.toList ds gs before) :
    WC Cd.T Cd.n_4k (args.toList.map (absA W.heap.size)) (absH W) fun v _ => v = .bool true := by
  obtain ⟨p, q, hA0, hV, rfl, hfz, hnd⟩ := hW
  have hA : DataW.TrodAll enc Tryz.prog W 0 (fun _ => true) true Tryz.f6.params.toList args.toList ds p := hA0
  clear hA0
  rw [Tryz.params6] at hA hval
  obtain ⟨v0, vs0, d0, ds0, p0, q0, hargs0, rfl, rfl, h0, r0⟩ := trodAll_cons hA
  obtain ⟨v1, vs1, d1, ds1, p1, q1, hargs1, rfl, rfl, h1, r1⟩ := trodAll_cons r0
  obtain ⟨hargs2, rfl, rfl⟩ := trodAll_nil r1
  subst hargs2
  subst hargs1
  have hargs : args.toList = [v0, v1] := hargs0
  obtain ⟨cs0, rfl, hl0, hf0⟩ := Go.Dx.arg_cells Tryz.underlying48 (ts := [3, 3, 46, 22, 25, 4]) (by kernel_rfl) (by kernel_rfl) (hval 0 48 v0 rfl (by rw [← Array.getElem?_toList, hargs]; rfl)) h0
  obtain ⟨z0_0, z0_1, z0_2, z0_3, z0_4, z0_5, rfl⟩ := Go.Dx.len6 hl0
  obtain ⟨o0_0, f0_0, y0_0, t0_0⟩ := hf0 0 _ rfl (by kernel_rfl) rfl z0_0 rfl
  obtain ⟨n0_0, rfl, w0_0⟩ := Go.Dx.int_cell Tryz.underlying3 t0_0
  obtain ⟨o0_1, f0_1, y0_1, t0_1⟩ := hf0 1 _ rfl (by kernel_rfl) rfl z0_1 rfl
  obtain ⟨n0_1, rfl, w0_1⟩ := Go.Dx.int_cell Tryz.underlying3 t0_1
  obtain ⟨o0_2, f0_2, y0_2, t0_2⟩ := hf0 2 _ rfl (by kernel_rfl) rfl z0_2 rfl
  have D0_2 : Dec enc Tryz.prog W Cd.encI7 141 := dec_struct (ks := [.int .i64, .int .i64, .int .i64, .int .i64, .int .i64, .int .u32, .int .u32]) Tryz.underlying141 (by kernel_rfl) (by kernel_rfl) rfl (by kernel_rfl) (fun vs k0 => by
        obtain ⟨_, _, rfl, ⟨y0, rfl, _⟩, k1⟩ := Dx.okL_cons k0
        obtain ⟨_, _, rfl, ⟨y1, rfl, _⟩, k2⟩ := Dx.okL_cons k1
        obtain ⟨_, _, rfl, ⟨y2, rfl, _⟩, k3⟩ := Dx.okL_cons k2
        obtain ⟨_, _, rfl, ⟨y3, rfl, _⟩, k4⟩ := Dx.okL_cons k3
        obtain ⟨_, _, rfl, ⟨y4, rfl, _⟩, k5⟩ := Dx.okL_cons k4
        obtain ⟨_, _, rfl, ⟨y5, rfl, w5⟩, k6⟩ := Dx.okL_cons k5
        obtain ⟨_, _, rfl, ⟨y6, rfl, w6⟩, k7⟩ := Dx.okL_cons k6
        obtain rfl := Dx.okL_nil k7
        obtain ⟨x5, e5⟩ := wf_u32 w5
        obtain ⟨x6, e6⟩ := wf_u32 w6
        exact ⟨⟨y0, y1, y2, y3, y4, x5, x6⟩, by simp [Cd.encI7, e5, e6]⟩)
  obtain ⟨a0_2, c0_2, xs0_2, rfl, e0_2, s0_2, l0_2, m0_2⟩ := Go.Dx.sees_cell Tryz.underlying46 D0_2 o0_2 t0_2
  obtain ⟨o0_3, f0_3, y0_3, t0_3⟩ := hf0 3 _ rfl (by kernel_rfl) rfl z0_3 rfl
  have D0_3 : Dec enc Tryz.prog W Go.Dx.encB 5 := dec_one (k := .int .u8) (by kernel_rfl) (by kernel_rfl) (fun v hv => by
      obtain ⟨y0, rfl, w0⟩ := hv
      obtain ⟨x0, e0⟩ := wf_u8 w0
      exact ⟨x0, by simp [Go.Dx.encB, e0]⟩)
  obtain ⟨a0_3, c0_3, xs0_3, rfl, e0_3, s0_3, l0_3, m0_3⟩ := Go.Dx.sees_cell Tryz.underlying22 D0_3 o0_3 t0_3
  obtain ⟨o0_4, f0_4, y0_4, t0_4⟩ := hf0 4 _ rfl (by kernel_rfl) rfl z0_4 rfl
  have D0_4 : Dec enc Tryz.prog W Go.Dx.encIt 24 := dec_struct (ks := [.int .i64, .int .i64]) Tryz.underlying24 (by kernel_rfl) (by kernel_rfl) rfl (by kernel_rfl) (fun vs k0 => by
        obtain ⟨_, _, rfl, ⟨y0, rfl, _⟩, k1⟩ := Dx.okL_cons k0
        obtain ⟨_, _, rfl, ⟨y1, rfl, _⟩, k2⟩ := Dx.okL_cons k1
        obtain rfl := Dx.okL_nil k2
        exact ⟨⟨y0, y1⟩, by simp [Go.Dx.encIt]⟩)
  obtain ⟨a0_4, c0_4, xs0_4, rfl, e0_4, s0_4, l0_4, m0_4⟩ := Go.Dx.sees_cell Tryz.underlying25 D0_4 o0_4 t0_4
  obtain ⟨o0_5, f0_5, y0_5, t0_5⟩ := hf0 5 _ rfl (by kernel_rfl) rfl z0_5 rfl
  obtain ⟨n0_5, rfl⟩ := Go.Dx.bool_cell Tryz.underlying4 t0_5
  have e0 : absA W.heap.size (.agg [.int .i64 n0_0, .int .i64 n0_1, .slice a0_2 xs0_2.length c0_2, .slice a0_3 xs0_3.length c0_3, .slice a0_4 xs0_4.length c0_4, .bool n0_5].toArray) = .agg #[.int .i64 n0_0, .int .i64 n0_1, .slice a0_2 xs0_2.length c0_2, .slice a0_3 xs0_3.length c0_3, .slice a0_4 xs0_4.length c0_4, .bool n0_5] := by
    simp only [absA, List.map_toArray, List.map_cons, List.map_nil, e0_2, e0_3, e0_4]
    rfl
  obtain ⟨⟨n1, rfl, w1⟩, e1⟩ := arg_one (k := .int .i64) (by kernel_rfl) (hval 1 3 v1 rfl (by rw [← Array.getElem?_toList, hargs]; rfl)) h1
  rw [hargs]
  simp only [List.map_cons, List.map_nil, e0, e1]
  exact Cd.sback s0_2 (by unfold maxLen at m0_2; omega) s0_3 (by unfold maxLen at m0_3; omega) l0_3 s0_4 (by unfold maxLen at m0_4; omega)

theorem contract {H : Type} (enc : TypeId × Value → H) (W : World) (base : Nat) (args : Array Value) (ds gs : List (DataW H)) (before : List MemPlace)
    (hval : ∀ (j : Nat) t v, Tryz.f6.params[j]? = some t → args[j]? = some v → Value.okWide Tryz.prog W .any base t v)
    (hW : DataW.Whole enc Tryz.prog Tryz.f6.params.toList Rows.shellBackSpec.vars false W args.toList ds gs before) :
    Calls Tryz.prog 6 args W fun e W' => ∃ v, e = .returned v ∧ Rows.shellBackSpec.post enc Tryz.prog Tryz.f6 false true false false W args v W' :=
  law_calls Cd.tab (by kernel_rfl) (by kernel_rfl) rfl (fun ds h => by
    rw [show Tryz.f6.params.toList = [48, 3] from by rw [Tryz.params6]] at h
    match ds, h with
    | [d0, d1], _ => rfl) rfl Tryz.underlying4 hW (run hval hW)

end Go.Proofs.YtoiiphcbkejliaaGreat
