/- InputPlays: for every input of bulk 1048576 at most it answers true, and each argument reads as it did. -/
import Derived.Test.YtppgoobhlcdbbaaRows
import Derived.Test.YtppgoobhlcdbbaaMeInputPlays0
import Derived.Test.YtppgoobhlcdbbaaMh0
import Derived.Test.YtppgoobhlcdbbaaMcz0
import Derived.JoinedCond
set_option linter.unusedVariables false
set_option linter.unusedSimpArgs false
set_option maxRecDepth 100000
namespace Go.Proofs.Ytppgoobhlcdbbaa
open Go.ChangeShapes Go.WideShapes Go.ChangeAt Go.RowKit
open Go.Dx (Dec dec_struct dec_one sees_arg arg_one absA absH WC law_calls Kd wf_u8 wf_u32 wf_u64)

theorem own : ownKnob Try.prog.godebug = none := by kernel_rfl

theorem bulk_pos {H : Type} (d : DataW H) : 1 ≤ Rows.uptoBulk d := by
  cases d with
  | lit l => cases l <;> simp [Rows.uptoBulk]
  | _ => simp [Rows.uptoBulk] <;> omega
theorem bulk_len {H : Type} : ∀ l : List (DataW H), l.length ≤ Rows.uptoBulkAll l
  | [] => by simp
  | d :: r => by
    have h1 := bulk_pos d
    have h2 := bulk_len r
    simp only [Rows.uptoBulkAll, List.length_cons]
    omega
theorem bulk_slice {H : Type} (l r : List (DataW H)) : l.length ≤ Rows.uptoBulk (.slice l r) := by
  have := bulk_len l
  simp only [Rows.uptoBulk]
  omega
theorem bulk_le {H : Type} {d : DataW H} : ∀ {l : List (DataW H)}, d ∈ l → Rows.uptoBulk d ≤ Rows.uptoBulkAll l
  | x :: r, h => by
    simp only [Rows.uptoBulkAll]
    rcases List.mem_cons.1 h with rfl | h
    · omega
    · have := bulk_le h
      omega
theorem bulk_mem {H : Type} {d : DataW H} {l : List (DataW H)} (h : d ∈ l) (hk : Rows.uptoSmall H l = true) : Rows.uptoBulk d ≤ 1048576 := by
  have h1 : Rows.uptoBulkAll l ≤ 1048576 := of_decide_eq_true hk
  exact Nat.le_trans (bulk_le h) h1
theorem run {H : Type} {enc : TypeId × Value → H} {W : World} {base : Nat} {args : Array Value} {ds gs : List (DataW H)} {before : List MemPlace}
    (hval : ∀ (j : Nat) t v, Try.f7.params[j]? = some t → args[j]? = some v → Value.okWide Try.prog W .any base t v)
    (hW : DataW.Whole enc Try.prog Try.f7.params.toList Rows.inputPlaysSpec.vars false W args.toList ds gs before) (hk : Rows.uptoSmall H (ds ++ gs) = true) :
    WC Cd.T Cd.n_pianolalaw24_InputPlays (args.toList.map (absA W.heap.size)) (absH W) fun v _ => v = .bool true := by
  obtain ⟨p, q, hA0, hV, rfl, hfz, hnd⟩ := hW
  have hA : DataW.TrodAll enc Try.prog W 0 (fun _ => true) true Try.f7.params.toList args.toList ds p := hA0
  clear hA0
  rw [Try.params7] at hA hval
  obtain ⟨v0, vs0, d0, ds0, p0, q0, hargs0, rfl, rfl, h0, r0⟩ := trodAll_cons hA
  obtain ⟨v1, vs1, d1, ds1, p1, q1, hargs1, rfl, rfl, h1, r1⟩ := trodAll_cons r0
  obtain ⟨hargs2, rfl, rfl⟩ := trodAll_nil r1
  subst hargs2
  subst hargs1
  have hargs : args.toList = [v0, v1] := hargs0
  have D0 : Dec enc Try.prog W Cd.encKey 39 := dec_struct (ks := [.int .i64, .int .u8]) Try.underlying39 (by kernel_rfl) (by kernel_rfl) rfl (by kernel_rfl) (fun vs k0 => by
        obtain ⟨_, _, rfl, ⟨y0, rfl, _⟩, k1⟩ := Dx.okL_cons k0
        obtain ⟨_, _, rfl, ⟨y1, rfl, w1⟩, k2⟩ := Dx.okL_cons k1
        obtain rfl := Dx.okL_nil k2
        obtain ⟨x1, e1⟩ := wf_u8 w1
        exact ⟨⟨y0, x1⟩, by simp [Cd.encKey, e1]⟩)
  obtain ⟨a0, c0, xs0, rfl, e0, s0, l0, m0⟩ := sees_arg Try.underlying37 D0 (hval 0 37 v0 rfl (by rw [← Array.getElem?_toList, hargs]; rfl)) h0
  have u0 : xs0.length ≤ 1048576 := by
    rcases Go.Dx.trod_len Try.underlying37 h0 with hz | ⟨el, re, hd, hl⟩
    · omega
    · have h1 := bulk_slice el re
      have h2 := bulk_mem (d := d0) (l := _) (by simp) hk
      rw [hd] at h2
      omega
  have D1 : Dec enc Try.prog W Cd.encI 2 := dec_one (k := .int .i64) (by kernel_rfl) (by kernel_rfl) (fun v hv => by
      obtain ⟨y0, rfl, w0⟩ := hv
      exact ⟨y0, by simp [Cd.encI]⟩)
  obtain ⟨a1, c1, xs1, rfl, e1, s1, l1, m1⟩ := sees_arg Try.underlying44 D1 (hval 1 44 v1 rfl (by rw [← Array.getElem?_toList, hargs]; rfl)) h1
  have u1 : xs1.length ≤ 1048576 := by
    rcases Go.Dx.trod_len Try.underlying44 h1 with hz | ⟨el, re, hd, hl⟩
    · omega
    · have h1 := bulk_slice el re
      have h2 := bulk_mem (d := d1) (l := _) (by simp) hk
      rw [hd] at h2
      omega
  rw [hargs]
  simp only [List.map_cons, List.map_nil, e0, e1]
  exact Cd.iplays s0 l0 (by omega) s1 (fun _ _ => rfl)

theorem contract {H : Type} (enc : TypeId × Value → H) (W : World) (base : Nat) (args : Array Value) (ds gs : List (DataW H)) (before : List MemPlace)
    (hval : ∀ (j : Nat) t v, Try.f7.params[j]? = some t → args[j]? = some v → Value.okWide Try.prog W .any base t v)
    (hW : DataW.Whole enc Try.prog Try.f7.params.toList Rows.inputPlaysSpec.vars false W args.toList ds gs before) (hk : Rows.uptoSmall H (ds ++ gs) = true) :
    Calls Try.prog 7 args W fun e W' => ∃ v, e = .returned v ∧ Rows.inputPlaysSpec.post enc Try.prog Try.f7 false true false false W args v W' :=
  law_calls Cd.tab (by kernel_rfl) (by kernel_rfl) rfl (fun ds h => by
    rw [show Try.f7.params.toList = [37, 44] from by rw [Try.params7]] at h
    match ds, h with
    | [d0, d1], _ => rfl) rfl Try.underlying4 hW (run hval hW hk)

theorem lifted (os : Os) (started : os.Started) (H : Type) (enc : TypeId × Value → H) (F : Stop.Interp) :
    ReturnsInHanded {} Try.checked os 7 .any ((Rows.OpenSpec.upto Rows.inputPlaysSpec).pre6 enc Try.prog Try.f7 Rows.inputPlaysUptoRow.domain false) (((Rows.OpenSpec.upto Rows.inputPlaysSpec).at F).post enc Try.prog Try.f7 false true false false) := by
  refine returnsInHanded_of_cond (C := Try.checked) (s := Rows.OpenSpec.upto Rows.inputPlaysSpec) (k := Rows.uptoSmall) rfl own started (by kernel_rfl) Try.func7
    (OpenSpec.witness (enc := enc) (C := Try.checked) (s := Rows.OpenSpec.upto Rows.inputPlaysSpec) (k := Rows.uptoSmall) rfl false ⟨#[], #[.slice none 0 0, .slice none 0 0], []⟩ 8 (by kernel_rfl) (by kernel_rfl) (by kernel_rfl)
      (x := ([.nil, .nil], [], [])) (by kernel_rfl) rfl (by kernel_rfl)) ?_
  intro W base args ds gs before hval hW _ hk _
  exact contract enc W base args ds gs before hval hW hk

theorem over : Rows.inputPlaysUptoRow.holds Try.pinned (Rows.OpenSpec.upto Rows.inputPlaysSpec) :=
  OpenClaim.holds_of_cond 7 Try.f7 rfl rfl rfl rfl rfl rfl rfl ⟨rfl, rfl, rfl, rfl, rfl⟩ rfl rfl rfl rfl rfl (by kernel_rfl) Try.func7 (by kernel_rfl)
    (of_decide_eq_true (by kernel_rfl)) (by unfold Func.isWrapper; first | (rw [if_pos (by decide +kernel)]; kernel_rfl) | (rw [if_neg (by decide +kernel)]; exact ⟨rfl, rfl⟩))
    (fun os started H enc _ F => lifted os started H enc F)

theorem proved : Rows.InputPlaysUptoSaid :=
  over
end Go.Proofs.Ytppgoobhlcdbbaa
