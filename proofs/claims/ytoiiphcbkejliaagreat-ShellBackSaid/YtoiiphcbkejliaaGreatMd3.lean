/- Texts of one kind, one behind the other. -/
import Derived.Test.YtoiiphcbkejliaaGreatMd2
import Derived.Test.YtoiiphcbkejliaaGreatMc0
import Derived.Test.YtoiiphcbkejliaaGreatMcz0
import Derived.Test.YtoiiphcbkejliaaGreatMcy0
/- slices.Equal of bytes, in any table: what it answers; and a meaning that is quick. -/
set_option maxRecDepth 1000000
set_option linter.unusedSimpArgs false
set_option linter.unusedVariables false
namespace Go.Proofs.YtoiiphcbkejliaaGreat.Cd
open Go Go.Dx
section
attribute [local simp] Go.Dx.G_unf
theorem equal_b {T : Nat → Option Dx.Fn} (hT : T n_8m = some (.code f_8m)) {h : Hp} {a a' : Option Addr} {c c' : Nat} {xs ys : By} (hx : Sees encB h a xs) (hy : Sees encB h a' ys) (hb : xs.length < 2 ^ 63) : WC T n_8m [.slice a xs.length c, .slice a' ys.length c'] h fun v h' => v = .bool (decide (xs = ys)) ∧ h' = h := by
  have g0 := G_unf c0_8m.eq_1
  have g1 := G_unf c1_8m.eq_1
  have g2 := G_unf c2_8m.eq_1
  have gz := G_unf c_8m.eq_1
  rw [WC_G hT]
  by_cases hl : xs.length = ys.length
  case neg =>
    have hne : xs ≠ ys := fun e => hl (by rw [e])
    have hl' : ¬ ((xs.length : Int) = ys.length) := by omega
    simp (maxSteps:=9^7)(disch:=first|assumption|((try simp only[nX]);omega)|simp) [f_8m, gz, g2, hl', hne]
  simp (maxSteps:=9^7)(disch:=first|assumption|((try simp only[nX]);omega)|simp) [f_8m, gz, g2, hl]
  refine G_loop (fun n e h' => ∃ us vs ws, n = vs.length ∧ h' = h ∧ xs = us ++ vs ∧ ys = us ++ ws ∧ e 0 = .slice a xs.length c ∧ e 1 = .slice a' ys.length c' ∧ e 12 = .int .i64 xs.length ∧ e 13 = .int .i64 us.length) ?_ xs.length _ _ ⟨[], xs, ys, rfl, rfl, rfl, rfl, by simp [hl], by simp, by simp [hl], by simp⟩
  rintro n ih e h' ⟨us, vs, ws, rfl, rfl, h1, h2, e0, e1, e12, e13⟩
  cases vs with
  | nil =>
    have hw : ws = [] := by
      have h3 := hl
      rw [h1, h2] at h3
      simpa using h3
    subst hw
    have hxs : xs = us := by simpa using h1
    have hxy : xs = ys := by rw [h1, h2]
    have hll : us.length = xs.length := by rw [hxs]
    simp (maxSteps:=9^7)(disch:=first|assumption|((try simp only[nX]);omega)|simp) [g1, e0, e12, e13, hll, hxy]
  | cons x vs =>
    cases ws with
    | nil =>
      have h3 := hl
      rw [h1, h2] at h3
      simp at h3
    | cons y ws =>
      have hlt : (us.length : Int) < xs.length := by rw [h1]; simp; omega
      have hlt' : (us.length : Int) < ys.length := by omega
      obtain ⟨A, ro, C, hA, g3, k1⟩ := Sees.cell (E := encB) (f := fun x => u8 x) (fun _ => rfl) rfl (us := us) (x := x) (vs := vs) (by rw [← h1]; exact hx)
      obtain ⟨A', ro', C', hA', g4, k2⟩ := Sees.cell (E := encB) (f := fun x => u8 x) (fun _ => rfl) rfl (us := us) (x := y) (vs := ws) (by rw [← h2]; exact hy)
      by_cases hxy : x = y
      · simp (maxSteps:=9^7)(disch:=first|assumption|((try simp only[nX]);omega)|simp) [g1, g0, e0, e1, e12, e13, hlt, hlt', hA, hA', g3, g4, k1, k2, hxy]
        apply ih vs.length (by simp)
        refine ⟨us ++ [x], vs, ws, rfl, rfl, by simp [h1], by simp [h2, hxy], by simp [e0, hA], by simp [e1, hA'], by simp [e12], by simp⟩
      · have hne : xs ≠ ys := fun e => by rw [h1, h2] at e; simp [hxy] at e
        simp (maxSteps:=9^7)(disch:=first|assumption|((try simp only[nX]);omega)|simp) [g1, g0, e0, e1, e12, e13, hlt, hlt', hA, hA', g3, g4, k1, k2, hxy, hne]
end
/-- Two rows of the same bytes. -/
def allEq : List Value → List Value → Bool
  | [], [] => true
  | .int .u8 (.ofNat a) :: l, .int .u8 (.ofNat b) :: l' => bif Nat.beq a b then (bif Nat.blt a 256 then allEq l l' else false) else false
  | _, _ => false
theorem allEq_ok : ∀ {l l' : List Value}, allEq l l' = true → ∃ B : By, l = B.map u8 ∧ l' = B.map u8 := by
  intro l
  induction l with
  | nil =>
    intro l' h
    cases l' with
    | nil => exact ⟨[], rfl, rfl⟩
    | cons a l' => cases h
  | cons x l ih =>
    intro l' h
    unfold allEq at h
    split at h
    · rename_i h2; cases h2
    · rename_i a l1 b l2 h1
      cases h1
      rw [beq_dec, blt_dec] at h
      by_cases c : a = b
      · by_cases c2 : a < 256
        · simp only [c, decide_true, cond_true] at h
          subst c
          simp only [c2, decide_true, cond_true] at h
          obtain ⟨B, h3, h4⟩ := ih h
          have e : Value.int .u8 (.ofNat a) = u8 (BitVec.ofNat 8 a) := by
            simp only [u8, BitVec.toNat_ofNat]
            rw [Nat.mod_eq_of_lt c2]
            rfl
          exact ⟨BitVec.ofNat 8 a :: B, by rw [h3, e]; rfl, by rw [h4, e]; rfl⟩
        · subst c
          simp [c2] at h
      · simp [c] at h
    · cases h
def rdS (h : Hp) : Value → Option (List Value)
  | .slice none 0 _ => some []
  | .slice (some ⟨b, o, none⟩) n _ => h.rdn b o n
  | .slice (some ⟨b, o, some 1⟩) n _ => h.rdn b o n
  | _ => none
def gEq (args : List Value) (h : Hp) : Option Value := match args with
  | [x, y] => match rdS h x, rdS h y with
    | some l, some l' => bif Nat.blt l.length 1000000 then (bif allEq l l' then some (.bool true) else none) else none
    | _, _ => none
  | _ => none
theorem rdn_len {h : Hp} {b o n : Nat} {B : By} (hx : h.rdn b o n = some (B.map u8)) : B.length = n := by
  unfold Hp.rdn at hx
  obtain ⟨l, h1, h2⟩ := Option.bind_eq_some_iff.1 hx
  split at h2
  · have := congrArg List.length (Option.some.inj h2)
    simp at this
    omega
  · cases h2
theorem rdS_ok {h : Hp} {x : Value} {B : By} (hx : rdS h x = some (B.map u8)) : ∃ a c, x = .slice a B.length c ∧ Sees encB h a B := by
  unfold rdS at hx
  split at hx
  · rename_i c
    have : B = [] := by simpa using hx.symm
    subst this
    exact ⟨none, c, rfl, .nul⟩
  · rename_i b o n c
    have hn := rdn_len hx
    subst hn
    exact ⟨_, c, rfl, fun hA => (by cases hA), fun A hA => by cases hA; rw [encB_sz, Nat.mul_one, encB_all]; exact hx, fun A hA => by cases hA; exact .inl rfl⟩
  · rename_i b o n c
    have hn := rdn_len hx
    subst hn
    exact ⟨_, c, rfl, fun hA => (by cases hA), fun A hA => by cases hA; rw [encB_sz, Nat.mul_one, encB_all]; exact hx, fun A hA => by cases hA; exact .inr rfl⟩
  · cases hx
theorem gEq_ok {T : Nat → Option Dx.Fn} (hT : T n_8m = some (.code f_8m)) (args : List Value) (h : Hp) (v : Value) (hv : gEq args h = some v) : WC T n_8m args h fun v' h' => v' = v ∧ h' = h := by
  unfold gEq at hv
  split at hv
  · rename_i x y
    split at hv
    · rename_i l l' h1 h2
      rw [blt_dec] at hv
      by_cases c : l.length < 1000000
      · simp only [c, decide_true, cond_true] at hv
        cases he : allEq l l' with
        | false => rw [he] at hv; cases hv
        | true =>
          rw [he] at hv
          cases hv
          obtain ⟨B, rfl, rfl⟩ := allEq_ok he
          obtain ⟨a, c1, rfl, s1⟩ := rdS_ok h1
          obtain ⟨a', c2, rfl, s2⟩ := rdS_ok h2
          have := equal_b hT (c := c1) (c' := c2) s1 s2 (by simp at c; omega)
          simpa using this
      · simp [c] at hv
    · cases hv
  · cases hv
end Go.Proofs.YtoiiphcbkejliaaGreat.Cd

/- The code of the functions that are reached, as the interpreter reads it. -/
set_option maxRecDepth 1000000
set_option linter.defProp false
namespace Go.Proofs.YtoiiphcbkejliaaGreat.Cd
open Go Go.Dx
def T0 : Nat → Option Dx.Fn := ins n_87 (.code f_87) <| ins n_86 (.code f_86) <| ins n_4s (.code f_4s) <| ins n_85 (.code f_85) <| ins n_84 (.code f_84) <| ins n_8c (.code f_8c) <| ins n_8b (.code f_8b) <| ins n_88 (.code f_88) <| ins n_9p (.code f_9p) <| ins n_9q (.code f_9q) <| ins n_9r (.code f_9r) <| ins n_2x (.code f_2x) <| ins n_2s (.code f_2s) <| ins n_0l (.code f_0l) <| ins n_89 (.code f_89) <| ins n_8a (.code f_8a) <| ins n_35 (.code f_35) <| ins n_3v (.code f_3v) <| ins n_9t (.code f_9t) <| ins n_9u (.code f_9u) <| ins n_2v (.code f_2v) <| ins n_2u (.code f_2u) <| ins n_2t (.code f_2t) <| ins n_9s (.code f_9s) <| ins n_9y (.code f_9y) <| ins n_8e (.code f_8e) <| ins n_3t (.code f_3t) <| ins n_3r (.code f_3r) <| ins n_13 (.code f_13) <| ins n_1a (.code f_1a) <| ins n_0v (.code f_0v) <| ins n_3s (.code f_3s) <| ins n_2w (.code f_2w) <| ins n_3u (.code f_3u) <| ins n_2y (.code f_2y) <| ins n_0z (.code f_0z) <| ins n_34 (.code f_34) <| ins n_0y (.code f_0y) <| ins n_0n (.code f_0n) <| ins n_7q (.code f_7q) <| ins n_7u (.code f_7u) <| ins n_8m (.code f_8m) <| ins n_0g (.code f_0g) <| ins n_8l (.code f_8l) <| ins n_0h (.code f_0h) <| ins n_7p (.code f_7p) <| ins n_061 (.code f_061) <| ins n_7t (.code f_7t) <| ins n_3m (.code f_3m) <| ins n_9e (.code f_9e) <| ins n_9v (.code f_9v) <| ins n_2r (.code f_2r) <| ins n_2k (.code f_2k) <| ins n_1n (.code f_1n) <| ins n_3w (.code f_3w) <| ins n_30 (.code f_30) <| ins n_31 (.code f_31) <| ins n_33 (.code f_33) <| ins n_0p (.code f_0p) <| ins n_1c (.code f_1c) <| ins n_0m (.code f_0m) <| ins n_7x (.code f_7x) <| ins n_0x (.code f_0x) <| ins n_7w (.code f_7w) <| ins n_8k (.code f_8k) <| ins n_80 (.code f_80) <| ins n_2c (.code f_2c) <| ins n_071 (.code f_071) <| ins n_81 (.code f_81) <| ins n_0i (.code f_0i) <| ins n_1d (.code f_1d) <| ins n_1g (.code f_1g) <| ins n_1p (.code f_1p) <| ins n_1m (.code f_1m) <| ins n_1l (.code f_1l) <| ins n_0k (.code f_0k) <| ins n_1b (.code f_1b) <| ins n_82 (.code f_82) <| ins n_83 (.code f_83) <| ins n_10 (.code f_10) <| ins n_0c (.code f_0c) <| ins n_09 (.code f_09) <| ins n_0b (.code f_0b) <| ins n_11 (.code f_11) <| ins n_7s (.code f_7s) <| ins n_7r (.code f_7r) <| ins n_2z (.code f_2z) <| ins n_001 (.code f_001) <| ins n_0r (.code f_0r) <| ins n_3i (.code f_3i) <| ins n_8f (.code f_8f) <| ins n_12 (.code f_12) <| ins n_7z (.code f_7z) <| ins n_8d (.code f_8d) <| ins n_0c1 (.code f_0c1) <| ins n_0q (.code f_0q) <| ins n_19 (.code f_19) <| ins n_1o (.code f_1o) <| ins n_0j (.code f_0j) <| ins n_20 (.code f_20) <| ins n_1u (.code f_1u) <| ins n_1z (.code f_1z) <| ins n_1q (.code f_1q) <| ins n_1x (.code f_1x) <| ins n_1f (.code f_1f) <| ins n_1y (.code f_1y) <| ins n_1t (.code f_1t) <| ins n_1s (.code f_1s) <| ins n_0b1 (.code f_0b1) <| ins n_1h (.code f_1h) <| ins n_9m (.code f_9m) <| ins n_0a (.code f_0a) <| ins n_7y (.code f_7y) <| ins n_3e (.code f_3e) <| ins n_32 (.code f_32) <| ins n_3k (.code f_3k) <| ins n_0s (.code f_0s) <| ins n_8q (.code f_8q) <| ins n_8j (.code f_8j) <| ins n_9f (.code f_9f) <| ins n_9w (.code f_9w) <| ins n_2l (.code f_2l) <| ins n_2d (.code f_2d) <| ins n_1k (.code f_1k) <| ins n_18 (.code f_18) <| ins n_0w (.code f_0w) <| ins n_0t (.code f_0t) <| ins n_2b (.code f_2b) <| ins n_24 (.code f_24) <| ins n_21 (.code f_21) <| ins n_04 (.code f_04) <| ins n_0m1 (.code f_0m1) <| ins n_1w (.code f_1w) <| ins n_1v (.code f_1v) <| ins n_0o (.code f_0o) <| ins n_1r (.code f_1r) <| ins n_1e (.code f_1e) <| ins n_1i (.code f_1i) <| ins n_9l (.code f_9l) <| ins n_9o (.code f_9o) <| ins n_9n (.code f_9n) <| ins n_00 (.code f_00) <| ins n_02 (.code f_02) <| ins n_01 (.code f_01) <| ins n_0e (.code f_0e) <| ins n_0f (.code f_0f) <| ins n_0d (.code f_0d) <| ins n_9k (.code f_9k) <| ins n_40 (.code f_40) <| ins n_3f (.code f_3f) <| ins n_39 (.code f_39) <| ins n_9g (.code f_9g) <| ins n_9x (.code f_9x) <| ins n_2m (.code f_2m) <| ins n_2e (.code f_2e) <| ins n_9j (.code f_9j) <| ins n_021 (.code f_021) <| ins n_2q (.code f_2q) <| ins n_2j (.code f_2j) <| ins n_3j (.code f_3j) <| ins n_9h (.code f_9h) <| ins n_9z (.code f_9z) <| ins n_2n (.code f_2n) <| ins n_2f (.code f_2f) <| ins n_23 (.code f_23) <| ins n_28 (.code f_28) <| ins n_27 (.code f_27) <| ins n_22 (.code f_22) <| ins n_29 (.code f_29) <| ins n_25 (.code f_25) <| ins n_26 (.code f_26) <| ins n_0k1 (.code f_0k1) <| ins n_0i1 (.code f_0i1) <| ins n_0l1 (.code f_0l1) <| ins n_7v (.code f_7v) <| ins n_0u (.code f_0u) <| ins n_1j (.code f_1j) <| ins n_03 (.code f_03) <| ins n_07 (.code f_07) <| ins n_08 (.code f_08) <| ins n_05 (.code f_05) <| ins n_0j1 (.code f_0j1) <| ins n_0h1 (.code f_0h1) <| ins n_3x (.code f_3x) <| ins n_3z (.code f_3z) <| ins n_3h (.code f_3h) <| ins n_3g (.code f_3g) <| ins n_8i (.code f_8i) <| ins n_3a (.code f_3a) <| ins n_38 (.code f_38) <| ins n_37 (.code f_37) <| ins n_081 (.code f_081) <| ins n_2g (.code f_2g) <| ins n_031 (.code f_031) <| ins n_2a (.code f_2a) <| ins n_3l (.code f_3l) <| ins n_9i (.code f_9i) <| ins n_011 (.code f_011) <| ins n_2o (.code f_2o) <| ins n_2h (.code f_2h) <| ins n_06 (.code f_06) <| ins n_0g1 (.code f_0g1) <| ins n_0f1 (.code f_0f1) <| ins n_44 (.code f_44) <| ins n_3b (.code f_3b) <| ins n_8h (.code f_8h) <| ins n_3y (.code f_3y) <| ins n_45 (.code f_45) <| ins n_36 (.code f_36) <| ins n_8r (.code f_8r) <| ins n_42 (.code f_42) <| ins n_41 (.code f_41) <| ins n_8p (.code f_8p) <| ins n_3c (.code f_3c) <| ins n_0a1 (.code f_0a1) <| ins n_8s (.code f_8s) <| ins n_091 (.code f_091) <| ins n_14 (.code f_14) <| ins n_2p (.code f_2p) <| ins n_2i (.code f_2i) <| ins n_3n (.code f_3n) <| ins n_8o (.code f_8o) <| ins n_8t (.code f_8t) <| ins n_8g (.code f_8g) <| ins n_43 (.code f_43) <| ins n_3d (.code f_3d) <| ins n_0d1 (.code f_0d1) <| ins n_9a (.code f_9a) <| ins n_17 (.code f_17) <| ins n_3p (.code f_3p) <| ins n_96 (.code f_96) <| ins n_3o (.code f_3o) <| ins n_8n (.code f_8n) <| ins n_0e1 (.code f_0e1) <| ins n_8x (.code f_8x) <| ins n_9c (.code f_9c) <| ins n_8y (.code f_8y) <| ins n_8w (.code f_8w) <| ins n_8u (.code f_8u) <| ins n_8v (.code f_8v) <| ins n_97 (.code f_97) <| ins n_93 (.code f_93) <| ins n_15 (.code f_15) <| ins n_94 (.code f_94) <| ins n_95 (.code f_95) <| ins n_3q (.code f_3q) <| ins n_98 (.code f_98) <| ins n_99 (.code f_99) <| ins n_91 (.code f_91) <| ins n_9d (.code f_9d) <| ins n_8z (.code f_8z) <| ins n_90 (.code f_90) <| ins n_16 (.code f_16) <| ins n_9b (.code f_9b) <| ins n_92 (.code f_92) <| fun _ => none
theorem tab0 : TabOK Tryz.prog (compAny Tryz.prog) T0 :=
  tab_ins h_87 <|
  tab_ins h_86 <|
  tab_ins h_4s <|
  tab_ins h_85 <|
  tab_ins h_84 <|
  tab_ins h_8c <|
  tab_ins h_8b <|
  tab_ins h_88 <|
  tab_ins h_9p <|
  tab_ins h_9q <|
  tab_ins h_9r <|
  tab_ins h_2x <|
  tab_ins h_2s <|
  tab_ins h_0l <|
  tab_ins h_89 <|
  tab_ins h_8a <|
  tab_ins h_35 <|
  tab_ins h_3v <|
  tab_ins h_9t <|
  tab_ins h_9u <|
  tab_ins h_2v <|
  tab_ins h_2u <|
  tab_ins h_2t <|
  tab_ins h_9s <|
  tab_ins h_9y <|
  tab_ins h_8e <|
  tab_ins h_3t <|
  tab_ins h_3r <|
  tab_ins h_13 <|
  tab_ins h_1a <|
  tab_ins h_0v <|
  tab_ins h_3s <|
  tab_ins h_2w <|
  tab_ins h_3u <|
  tab_ins h_2y <|
  tab_ins h_0z <|
  tab_ins h_34 <|
  tab_ins h_0y <|
  tab_ins h_0n <|
  tab_ins h_7q <|
  tab_ins h_7u <|
  tab_ins h_8m <|
  tab_ins h_0g <|
  tab_ins h_8l <|
  tab_ins h_0h <|
  tab_ins h_7p <|
  tab_ins h_061 <|
  tab_ins h_7t <|
  tab_ins h_3m <|
  tab_ins h_9e <|
  tab_ins h_9v <|
  tab_ins h_2r <|
  tab_ins h_2k <|
  tab_ins h_1n <|
  tab_ins h_3w <|
  tab_ins h_30 <|
  tab_ins h_31 <|
  tab_ins h_33 <|
  tab_ins h_0p <|
  tab_ins h_1c <|
  tab_ins h_0m <|
  tab_ins h_7x <|
  tab_ins h_0x <|
  tab_ins h_7w <|
  tab_ins h_8k <|
  tab_ins h_80 <|
  tab_ins h_2c <|
  tab_ins h_071 <|
  tab_ins h_81 <|
  tab_ins h_0i <|
  tab_ins h_1d <|
  tab_ins h_1g <|
  tab_ins h_1p <|
  tab_ins h_1m <|
  tab_ins h_1l <|
  tab_ins h_0k <|
  tab_ins h_1b <|
  tab_ins h_82 <|
  tab_ins h_83 <|
  tab_ins h_10 <|
  tab_ins h_0c <|
  tab_ins h_09 <|
  tab_ins h_0b <|
  tab_ins h_11 <|
  tab_ins h_7s <|
  tab_ins h_7r <|
  tab_ins h_2z <|
  tab_ins h_001 <|
  tab_ins h_0r <|
  tab_ins h_3i <|
  tab_ins h_8f <|
  tab_ins h_12 <|
  tab_ins h_7z <|
  tab_ins h_8d <|
  tab_ins h_0c1 <|
  tab_ins h_0q <|
  tab_ins h_19 <|
  tab_ins h_1o <|
  tab_ins h_0j <|
  tab_ins h_20 <|
  tab_ins h_1u <|
  tab_ins h_1z <|
  tab_ins h_1q <|
  tab_ins h_1x <|
  tab_ins h_1f <|
  tab_ins h_1y <|
  tab_ins h_1t <|
  tab_ins h_1s <|
  tab_ins h_0b1 <|
  tab_ins h_1h <|
  tab_ins h_9m <|
  tab_ins h_0a <|
  tab_ins h_7y <|
  tab_ins h_3e <|
  tab_ins h_32 <|
  tab_ins h_3k <|
  tab_ins h_0s <|
  tab_ins h_8q <|
  tab_ins h_8j <|
  tab_ins h_9f <|
  tab_ins h_9w <|
  tab_ins h_2l <|
  tab_ins h_2d <|
  tab_ins h_1k <|
  tab_ins h_18 <|
  tab_ins h_0w <|
  tab_ins h_0t <|
  tab_ins h_2b <|
  tab_ins h_24 <|
  tab_ins h_21 <|
  tab_ins h_04 <|
  tab_ins h_0m1 <|
  tab_ins h_1w <|
  tab_ins h_1v <|
  tab_ins h_0o <|
  tab_ins h_1r <|
  tab_ins h_1e <|
  tab_ins h_1i <|
  tab_ins h_9l <|
  tab_ins h_9o <|
  tab_ins h_9n <|
  tab_ins h_00 <|
  tab_ins h_02 <|
  tab_ins h_01 <|
  tab_ins h_0e <|
  tab_ins h_0f <|
  tab_ins h_0d <|
  tab_ins h_9k <|
  tab_ins h_40 <|
  tab_ins h_3f <|
  tab_ins h_39 <|
  tab_ins h_9g <|
  tab_ins h_9x <|
  tab_ins h_2m <|
  tab_ins h_2e <|
  tab_ins h_9j <|
  tab_ins h_021 <|
  tab_ins h_2q <|
  tab_ins h_2j <|
  tab_ins h_3j <|
  tab_ins h_9h <|
  tab_ins h_9z <|
  tab_ins h_2n <|
  tab_ins h_2f <|
  tab_ins h_23 <|
  tab_ins h_28 <|
  tab_ins h_27 <|
  tab_ins h_22 <|
  tab_ins h_29 <|
  tab_ins h_25 <|
  tab_ins h_26 <|
  tab_ins h_0k1 <|
  tab_ins h_0i1 <|
  tab_ins h_0l1 <|
  tab_ins h_7v <|
  tab_ins h_0u <|
  tab_ins h_1j <|
  tab_ins h_03 <|
  tab_ins h_07 <|
  tab_ins h_08 <|
  tab_ins h_05 <|
  tab_ins h_0j1 <|
  tab_ins h_0h1 <|
  tab_ins h_3x <|
  tab_ins h_3z <|
  tab_ins h_3h <|
  tab_ins h_3g <|
  tab_ins h_8i <|
  tab_ins h_3a <|
  tab_ins h_38 <|
  tab_ins h_37 <|
  tab_ins h_081 <|
  tab_ins h_2g <|
  tab_ins h_031 <|
  tab_ins h_2a <|
  tab_ins h_3l <|
  tab_ins h_9i <|
  tab_ins h_011 <|
  tab_ins h_2o <|
  tab_ins h_2h <|
  tab_ins h_06 <|
  tab_ins h_0g1 <|
  tab_ins h_0f1 <|
  tab_ins h_44 <|
  tab_ins h_3b <|
  tab_ins h_8h <|
  tab_ins h_3y <|
  tab_ins h_45 <|
  tab_ins h_36 <|
  tab_ins h_8r <|
  tab_ins h_42 <|
  tab_ins h_41 <|
  tab_ins h_8p <|
  tab_ins h_3c <|
  tab_ins h_0a1 <|
  tab_ins h_8s <|
  tab_ins h_091 <|
  tab_ins h_14 <|
  tab_ins h_2p <|
  tab_ins h_2i <|
  tab_ins h_3n <|
  tab_ins h_8o <|
  tab_ins h_8t <|
  tab_ins h_8g <|
  tab_ins h_43 <|
  tab_ins h_3d <|
  tab_ins h_0d1 <|
  tab_ins h_9a <|
  tab_ins h_17 <|
  tab_ins h_3p <|
  tab_ins h_96 <|
  tab_ins h_3o <|
  tab_ins h_8n <|
  tab_ins h_0e1 <|
  tab_ins h_8x <|
  tab_ins h_9c <|
  tab_ins h_8y <|
  tab_ins h_8w <|
  tab_ins h_8u <|
  tab_ins h_8v <|
  tab_ins h_97 <|
  tab_ins h_93 <|
  tab_ins h_15 <|
  tab_ins h_94 <|
  tab_ins h_95 <|
  tab_ins h_3q <|
  tab_ins h_98 <|
  tab_ins h_99 <|
  tab_ins h_91 <|
  tab_ins h_9d <|
  tab_ins h_8z <|
  tab_ins h_90 <|
  tab_ins h_16 <|
  tab_ins h_9b <|
  tab_ins h_92 <|
  tab_none
def T1 : Nat → Option Dx.Fn := ins n_8m (.spec fun a h => (gEq a h).map fun v => (v, h)) T0
theorem tab1 : TabOK Tryz.prog (compAny Tryz.prog) T1 := tab_spec (spec_pure tab0 (gEq_ok rfl)) tab0
def Tl : List (Nat × Dx.Fx) := (n_8m, .pure gEq) :: [(n_87, .code f_87), (n_86, .code f_86), (n_4s, .code f_4s), (n_85, .code f_85), (n_84, .code f_84), (n_8c, .code f_8c), (n_8b, .code f_8b), (n_88, .code f_88), (n_9p, .code f_9p), (n_9q, .code f_9q), (n_9r, .code f_9r), (n_2x, .code f_2x), (n_2s, .code f_2s), (n_0l, .code f_0l), (n_89, .code f_89), (n_8a, .code f_8a), (n_35, .code f_35), (n_3v, .code f_3v), (n_9t, .code f_9t), (n_9u, .code f_9u), (n_2v, .code f_2v), (n_2u, .code f_2u), (n_2t, .code f_2t), (n_9s, .code f_9s), (n_9y, .code f_9y), (n_8e, .code f_8e), (n_3t, .code f_3t), (n_3r, .code f_3r), (n_13, .code f_13), (n_1a, .code f_1a), (n_0v, .code f_0v), (n_3s, .code f_3s), (n_2w, .code f_2w), (n_3u, .code f_3u), (n_2y, .code f_2y), (n_0z, .code f_0z), (n_34, .code f_34), (n_0y, .code f_0y), (n_0n, .code f_0n), (n_7q, .code f_7q), (n_7u, .code f_7u), (n_0g, .code f_0g), (n_8l, .code f_8l), (n_0h, .code f_0h), (n_7p, .code f_7p), (n_061, .code f_061), (n_7t, .code f_7t), (n_3m, .code f_3m), (n_9e, .code f_9e), (n_9v, .code f_9v), (n_2r, .code f_2r), (n_2k, .code f_2k), (n_1n, .code f_1n), (n_3w, .code f_3w), (n_30, .code f_30), (n_31, .code f_31), (n_33, .code f_33), (n_0p, .code f_0p), (n_1c, .code f_1c), (n_0m, .code f_0m), (n_7x, .code f_7x), (n_0x, .code f_0x), (n_7w, .code f_7w), (n_8k, .code f_8k), (n_80, .code f_80), (n_2c, .code f_2c), (n_071, .code f_071), (n_81, .code f_81), (n_0i, .code f_0i), (n_1d, .code f_1d), (n_1g, .code f_1g), (n_1p, .code f_1p), (n_1m, .code f_1m), (n_1l, .code f_1l), (n_0k, .code f_0k), (n_1b, .code f_1b), (n_82, .code f_82), (n_83, .code f_83), (n_10, .code f_10), (n_0c, .code f_0c), (n_09, .code f_09), (n_0b, .code f_0b), (n_11, .code f_11), (n_7s, .code f_7s), (n_7r, .code f_7r), (n_2z, .code f_2z), (n_001, .code f_001), (n_0r, .code f_0r), (n_3i, .code f_3i), (n_8f, .code f_8f), (n_12, .code f_12), (n_7z, .code f_7z), (n_8d, .code f_8d), (n_0c1, .code f_0c1), (n_0q, .code f_0q), (n_19, .code f_19), (n_1o, .code f_1o), (n_0j, .code f_0j), (n_20, .code f_20), (n_1u, .code f_1u), (n_1z, .code f_1z), (n_1q, .code f_1q), (n_1x, .code f_1x), (n_1f, .code f_1f), (n_1y, .code f_1y), (n_1t, .code f_1t), (n_1s, .code f_1s), (n_0b1, .code f_0b1), (n_1h, .code f_1h), (n_9m, .code f_9m), (n_0a, .code f_0a), (n_7y, .code f_7y), (n_3e, .code f_3e), (n_32, .code f_32), (n_3k, .code f_3k), (n_0s, .code f_0s), (n_8q, .code f_8q), (n_8j, .code f_8j), (n_9f, .code f_9f), (n_9w, .code f_9w), (n_2l, .code f_2l), (n_2d, .code f_2d), (n_1k, .code f_1k), (n_18, .code f_18), (n_0w, .code f_0w), (n_0t, .code f_0t), (n_2b, .code f_2b), (n_24, .code f_24), (n_21, .code f_21), (n_04, .code f_04), (n_0m1, .code f_0m1), (n_1w, .code f_1w), (n_1v, .code f_1v), (n_0o, .code f_0o), (n_1r, .code f_1r), (n_1e, .code f_1e), (n_1i, .code f_1i), (n_9l, .code f_9l), (n_9o, .code f_9o), (n_9n, .code f_9n), (n_00, .code f_00), (n_02, .code f_02), (n_01, .code f_01), (n_0e, .code f_0e), (n_0f, .code f_0f), (n_0d, .code f_0d), (n_9k, .code f_9k), (n_40, .code f_40), (n_3f, .code f_3f), (n_39, .code f_39), (n_9g, .code f_9g), (n_9x, .code f_9x), (n_2m, .code f_2m), (n_2e, .code f_2e), (n_9j, .code f_9j), (n_021, .code f_021), (n_2q, .code f_2q), (n_2j, .code f_2j), (n_3j, .code f_3j), (n_9h, .code f_9h), (n_9z, .code f_9z), (n_2n, .code f_2n), (n_2f, .code f_2f), (n_23, .code f_23), (n_28, .code f_28), (n_27, .code f_27), (n_22, .code f_22), (n_29, .code f_29), (n_25, .code f_25), (n_26, .code f_26), (n_0k1, .code f_0k1), (n_0i1, .code f_0i1), (n_0l1, .code f_0l1), (n_7v, .code f_7v), (n_0u, .code f_0u), (n_1j, .code f_1j), (n_03, .code f_03), (n_07, .code f_07), (n_08, .code f_08), (n_05, .code f_05), (n_0j1, .code f_0j1), (n_0h1, .code f_0h1), (n_3x, .code f_3x), (n_3z, .code f_3z), (n_3h, .code f_3h), (n_3g, .code f_3g), (n_8i, .code f_8i), (n_3a, .code f_3a), (n_38, .code f_38), (n_37, .code f_37), (n_081, .code f_081), (n_2g, .code f_2g), (n_031, .code f_031), (n_2a, .code f_2a), (n_3l, .code f_3l), (n_9i, .code f_9i), (n_011, .code f_011), (n_2o, .code f_2o), (n_2h, .code f_2h), (n_06, .code f_06), (n_0g1, .code f_0g1), (n_0f1, .code f_0f1), (n_44, .code f_44), (n_3b, .code f_3b), (n_8h, .code f_8h), (n_3y, .code f_3y), (n_45, .code f_45), (n_36, .code f_36), (n_8r, .code f_8r), (n_42, .code f_42), (n_41, .code f_41), (n_8p, .code f_8p), (n_3c, .code f_3c), (n_0a1, .code f_0a1), (n_8s, .code f_8s), (n_091, .code f_091), (n_14, .code f_14), (n_2p, .code f_2p), (n_2i, .code f_2i), (n_3n, .code f_3n), (n_8o, .code f_8o), (n_8t, .code f_8t), (n_8g, .code f_8g), (n_43, .code f_43), (n_3d, .code f_3d), (n_0d1, .code f_0d1), (n_9a, .code f_9a), (n_17, .code f_17), (n_3p, .code f_3p), (n_96, .code f_96), (n_3o, .code f_3o), (n_8n, .code f_8n), (n_0e1, .code f_0e1), (n_8x, .code f_8x), (n_9c, .code f_9c), (n_8y, .code f_8y), (n_8w, .code f_8w), (n_8u, .code f_8u), (n_8v, .code f_8v), (n_97, .code f_97), (n_93, .code f_93), (n_15, .code f_15), (n_94, .code f_94), (n_95, .code f_95), (n_3q, .code f_3q), (n_98, .code f_98), (n_99, .code f_99), (n_91, .code f_91), (n_9d, .code f_9d), (n_8z, .code f_8z), (n_90, .code f_90), (n_16, .code f_16), (n_9b, .code f_9b), (n_92, .code f_92)]
theorem al1 : ∀ p ∈ Tl, Dx.FxOK T1 p.1 p.2 := al_pure rfl <| al_cons (f := n_87) rfl <| al_cons (f := n_86) rfl <| al_cons (f := n_4s) rfl <| al_cons (f := n_85) rfl <| al_cons (f := n_84) rfl <| al_cons (f := n_8c) rfl <| al_cons (f := n_8b) rfl <| al_cons (f := n_88) rfl <| al_cons (f := n_9p) rfl <| al_cons (f := n_9q) rfl <| al_cons (f := n_9r) rfl <| al_cons (f := n_2x) rfl <| al_cons (f := n_2s) rfl <| al_cons (f := n_0l) rfl <| al_cons (f := n_89) rfl <| al_cons (f := n_8a) rfl <| al_cons (f := n_35) rfl <| al_cons (f := n_3v) rfl <| al_cons (f := n_9t) rfl <| al_cons (f := n_9u) rfl <| al_cons (f := n_2v) rfl <| al_cons (f := n_2u) rfl <| al_cons (f := n_2t) rfl <| al_cons (f := n_9s) rfl <| al_cons (f := n_9y) rfl <| al_cons (f := n_8e) rfl <| al_cons (f := n_3t) rfl <| al_cons (f := n_3r) rfl <| al_cons (f := n_13) rfl <| al_cons (f := n_1a) rfl <| al_cons (f := n_0v) rfl <| al_cons (f := n_3s) rfl <| al_cons (f := n_2w) rfl <| al_cons (f := n_3u) rfl <| al_cons (f := n_2y) rfl <| al_cons (f := n_0z) rfl <| al_cons (f := n_34) rfl <| al_cons (f := n_0y) rfl <| al_cons (f := n_0n) rfl <| al_cons (f := n_7q) rfl <| al_cons (f := n_7u) rfl <| al_cons (f := n_0g) rfl <| al_cons (f := n_8l) rfl <| al_cons (f := n_0h) rfl <| al_cons (f := n_7p) rfl <| al_cons (f := n_061) rfl <| al_cons (f := n_7t) rfl <| al_cons (f := n_3m) rfl <| al_cons (f := n_9e) rfl <| al_cons (f := n_9v) rfl <| al_cons (f := n_2r) rfl <| al_cons (f := n_2k) rfl <| al_cons (f := n_1n) rfl <| al_cons (f := n_3w) rfl <| al_cons (f := n_30) rfl <| al_cons (f := n_31) rfl <| al_cons (f := n_33) rfl <| al_cons (f := n_0p) rfl <| al_cons (f := n_1c) rfl <| al_cons (f := n_0m) rfl <| al_cons (f := n_7x) rfl <| al_cons (f := n_0x) rfl <| al_cons (f := n_7w) rfl <| al_cons (f := n_8k) rfl <| al_cons (f := n_80) rfl <| al_cons (f := n_2c) rfl <| al_cons (f := n_071) rfl <| al_cons (f := n_81) rfl <| al_cons (f := n_0i) rfl <| al_cons (f := n_1d) rfl <| al_cons (f := n_1g) rfl <| al_cons (f := n_1p) rfl <| al_cons (f := n_1m) rfl <| al_cons (f := n_1l) rfl <| al_cons (f := n_0k) rfl <| al_cons (f := n_1b) rfl <| al_cons (f := n_82) rfl <| al_cons (f := n_83) rfl <| al_cons (f := n_10) rfl <| al_cons (f := n_0c) rfl <| al_cons (f := n_09) rfl <| al_cons (f := n_0b) rfl <| al_cons (f := n_11) rfl <| al_cons (f := n_7s) rfl <| al_cons (f := n_7r) rfl <| al_cons (f := n_2z) rfl <| al_cons (f := n_001) rfl <| al_cons (f := n_0r) rfl <| al_cons (f := n_3i) rfl <| al_cons (f := n_8f) rfl <| al_cons (f := n_12) rfl <| al_cons (f := n_7z) rfl <| al_cons (f := n_8d) rfl <| al_cons (f := n_0c1) rfl <| al_cons (f := n_0q) rfl <| al_cons (f := n_19) rfl <| al_cons (f := n_1o) rfl <| al_cons (f := n_0j) rfl <| al_cons (f := n_20) rfl <| al_cons (f := n_1u) rfl <| al_cons (f := n_1z) rfl <| al_cons (f := n_1q) rfl <| al_cons (f := n_1x) rfl <| al_cons (f := n_1f) rfl <| al_cons (f := n_1y) rfl <| al_cons (f := n_1t) rfl <| al_cons (f := n_1s) rfl <| al_cons (f := n_0b1) rfl <| al_cons (f := n_1h) rfl <| al_cons (f := n_9m) rfl <| al_cons (f := n_0a) rfl <| al_cons (f := n_7y) rfl <| al_cons (f := n_3e) rfl <| al_cons (f := n_32) rfl <| al_cons (f := n_3k) rfl <| al_cons (f := n_0s) rfl <| al_cons (f := n_8q) rfl <| al_cons (f := n_8j) rfl <| al_cons (f := n_9f) rfl <| al_cons (f := n_9w) rfl <| al_cons (f := n_2l) rfl <| al_cons (f := n_2d) rfl <| al_cons (f := n_1k) rfl <| al_cons (f := n_18) rfl <| al_cons (f := n_0w) rfl <| al_cons (f := n_0t) rfl <| al_cons (f := n_2b) rfl <| al_cons (f := n_24) rfl <| al_cons (f := n_21) rfl <| al_cons (f := n_04) rfl <| al_cons (f := n_0m1) rfl <| al_cons (f := n_1w) rfl <| al_cons (f := n_1v) rfl <| al_cons (f := n_0o) rfl <| al_cons (f := n_1r) rfl <| al_cons (f := n_1e) rfl <| al_cons (f := n_1i) rfl <| al_cons (f := n_9l) rfl <| al_cons (f := n_9o) rfl <| al_cons (f := n_9n) rfl <| al_cons (f := n_00) rfl <| al_cons (f := n_02) rfl <| al_cons (f := n_01) rfl <| al_cons (f := n_0e) rfl <| al_cons (f := n_0f) rfl <| al_cons (f := n_0d) rfl <| al_cons (f := n_9k) rfl <| al_cons (f := n_40) rfl <| al_cons (f := n_3f) rfl <| al_cons (f := n_39) rfl <| al_cons (f := n_9g) rfl <| al_cons (f := n_9x) rfl <| al_cons (f := n_2m) rfl <| al_cons (f := n_2e) rfl <| al_cons (f := n_9j) rfl <| al_cons (f := n_021) rfl <| al_cons (f := n_2q) rfl <| al_cons (f := n_2j) rfl <| al_cons (f := n_3j) rfl <| al_cons (f := n_9h) rfl <| al_cons (f := n_9z) rfl <| al_cons (f := n_2n) rfl <| al_cons (f := n_2f) rfl <| al_cons (f := n_23) rfl <| al_cons (f := n_28) rfl <| al_cons (f := n_27) rfl <| al_cons (f := n_22) rfl <| al_cons (f := n_29) rfl <| al_cons (f := n_25) rfl <| al_cons (f := n_26) rfl <| al_cons (f := n_0k1) rfl <| al_cons (f := n_0i1) rfl <| al_cons (f := n_0l1) rfl <| al_cons (f := n_7v) rfl <| al_cons (f := n_0u) rfl <| al_cons (f := n_1j) rfl <| al_cons (f := n_03) rfl <| al_cons (f := n_07) rfl <| al_cons (f := n_08) rfl <| al_cons (f := n_05) rfl <| al_cons (f := n_0j1) rfl <| al_cons (f := n_0h1) rfl <| al_cons (f := n_3x) rfl <| al_cons (f := n_3z) rfl <| al_cons (f := n_3h) rfl <| al_cons (f := n_3g) rfl <| al_cons (f := n_8i) rfl <| al_cons (f := n_3a) rfl <| al_cons (f := n_38) rfl <| al_cons (f := n_37) rfl <| al_cons (f := n_081) rfl <| al_cons (f := n_2g) rfl <| al_cons (f := n_031) rfl <| al_cons (f := n_2a) rfl <| al_cons (f := n_3l) rfl <| al_cons (f := n_9i) rfl <| al_cons (f := n_011) rfl <| al_cons (f := n_2o) rfl <| al_cons (f := n_2h) rfl <| al_cons (f := n_06) rfl <| al_cons (f := n_0g1) rfl <| al_cons (f := n_0f1) rfl <| al_cons (f := n_44) rfl <| al_cons (f := n_3b) rfl <| al_cons (f := n_8h) rfl <| al_cons (f := n_3y) rfl <| al_cons (f := n_45) rfl <| al_cons (f := n_36) rfl <| al_cons (f := n_8r) rfl <| al_cons (f := n_42) rfl <| al_cons (f := n_41) rfl <| al_cons (f := n_8p) rfl <| al_cons (f := n_3c) rfl <| al_cons (f := n_0a1) rfl <| al_cons (f := n_8s) rfl <| al_cons (f := n_091) rfl <| al_cons (f := n_14) rfl <| al_cons (f := n_2p) rfl <| al_cons (f := n_2i) rfl <| al_cons (f := n_3n) rfl <| al_cons (f := n_8o) rfl <| al_cons (f := n_8t) rfl <| al_cons (f := n_8g) rfl <| al_cons (f := n_43) rfl <| al_cons (f := n_3d) rfl <| al_cons (f := n_0d1) rfl <| al_cons (f := n_9a) rfl <| al_cons (f := n_17) rfl <| al_cons (f := n_3p) rfl <| al_cons (f := n_96) rfl <| al_cons (f := n_3o) rfl <| al_cons (f := n_8n) rfl <| al_cons (f := n_0e1) rfl <| al_cons (f := n_8x) rfl <| al_cons (f := n_9c) rfl <| al_cons (f := n_8y) rfl <| al_cons (f := n_8w) rfl <| al_cons (f := n_8u) rfl <| al_cons (f := n_8v) rfl <| al_cons (f := n_97) rfl <| al_cons (f := n_93) rfl <| al_cons (f := n_15) rfl <| al_cons (f := n_94) rfl <| al_cons (f := n_95) rfl <| al_cons (f := n_3q) rfl <| al_cons (f := n_98) rfl <| al_cons (f := n_99) rfl <| al_cons (f := n_91) rfl <| al_cons (f := n_9d) rfl <| al_cons (f := n_8z) rfl <| al_cons (f := n_90) rfl <| al_cons (f := n_16) rfl <| al_cons (f := n_9b) rfl <| al_cons (f := n_92) rfl <| al_nil
theorem known_ok : SpecOK Tryz.prog n_4s sTrue := spec_run tab1 al1 (d := 60) (q := 9000) (by kernel_rfl)
end Go.Proofs.YtoiiphcbkejliaaGreat.Cd

/- The code of the functions that are reached, as the interpreter reads it. -/
set_option maxRecDepth 100000
set_option linter.defProp false
namespace Go.Proofs.YtoiiphcbkejliaaGreat.Cd
open Go Go.Dx
def T : Nat → Option Dx.Fn := ins n_041 (.spec sPut) <| ins n_051 (.spec sTake) <| ins n_4s (.spec sTrue) <| ins n_4k (.code f_4k) <| ins n_87 (.code f_87) <| ins n_4w (.code f_4w) <| ins n_4t (.code f_4t) <| ins n_4a (.code f_4a) <| ins n_4r (.code f_4r) <| ins n_85 (.code f_85) <| ins n_4x (.code f_4x) <| ins n_8c (.code f_8c) <| ins n_8b (.code f_8b) <| ins n_88 (.code f_88) <| ins n_4d (.code f_4d) <| ins n_89 (.code f_89) <| ins n_8a (.code f_8a) <| ins n_48 (.code f_48) <| ins n_4i (.code f_4i) <| ins n_4j (.code f_4j) <| ins n_4c (.code f_4c) <| ins n_8e (.code f_8e) <| ins n_6k (.code f_6k) <| ins n_4f (.code f_4f) <| ins n_4b (.code f_4b) <| ins n_4e (.code f_4e) <| ins n_6m (.code f_6m) <| ins n_6j (.code f_6j) <| ins n_6l (.code f_6l) <| ins n_4g (.code f_4g) <| ins n_4h (.code f_4h) <| ins n_6r (.code f_6r) <| ins n_6n (.code f_6n) <| ins n_6o (.code f_6o) <| ins n_6q (.code f_6q) <| fun _ => none
theorem T_4s : T n_4s = some (.spec sTrue) := rfl
theorem T_4k : T n_4k = some (.code f_4k) := rfl
theorem T_87 : T n_87 = some (.code f_87) := rfl
theorem T_4w : T n_4w = some (.code f_4w) := rfl
theorem T_4t : T n_4t = some (.code f_4t) := rfl
theorem T_4a : T n_4a = some (.code f_4a) := rfl
theorem T_4r : T n_4r = some (.code f_4r) := rfl
theorem T_85 : T n_85 = some (.code f_85) := rfl
theorem T_4x : T n_4x = some (.code f_4x) := rfl
theorem T_8c : T n_8c = some (.code f_8c) := rfl
theorem T_8b : T n_8b = some (.code f_8b) := rfl
theorem T_88 : T n_88 = some (.code f_88) := rfl
theorem T_4d : T n_4d = some (.code f_4d) := rfl
theorem T_89 : T n_89 = some (.code f_89) := rfl
theorem T_8a : T n_8a = some (.code f_8a) := rfl
theorem T_48 : T n_48 = some (.code f_48) := rfl
theorem T_4i : T n_4i = some (.code f_4i) := rfl
theorem T_4j : T n_4j = some (.code f_4j) := rfl
theorem T_4c : T n_4c = some (.code f_4c) := rfl
theorem T_8e : T n_8e = some (.code f_8e) := rfl
theorem T_6k : T n_6k = some (.code f_6k) := rfl
theorem T_4f : T n_4f = some (.code f_4f) := rfl
theorem T_4b : T n_4b = some (.code f_4b) := rfl
theorem T_4e : T n_4e = some (.code f_4e) := rfl
theorem T_6m : T n_6m = some (.code f_6m) := rfl
theorem T_6j : T n_6j = some (.code f_6j) := rfl
theorem T_6l : T n_6l = some (.code f_6l) := rfl
theorem T_4g : T n_4g = some (.code f_4g) := rfl
theorem T_4h : T n_4h = some (.code f_4h) := rfl
theorem T_6r : T n_6r = some (.code f_6r) := rfl
theorem T_6n : T n_6n = some (.code f_6n) := rfl
theorem T_6o : T n_6o = some (.code f_6o) := rfl
theorem T_6q : T n_6q = some (.code f_6q) := rfl
section
variable {h : Hp} {q : Value → Hp → Prop} {l : List Value}
@[simp] def g0_4k := G_unf c0_4k.eq_1
@[simp] def g1_4k := G_unf c1_4k.eq_1
@[simp] def g2_4k := G_unf c2_4k.eq_1
@[simp] def g3_4k := G_unf c3_4k.eq_1
@[simp] def g4_4k := G_unf c4_4k.eq_1
@[simp] def g5_4k := G_unf c5_4k.eq_1
@[simp] def g6_4k := G_unf c6_4k.eq_1
@[simp] def g7_4k := G_unf c7_4k.eq_1
@[simp] def g8_4k := G_unf c8_4k.eq_1
@[simp] def g9_4k := G_unf c9_4k.eq_1
@[simp] def g_4k := G_unf c_4k.eq_1
theorem w_4k : WC T n_4k l h q ↔ G T (fin [.t 4] (some []) h.next q) c_4k [] (envOf l) h := WC_G T_4k
@[simp] def g0_87 := G_unf c0_87.eq_1
@[simp] def g1_87 := G_unf c1_87.eq_1
@[simp] def g2_87 := G_unf c2_87.eq_1
@[simp] def g3_87 := G_unf c3_87.eq_1
@[simp] def g4_87 := G_unf c4_87.eq_1
@[simp] def g5_87 := G_unf c5_87.eq_1
@[simp] def g6_87 := G_unf c6_87.eq_1
@[simp] def g7_87 := G_unf c7_87.eq_1
@[simp] def g_87 := G_unf c_87.eq_1
theorem w_87 : WC T n_87 l h q ↔ G T (fin [.t 2, .t 3] (some []) h.next q) c_87 [] (envOf l) h := WC_G T_87
@[simp] def g0_4w := G_unf c0_4w.eq_1
@[simp] def g1_4w := G_unf c1_4w.eq_1
@[simp] def g2_4w := G_unf c2_4w.eq_1
@[simp] def g3_4w := G_unf c3_4w.eq_1
@[simp] def g4_4w := G_unf c4_4w.eq_1
@[simp] def g_4w := G_unf c_4w.eq_1
theorem w_4w : WC T n_4w l h q ↔ G T (fin [.t 2] (some []) h.next q) c_4w [] (envOf l) h := WC_G T_4w
@[simp] def g0_4t := G_unf c0_4t.eq_1
@[simp] def g1_4t := G_unf c1_4t.eq_1
@[simp] def g2_4t := G_unf c2_4t.eq_1
@[simp] def g3_4t := G_unf c3_4t.eq_1
@[simp] def g4_4t := G_unf c4_4t.eq_1
@[simp] def g5_4t := G_unf c5_4t.eq_1
@[simp] def g6_4t := G_unf c6_4t.eq_1
@[simp] def g7_4t := G_unf c7_4t.eq_1
@[simp] def g8_4t := G_unf c8_4t.eq_1
@[simp] def g_4t := G_unf c_4t.eq_1
theorem w_4t : WC T n_4t l h q ↔ G T (fin [.ldn 5 2] (some []) h.next q) c_4t [] (envOf l) h := WC_G T_4t
@[simp] def g0_4a := G_unf c0_4a.eq_1
@[simp] def g1_4a := G_unf c1_4a.eq_1
@[simp] def g_4a := G_unf c_4a.eq_1
theorem w_4a : WC T n_4a l h q ↔ G T (fin [.t 6] (some []) h.next q) c_4a [] (envOf l) h := WC_G T_4a
@[simp] def g0_4r := G_unf c0_4r.eq_1
@[simp] def g_4r := G_unf c_4r.eq_1
theorem w_4r : WC T n_4r l h q ↔ G T (fin [.t 2] (some []) h.next q) c_4r [] (envOf l) h := WC_G T_4r
@[simp] def g0_85 := G_unf c0_85.eq_1
@[simp] def g1_85 := G_unf c1_85.eq_1
@[simp] def g2_85 := G_unf c2_85.eq_1
@[simp] def g3_85 := G_unf c3_85.eq_1
@[simp] def g4_85 := G_unf c4_85.eq_1
@[simp] def g5_85 := G_unf c5_85.eq_1
@[simp] def g6_85 := G_unf c6_85.eq_1
@[simp] def g7_85 := G_unf c7_85.eq_1
@[simp] def g8_85 := G_unf c8_85.eq_1
@[simp] def g9_85 := G_unf c9_85.eq_1
@[simp] def g10_85 := G_unf c10_85.eq_1
@[simp] def g_85 := G_unf c_85.eq_1
theorem w_85 : WC T n_85 l h q ↔ G T (fin [.ldn 5 2, .t 3] (some []) h.next q) c_85 [] (envOf l) h := WC_G T_85
@[simp] def g0_4x := G_unf c0_4x.eq_1
@[simp] def g_4x := G_unf c_4x.eq_1
theorem w_4x : WC T n_4x l h q ↔ G T (fin [.t 4] (some []) h.next q) c_4x [] (envOf l) h := WC_G T_4x
@[simp] def g0_8c := G_unf c0_8c.eq_1
@[simp] def g_8c := G_unf c_8c.eq_1
theorem w_8c : WC T n_8c l h q ↔ G T (fin [.t 4] (some []) h.next q) c_8c [] (envOf l) h := WC_G T_8c
@[simp] def g0_8b := G_unf c0_8b.eq_1
@[simp] def g_8b := G_unf c_8b.eq_1
theorem w_8b : WC T n_8b l h q ↔ G T (fin [.t 2] (some []) h.next q) c_8b [] (envOf l) h := WC_G T_8b
@[simp] def g0_88 := G_unf c0_88.eq_1
@[simp] def g_88 := G_unf c_88.eq_1
theorem w_88 : WC T n_88 l h q ↔ G T (fin [.t 2] (some []) h.next q) c_88 [] (envOf l) h := WC_G T_88
@[simp] def g0_4d := G_unf c0_4d.eq_1
@[simp] def g1_4d := G_unf c1_4d.eq_1
@[simp] def g2_4d := G_unf c2_4d.eq_1
@[simp] def g3_4d := G_unf c3_4d.eq_1
@[simp] def g4_4d := G_unf c4_4d.eq_1
@[simp] def g5_4d := G_unf c5_4d.eq_1
@[simp] def g_4d := G_unf c_4d.eq_1
theorem w_4d : WC T n_4d l h q ↔ G T (fin [.t 4] (some []) h.next q) c_4d [] (envOf l) h := WC_G T_4d
@[simp] def g0_89 := G_unf c0_89.eq_1
@[simp] def g1_89 := G_unf c1_89.eq_1
@[simp] def g2_89 := G_unf c2_89.eq_1
@[simp] def g3_89 := G_unf c3_89.eq_1
@[simp] def g_89 := G_unf c_89.eq_1
theorem w_89 : WC T n_89 l h q ↔ G T (fin [.t 2, .t 3, .t 4] (some []) h.next q) c_89 [] (envOf l) h := WC_G T_89
@[simp] def g0_8a := G_unf c0_8a.eq_1
@[simp] def g_8a := G_unf c_8a.eq_1
theorem w_8a : WC T n_8a l h q ↔ G T (fin [.t 2] (some []) h.next q) c_8a [] (envOf l) h := WC_G T_8a
@[simp] def g0_48 := G_unf c0_48.eq_1
@[simp] def g1_48 := G_unf c1_48.eq_1
@[simp] def g2_48 := G_unf c2_48.eq_1
@[simp] def g_48 := G_unf c_48.eq_1
theorem w_48 : WC T n_48 l h q ↔ G T (fin [.t 4] (some []) h.next q) c_48 [] (envOf l) h := WC_G T_48
@[simp] def g0_4i := G_unf c0_4i.eq_1
@[simp] def g1_4i := G_unf c1_4i.eq_1
@[simp] def g2_4i := G_unf c2_4i.eq_1
@[simp] def g_4i := G_unf c_4i.eq_1
theorem w_4i : WC T n_4i l h q ↔ G T (fin [] (some []) h.next q) c_4i [] (envOf l) h := WC_G T_4i
@[simp] def g0_4j := G_unf c0_4j.eq_1
@[simp] def g_4j := G_unf c_4j.eq_1
theorem w_4j : WC T n_4j l h q ↔ G T (fin [.t 2] (some []) h.next q) c_4j [] (envOf l) h := WC_G T_4j
@[simp] def g0_4c := G_unf c0_4c.eq_1
@[simp] def g1_4c := G_unf c1_4c.eq_1
@[simp] def g2_4c := G_unf c2_4c.eq_1
@[simp] def g3_4c := G_unf c3_4c.eq_1
@[simp] def g4_4c := G_unf c4_4c.eq_1
@[simp] def g5_4c := G_unf c5_4c.eq_1
@[simp] def g6_4c := G_unf c6_4c.eq_1
@[simp] def g7_4c := G_unf c7_4c.eq_1
@[simp] def g8_4c := G_unf c8_4c.eq_1
@[simp] def g9_4c := G_unf c9_4c.eq_1
@[simp] def g10_4c := G_unf c10_4c.eq_1
@[simp] def g11_4c := G_unf c11_4c.eq_1
@[simp] def g12_4c := G_unf c12_4c.eq_1
@[simp] def g13_4c := G_unf c13_4c.eq_1
@[simp] def g14_4c := G_unf c14_4c.eq_1
@[simp] def g15_4c := G_unf c15_4c.eq_1
@[simp] def g_4c := G_unf c_4c.eq_1
theorem w_4c : WC T n_4c l h q ↔ G T (fin [.t 2] (some []) h.next q) c_4c [] (envOf l) h := WC_G T_4c
@[simp] def g0_8e := G_unf c0_8e.eq_1
@[simp] def g_8e := G_unf c_8e.eq_1
theorem w_8e : WC T n_8e l h q ↔ G T (fin [.t 2] (some []) h.next q) c_8e [] (envOf l) h := WC_G T_8e
@[simp] def g0_6k := G_unf c0_6k.eq_1
@[simp] def g1_6k := G_unf c1_6k.eq_1
@[simp] def g2_6k := G_unf c2_6k.eq_1
@[simp] def g3_6k := G_unf c3_6k.eq_1
@[simp] def g4_6k := G_unf c4_6k.eq_1
@[simp] def g5_6k := G_unf c5_6k.eq_1
@[simp] def g6_6k := G_unf c6_6k.eq_1
@[simp] def g_6k := G_unf c_6k.eq_1
theorem w_6k : WC T n_6k l h q ↔ G T (fin [.t 2, .t 3] (some []) h.next q) c_6k [] (envOf l) h := WC_G T_6k
@[simp] def g0_4f := G_unf c0_4f.eq_1
@[simp] def g1_4f := G_unf c1_4f.eq_1
@[simp] def g_4f := G_unf c_4f.eq_1
theorem w_4f : WC T n_4f l h q ↔ G T (fin [.ldn 6 2] (some []) h.next q) c_4f [] (envOf l) h := WC_G T_4f
@[simp] def g0_4b := G_unf c0_4b.eq_1
@[simp] def g_4b := G_unf c_4b.eq_1
theorem w_4b : WC T n_4b l h q ↔ G T (fin [.ldn 6 2] (some []) h.next q) c_4b [] (envOf l) h := WC_G T_4b
@[simp] def g0_4e := G_unf c0_4e.eq_1
@[simp] def g1_4e := G_unf c1_4e.eq_1
@[simp] def g2_4e := G_unf c2_4e.eq_1
@[simp] def g3_4e := G_unf c3_4e.eq_1
@[simp] def g4_4e := G_unf c4_4e.eq_1
@[simp] def g5_4e := G_unf c5_4e.eq_1
@[simp] def g6_4e := G_unf c6_4e.eq_1
@[simp] def g_4e := G_unf c_4e.eq_1
theorem w_4e : WC T n_4e l h q ↔ G T (fin [.ldn 6 4] (some []) h.next q) c_4e [] (envOf l) h := WC_G T_4e
@[simp] def g0_6m := G_unf c0_6m.eq_1
@[simp] def g1_6m := G_unf c1_6m.eq_1
@[simp] def g_6m := G_unf c_6m.eq_1
theorem w_6m : WC T n_6m l h q ↔ G T (fin [.t 4] (some []) h.next q) c_6m [] (envOf l) h := WC_G T_6m
@[simp] def g0_6j := G_unf c0_6j.eq_1
@[simp] def g1_6j := G_unf c1_6j.eq_1
@[simp] def g2_6j := G_unf c2_6j.eq_1
@[simp] def g3_6j := G_unf c3_6j.eq_1
@[simp] def g_6j := G_unf c_6j.eq_1
theorem w_6j : WC T n_6j l h q ↔ G T (fin [.t 2] (some []) h.next q) c_6j [] (envOf l) h := WC_G T_6j
@[simp] def g0_6l := G_unf c0_6l.eq_1
@[simp] def g1_6l := G_unf c1_6l.eq_1
@[simp] def g2_6l := G_unf c2_6l.eq_1
@[simp] def g3_6l := G_unf c3_6l.eq_1
@[simp] def g_6l := G_unf c_6l.eq_1
theorem w_6l : WC T n_6l l h q ↔ G T (fin [.ldn 4 2, .t 3] (some []) h.next q) c_6l [] (envOf l) h := WC_G T_6l
@[simp] def g0_4g := G_unf c0_4g.eq_1
@[simp] def g_4g := G_unf c_4g.eq_1
theorem w_4g : WC T n_4g l h q ↔ G T (fin [.t 2] (some []) h.next q) c_4g [] (envOf l) h := WC_G T_4g
@[simp] def g0_4h := G_unf c0_4h.eq_1
@[simp] def g1_4h := G_unf c1_4h.eq_1
@[simp] def g2_4h := G_unf c2_4h.eq_1
@[simp] def g3_4h := G_unf c3_4h.eq_1
@[simp] def g4_4h := G_unf c4_4h.eq_1
@[simp] def g_4h := G_unf c_4h.eq_1
theorem w_4h : WC T n_4h l h q ↔ G T (fin [.ldn 6 4] (some []) h.next q) c_4h [] (envOf l) h := WC_G T_4h
@[simp] def g0_6r := G_unf c0_6r.eq_1
@[simp] def g_6r := G_unf c_6r.eq_1
theorem w_6r : WC T n_6r l h q ↔ G T (fin [.t 0] (some []) h.next q) c_6r [] (envOf l) h := WC_G T_6r
@[simp] def g0_6n := G_unf c0_6n.eq_1
@[simp] def g_6n := G_unf c_6n.eq_1
theorem w_6n : WC T n_6n l h q ↔ G T (fin [.t 0] (some []) h.next q) c_6n [] (envOf l) h := WC_G T_6n
@[simp] def g0_6o := G_unf c0_6o.eq_1
@[simp] def g_6o := G_unf c_6o.eq_1
theorem w_6o : WC T n_6o l h q ↔ G T (fin [.t 0] (some []) h.next q) c_6o [] (envOf l) h := WC_G T_6o
@[simp] def g0_6q := G_unf c0_6q.eq_1
@[simp] def g_6q := G_unf c_6q.eq_1
theorem w_6q : WC T n_6q l h q ↔ G T (fin [.t 4] (some []) h.next q) c_6q [] (envOf l) h := WC_G T_6q
end
theorem tab : TabOK Tryz.prog (compAny Tryz.prog) T :=
  tab_spec (show SpecOK Tryz.prog n_041 sPut from put_ok) <|
  tab_spec (show SpecOK Tryz.prog n_051 sTake from take_ok) <|
  tab_spec (show SpecOK Tryz.prog n_4s sTrue from known_ok) <|
  tab_ins h_4k <|
  tab_ins h_87 <|
  tab_ins h_4w <|
  tab_ins h_4t <|
  tab_ins h_4a <|
  tab_ins h_4r <|
  tab_ins h_85 <|
  tab_ins h_4x <|
  tab_ins h_8c <|
  tab_ins h_8b <|
  tab_ins h_88 <|
  tab_ins h_4d <|
  tab_ins h_89 <|
  tab_ins h_8a <|
  tab_ins h_48 <|
  tab_ins h_4i <|
  tab_ins h_4j <|
  tab_ins h_4c <|
  tab_ins h_8e <|
  tab_ins h_6k <|
  tab_ins h_4f <|
  tab_ins h_4b <|
  tab_ins h_4e <|
  tab_ins h_6m <|
  tab_ins h_6j <|
  tab_ins h_6l <|
  tab_ins h_4g <|
  tab_ins h_4h <|
  tab_ins h_6r <|
  tab_ins h_6n <|
  tab_ins h_6o <|
  tab_ins h_6q <|
  tab_none
end Go.Proofs.YtoiiphcbkejliaaGreat.Cd
