/- Texts of one kind, one behind the other. -/
import Derived.Test.YtpdfdemoflofhaaMeDmaNumbers1
import Derived.Test.YtpdfdemoflofhaaMcz0
/- A device that moves and the document's bus, side by side. -/
set_option maxRecDepth 1000000
set_option maxHeartbeats 8000000
set_option linter.unusedSimpArgs false
set_option linter.unusedVariables false
namespace Go.Proofs.Ytpdfdemoflofhaa.Cd
open Go Go.Dx
def ML (kw kx ky : Nat) (fp : List Nat) : List Nat := [kw, kx, kx + 1, kx + 2, kx + 3, ky] ++ fp
/-- A device, its wheel, its memory. -/
structure MU (h : Hp) (kw kx ky bd : Nat) (fp : List Nat) (X : BS) : Prop where
  dk : Dm h ky kw kx 4 X.D
  ra : Ra h kx X.B X.M X.W
  wh : WhA h kw X.S fp
  gf : ∀ b ∈ fp, bd < b
  ln : bd < h.next
  bh : kw < kx ∧ kx + 3 < ky ∧ ky ≤ bd
/-- Both. -/
structure QW (g h : Hp) (n0 x : Nat) (fp fr fo : List Nat) (X Y : BS) : Prop where
  ku : MU h n0 (n0 + 1) (n0 + 5) (n0 + 11) fp X
  rw' : RW h x fr fo Y
  hx : x = n0 + 6
  d1 : ∀ b ∈ fp, b ∉ fr ∧ b ∉ fo
  kp : Kp g h
  gn : g.next ≤ n0
section
variable {g h h' : Hp} {q : Value → Hp → Prop} {n0 x kw kx ky bd : Nat} {fp fr fo fp' fr' fo' nw : List Nat} {X Y X' Y' : BS} {now d t : Int} {a v : BitVec 32}
theorem MU.lt (A : MU h kw kx ky bd fp X) : ky < h.next := by
  have := A.dk
  unfold Dm at this
  exact lt_of_get this
theorem MU.live (A : MU h kw kx ky bd fp X) : ∀ b ∈ ML kw kx ky fp, b < h.next := fun b hb => by
  have := A.lt
  have hbh := A.bh
  rcases List.mem_append.1 hb with hb | hb
  · simp at hb; omega
  · exact A.wh.live b (List.mem_cons_of_mem _ hb)
theorem MU.keep (A : MU h kw kx ky bd fp X) (hn : h.next ≤ h'.next) (hk : ∀ b ∈ ML kw kx ky fp, h'.get b = h.get b) : MU h' kw kx ky bd fp X := by
  refine ⟨by have := A.dk; unfold Dm at this ⊢; rw [hk _ (by simp [ML]), this], A.ra.keep fun b h1 h2 => hk b ?_, A.wh.keep fun b hb => hk b ?_, A.gf, Nat.lt_of_lt_of_le A.ln hn, A.bh⟩
  · have : b = kx ∨ b = kx + 1 ∨ b = kx + 2 ∨ b = kx + 3 := by omega
    rcases this with rfl | rfl | rfl | rfl <;> simp [ML]
  · rcases List.mem_cons.1 hb with rfl | hb
    · simp [ML]
    · simp [ML, hb]
theorem MU.kp (A : MU h kw kx ky bd fp X) (K : Kp h h') : MU h' kw kx ky bd fp X := A.keep K.le fun b hb => K.get b (A.live b hb)
/-- What the disk's side does leaves the document's side. -/
theorem QW.dev (A : QW g h n0 x fp fr fo X Y) (k : MU h' n0 (n0 + 1) (n0 + 5) (n0 + 11) fp' X') (U : Upd h h' (ML n0 (n0 + 1) (n0 + 5) fp) (ML n0 (n0 + 1) (n0 + 5) fp')) : QW g h' n0 x fp' fr fo X' Y := by
  have hl := A.rw'.lt
  have hx := A.hx
  have off : ∀ b ∈ RL x fr fo, b ∉ ML n0 (n0 + 1) (n0 + 5) fp := fun b hb hm => by
    simp only [RL, ML, List.mem_append] at hb hm
    rcases hb with hb | hb | hb
    · rcases hm with hm | hm
      · simp at hb hm; omega
      · have := A.ku.gf b hm; simp at hb; omega
    · rcases hm with hm | hm
      · have := (A.rw'.fr b hb).1; simp at hm; omega
      · exact (A.d1 b hm).1 hb
    · rcases hm with hm | hm
      · have := A.rw'.fo b hb; simp at hm; omega
      · exact (A.d1 b hm).2 hb
  refine ⟨k, A.rw'.upd U off, A.hx, fun b hb => ?_, U.kp' A.kp fun b hb => ?_, A.gn⟩
  · rcases U.sub b (List.mem_append_right _ hb) with h5 | h5
    · rcases List.mem_append.1 h5 with h5 | h5
      · have := k.gf b hb; simp at h5; omega
      · exact A.d1 b h5
    · exact ⟨fun hm => by have := (A.rw'.fr b hm).2.1; omega, fun hm => by have := A.rw'.folt b hm; omega⟩
  · have := A.gn
    rcases List.mem_append.1 hb with hb | hb
    · simp at hb; omega
    · have := A.ku.gf b hb; omega
theorem QW.ref (A : QW g h n0 x fp fr fo X Y) (k : RW h' x fr' fo' Y') (U : Upd h h' (RL x fr fo) (RL x fr' fo')) : QW g h' n0 x fp fr' fo' X Y' := by
  have hl := A.rw'.lt
  have hx := A.hx
  have off : ∀ b ∈ ML n0 (n0 + 1) (n0 + 5) fp, b ∉ RL x fr fo := fun b hm hb => by
    simp only [RL, ML, List.mem_append] at hb hm
    rcases hb with hb | hb | hb
    · rcases hm with hm | hm
      · simp at hb hm; omega
      · have := A.ku.gf b hm; simp at hb; omega
    · rcases hm with hm | hm
      · have := (A.rw'.fr b hb).1; simp at hm; omega
      · exact (A.d1 b hm).1 hb
    · rcases hm with hm | hm
      · have := A.rw'.fo b hb; simp at hm; omega
      · exact (A.d1 b hm).2 hb
  have sub : ∀ b, b ∈ fr' ∨ b ∈ fo' → b ∈ fr ∨ b ∈ fo ∨ h.next ≤ b := fun b hb => by
    have h9 : n0 + 11 < b := by
      rcases hb with hb | hb
      · have := (k.fr b hb).1; omega
      · have := k.fo b hb; omega
    rcases U.sub b (by simp only [RL, List.mem_append]; rcases hb with hb | hb <;> simp [hb]) with h5 | h5
    · simp only [RL, List.mem_append] at h5
      rcases h5 with h5 | h5 | h5
      · simp at h5; omega
      · exact .inl h5
      · exact .inr (.inl h5)
    · exact .inr (.inr h5)
  refine ⟨A.ku.keep U.le fun b hb => U.get b (A.ku.live b hb) (off b hb), k, A.hx, fun b hb => ⟨fun hm => ?_, fun hm => ?_⟩, U.kp' A.kp fun b hb => ?_, A.gn⟩
  · have hbl := A.ku.live b (List.mem_append_right _ hb)
    rcases sub b (.inl hm) with h5 | h5 | h5
    · exact (A.d1 b hb).1 h5
    · exact (A.d1 b hb).2 h5
    · omega
  · have hbl := A.ku.live b (List.mem_append_right _ hb)
    rcases sub b (.inr hm) with h5 | h5 | h5
    · exact (A.d1 b hb).1 h5
    · exact (A.d1 b hb).2 h5
    · omega
  · have := A.gn
    simp only [RL, List.mem_append] at hb
    rcases hb with hb | hb | hb
    · simp at hb; omega
    · have := (A.rw'.fr b hb).1; omega
    · have := A.rw'.fo b hb; omega
theorem QW.more (A : QW g h n0 x fp fr fo X Y) (K : Kp h h') : QW g h' n0 x fp fr fo X Y := ⟨A.ku.kp K, A.rw'.kp K, A.hx, A.d1, A.kp.trans K, A.gn⟩
/-- The device's side. -/
theorem MU.off (A : MU h kw kx ky bd fp X) : ky ∉ kw :: fp := fun hm => by
  have hbh := A.bh
  rcases List.mem_cons.1 hm with h5 | h5
  · omega
  · have := A.gf _ h5; omega
theorem MU.wr (A : MU h kw kx ky bd fp X) (hn : 0 ≤ now ∧ now ≤ 2 ^ 60) (hq : ∀ h' fp', MU h' kw kx ky bd fp' (X.wr 4 a v now) → Upd h h' (ML kw kx ky fp) (ML kw kx ky fp') → q (.bool (dat a)) h') : WC T n_dma_Dma_Write [ptr ky 0, u32 a, u32 v, .int .i64 now] h q := by
  have hl := A.lt
  have hbh := A.bh
  have hln := A.ln
  refine dwrite A.dk A.wh A.off hn fun h1 fp1 D1 Q1 U1 N1 => hq h1 fp1 ⟨by simpa [BS.wr] using D1, ?_, by simpa [BS.wr] using Q1, fun b hb => ?_, Nat.lt_of_lt_of_le A.ln U1.le, A.bh⟩ ⟨U1.le, fun b hb hn => U1.get b hb fun hm => hn ?_, fun b hb => ?_⟩
  · refine (A.ra.keep fun b h1 h2 => U1.get b (by omega) fun hm => ?_ : Ra h1 kx X.B X.M X.W)
    simp only [List.mem_cons] at hm
    rcases hm with h5 | h5 | h5
    · omega
    · omega
    · have := A.gf b h5; omega
  · rcases U1.sub b (List.mem_cons_of_mem _ (List.mem_cons_of_mem _ hb)) with h5 | h5
    · simp only [List.mem_cons] at h5
      rcases h5 with rfl | rfl | h5
      · exact absurd (List.mem_cons_of_mem _ hb) N1
      · exact absurd hb Q1.wh.nw
      · exact A.gf b h5
    · omega
  · simp only [List.mem_cons] at hm
    rcases hm with rfl | rfl | hm
    · simp [ML]
    · simp [ML]
    · simp [ML, hm]
  · simp only [ML, List.mem_append] at hb ⊢
    rcases hb with hb | hb
    · exact .inl (.inl hb)
    · rcases U1.sub b (List.mem_cons_of_mem _ (List.mem_cons_of_mem _ hb)) with h5 | h5
      · simp only [List.mem_cons] at h5
        rcases h5 with rfl | rfl | h5
        · exact .inl (.inl (by simp))
        · exact .inl (.inl (by simp))
        · exact .inl (.inr h5)
      · exact .inr h5
theorem MU.fire (A : MU h kw kx ky bd fp X) (hq : ∀ h', MU h' kw kx ky bd fp (X.fire 4 t) → Upd h h' (ML kw kx ky fp) (ML kw kx ky fp) → q (.tuple #[]) h') : WC T n_dma_Dma_Fire [ptr ky 0, .int .i64 now] h q := by
  have hl := A.lt
  have hbh := A.bh
  have hlw := A.wh.live
  refine dfire A.dk A.ra (by omega) fun h1 D1 R1 U1 => hq h1 ⟨by simpa [BS.fire] using D1, by simpa [BS.fire] using R1, A.wh.keep fun b hb => U1.get b (hlw b hb) fun hm => ?_, A.gf, Nat.lt_of_lt_of_le A.ln U1.le, A.bh⟩ (U1.wid fun b hb => ?_)
  · simp at hm
    rcases List.mem_cons.1 hb with rfl | hb
    · omega
    · have := A.gf b hb; omega
  · simp at hb
    rcases hb with rfl | rfl | rfl <;> simp [ML]
theorem MU.take (A : MU h kw kx ky bd fp X) (hno : (∀ e ∈ X.S.L.head?, t < e.at') → ∀ h', Kp h h' → q (.tuple #[.agg #[.int .i64 0, .int .i64 0, .int .i64 0], .bool false]) h')
    (hyes : ∀ e B, X.S.L = e :: B → e.at' ≤ t → ∀ h' fp', MU h' kw kx ky bd fp' { X with S := ⟨B, X.S.n⟩ } → Upd h h' (ML kw kx ky fp) (ML kw kx ky fp') → q (.tuple #[.agg #[.int .i64 e.at', .int .i64 e.dev, .int .i64 e.seq], .bool true]) h') : WC T n_wheel_Wheel_Take [ptr kw 0, .int .i64 t] h q := by
  have hl := A.lt
  have hbh := A.bh
  have hln := A.ln
  refine takeS A.wh hno fun e B hL ht h1 fp1 Q1 U1 => hyes e B hL ht h1 fp1 ⟨by have := A.dk; unfold Dm at this ⊢; rw [U1.get _ (by omega) A.off, this], A.ra.keep fun b h1 h2 => U1.get b (by omega) fun hm => ?_, Q1, fun b hb => ?_, Nat.lt_of_lt_of_le A.ln U1.le, A.bh⟩ ⟨U1.le, fun b hb hn => U1.get b hb fun hm => hn ?_, fun b hb => ?_⟩
  · rcases List.mem_cons.1 hm with h5 | h5
    · omega
    · have := A.gf _ h5; omega
  · rcases U1.sub b (List.mem_cons_of_mem _ hb) with h5 | h5
    · rcases List.mem_cons.1 h5 with rfl | h5
      · exact absurd hb Q1.wh.nw
      · exact A.gf b h5
    · omega
  · rcases List.mem_cons.1 hm with rfl | hm
    · simp [ML]
    · simp [ML, hm]
  · simp only [ML, List.mem_append] at hb ⊢
    rcases hb with hb | hb
    · exact .inl (.inl hb)
    · rcases U1.sub b (List.mem_cons_of_mem _ hb) with h5 | h5
      · rcases List.mem_cons.1 h5 with rfl | h5
        · exact .inl (.inl (by simp))
        · exact .inl (.inr h5)
      · exact .inr h5
theorem MU.mem {B' : By} {W' : List Bool} (A : MU h kw kx ky bd fp X) (R : Ra h' kx B' X.M W') (U : Upd h h' [kx, kx + 2] [kx, kx + 2]) : MU h' kw kx ky bd fp { X with B := B', W := W' } ∧ Upd h h' (ML kw kx ky fp) (ML kw kx ky fp) := by
  have hl := A.lt
  have hbh := A.bh
  have hlw := A.wh.live
  refine ⟨⟨by have := A.dk; unfold Dm at this ⊢; rw [U.get _ (by omega) (by simp; omega), this], R, A.wh.keep fun b hb => U.get b (hlw b hb) fun hm => ?_, A.gf, Nat.lt_of_lt_of_le A.ln U.le, A.bh⟩, U.wid fun b hb => ?_⟩
  · simp at hm
    rcases List.mem_cons.1 hb with rfl | hb
    · omega
    · have := A.gf b hb; omega
  · simp at hb
    rcases hb with rfl | rfl <;> simp [ML]
end
/-- All that is asked. -/
structure AskS where
  k : Int
  j : Int
  v : BitVec 32
  t : Int
  b : BitVec 8
def encAsk : Enc AskS := ⟨5, fun x => [.int .i64 x.k, .int .i64 x.j, u32 x.v, .int .i64 x.t, u8 x.b], fun _ => rfl, fun _ => rfl, by decide⟩
@[simp] theorem encAsk_sz : encAsk.sz = 5 := rfl
end Go.Proofs.Ytpdfdemoflofhaa.Cd

/- A move's play: the device and the document's bus do the same. -/
set_option maxRecDepth 1000000
set_option maxHeartbeats 8000000
set_option linter.unusedSimpArgs false
set_option linter.unusedVariables false
namespace Go.Proofs.Ytpdfdemoflofhaa.Cd
open Go Go.Dx
/-- Only this device is armed. -/
def Only (d : Int) (X : BS) : Prop := ∀ e ∈ X.S.L, e.dev = d
theorem Only.arm {d t : Int} {S : WhS} (h : ∀ e ∈ S.L, e.dev = d) : ∀ e ∈ (S.arm d t).L, e.dev = d := by
  intro e he
  unfold WhS.arm at he
  split at he
  · exact h e he
  · rcases (mem_insl (fun e : Ev => e.at')).1 he with rfl | he
    · rfl
    · exact h e (List.mem_of_mem_eraseP he)
section
variable {g h h' : Hp} {q : Value → Hp → Prop} {n0 x : Nat} {fp fr fo : List Nat} {X : BS} {now : Int}
/-- Where play stands. -/
structure QP (g h : Hp) (n0 x : Nat) (now : Int) (X : BS) : Prop where
  pw : ∃ fp fr fo, QW g h n0 x fp fr fo X X
  on : Only 4 X
  n0' : 0 ≤ now
  ml : X.M.length = 2
/-- What is compared behind each call. -/
theorem qtail {Q : Ex → Env → Hp → Prop} {e : Env} {F : List Fr} (A : QP g h n0 x now X) (hnow : now ≤ 2 ^ 60) (e7 : e 5 = ptr n0 0) (e9 : e 7 = ptr (n0 + 5) 0) (e10 : e 8 = ptr (x + 4) 0)
    (hk : ∀ e' : Env, e' 0 = e 0 → e' 1 = e 1 → e' 5 = e 5 → e' 6 = e 6 → e' 7 = e 7 → e' 8 = e 8 → e' 9 = e 9 → e' 10 = e 10 → ∀ h', QP g h' n0 x now X → Kp h h' → GR T Q F .n e' h') : G T Q c12_pianolalaw13_play F e h := by
  obtain ⟨fp, fr, fo, P⟩ := A.pw
  have hl1 := fun q => dline (q := q) P.ku.dk
  have hl2 := fun q => zline (q := q) (d := 4) P.rw' (by omega)
  have hbl : X.line 4 = (X.D.s &&& 6#32 != 0#32) := by simp [BS.line]
  rw [hbl] at hl2
  obtain ⟨vL, vi, vo, vu, S⟩ := P.rw'.bs
  have g1 := S.g
  simp only [rcl, rrest] at g1
  have hwl := P.ku.wh.wi.len
  obtain ⟨av, cv, hv, sv, hcv, hbv⟩ := S.sL
  subst hv
  simp (maxSteps := 1000000) (disch := first | assumption | ((try simp only [push_next, put_next, adv_next, List.length_cons, List.length_nil, List.length_map, List.length_set]); omega) | simp) [e7, e9, e10, GC_of hl1, GCI_of hl1, GC_of hl2, GCI_of hl2, g1]
  refine GCI_intro (wall P.ku.wh.wh (by omega) (q := fun v h' => ∃ a c, v = .slice a X.S.L.length c ∧ Sees encEv h' a X.S.L ∧ Kp h h') fun a c h' hs K => ⟨a, c, rfl, hs, K⟩) fun v h1 ⟨a1, c1, hv, s1, K1⟩ => ?_
  subst hv
  have P1 := P.more K1
  have S1 := RS.kp P.rw' S K1
  have g2 := S1.g
  simp only [rcl, rrest] at g2
  have K0 : Kp g h := P.kp
  simp (maxSteps := 1000000) (disch := first | assumption | ((try simp only [push_next, put_next, adv_next, List.length_cons, List.length_nil, List.length_map, List.length_set]); omega) | simp) [e7, e9, e10, g2]
  refine GCI_intro (same_ev (q := fun v h' => v = .bool true ∧ h' = h1) s1 (sv.kp K1) (by omega) (by simp)) fun v h2 ⟨hv, hh⟩ => ?_
  subst hv
  subst hh
  simp (maxSteps := 1000000) (disch := first | assumption | ((try simp only [push_next, put_next, adv_next, List.length_cons, List.length_nil, List.length_map, List.length_set]); omega) | simp) [e7, e9, e10, g2]
  refine hk _ ?_ ?_ ?_ ?_ ?_ ?_ ?_ ?_ _ ⟨⟨fp, fr, fo, P1⟩, A.on, A.n0', A.ml⟩ K1 <;> simp
/-- What is asked and behind it. -/
theorem qfires {Q : Ex → Env → Hp → Prop} {e : Env} {F : List Fr} (A : QP g h n0 x now X) (hnow : now ≤ 2 ^ 60) (e7 : e 5 = ptr n0 0) (e9 : e 7 = ptr (n0 + 5) 0) (e10 : e 8 = ptr (x + 4) 0) (e11 : e 9 = .int .i64 now) (e20 : e 18 = .int .i64 0)
    (hk : ∀ (X' : BS) (e' : Env), e' 0 = e 0 → e' 1 = e 1 → e' 5 = e 5 → e' 6 = e 6 → e' 7 = e 7 → e' 8 = e 8 → e' 9 = e 9 → e' 10 = e 10 → ∀ h', QP g h' n0 x now X' → GR T Q F .n e' h') : G T Q (.loop c5_pianolalaw13_play) (Fr.block 3 :: F) e h := by
  refine G_loop (fun k e1 h1 => ∃ (n : Nat) (X' : BS), k = 3 - n ∧ n ≤ 3 ∧ e1 0 = e 0 ∧ e1 1 = e 1 ∧ e1 5 = e 5 ∧ e1 6 = e 6 ∧ e1 7 = e 7 ∧ e1 8 = e 8 ∧ e1 9 = e 9 ∧ e1 10 = e 10 ∧ e1 18 = .int .i64 n ∧ QP g h1 n0 x now X') ?_ 3 _ _ ⟨0, X, rfl, by omega, rfl, rfl, rfl, rfl, rfl, rfl, rfl, rfl, e20, A⟩
  rintro k ih e1 h1 ⟨n, X, rfl, hn3, f1, f2, f7, f8, f9, f10, f11, f12, f20, A⟩
  rw [e7] at f7
  rw [e9] at f9
  rw [e10] at f10
  rw [e11] at f11
  by_cases hn : n < 3
  · have hni : (n : Int) < 3 := by omega
    obtain ⟨fp, fr, fo, P⟩ := A.pw
    simp (maxSteps := 1000000) (disch := first | assumption | ((try simp only [push_next, put_next, adv_next, List.length_cons, List.length_nil, List.length_map, List.length_set]); omega) | simp) [f7, f9, f10, f11, f20, hni]
    refine P.ku.take (fun hno h2 K2 => ?_) fun ev B hL ht h2 fp2 k2 U2 => ?_
    · have P2 := P.more (K2.push (.cells false [.int .i64 0, .int .i64 0, .int .i64 0]))
      simp (maxSteps := 1000000) (disch := first | assumption | ((try simp only [push_next, put_next, adv_next, List.length_cons, List.length_nil, List.length_map, List.length_set]); omega) | simp) [f7, f9, f10, f11, f20]
      generalize h2.push (.cells false [.int .i64 0, .int .i64 0, .int .i64 0]) = h3 at *
      refine P2.rw'.take (fun hno2 h4 K4 => ?_) fun ev B hL ht => ?_
      · simp (maxSteps := 1000000) (disch := first | assumption | ((try simp only [push_next, put_next, adv_next, List.length_cons, List.length_nil, List.length_map, List.length_set]); omega) | simp) [f7, f9, f10, f11, f20]
        exact ih (3 - (n + 1)) (by omega) _ _ ⟨n + 1, X, rfl, by omega, by simp [f1], by simp [f2], by simp [f7, e7], by simp [f8], by simp [f9, e9], by simp [f10, e10], by simp [f11, e11], by simp [f12], by simp, ⟨⟨_, _, _, (P2.more K4).more ((Kp.refl h4).push _)⟩, A.on, A.n0', A.ml⟩⟩
      · exact absurd (hno ev (by rw [hL]; simp)) (by omega)
    · have pos : 0 ≤ ev.at' := P.ku.wh.wi.pos ev (by rw [hL]; simp)
      have dv : ev.dev = 4 := A.on ev (by rw [hL]; simp)
      have P2 := P.dev k2 U2
      simp (maxSteps := 1000000) (disch := first | assumption | ((try simp only [push_next, put_next, adv_next, List.length_cons, List.length_nil, List.length_map, List.length_set]); omega) | simp) [f7, f9, f10, f11, f20, Hp.rdn]
      have P3 := P2.more ((Kp.refl h2).push (.cells false [.int .i64 ev.at', .int .i64 ev.dev, .int .i64 ev.seq]))
      generalize h2.push (.cells false [.int .i64 ev.at', .int .i64 ev.dev, .int .i64 ev.seq]) = h3 at *
      refine P3.ku.fire (t := ev.at') fun h4 k4 U4 => ?_
      have P4 := P3.dev k4 U4
      simp (maxSteps := 1000000) (disch := first | assumption | ((try simp only [push_next, put_next, adv_next, List.length_cons, List.length_nil, List.length_map, List.length_set]); omega) | simp) [f7, f9, f10, f11, f20]
      refine P4.rw'.take (fun hno2 => ?_) fun ev' B' hL' ht' h5 nw k5 U5 => ?_
      · exact absurd (hno2 ev (by rw [hL]; simp)) (by omega)
      · rw [hL] at hL'
        cases hL'
        have P5 := P4.ref k5 U5
        simp (maxSteps := 1000000) (disch := first | assumption | ((try simp only [push_next, put_next, adv_next, List.length_cons, List.length_nil, List.length_map, List.length_set]); omega) | simp) [f7, f9, f10, f11, f20, Hp.rdn]
        have P6 := P5.more ((Kp.refl h5).push (.cells false [.int .i64 ev.at', .int .i64 ev.dev, .int .i64 ev.seq]))
        generalize h5.push (.cells false [.int .i64 ev.at', .int .i64 ev.dev, .int .i64 ev.seq]) = h6 at *
        refine zb P6.rw' ⟨pos, by omega⟩ fun h7 fr7 fo7 k7 U7 => ?_
        have P7 := P6.ref k7 U7
        rw [dv] at P7
        simp (maxSteps := 1000000) (disch := first | assumption | ((try simp only [push_next, put_next, adv_next, List.length_cons, List.length_nil, List.length_map, List.length_set]); omega) | simp) [f7, f9, f10, f11, f20]
        refine ih (3 - (n + 1)) (by omega) _ _ ⟨n + 1, _, rfl, by omega, by simp [f1], by simp [f2], by simp [f7, e7], by simp [f8], by simp [f9, e9], by simp [f10, e10], by simp [f11, e11], by simp [f12], by simp, ⟨⟨_, _, _, P7⟩, fun e' he => ?_, A.n0', by simpa [BS.fire] using A.ml⟩⟩
        refine A.on e' ?_
        rw [hL]
        simp [BS.fire] at he
        exact List.mem_cons_of_mem _ he
  · have : n = 3 := by omega
    subst this
    simp (maxSteps := 1000000) (disch := first | assumption | ((try simp only [push_next, put_next, adv_next, List.length_cons, List.length_nil, List.length_map, List.length_set]); omega) | simp) [f20]
    refine hk X _ ?_ ?_ ?_ ?_ ?_ ?_ ?_ ?_ _ A <;> simp [f1, f2, f7, f8, f9, f10, f11, f12, e7, e9, e10, e11]
/-- One call. -/
theorem qsw {y : AskS} {Q : Ex → Env → Hp → Prop} {e : Env} {F : List Fr} {p : Nat} {k v : BitVec 32} (A : QP g h n0 x now X) (hnow : now ≤ 2 ^ 59) (hp : h.get p = some (.cells false [.int .i64 y.k, .int .i64 y.j, u32 y.v, .int .i64 y.t, u8 y.b])) (hpx : n0 + 11 < p) (e7 : e 5 = ptr n0 0) (e8 : e 6 = ptr (n0 + 1 + 3) 0) (e9 : e 7 = ptr (n0 + 5) 0) (e10 : e 8 = ptr (x + 4) 0) (e11 : e 9 = .int .i64 now) (e13 : e 11 = ptr p 0) (e14 : e 12 = u32 k) (e15 : e 13 = u32 v) (hk64 : k.toNat < 64)
    (hk : ∀ (X' : BS) (now' : Int) (e' : Env), e' 0 = e 0 → e' 1 = e 1 → e' 5 = e 5 → e' 6 = e 6 → e' 7 = e 7 → e' 8 = e 8 → e' 9 = .int .i64 now' → e' 10 = e 10 → now' ≤ now + 1100 → ∀ h', QP g h' n0 x now' X' → GR T Q F .n e' h') :
    GR T Q (Fr.seq (.seq (.seq (.ops [⟨some 69, none, .fa 0 (.t 11)⟩, ⟨some 70, none, .ld (.t 69)⟩]) (.block 2 (.seq (.ops [⟨some 83, none, .bin .eql (.t 70) (.c (.int .i64 2))⟩, ⟨some 82, none, .mov (.t 83)⟩]) c11_pianolalaw13_play))) c12_pianolalaw13_play) :: F) .n e h := by
  obtain ⟨fp, fr, fo, P⟩ := A.pw
  have hp0 := A.n0'
  have tail : ∀ (X' : BS) (now' : Int) (e' : Env) (h' : Hp), e' 0 = e 0 → e' 1 = e 1 → e' 5 = e 5 → e' 6 = e 6 → e' 7 = e 7 → e' 8 = e 8 → e' 9 = .int .i64 now' → e' 10 = e 10 → now' ≤ now + 1100 → QP g h' n0 x now' X' → G T Q c12_pianolalaw13_play F e' h' := fun X' now' e' h' f1 f2 f7 f8 f9 f10 f11 f12 hn A' => by
    refine qtail A' (by omega) (f7.trans e7) (f9.trans e9) (f10.trans e10) fun e2 i1 i2 i7 i8 i9 i10 i11 i12 h2 A2 K2 => hk X' now' e2 (i1.trans f1) (i2.trans f2) (i7.trans f7) (i8.trans f8) (i9.trans f9) (i10.trans f10) (i11.trans f11) (i12.trans f12) hn h2 A2
  by_cases k2 : y.k = 2
  · have hr := fun q => dread (q := q) (a := k) P.ku.dk
    have hrd : X.rd 4 k now = X.D.rd k := by simp [BS.rd]
    have hwk : wok 4 k = dat k := by simp [wok]
    simp (maxSteps := 1000000) (disch := first | assumption | ((try simp only [push_next, put_next, adv_next, List.length_cons, List.length_nil, List.length_map, List.length_set]); omega) | simp) [e13, hp, k2, e9, e10, e11, e14, GC_of hr, -g12_pianolalaw13_play]
    refine zword P.rw' (by omega) ⟨hp0, by omega⟩ fun h1 fr1 k1 U1 => ?_
    have P1 := P.ref (k1.cast (show X.rds 4 k = X by simp [BS.rds])) U1
    rw [hrd, hwk]
    simp (maxSteps := 1000000) (disch := first | assumption | ((try simp only [push_next, put_next, adv_next, List.length_cons, List.length_nil, List.length_map, List.length_set]); omega) | simp) [-g12_pianolalaw13_play]
    exact tail X now _ h1 (by simp) (by simp) (by simp) (by simp) (by simp) (by simp) (by simp [e11]) (by simp) (by omega) ⟨⟨_, _, _, P1⟩, A.on, hp0, A.ml⟩
  by_cases k3 : y.k = 3
  · simp (maxSteps := 1000000) (disch := first | assumption | ((try simp only [push_next, put_next, adv_next, List.length_cons, List.length_nil, List.length_map, List.length_set]); omega) | simp) [e13, hp, k3, e9, e14, -g12_pianolalaw13_play, -g5_pianolalaw13_play]
    refine qfires A (by omega) (by simp [e7]) (by simp [e9]) (by simp [e10]) (by simp [e11]) (by simp) fun X' e' f1 f2 f7 f8 f9 f10 f11 f12 h' A' => ?_
    simp (maxSteps := 1000000) (disch := first | assumption | ((try simp only [push_next, put_next, adv_next, List.length_cons, List.length_nil, List.length_map, List.length_set]); omega) | simp) [-g12_pianolalaw13_play]
    exact tail X' now e' h' (by simp [f1]) (by simp [f2]) (by simp [f7]) (by simp [f8]) (by simp [f9]) (by simp [f10]) (by simp [f11, e11]) (by simp [f12]) (by omega) A'
  by_cases k4 : y.k = 4
  · have hw := fun q => within_eq (h := h) (q := q) (n := y.t) (lo := 0) (hi := 1100) (by omega) (by omega) (by omega)
    have hwb := wi_bound (n := y.t) (show (0 : Int) ≤ 1100 by omega)
    generalize wi y.t 0 1100 = dt at *
    have hwr : IntKind.i64.wrap (now + dt) = now + dt := wrap_i64 (by omega) (by omega)
    simp (maxSteps := 1000000) (disch := first | assumption | ((try simp only [push_next, put_next, adv_next, List.length_cons, List.length_nil, List.length_map, List.length_set]); omega) | simp) [e13, hp, k4, e11, GC_of hw, hwr, -g12_pianolalaw13_play]
    exact tail X (now + dt) _ h (by simp) (by simp) (by simp) (by simp) (by simp) (by simp) (by simp) (by simp) (by omega) ⟨A.pw, A.on, by omega, A.ml⟩
  by_cases k5 : y.k = 5
  · have part2 : ∀ (X' : BS) (h1 : Hp) (e1 : Env), Only 4 X' → (∃ B' W', X' = { X with B := B', W := W' } ∧ ((evB X.B (y.v % 2048#32) 1 = false ∧ B' = X.B ∧ W' = X.W) ∨ (evB X.B (y.v % 2048#32) 1 = true ∧ B' = stB X.B (y.v % 2048#32).toNat (1 : Int).toNat (BitVec.setWidth 32 y.b) ∧ W' = tch X.M X.W (y.v % 2048#32).toNat (1 : Int).toNat))) → QW g h1 n0 x fp fr fo X' X → h1.get p = h.get p → e1 0 = e 0 → e1 1 = e 1 → e1 5 = e 5 → e1 6 = e 6 → e1 7 = e 7 → e1 8 = e 8 → e1 9 = e 9 → e1 10 = e 10 → e1 11 = e 11 → G T Q c6_pianolalaw13_play (Fr.block 2 :: Fr.seq c12_pianolalaw13_play :: F) e1 h1 := fun X' h1 e1 on' ⟨B', W', hX', hor⟩ P1 hpp f1 f2 f7 f8 f9 f10 f11 f12 f13 => by
      rw [hp] at hpp
      rw [e10] at f10
      rw [e13] at f13
      obtain ⟨vL, vi, vo, vu, S⟩ := P1.rw'.bs
      have g1 := S.g
      simp only [rcl, rrest] at g1
      simp (maxSteps := 1000000) (disch := first | assumption | ((try simp only [push_next, put_next, adv_next, List.length_cons, List.length_nil, List.length_map, List.length_set]); omega) | simp) [f10, f13, hpp, g1, -g12_pianolalaw13_play]
      refine zstore P1.rw'.ra (fun he => ?_) fun he h2 R2 U2 => ?_
      · rcases hor with ⟨h1', hB, hW⟩ | ⟨h1', _⟩
        · have hXX : X' = X := by rw [hX', hB, hW]
          subst hXX
          simp (maxSteps := 1000000) (disch := first | assumption | ((try simp only [push_next, put_next, adv_next, List.length_cons, List.length_nil, List.length_map, List.length_set]); omega) | simp) [-g12_pianolalaw13_play]
          exact tail _ now _ h1 (by simp [f1]) (by simp [f2]) (by simp [f7]) (by simp [f8]) (by simp [f9]) (by simp [f10, e10]) (by simp [f11, e11]) (by simp [f12]) (by omega) ⟨⟨_, _, _, P1⟩, on', hp0, A.ml⟩
        · rw [he] at h1'; cases h1'
      · rcases hor with ⟨h1', _⟩ | ⟨h1', hB, hW⟩
        · rw [he] at h1'; cases h1'
        · obtain ⟨k2', U2'⟩ := P1.rw'.mem R2 U2
          have P2 := P1.ref (k2'.cast (show _ = X' by rw [hX', hB, hW])) U2'
          simp (maxSteps := 1000000) (disch := first | assumption | ((try simp only [push_next, put_next, adv_next, List.length_cons, List.length_nil, List.length_map, List.length_set]); omega) | simp) [-g12_pianolalaw13_play]
          exact tail _ now _ h2 (by simp [f1]) (by simp [f2]) (by simp [f7]) (by simp [f8]) (by simp [f9]) (by simp [f10, e10]) (by simp [f11, e11]) (by simp [f12]) (by omega) ⟨⟨_, _, _, P2⟩, on', hp0, by rw [hX']; exact A.ml⟩
    simp (maxSteps := 1000000) (disch := first | assumption | ((try simp only [push_next, put_next, adv_next, List.length_cons, List.length_nil, List.length_map, List.length_set]); omega) | simp) [e13, hp, k5, e8, -g12_pianolalaw13_play, -g6_pianolalaw13_play]
    refine rstorer P.ku.ra (fun he => ?_) fun he h1 R1 U1 => ?_
    · simp (maxSteps := 1000000) (disch := first | assumption | ((try simp only [push_next, put_next, adv_next, List.length_cons, List.length_nil, List.length_map, List.length_set]); omega) | simp) [-g12_pianolalaw13_play, -g6_pianolalaw13_play]
      exact part2 X h _ A.on ⟨X.B, X.W, rfl, .inl ⟨he, rfl, rfl⟩⟩ P rfl (by simp) (by simp) (by simp) (by simp) (by simp) (by simp) (by simp) (by simp) (by simp)
    · obtain ⟨k1, U1'⟩ := P.ku.mem R1 U1
      simp (maxSteps := 1000000) (disch := first | assumption | ((try simp only [push_next, put_next, adv_next, List.length_cons, List.length_nil, List.length_map, List.length_set]); omega) | simp) [-g12_pianolalaw13_play, -g6_pianolalaw13_play]
      exact part2 { X with B := stB X.B (y.v % 2048#32).toNat (1 : Int).toNat (BitVec.setWidth 32 y.b), W := tch X.M X.W (y.v % 2048#32).toNat (1 : Int).toNat } h1 _ A.on ⟨_, _, rfl, .inr ⟨he, rfl, rfl⟩⟩ (P.dev k1 U1') (U1.get p (lt_of_get hp) (by simp; omega)) (by simp) (by simp) (by simp) (by simp) (by simp) (by simp) (by simp) (by simp) (by simp)
  have hwk : wok 4 k = dat k := by simp [wok]
  simp (maxSteps := 1000000) (disch := first | assumption | ((try simp only [push_next, put_next, adv_next, List.length_cons, List.length_nil, List.length_map, List.length_set]); omega) | simp) [e13, hp, k2, k3, k4, k5, e9, e14, e15, e11, -g12_pianolalaw13_play]
  refine P.ku.wr ⟨hp0, by omega⟩ fun h1 fp1 k1 U1 => ?_
  have P1 := P.dev k1 U1
  simp (maxSteps := 1000000) (disch := first | assumption | ((try simp only [push_next, put_next, adv_next, List.length_cons, List.length_nil, List.length_map, List.length_set]); omega) | simp) [e10, e11, e14, e15, -g12_pianolalaw13_play]
  refine zset P1.rw' (by omega) hk64 ⟨hp0, by omega⟩ fun h2 fr2 k2' U2 => ?_
  have P2 := P1.ref k2' U2
  rw [hwk]
  simp (maxSteps := 1000000) (disch := first | assumption | ((try simp only [push_next, put_next, adv_next, List.length_cons, List.length_nil, List.length_map, List.length_set]); omega) | simp) [-g12_pianolalaw13_play]
  refine tail _ now _ h2 (by simp) (by simp) (by simp) (by simp) (by simp) (by simp) (by simp [e11]) (by simp) (by omega) ⟨⟨_, _, _, P2⟩, fun e' he => ?_, hp0, by simpa [BS.wr] using A.ml⟩
  simp [BS.wr] at he
  unfold DmS.wrw at he
  split at he
  · exact Only.arm A.on e' he
  · exact A.on e' he
theorem QP.more (A : QP g h n0 x now X) (K : Kp h h') : QP g h' n0 x now X := by
  obtain ⟨fp, fr, fo, P⟩ := A.pw
  exact ⟨⟨fp, fr, fo, P.more K⟩, A.on, A.n0', A.ml⟩
theorem qstep {y : AskS} {Q : Ex → Env → Hp → Prop} {e : Env} {F : List Fr} {p : Nat} {near : Bool} (A : QP g h n0 x now X) (hnow : now ≤ 2 ^ 59) (hp : h.get p = some (.cells false [.int .i64 y.k, .int .i64 y.j, u32 y.v, .int .i64 y.t, u8 y.b])) (hpx : n0 + 11 < p) (e2 : e 1 = .bool near) (e7 : e 5 = ptr n0 0) (e8 : e 6 = ptr (n0 + 1 + 3) 0) (e9 : e 7 = ptr (n0 + 5) 0) (e10 : e 8 = ptr (x + 4) 0) (e11 : e 9 = .int .i64 now) (e13 : e 11 = ptr p 0)
    (hk : ∀ (X' : BS) (now' : Int) (e' : Env), e' 0 = e 0 → e' 1 = e 1 → e' 5 = e 5 → e' 6 = e 6 → e' 7 = e 7 → e' 8 = e 8 → e' 9 = .int .i64 now' → e' 10 = e 10 → now' ≤ now + 1100 → ∀ h', QP g h' n0 x now' X' → GR T Q F .n e' h') : G T Q c14_pianolalaw13_play F e h := by
  obtain ⟨m, hm⟩ : ∃ m, m = wi y.j 0 6 := ⟨_, rfl⟩
  have hmb := wi_bound (n := y.j) (show (0 : Int) ≤ 6 by omega)
  rw [← hm] at hmb
  have hm6 : m = 0 ∨ m = 1 ∨ m = 2 ∨ m = 3 ∨ m = 4 ∨ m = 5 ∨ m = 6 := by omega
  have hw := fun q => within_eq (h := h) (q := q) (n := y.j) (lo := 0) (hi := 6) (by omega) (by omega) (by omega)
  rw [← hm] at hw
  have main : ∀ (k v : BitVec 32) (e1 : Env) (h1 : Hp), Kp h h1 → k.toNat < 64 → e1 0 = e 0 → e1 1 = e 1 → e1 5 = e 5 → e1 6 = e 6 → e1 7 = e 7 → e1 8 = e 8 → e1 9 = e 9 → e1 10 = e 10 → e1 11 = e 11 → e1 12 = u32 k → e1 13 = u32 v → GR T Q (Fr.seq (.seq (.seq (.ops [⟨some 69, none, .fa 0 (.t 11)⟩, ⟨some 70, none, .ld (.t 69)⟩]) (.block 2 (.seq (.ops [⟨some 83, none, .bin .eql (.t 70) (.c (.int .i64 2))⟩, ⟨some 82, none, .mov (.t 83)⟩]) c11_pianolalaw13_play))) c12_pianolalaw13_play) :: F) .n e1 h1 := fun k v e1 h1 K1 hk64 f1 f2 f7 f8 f9 f10 f11 f12 f13 f14 f15 =>
    qsw (y := y) (A.more K1) hnow (by rw [K1.get p (lt_of_get hp), hp]) hpx (f7.trans e7) (f8.trans e8) (f9.trans e9) (f10.trans e10) (f11.trans e11) (f13.trans e13) f14 f15 hk64 fun X' now' e' i1 i2 i7 i8 i9 i10 i11 i12 hn h' A' => hk X' now' e' (i1.trans f1) (i2.trans f2) (i7.trans f7) (i8.trans f8) (i9.trans f9) (i10.trans f10) i11 (i12.trans f12) hn h' A'
  have hn13 := A.n0'
  have hpl := lt_of_get hp
  rcases hm6 with rfl | rfl | rfl | rfl | rfl | rfl | rfl
  · simp (maxSteps := 1000000) (disch := first | assumption | ((try simp only [push_next, put_next, adv_next, List.length_cons, List.length_nil, List.length_map, List.length_set]); omega) | simp) [e13, hp, GC_of hw, -g13_pianolalaw13_play]
    rw [g13_pianolalaw13_play]
    simp only [G_seq, G_ops]
    generalize (Fr.seq (.seq (.seq (.ops [⟨some 69, none, .fa 0 (.t 11)⟩, ⟨some 70, none, .ld (.t 69)⟩]) (.block 2 (.seq (.ops [⟨some 83, none, .bin .eql (.t 70) (.c (.int .i64 2))⟩, ⟨some 82, none, .mov (.t 83)⟩]) c11_pianolalaw13_play))) c12_pianolalaw13_play) :: F) = F1 at main ⊢
    cases near with
    | false =>
      simp (maxSteps := 1000000) (disch := first | assumption | ((try simp only [push_next, put_next, adv_next, List.length_cons, List.length_nil, List.length_map, List.length_set]); omega) | simp) [e2]
      exact main 0#32 y.v _ h (.refl h) (by decide) (by simp) (by simp [e2]) (by simp) (by simp) (by simp) (by simp) (by simp) (by simp) (by simp) (by simp) (by simp)
    | true =>
      simp (maxSteps := 1000000) (disch := first | assumption | ((try simp only [push_next, put_next, adv_next, List.length_cons, List.length_nil, List.length_map, List.length_set]); omega) | simp) [e2]
      exact main 0#32 _ _ h (.refl h) (by decide) (by simp) (by simp [e2]) (by simp) (by simp) (by simp) (by simp) (by simp) (by simp) (by simp) (by simp) (by simp; rfl)
  · simp (maxSteps := 1000000) (disch := first | assumption | ((try simp only [push_next, put_next, adv_next, List.length_cons, List.length_nil, List.length_map, List.length_set]); omega) | simp) [e13, hp, GC_of hw, -g13_pianolalaw13_play]
    rw [g13_pianolalaw13_play]
    simp only [G_seq, G_ops]
    generalize (Fr.seq (.seq (.seq (.ops [⟨some 69, none, .fa 0 (.t 11)⟩, ⟨some 70, none, .ld (.t 69)⟩]) (.block 2 (.seq (.ops [⟨some 83, none, .bin .eql (.t 70) (.c (.int .i64 2))⟩, ⟨some 82, none, .mov (.t 83)⟩]) c11_pianolalaw13_play))) c12_pianolalaw13_play) :: F) = F1 at main ⊢
    cases near with
    | false =>
      simp (maxSteps := 1000000) (disch := first | assumption | ((try simp only [push_next, put_next, adv_next, List.length_cons, List.length_nil, List.length_map, List.length_set]); omega) | simp) [e2]
      exact main 4#32 y.v _ h (.refl h) (by decide) (by simp) (by simp [e2]) (by simp) (by simp) (by simp) (by simp) (by simp) (by simp) (by simp) (by simp) (by simp)
    | true =>
      simp (maxSteps := 1000000) (disch := first | assumption | ((try simp only [push_next, put_next, adv_next, List.length_cons, List.length_nil, List.length_map, List.length_set]); omega) | simp) [e2]
      exact main 4#32 _ _ h (.refl h) (by decide) (by simp) (by simp [e2]) (by simp) (by simp) (by simp) (by simp) (by simp) (by simp) (by simp) (by simp) (by simp; rfl)
  · simp (maxSteps := 1000000) (disch := first | assumption | ((try simp only [push_next, put_next, adv_next, List.length_cons, List.length_nil, List.length_map, List.length_set]); omega) | simp) [e13, hp, GC_of hw, -g13_pianolalaw13_play]
    rw [g13_pianolalaw13_play]
    simp only [G_seq, G_ops]
    generalize (Fr.seq (.seq (.seq (.ops [⟨some 69, none, .fa 0 (.t 11)⟩, ⟨some 70, none, .ld (.t 69)⟩]) (.block 2 (.seq (.ops [⟨some 83, none, .bin .eql (.t 70) (.c (.int .i64 2))⟩, ⟨some 82, none, .mov (.t 83)⟩]) c11_pianolalaw13_play))) c12_pianolalaw13_play) :: F) = F1 at main ⊢
    cases near with
    | false =>
      simp (maxSteps := 1000000) (disch := first | assumption | ((try simp only [push_next, put_next, adv_next, List.length_cons, List.length_nil, List.length_map, List.length_set]); omega) | simp) [e2]
      exact main 8#32 y.v _ h (.refl h) (by decide) (by simp) (by simp [e2]) (by simp) (by simp) (by simp) (by simp) (by simp) (by simp) (by simp) (by simp) (by simp)
    | true =>
      simp (maxSteps := 1000000) (disch := first | assumption | ((try simp only [push_next, put_next, adv_next, List.length_cons, List.length_nil, List.length_map, List.length_set]); omega) | simp) [e2]
      exact main 8#32 _ _ h (.refl h) (by decide) (by simp) (by simp [e2]) (by simp) (by simp) (by simp) (by simp) (by simp) (by simp) (by simp) (by simp) (by simp; rfl)
  · simp (maxSteps := 1000000) (disch := first | assumption | ((try simp only [push_next, put_next, adv_next, List.length_cons, List.length_nil, List.length_map, List.length_set]); omega) | simp) [e13, hp, GC_of hw, -g13_pianolalaw13_play]
    rw [g13_pianolalaw13_play]
    simp only [G_seq, G_ops]
    generalize (Fr.seq (.seq (.seq (.ops [⟨some 69, none, .fa 0 (.t 11)⟩, ⟨some 70, none, .ld (.t 69)⟩]) (.block 2 (.seq (.ops [⟨some 83, none, .bin .eql (.t 70) (.c (.int .i64 2))⟩, ⟨some 82, none, .mov (.t 83)⟩]) c11_pianolalaw13_play))) c12_pianolalaw13_play) :: F) = F1 at main ⊢
    cases near with
    | false =>
      simp (maxSteps := 1000000) (disch := first | assumption | ((try simp only [push_next, put_next, adv_next, List.length_cons, List.length_nil, List.length_map, List.length_set]); omega) | simp) [e2]
      exact main 12#32 y.v _ h (.refl h) (by decide) (by simp) (by simp [e2]) (by simp) (by simp) (by simp) (by simp) (by simp) (by simp) (by simp) (by simp) (by simp)
    | true =>
      simp (maxSteps := 1000000) (disch := first | assumption | ((try simp only [push_next, put_next, adv_next, List.length_cons, List.length_nil, List.length_map, List.length_set]); omega) | simp) [e2]
      exact main 12#32 _ _ h (.refl h) (by decide) (by simp) (by simp [e2]) (by simp) (by simp) (by simp) (by simp) (by simp) (by simp) (by simp) (by simp) (by simp; rfl)
  · simp (maxSteps := 1000000) (disch := first | assumption | ((try simp only [push_next, put_next, adv_next, List.length_cons, List.length_nil, List.length_map, List.length_set]); omega) | simp) [e13, hp, GC_of hw, -g13_pianolalaw13_play]
    rw [g13_pianolalaw13_play]
    simp only [G_seq, G_ops]
    generalize (Fr.seq (.seq (.seq (.ops [⟨some 69, none, .fa 0 (.t 11)⟩, ⟨some 70, none, .ld (.t 69)⟩]) (.block 2 (.seq (.ops [⟨some 83, none, .bin .eql (.t 70) (.c (.int .i64 2))⟩, ⟨some 82, none, .mov (.t 83)⟩]) c11_pianolalaw13_play))) c12_pianolalaw13_play) :: F) = F1 at main ⊢
    cases near with
    | false =>
      simp (maxSteps := 1000000) (disch := first | assumption | ((try simp only [push_next, put_next, adv_next, List.length_cons, List.length_nil, List.length_map, List.length_set]); omega) | simp) [e2]
      exact main 16#32 y.v _ h (.refl h) (by decide) (by simp) (by simp [e2]) (by simp) (by simp) (by simp) (by simp) (by simp) (by simp) (by simp) (by simp) (by simp)
    | true =>
      simp (maxSteps := 1000000) (disch := first | assumption | ((try simp only [push_next, put_next, adv_next, List.length_cons, List.length_nil, List.length_map, List.length_set]); omega) | simp) [e2]
      exact main 16#32 _ _ h (.refl h) (by decide) (by simp) (by simp [e2]) (by simp) (by simp) (by simp) (by simp) (by simp) (by simp) (by simp) (by simp) (by simp; rfl)
  · simp (maxSteps := 1000000) (disch := first | assumption | ((try simp only [push_next, put_next, adv_next, List.length_cons, List.length_nil, List.length_map, List.length_set]); omega) | simp) [e13, hp, GC_of hw, -g13_pianolalaw13_play]
    rw [g13_pianolalaw13_play]
    simp only [G_seq, G_ops]
    generalize (Fr.seq (.seq (.seq (.ops [⟨some 69, none, .fa 0 (.t 11)⟩, ⟨some 70, none, .ld (.t 69)⟩]) (.block 2 (.seq (.ops [⟨some 83, none, .bin .eql (.t 70) (.c (.int .i64 2))⟩, ⟨some 82, none, .mov (.t 83)⟩]) c11_pianolalaw13_play))) c12_pianolalaw13_play) :: F) = F1 at main ⊢
    cases near with
    | false =>
      simp (maxSteps := 1000000) (disch := first | assumption | ((try simp only [push_next, put_next, adv_next, List.length_cons, List.length_nil, List.length_map, List.length_set]); omega) | simp) [e2]
      exact main 20#32 y.v _ h (.refl h) (by decide) (by simp) (by simp [e2]) (by simp) (by simp) (by simp) (by simp) (by simp) (by simp) (by simp) (by simp) (by simp)
    | true =>
      simp (maxSteps := 1000000) (disch := first | assumption | ((try simp only [push_next, put_next, adv_next, List.length_cons, List.length_nil, List.length_map, List.length_set]); omega) | simp) [e2]
      exact main 20#32 _ _ h (.refl h) (by decide) (by simp) (by simp [e2]) (by simp) (by simp) (by simp) (by simp) (by simp) (by simp) (by simp) (by simp) (by simp; rfl)
  · simp (maxSteps := 1000000) (disch := first | assumption | ((try simp only [push_next, put_next, adv_next, List.length_cons, List.length_nil, List.length_map, List.length_set]); omega) | simp) [e13, hp, GC_of hw, -g13_pianolalaw13_play]
    rw [g13_pianolalaw13_play]
    simp only [G_seq, G_ops]
    generalize (Fr.seq (.seq (.seq (.ops [⟨some 69, none, .fa 0 (.t 11)⟩, ⟨some 70, none, .ld (.t 69)⟩]) (.block 2 (.seq (.ops [⟨some 83, none, .bin .eql (.t 70) (.c (.int .i64 2))⟩, ⟨some 82, none, .mov (.t 83)⟩]) c11_pianolalaw13_play))) c12_pianolalaw13_play) :: F) = F1 at main ⊢
    cases near with
    | false =>
      simp (maxSteps := 1000000) (disch := first | assumption | ((try simp only [push_next, put_next, adv_next, List.length_cons, List.length_nil, List.length_map, List.length_set]); omega) | simp) [e2]
      exact main 24#32 y.v _ h (.refl h) (by decide) (by simp) (by simp [e2]) (by simp) (by simp) (by simp) (by simp) (by simp) (by simp) (by simp) (by simp) (by simp)
    | true =>
      simp (maxSteps := 1000000) (disch := first | assumption | ((try simp only [push_next, put_next, adv_next, List.length_cons, List.length_nil, List.length_map, List.length_set]); omega) | simp) [e2]
      exact main 24#32 _ _ h (.refl h) (by decide) (by simp) (by simp [e2]) (by simp) (by simp) (by simp) (by simp) (by simp) (by simp) (by simp) (by simp) (by simp; rfl)
end
end Go.Proofs.Ytpdfdemoflofhaa.Cd

/- A move's play: all calls. -/
set_option maxRecDepth 1000000
set_option maxHeartbeats 8000000
set_option linter.unusedSimpArgs false
set_option linter.unusedVariables false
namespace Go.Proofs.Ytpdfdemoflofhaa.Cd
open Go Go.Dx
section
variable {g h h' : Hp} {q : Value → Hp → Prop} {n0 x : Nat} {fp fr fo : List Nat} {X : BS} {now : Int}
theorem qplay {near : Bool} {l : List AskS} {al : Option Addr} {cl : Nat} (Sl : Sees encAsk g al l) (hl : l.length < 2 ^ 40) :
    WC T n_pianolalaw13_play [.slice al l.length cl, .bool near] g fun v h' => v = .bool true ∧ Kp g h' := by
  rw [w_pianolalaw13_play]
  simp (maxSteps := 1000000) (disch := first | assumption | ((try simp only [push_next, put_next, adv_next, List.length_cons, List.length_nil, List.length_map, List.length_set]); omega) | simp) [GC_of (fun q => wnew)]
  have W1 : WhA (g.push (.cells false [.slice none 0 0, .int .i64 0])) g.next ⟨[], 0⟩ [] := ⟨Wh.new (h := g), .nil⟩
  have K1 : Kp g (g.push (.cells false [.slice none 0 0, .int .i64 0])) := (Kp.refl g).push _
  have n1 : (g.push (.cells false [.slice none 0 0, .int .i64 0])).next = g.next + 1 := rfl
  generalize g.push (.cells false [.slice none 0 0, .int .i64 0]) = h1 at *
  refine rnew fun h2 R2 K2 n2 => ?_
  rw [show (max 1 (min (2 : Int) 64)).toNat = pgs 2 from rfl, n1] at R2
  rw [n1] at n2
  have K12 := K1.trans K2
  rw [n1]
  have hw2 : g.next < h2.next := by omega
  simp (maxSteps := 1000000) (disch := first | assumption | ((try simp only [push_next, put_next, adv_next, List.length_cons, List.length_nil, List.length_map, List.length_set]); omega) | simp) [GC_of (fun q => dnew (dv := 4) (x := g.next + 1) hw2)]
  have D3 : Dm (h2.push (.cells false [.int .i64 4, ptr g.next 0, ptr (g.next + 1 + 3) 0, u32 0#32, u32 0#32, u32 0#32, u32 0#32])) h2.next g.next (g.next + 1) 4 ⟨0#32, 0#32, 0#32, 0#32⟩ := get_push_self
  have K3 : Kp h2 (h2.push (.cells false [.int .i64 4, ptr g.next 0, ptr (g.next + 1 + 3) 0, u32 0#32, u32 0#32, u32 0#32, u32 0#32])) := (Kp.refl h2).push _
  have n3 : (h2.push (.cells false [.int .i64 4, ptr g.next 0, ptr (g.next + 1 + 3) 0, u32 0#32, u32 0#32, u32 0#32, u32 0#32])).next = h2.next + 1 := rfl
  generalize h2.push (.cells false [.int .i64 4, ptr g.next 0, ptr (g.next + 1 + 3) 0, u32 0#32, u32 0#32, u32 0#32, u32 0#32]) = h3 at *
  have K13 := K12.trans K3
  have hn3 : h3.next = g.next + 6 := by omega
  have z1 : h2.next = g.next + 5 := by omega
  rw [z1] at D3 ⊢
  refine znew (im := []) (se := []) .nul .nul (by simp) (by simp) fun h4 R4 K4 n4 => ?_
  obtain ⟨x, hx⟩ : ∃ x, x = g.next + 6 := ⟨_, rfl⟩
  rw [hn3, ← hx] at R4
  rw [hn3, ← hx]
  have P4 : QW g h4 g.next x [] [] [] (BS.mk0 2 [] []) (BS.mk0 2 [] []) := by
    have hB : (BS.mk0 2 [] []).B = List.replicate (1024 * pgs 2) 0#8 := by simp only [BS.mk0, List.take_nil]; rw [ovB_nil]
    have hW : (BS.mk0 2 [] []).W = List.replicate (pgs 2) false := by simp only [BS.mk0]; exact tch_false ..
    refine ⟨⟨by unfold Dm at D3 ⊢; rw [K4.get _ (by omega), D3]; rfl, ?_, W1.kp (K2.trans (K3.trans K4)), by simp, by omega, by omega⟩, R4, hx, by simp, K13.trans K4, Nat.le_refl _⟩
    have := R2.kp (K3.trans K4)
    rw [hB, hW]
    exact this
  have hon : Only 4 (BS.mk0 2 [] []) := fun e he => by simp [BS.mk0] at he
  have hml : (BS.mk0 2 [] []).M.length = 2 := by simp [BS.mk0, show pgs 2 = 2 from rfl]
  generalize BS.mk0 2 [] [] = X0 at *
  have SK : ∀ {h'}, Kp g h' → Sees encAsk h' al l := fun K => Sl.kp K
  simp (maxSteps := 1000000) (disch := first | assumption | ((try simp only [push_next, put_next, adv_next, List.length_cons, List.length_nil, List.length_map, List.length_set]); omega) | simp)
  refine G_loop (fun k e h' => ∃ (i : Nat) (now : Int) (X : BS), k = 80 - i ∧ i ≤ 80 ∧ i ≤ l.length ∧ now ≤ 1100 * i ∧ e 0 = .slice al l.length cl ∧ e 1 = .bool near ∧ e 5 = ptr g.next 0 ∧ e 6 = ptr (g.next + 1 + 3) 0 ∧ e 7 = ptr (g.next + 5) 0 ∧ e 8 = ptr (x + 4) 0 ∧ e 9 = .int .i64 now ∧ e 10 = .int .i64 i ∧ QP g h' g.next x now X) ?_ 80 _ _ ⟨0, 0, X0, rfl, by omega, by omega, by omega, by simp, by simp, by simp, by simp, by simp, by simp, by simp, by simp, ⟨⟨[], [], [], P4⟩, hon, by omega, hml⟩⟩
  rintro k ih e h' ⟨i, now, X, rfl, i80, il, hnow, e1, e2, e7, e8, e9, e10, e11, e12, A⟩
  obtain ⟨fp, fr, fo, P⟩ := A.pw
  obtain ⟨vL, vi, vo, vu, S⟩ := P.rw'.bs
  have g1 := S.g
  have hel := P.rw'.el
  simp only [rcl, rrest] at g1
  by_cases c : i < l.length ∧ i < 80
  · obtain ⟨c1, c2⟩ := c
    have c1i : (i : Int) < l.length := by omega
    have c2i : (i : Int) < 80 := by omega
    have hspl : l = l.take i ++ l[i] :: l.drop (i + 1) := by rw [List.getElem_cons_drop, List.take_append_drop]
    obtain ⟨A0, hA, hr⟩ := Sees.mid (A := l.take i) (x := l[i]) (B := l.drop (i + 1)) (by rw [← hspl]; exact SK P.kp)
    obtain ⟨y, hy⟩ : ∃ y, y = l[i] := ⟨_, rfl⟩
    rw [List.length_take, Nat.min_eq_left (by omega), ← hy] at hr
    subst hA
    have hr' : h'.rdn A0.block (A0.off + i * 5) 5 = some [.int .i64 y.k, .int .i64 y.j, u32 y.v, .int .i64 y.t, u8 y.b] := hr
    simp (maxSteps := 1000000) (disch := first | assumption | ((try simp only [push_next, put_next, adv_next, List.length_cons, List.length_nil, List.length_map, List.length_set]); omega) | simp) [e1, e2, e7, e8, e9, e10, e11, e12, c1i, c2i, g1, hr', -g14_pianolalaw13_play]
    have Kp1 : Kp h' (h'.push (.cells false [.int .i64 y.k, .int .i64 y.j, u32 y.v, .int .i64 y.t, u8 y.b])) := (Kp.refl h').push _
    refine qstep (y := y) (p := h'.next) (near := near) (A.more Kp1) (by omega) get_push_self P.ku.ln (by simp [e2]) (by simp [e7]) (by simp [e8]) (by simp [e9]) (by simp [e10]) (by simp [e11]) (by simp) fun X' now' e' f1 f2 f7 f8 f9 f10 f11 f12 hn h2 A2 => ?_
    have f12' : e' 10 = .int .i64 i := by rw [f12]; simp [e12]
    simp (maxSteps := 1000000) (disch := first | assumption | ((try simp only [push_next, put_next, adv_next, List.length_cons, List.length_nil, List.length_map, List.length_set]); omega) | simp) [f12']
    exact ih (80 - (i + 1)) (by omega) _ _ ⟨i + 1, now', X', rfl, by omega, by omega, by omega, by simp [f1, e1], by simp [f2, e2], by simp [f7, e7], by simp [f8, e8], by simp [f9, e9], by simp [f10, e10], by simp [f11], by simp, A2⟩
  · have hB : X.B.length = 2048 := by rw [P.ku.ra.sz, A.ml]
    have hth : thB X.B 0#32 2048 = true := by simp [thB, hB]
    have fini : ∀ e' : Env, e' 6 = ptr (g.next + 1 + 3) 0 → e' 8 = ptr (x + 4) 0 → G T (fin [.t 4] (some []) g.next fun v h' => v = .bool true ∧ Kp g h') c18_pianolalaw13_play [] e' h' := fun e' f8 f10 => by
      simp (maxSteps := 1000000) (disch := first | assumption | ((try simp only [push_next, put_next, adv_next, List.length_cons, List.length_nil, List.length_map, List.length_set]); omega) | simp) [f8, -g17_pianolalaw13_play]
      refine rbytes P.ku.ra (by omega) (fun hb => by rw [hth] at hb; cases hb) fun m hm hle hb a' c' h2 S2 K2 _ _ _ => ?_
      have hm' : m = 2048 := by omega
      subst hm'
      have S2' : Sees encB h2 a' X.B := by
        have : (X.B.drop (0#32).toNat).take 2048 = X.B := by
          simp only [show (0#32).toNat = 0 from rfl, List.drop_zero]
          exact List.take_of_length_le (by omega)
        rw [this] at S2
        exact S2
      have P2 := P.more K2
      have S3 := RS.kp P.rw' S K2
      have g2 := S3.g
      simp only [rcl, rrest] at g2
      have hr2 := P2.rw'.ra.r
      have he1 := b2sV_sees (c := X.B.length) (sees_b P2.rw'.ra.b)
      have he2 := b2sV_sees (c := c') S2'
      rw [hB] at he2
      simp (maxSteps := 1000000) (disch := first | assumption | ((try simp only [push_next, put_next, adv_next, List.length_cons, List.length_nil, List.length_map, List.length_set]); omega) | simp) [f10, g2, hr2, he1, he2]
      exact P2.kp
    by_cases c1 : i < l.length
    · have c1i : (i : Int) < l.length := by omega
      have c2i : ¬ (i : Int) < 80 := by omega
      simp (maxSteps := 1000000) (disch := first | assumption | ((try simp only [push_next, put_next, adv_next, List.length_cons, List.length_nil, List.length_map, List.length_set]); omega) | simp) [e1, e12, c1i, c2i, -g18_pianolalaw13_play]
      exact fini _ (by simp [e8]) (by simp [e10])
    · have c1i : ¬ (i : Int) < l.length := by omega
      simp (maxSteps := 1000000) (disch := first | assumption | ((try simp only [push_next, put_next, adv_next, List.length_cons, List.length_nil, List.length_map, List.length_set]); omega) | simp) [e1, e12, c1i, -g18_pianolalaw13_play]
      exact fini _ (by simp [e8]) (by simp [e10])
end
end Go.Proofs.Ytpdfdemoflofhaa.Cd

/- DmaMoves: what it answers. -/
set_option maxRecDepth 1000000
set_option maxHeartbeats 8000000
set_option linter.unusedSimpArgs false
set_option linter.unusedVariables false
namespace Go.Proofs.Ytpdfdemoflofhaa.Cd
open Go Go.Dx
/-- All that a move needs. -/
structure DU (g h : Hp) (w x d : Nat) (dv : Int) (B : By) (M W : List Bool) (S : WhS) (fp : List Nat) (D : DmS) (Z : List (Nat × Ob)) : Prop where
  dm : Dm h d w x dv D
  ra : Ra h x B M W
  wh : WhA h w S fp
  kp : Kp g h
  gf : ∀ b ∈ w :: fp, g.next ≤ b ∧ b ≠ d ∧ (b < x ∨ x + 3 < b)
  gx : g.next ≤ x
  gd : g.next ≤ d
  dx : d < x ∨ x + 3 < d
  zz : ∀ p ∈ Z, h.get p.1 = some p.2 ∧ p.1 ∉ d :: w :: fp ∧ (p.1 < x ∨ x + 3 < p.1)
section
variable {g h h' : Hp} {q : Value → Hp → Prop} {d w x : Nat} {B B' : By} {M W W' : List Bool} {S S' : WhS} {fp fp' : List Nat} {D D' : DmS} {dv now : Int} {a v : BitVec 32} {Z : List (Nat × Ob)}
theorem DU.dlt (X : DU g h w x d dv B M W S fp D Z) : d < h.next := by
  have := X.dm
  unfold Dm at this
  exact lt_of_get this
theorem DU.off (X : DU g h w x d dv B M W S fp D Z) : d ∉ w :: fp := fun hm => (X.gf d hm).2.1 rfl
theorem DU.more (X : DU g h w x d dv B M W S fp D Z) (K : Kp h h') : DU g h' w x d dv B M W S fp D Z :=
  ⟨by have h1 := X.dm; have h2 := X.dlt; unfold Dm at h1 ⊢; rw [K.get d h2, h1], X.ra.kp K, X.wh.kp K, X.kp.trans K, X.gf, X.gx, X.gd, X.dx, fun p hp => ⟨by rw [K.get _ (lt_of_get (X.zz p hp).1), (X.zz p hp).1], (X.zz p hp).2⟩⟩
theorem DU.wheel (X : DU g h w x d dv B M W S fp D Z) (D1 : Dm h' d w x dv D') (Q1 : WhA h' w S' fp') (U : Upd h h' (d :: w :: fp) (d :: w :: fp')) (hd : d ∉ fp') : DU g h' w x d dv B M W S' fp' D' Z :=
  ⟨D1, X.ra.upd U (fun b hb => by
    rcases List.mem_cons.1 hb with rfl | hb
    · exact X.dx
    · exact (X.gf b hb).2.2), Q1, U.kp' X.kp (fun b hb => by
    rcases List.mem_cons.1 hb with rfl | hb
    · exact X.gd
    · exact (X.gf b hb).1), fun b hb => by
      have h1 := X.ra.lt
      have h2 := X.dlt
      have h3 := X.kp.le
      have hbd : b ≠ d := fun e => by
        subst e
        rcases List.mem_cons.1 hb with rfl | hb
        · exact X.off (by simp)
        · exact hd hb
      rcases U.sub b (List.mem_cons_of_mem _ hb) with h5 | h5
      · rcases List.mem_cons.1 h5 with rfl | h5
        · exact absurd rfl hbd
        · exact ⟨(X.gf b h5).1, hbd, (X.gf b h5).2.2⟩
      · exact ⟨by omega, by omega, by omega⟩, X.gx, X.gd, X.dx, fun p hp => by
      obtain ⟨z1, z2, z3⟩ := X.zz p hp
      have z4 := lt_of_get z1
      refine ⟨by rw [U.get _ z4 z2, z1], fun hm => ?_, z3⟩
      rcases U.sub _ hm with h5 | h5
      · exact z2 h5
      · omega⟩
theorem duwrite (X : DU g h w x d dv B M W S fp D Z) (hn : 0 ≤ now ∧ now ≤ 2 ^ 60) (hq : ∀ h' fp', DU g h' w x d dv B M W (D.wrw S dv a v now) fp' (D.wr a v) Z → q (.bool (dat a)) h') :
    WC T n_dma_Dma_Write [ptr d 0, u32 a, u32 v, .int .i64 now] h q := by
  refine dwrite X.dm X.wh X.off hn fun h1 fp1 D1 Q1 U1 N1 => hq _ _ (X.wheel D1 Q1 U1 fun hm => N1 (List.mem_cons_of_mem _ hm))
theorem DU.take (X : DU g h w x d dv B M W S fp D Z) (Q1 : WhA h' w S' fp') (U : Upd h h' (w :: fp) (w :: fp')) : DU g h' w x d dv B M W S' fp' D Z := by
  have h1 := X.dm
  have h2 := X.dlt
  refine X.wheel (by unfold Dm at h1 ⊢; rw [U.get d h2 X.off, h1]) Q1 ⟨U.le, fun b hb hn => U.get b hb fun hm => hn (List.mem_cons_of_mem _ hm), fun b hb => ?_⟩ fun hm => ?_
  · rcases List.mem_cons.1 hb with rfl | hb
    · exact .inl (by simp)
    · rcases U.sub b hb with h5 | h5
      · exact .inl (List.mem_cons_of_mem _ h5)
      · exact .inr h5
  · rcases U.sub d (List.mem_cons_of_mem _ hm) with h5 | h5
    · exact X.off h5
    · omega
theorem DU.mem (X : DU g h w x d dv B M W S fp D Z) (R : Ra h' x B' M W') (D1 : Dm h' d w x dv D') (U : Upd h h' [d, x, x + 2] [d, x, x + 2]) : DU g h' w x d dv B' M W' S fp D' Z :=
  ⟨D1, R, X.wh.keep fun b hb => U.get b (X.wh.live b hb) (by have := (X.gf b hb).2; simp; omega), U.kp' X.kp (fun b hb => by
    have := X.gx
    have := X.gd
    simp at hb
    omega), X.gf, X.gx, X.gd, X.dx, fun p hp => by
      obtain ⟨z1, z2, z3⟩ := X.zz p hp
      refine ⟨by rw [U.get _ (lt_of_get z1) (by simp at z2 ⊢; omega), z1], z2, z3⟩⟩
theorem DU.ram (X : DU g h w x d dv B M W S fp D Z) (R : Ra h' x B' M W') (U : Upd h h' [x, x + 2] [x, x + 2]) : DU g h' w x d dv B' M W' S fp D Z := by
  have h1 := X.dm
  have h2 := X.dlt
  have h3 := X.dx
  refine X.mem R (by unfold Dm at h1 ⊢; rw [U.get d h2 (by simp; omega), h1]) ⟨U.le, fun b hb hn => U.get b hb (by simp at hn ⊢; exact hn.2), fun b hb => .inl hb⟩
theorem dufire (X : DU g h w x d dv B M W S fp D Z) (hq : ∀ h', DU g h' w x d dv (D.mem B) M (D.wrt B M W) S fp (D.fire B) Z → q (.tuple #[]) h') : WC T n_dma_Dma_Fire [ptr d 0, .int .i64 now] h q :=
  dfire X.dm X.ra X.dx fun h1 D1 R1 U1 => hq _ (X.mem R1 D1 U1)
/-- Made anew. -/
theorem DU.made {h1 : Hp} (R : Ra h1 (g.next + 1) B M W) (K : Kp (g.push (.cells false [.slice none 0 0, .int .i64 0])) h1) (hn : h1.next = g.next + 1 + 4) :
    DU g (h1.push (.cells false [.int .i64 dv, ptr g.next 0, ptr (g.next + 1 + 3) 0, u32 0#32, u32 0#32, u32 0#32, u32 0#32])) g.next (g.next + 1) h1.next dv B M W ⟨[], 0⟩ [] ⟨0#32, 0#32, 0#32, 0#32⟩ [] :=
  ⟨by unfold Dm; rw [get_push_self], R.kp ((Kp.refl h1).push _), ⟨(Wh.new (h := g)).kp (K.push _), .nil⟩, ((Kp.refl g).push _).trans (K.push _), fun b hb => by simp at hb; omega, by omega, by omega, by omega, by simp⟩
theorem ovB_take {B l : By} {a : Nat} (h : a ≤ B.length) : ((ovB B a l).drop a).take l.length = l := by
  have h1 : (B.take a).length = a := by simp; omega
  unfold ovB
  rw [List.append_assoc]
  rw [List.drop_left' h1, List.take_left' rfl]
theorem dutake {t : Int} {e : Ev} {E : List Ev} (X : DU g h w x d dv B M W S fp D Z) (hS : S.L = e :: E) (ht : e.at' ≤ t) (hq : ∀ h' fp', DU g h' w x d dv B M W ⟨E, S.n⟩ fp' D Z → q (.tuple #[.agg #[.int .i64 e.at', .int .i64 e.dev, .int .i64 e.seq], .bool true]) h') :
    WC T n_wheel_Wheel_Take [ptr w 0, .int .i64 t] h q := by
  refine takeS X.wh (fun hx => by rw [hS] at hx; simp at hx; omega) fun e' E' he _ h1 fp1 Q1 U1 => ?_
  rw [hS] at he
  cases he
  exact hq _ _ (X.take Q1 U1)
theorem dknown : WC T n_pianolalaw13_known [] g fun v h' => v = .bool true ∧ Kp g h' := by
  rw [w_pianolalaw13_known]
  simp (maxSteps := 1000000) (disch := first | assumption | ((try simp only [push_next, put_next, adv_next, List.length_cons, List.length_nil, List.length_map, List.length_set]); omega) | simp) [GC_of (fun q => wnew)]
  refine rnew fun h1 R1 K1 n1 => ?_
  simp only [push_next] at R1 n1
  have hd0 : g.next < h1.next := by omega
  simp (maxSteps := 1000000) (disch := first | assumption | ((try simp only [push_next, put_next, adv_next, List.length_cons, List.length_nil, List.length_map, List.length_set]); omega) | simp) [GC_of (fun q => dnew hd0)]
  have hd1 : g.next < (h1.push (.cells false [.int .i64 4, ptr g.next 0, ptr (g.next + 1 + 3) 0, u32 0#32, u32 0#32, u32 0#32, u32 0#32])).next := by simp; omega
  simp (maxSteps := 1000000) (disch := first | assumption | ((try simp only [push_next, put_next, adv_next, List.length_cons, List.length_nil, List.length_map, List.length_set]); omega) | simp) [GC_of (fun q => dnew_nil (q := q) (h := h1.push (.cells false [.int .i64 4, ptr g.next 0, ptr (g.next + 1 + 3) 0, u32 0#32, u32 0#32, u32 0#32, u32 0#32])) (dv := 4) (w := g.next))]
  have X0 := DU.made (dv := 4) R1 K1 n1
  have hB : (List.replicate (1024 * (max 1 (min (1 : Int) 64)).toNat) 0#8 : By).length = 1024 := by rw [List.length_replicate]; rfl
  generalize (List.replicate (1024 * (max 1 (min (1 : Int) 64)).toNat) 0#8 : By) = B at *
  generalize List.replicate (max 1 (min (1 : Int) 64)).toNat false = M at *
  generalize h1.push (.cells false [.int .i64 4, ptr g.next 0, ptr (g.next + 1 + 3) 0, u32 0#32, u32 0#32, u32 0#32, u32 0#32]) = h2 at *
  generalize h1.next = d at *
  refine rstore X0.ra (by omega) (fun hb => by simp [evB, hB] at hb) fun _ h3 R3 U3 => ?_
  have X1 := X0.ram R3 U3
  simp (maxSteps := 1000000) (disch := first | assumption | ((try simp only [push_next, put_next, adv_next, List.length_cons, List.length_nil, List.length_map, List.length_set]); omega) | simp)
  refine duwrite X1 (by omega) fun h4 fp4 X2 => ?_
  simp (maxSteps := 1000000) (disch := first | assumption | ((try simp only [push_next, put_next, adv_next, List.length_cons, List.length_nil, List.length_map, List.length_set]); omega) | simp)
  refine duwrite X2 (by omega) fun h5 fp5 X3 => ?_
  simp (maxSteps := 1000000) (disch := first | assumption | ((try simp only [push_next, put_next, adv_next, List.length_cons, List.length_nil, List.length_map, List.length_set]); omega) | simp)
  refine duwrite X3 (by omega) fun h6 fp6 X4 => ?_
  simp (maxSteps := 1000000) (disch := first | assumption | ((try simp only [push_next, put_next, adv_next, List.length_cons, List.length_nil, List.length_map, List.length_set]); omega) | simp)
  refine duwrite X4 (by omega) fun h7 fp7 X5 => ?_
  simp (maxSteps := 1000000) (disch := first | assumption | ((try simp only [push_next, put_next, adv_next, List.length_cons, List.length_nil, List.length_map, List.length_set]); omega) | simp)
  simp [DmS.wrw, DmS.wr, DmS.go] at X5
  have hA : (⟨[], 0⟩ : WhS).arm 4 (dtime 4#32) = ⟨[⟨2, 4, 0⟩], 1⟩ := rfl
  rw [hA] at X5
  refine dutake X5 rfl (by simp) fun h8 fp8 X6 => ?_
  simp (maxSteps := 1000000) (disch := first | assumption | ((try simp only [push_next, put_next, adv_next, List.length_cons, List.length_nil, List.length_map, List.length_set]); omega) | simp)
  have X7 := X6.more (h' := (h8.push (.cells false [.int .i64 0, .int .i64 0, .int .i64 0])).put h8.next (some (.cells false [.int .i64 2, .int .i64 4, .int .i64 0]))) (kp_laid (Kp.refl h8) _ _)
  have hst : (stB B 8 4 16909060#32).length = 1024 := by unfold stB; rw [ovB_length (by simp; omega), hB]
  have hok : DmS.ok ⟨8#32, 100#32, 4#32, 1#32⟩ (stB B 8 4 16909060#32) = true := by simp [DmS.ok, thB, hst]
  have hmem : DmS.mem ⟨8#32, 100#32, 4#32, 1#32⟩ (stB B 8 4 16909060#32) = ovB (stB B 8 4 16909060#32) 100 (wdB 16909060#32 4) := by
    unfold DmS.mem
    rw [if_pos hok]
    congr 1
    exact ovB_take (l := wdB 16909060#32 4) (a := 8) (by omega)
  simp only [push_put_self] at X7
  have hg8 : (h8.push (.cells false [.int .i64 2, .int .i64 4, .int .i64 0])).get h8.next = some (.cells false [.int .i64 2, .int .i64 4, .int .i64 0]) := get_push_self
  generalize h8.push (.cells false [.int .i64 2, .int .i64 4, .int .i64 0]) = h9 at *
  refine dufire X7 fun h10 X8 => ?_
  rw [hmem] at X8
  have hfire : DmS.fire ⟨8#32, 100#32, 4#32, 1#32⟩ (stB B 8 4 16909060#32) = ⟨8#32, 100#32, 4#32, 2#32⟩ := by
    unfold DmS.fire
    rw [if_pos hok]
    rfl
  rw [hfire] at X8
  have hl10 : (ovB (stB B 8 4 16909060#32) 100 (wdB 16909060#32 4)).length = 1024 := by rw [ovB_length (by simp; omega), hst]
  have hev : evB (ovB (stB B 8 4 16909060#32) 100 (wdB 16909060#32 4)) 100#32 4 = true := by simp [evB, hl10]
  have hld : ldB (ovB (stB B 8 4 16909060#32) 100 (wdB 16909060#32 4)) 100 4 = 16909060#32 := by
    unfold ldB
    have := ovB_take (B := stB B 8 4 16909060#32) (l := wdB 16909060#32 4) (a := 100) (by omega)
    simp only [wdB_length] at this
    rw [this]
    decide
  have hL := fun q => rload (q := q) (a := 100#32) (n := 4) X8.ra (by omega)
  simp only [hev, if_true, show (100#32).toNat = 100 from rfl, show Int.toNat 4 = 4 from rfl, hld] at hL
  have hR := fun q => dread (q := q) (a := 16#32) X8.dm
  have hLi := fun q => dline (q := q) X8.dm
  simp (maxSteps := 1000000) (disch := first | assumption | ((try simp only [push_next, put_next, adv_next, List.length_cons, List.length_nil, List.length_map, List.length_set]); omega) | simp) [GC_of hL, GC_of hR, GC_of hLi, DmS.rd, dat]
  exact X8.kp
/-- Kept from now on. -/
theorem DU.keep {y : Nat} {o : Ob} (X : DU g h w x d dv B M W S fp D Z) (hy : h.get y = some o) (hd : y ∉ d :: w :: fp) (hx : y < x ∨ x + 3 < y) : DU g h w x d dv B M W S fp D ((y, o) :: Z) :=
  ⟨X.dm, X.ra, X.wh, X.kp, X.gf, X.gx, X.gd, X.dx, fun p hp => by
    rcases List.mem_cons.1 hp with rfl | hp
    · exact ⟨hy, hd, hx⟩
    · exact X.zz p hp⟩
/-- Put into a block that is new. -/
theorem DU.put {y : Nat} {o : Ob} (X : DU g h w x d dv B M W S fp D Z) (K : Kp h h') (hy : h.next ≤ y) (hy' : y < h'.next) : DU g (h'.put y (some o)) w x d dv B M W S fp D ((y, o) :: Z) :=
  (X.more (K.put hy _)).keep (by rw [get_put_self hy']) (fun hm => by
    rcases List.mem_cons.1 hm with rfl | hm
    · have := X.dlt; omega
    · have := X.wh.live y hm; omega) (by have := X.ra.lt; omega)
end
end Go.Proofs.Ytpdfdemoflofhaa.Cd

/- DmaNumbers: the closed sentence. -/
set_option maxRecDepth 1000000
set_option maxHeartbeats 8000000
set_option linter.unusedSimpArgs false
set_option linter.unusedVariables false
namespace Go.Proofs.Ytpdfdemoflofhaa.Cd
open Go Go.Dx
section
variable {g h h' : Hp} {q : Value → Hp → Prop} {n0 x : Nat} {fp fr fo : List Nat} {X : BS} {now : Int}
theorem qnumbers : WC T n_pianolalaw13_DmaNumbers [] g fun v h' => v = .bool true := by
  rw [w_pianolalaw13_DmaNumbers]
  simp (maxSteps := 1000000) (disch := first | assumption | ((try simp only [push_next, put_next, adv_next, List.length_cons, List.length_nil, List.length_map, List.length_set]); omega) | simp)
  refine G_loop (fun k e h' => ∃ (i : Nat) (L : List AskS) (v : Value) (fp : List Nat), k = 80 - i ∧ i ≤ 80 ∧ L.length = i ∧ e 1 = v ∧ e 2 = .int .i64 i ∧ Own encAsk h' v L fp ∧ Kp g h' ∧ ∀ b ∈ fp, g.next ≤ b) ?_ 80 _ _ ⟨0, [], .slice none 0 0, [], rfl, by omega, rfl, by simp, by simp, .nul, .refl g, by simp⟩
  rintro k ih e h ⟨i, L, v, fp, rfl, i80, hL, e1, e2, O, K, hf⟩
  by_cases c : i < 80
  · have ci : (i : Int) < 80 := by omega
    obtain ⟨j, hj, hj7⟩ : ∃ j : Nat, (i : Int).tmod 8 = j ∧ j < 8 := ⟨i % 8, by rw [Int.tmod_eq_emod_of_nonneg (by omega)]; omega, by omega⟩
    obtain ⟨m, hm, hm4⟩ : ∃ m : Nat, (i : Int).tmod 5 = m ∧ m < 5 := ⟨i % 5, by rw [Int.tmod_eq_emod_of_nonneg (by omega)]; omega, by omega⟩
    obtain ⟨c7, h7⟩ : ∃ c7 : Int, ([.int .i64 5, .int .i64 0, .int .i64 1, .int .i64 0, .int .i64 1, .int .i64 4, .int .i64 3, .int .i64 2] : List Value)[j]? = some (.int .i64 c7) := by
      rcases (by omega : j = 0 ∨ j = 1 ∨ j = 2 ∨ j = 3 ∨ j = 4 ∨ j = 5 ∨ j = 6 ∨ j = 7) with rfl | rfl | rfl | rfl | rfl | rfl | rfl | rfl <;> exact ⟨_, rfl⟩
    obtain ⟨c4, h4⟩ : ∃ c4 : Int, ([.int .i64 0, .int .i64 1, .int .i64 2, .int .i64 3, .int .i64 4] : List Value)[m]? = some (.int .i64 c4) := by
      rcases (by omega : m = 0 ∨ m = 1 ∨ m = 2 ∨ m = 3 ∨ m = 4) with rfl | rfl | rfl | rfl | rfl <;> exact ⟨_, rfl⟩
    have h7' : ∀ hh : j < ([.int .i64 5, .int .i64 0, .int .i64 1, .int .i64 0, .int .i64 1, .int .i64 4, .int .i64 3, .int .i64 2] : List Value).length, ([.int .i64 5, .int .i64 0, .int .i64 1, .int .i64 0, .int .i64 1, .int .i64 4, .int .i64 3, .int .i64 2] : List Value)[j]'hh = .int .i64 c7 := fun hh => by rw [List.getElem?_eq_getElem hh] at h7; exact Option.some.inj h7
    have h4' : ∀ hh : m < ([.int .i64 0, .int .i64 1, .int .i64 2, .int .i64 3, .int .i64 4] : List Value).length, ([.int .i64 0, .int .i64 1, .int .i64 2, .int .i64 3, .int .i64 4] : List Value)[m]'hh = .int .i64 c4 := fun hh => by rw [List.getElem?_eq_getElem hh] at h4; exact Option.some.inj h4
    simp (maxSteps := 1000000) (disch := first | assumption | ((try simp only [push_next, put_next, adv_next, List.length_cons, List.length_nil, List.length_map, List.length_set]); omega) | simp) [e1, e2, ci, hj, hm, h7, h4, h7', h4']
    have KA : Kp h ((((h.adv 3).put h.next (some (.cells false [.int .i64 5, .int .i64 0, .int .i64 1, .int .i64 0, .int .i64 1, .int .i64 4, .int .i64 3, .int .i64 2]))).put (h.next + 1) (some (.cells false [.int .i64 0, .int .i64 1, .int .i64 2, .int .i64 3, .int .i64 4]))).put (h.next + 2) (some (.cells false [.int .i64 c7, .int .i64 c4, u32 (BitVec.ofInt 32 (((i : Int) * 53).tmod 2100)), .int .i64 (((i : Int) * 30).tmod 1100), u8 (BitVec.ofNat 8 i)]))) := ((((Kp.refl h).adv 3).put (Nat.le_refl _) _).put (by omega) _).put (by omega) _
    have gA : ((((h.adv 3).put h.next (some (.cells false [.int .i64 5, .int .i64 0, .int .i64 1, .int .i64 0, .int .i64 1, .int .i64 4, .int .i64 3, .int .i64 2]))).put (h.next + 1) (some (.cells false [.int .i64 0, .int .i64 1, .int .i64 2, .int .i64 3, .int .i64 4]))).put (h.next + 2) (some (.cells false [.int .i64 c7, .int .i64 c4, u32 (BitVec.ofInt 32 (((i : Int) * 53).tmod 2100)), .int .i64 (((i : Int) * 30).tmod 1100), u8 (BitVec.ofNat 8 i)]))).get (h.next + 2) = some (.cells false (encAsk.all [(⟨c7, c4, BitVec.ofInt 32 (((i : Int) * 53).tmod 2100), ((i : Int) * 30).tmod 1100, BitVec.ofNat 8 i⟩ : AskS)])) := by
      rw [get_put_self (by simp)]
      simp [encAsk, Enc.all]
    generalize (((h.adv 3).put h.next (some (.cells false [.int .i64 5, .int .i64 0, .int .i64 1, .int .i64 0, .int .i64 1, .int .i64 4, .int .i64 3, .int .i64 2]))).put (h.next + 1) (some (.cells false [.int .i64 0, .int .i64 1, .int .i64 2, .int .i64 3, .int .i64 4]))).put (h.next + 2) (some (.cells false [.int .i64 c7, .int .i64 c4, u32 (BitVec.ofInt 32 (((i : Int) * 53).tmod 2100)), .int .i64 (((i : Int) * 30).tmod 1100), u8 (BitVec.ofNat 8 i)])) = hA at *
    generalize (⟨c7, c4, BitVec.ofInt 32 (((i : Int) * 53).tmod 2100), ((i : Int) * 30).tmod 1100, BitVec.ofNat 8 i⟩ : AskS) = y at *
    have SA : Sees encAsk hA (some ⟨h.next + 2, 0, none⟩) [y] := ⟨fun hB => (by cases hB), fun B hB => by
      cases hB
      simp [Hp.rdn, gA]
      exact ⟨Nat.le_refl 5, rfl⟩, fun B hB => by cases hB; exact .inl rfl⟩
    refine GVI_app (E := encAsk) (O.kp KA) SA rfl (by simp; omega) (by simp; omega) fun v' h' fp' O' U => ?_
    simp (maxSteps := 1000000) (disch := first | assumption | ((try simp only [push_next, put_next, adv_next, List.length_cons, List.length_nil, List.length_map, List.length_set]); omega) | simp) [e2]
    refine ih (80 - (i + 1)) (by omega) _ _ ⟨i + 1, _, v', fp', rfl, by omega, by simp [hL], by simp, by simp, O', U.kp' (K.trans KA) hf, fun b hb => ?_⟩
    rcases U.sub b hb with h5 | h5
    · exact hf b h5
    · have := K.le; have := KA.le; omega
  · have ci : ¬ (i : Int) < 80 := by omega
    obtain ⟨al, cl, hv, SL, _, _⟩ := O.len
    subst hv
    have hL80 : L.length = 80 := by omega
    simp (maxSteps := 1000000) (disch := first | assumption | ((try simp only [push_next, put_next, adv_next, List.length_cons, List.length_nil, List.length_map, List.length_set]); omega) | simp) [e1, e2, ci]
    rw [hL80] at e1
    obtain ⟨tb, htb⟩ : ∃ tb, tb = h.next := ⟨_, rfl⟩
    obtain ⟨D24, hD⟩ : ∃ D24 : List (BitVec 32), D24 = [0#32, 10#32, 30#32, 10#32, 0#32, 30#32, 2040#32, 0#32, 8#32, 2040#32, 0#32, 9#32, 0#32, 2040#32, 9#32, 0#32, 0#32, 5000#32, 4294967280#32, 0#32, 4#32, 5#32, 5#32, 0#32] := ⟨_, rfl⟩
    have hDl : D24.length = 24 := by rw [hD]; rfl
    have hcells : [u32 0#32, u32 10#32, u32 30#32, u32 10#32, u32 0#32, u32 30#32, u32 2040#32, u32 0#32, u32 8#32, u32 2040#32, u32 0#32, u32 9#32, u32 0#32, u32 2040#32, u32 9#32, u32 0#32, u32 0#32, u32 5000#32, u32 4294967280#32, u32 0#32, u32 4#32, u32 5#32, u32 5#32, u32 0#32] = D24.map u32 := by rw [hD]; rfl
    rw [hcells, ← htb]
    have gT : (h.push (.cells false (D24.map u32))).get tb = some (.cells false (D24.map u32)) := by rw [htb]; exact get_push_self
    have SL1 := SL.kp ((Kp.refl h).push (.cells false (D24.map u32)))
    generalize h.push (.cells false (D24.map u32)) = h1 at *
    clear hcells hD
    refine G_loop (fun k e h' => ∃ n : Nat, k = 8 - n ∧ n ≤ 8 ∧ e 1 = .slice al 80 cl ∧ e 43 = .slice (some ⟨tb, 0, none⟩) 8 8 ∧ e 44 = .int .i64 8 ∧ e 45 = .int .i64 n ∧ Sees encAsk h' al L ∧ h'.get tb = some (.cells false (D24.map u32))) ?_ 8 _ _ ⟨0, rfl, by omega, by simp [e1], by simp, by simp, by simp, SL1, gT⟩
    clear ih e1 e2 ci SL SL1 gT
    rintro k ih e h ⟨n, rfl, hn, e1, e43, e44, e45, SL, gT⟩
    by_cases c : n < 8
    · have ci : (n : Int) < 8 := by omega
      obtain ⟨Z, hZ⟩ : ∃ Z, Z = (D24.drop (n * 3)).take 3 := ⟨_, rfl⟩
      have hZl : Z.length = 3 := by rw [hZ]; simp; omega
      have hr := rdn_part (rdn_all gT (n := 24) (by simp [hDl])) (k := n * 3) (n := 3) (by omega)
      rw [← List.map_drop, ← List.map_take, ← hZ, Nat.zero_add] at hr
      clear hZ
      obtain ⟨a, b, d, rfl⟩ : ∃ a b d, Z = [a, b, d] := by
        match Z, hZl with
        | [a, b, d], _ => exact ⟨a, b, d, rfl⟩
      simp only [List.map_cons, List.map_nil] at hr
      simp (maxSteps := 1000000) (disch := first | assumption | ((try simp only [push_next, put_next, adv_next, List.length_cons, List.length_nil, List.length_map, List.length_set]); omega) | simp) [e1, e43, e44, e45, ci, hr]
      have Kp1 : Kp h (h.push (.cells false [u32 a, u32 b, u32 d])) := (Kp.refl h).push _
      have gP : (h.push (.cells false [u32 a, u32 b, u32 d])).get h.next = some (.cells false [u32 a, u32 b, u32 d]) := get_push_self
      obtain ⟨pb, hpb⟩ : ∃ pb, pb = h.next := ⟨_, rfl⟩
      rw [← hpb] at gP ⊢
      generalize h.push (.cells false [u32 a, u32 b, u32 d]) = h2 at *
      have hpl := lt_of_get gP
      refine G_loop (fun k e' h' => ∃ (i2 : Nat) (M : List AskS) (v : Value) (fq : List Nat), k = 40 - i2 ∧ i2 ≤ 40 ∧ M.length = i2 ∧ e' 1 = .slice al 80 cl ∧ e' 4 = ptr pb 0 ∧ e' 5 = v ∧ e' 6 = .int .i64 i2 ∧ e' 43 = .slice (some ⟨tb, 0, none⟩) 8 8 ∧ e' 44 = .int .i64 8 ∧ e' 45 = .int .i64 n ∧ Own encAsk h' v M fq ∧ Kp h2 h' ∧ ∀ b ∈ fq, h2.next ≤ b) ?_ 40 _ _ ⟨0, [], .slice none 0 0, [], rfl, by omega, rfl, by simp [e1], by simp, by simp, by simp, by simp [e43], by simp [e44], by simp [e45], .nul, .refl h2, by simp⟩
      rintro k ih2 e' h' ⟨i2, M, v, fq, rfl, hi2, hM, f1, f4, f5, f6, f43, f44, f45, O2, K2, hf2⟩
      by_cases c2 : i2 < 40
      · have c2i : (i2 : Int) < 40 := by omega
        simp (maxSteps := 1000000) (disch := first | assumption | ((try simp only [push_next, put_next, adv_next, List.length_cons, List.length_nil, List.length_map, List.length_set]); omega) | simp) [f1, f4, f5, f6, c2i]
        refine GV_app1 (E := encAsk) (x := ⟨_, _, _, _, _⟩) O2 (by omega) (by omega) fun v' h3 fq' O3 U3 => ?_
        simp (maxSteps := 1000000) (disch := first | assumption | ((try simp only [push_next, put_next, adv_next, List.length_cons, List.length_nil, List.length_map, List.length_set]); omega) | simp) [f6]
        refine ih2 (40 - (i2 + 1)) (by omega) _ _ ⟨i2 + 1, _, v', fq', rfl, by omega, by simp [hM], by simp [f1], by simp [f4], by simp, by simp, by simp [f43], by simp [f44], by simp [f45], O3, U3.kp' K2 hf2, fun b hb => ?_⟩
        rcases U3.sub b hb with h5 | h5
        · exact hf2 b h5
        · have := K2.le; omega
      · have c2i : ¬ (i2 : Int) < 40 := by omega
        have hM40 : M.length = 40 := by omega
        simp (maxSteps := 1000000) (disch := first | assumption | ((try simp only [push_next, put_next, adv_next, List.length_cons, List.length_nil, List.length_map, List.length_set]); omega) | simp) [f1, f4, f5, f6, c2i]
        refine G_loop (fun k e3 h' => ∃ (i3 : Nat) (M : List AskS) (v : Value) (fq : List Nat), k = 3 - i3 ∧ i3 ≤ 3 ∧ M.length = 40 + i3 ∧ e3 1 = .slice al 80 cl ∧ e3 4 = ptr pb 0 ∧ e3 5 = v ∧ e3 7 = .int .i64 i3 ∧ e3 43 = .slice (some ⟨tb, 0, none⟩) 8 8 ∧ e3 44 = .int .i64 8 ∧ e3 45 = .int .i64 n ∧ Own encAsk h' v M fq ∧ Kp h2 h' ∧ ∀ b ∈ fq, h2.next ≤ b) ?_ 3 _ _ ⟨0, M, v, fq, rfl, by omega, by omega, by simp [f1], by simp [f4], by simp [f5], by simp, by simp [f43], by simp [f44], by simp [f45], O2, K2, hf2⟩
        clear ih2 O2 K2 hf2 hM hM40 f1 f4 f5 f6 f43 f44 f45
        rintro k ih3 e3 h' ⟨i3, M, v, fq, rfl, hi3, hM, f1, f4, f5, f7, f43, f44, f45, O2, K2, hf2⟩
        by_cases c3 : i3 < 3
        · have c3i : (i3 : Int) < 3 := by omega
          have gP2 : h'.get pb = some (.cells false [u32 a, u32 b, u32 d]) := (K2.get pb hpl).trans gP
          obtain ⟨w, hw⟩ : ∃ w, ([u32 a, u32 b, u32 d] : List Value)[i3]? = some (u32 w) := by
            rcases (by omega : i3 = 0 ∨ i3 = 1 ∨ i3 = 2) with rfl | rfl | rfl <;> exact ⟨_, rfl⟩
          have hw' : ∀ hh : i3 < ([u32 a, u32 b, u32 d] : List Value).length, ([u32 a, u32 b, u32 d] : List Value)[i3]'hh = u32 w := fun hh => by rw [List.getElem?_eq_getElem hh] at hw; exact Option.some.inj hw
          simp (maxSteps := 1000000) (disch := first | assumption | ((try simp only [push_next, put_next, adv_next, List.length_cons, List.length_nil, List.length_map, List.length_set]); omega) | simp) [f1, f4, f5, f7, c3i, gP2, hw, hw']
          refine GV_app1 (E := encAsk) (x := ⟨_, _, _, _, _⟩) O2 (by omega) (by omega) fun v' h3 fq' O3 U3 => ?_
          simp (maxSteps := 1000000) (disch := first | assumption | ((try simp only [push_next, put_next, adv_next, List.length_cons, List.length_nil, List.length_map, List.length_set]); omega) | simp) [f7]
          refine ih3 (3 - (i3 + 1)) (by omega) _ _ ⟨i3 + 1, _, v', fq', rfl, by omega, by simp [hM]; omega, by simp [f1], by simp [f4], by simp, by simp, by simp [f43], by simp [f44], by simp [f45], O3, U3.kp' K2 hf2, fun b hb => ?_⟩
          rcases U3.sub b hb with h5 | h5
          · exact hf2 b h5
          · have := K2.le; omega
        · have c3i : ¬ (i3 : Int) < 3 := by omega
          have hM43 : M.length = 43 := by omega
          simp (maxSteps := 1000000) (disch := first | assumption | ((try simp only [push_next, put_next, adv_next, List.length_cons, List.length_nil, List.length_map, List.length_set]); omega) | simp) [f1, f4, f5, f7, c3i]
          obtain ⟨ys, hys⟩ : ∃ ys : List AskS, ys = [(⟨0, 3, 1#32, 0, 0#8⟩ : AskS), ⟨0, 3, 1#32, 0, 0#8⟩, ⟨4, 0, 0#32, 1100, 0#8⟩, ⟨3, 0, 0#32, 0, 0#8⟩, ⟨2, 4, 0#32, 0, 0#8⟩, ⟨0, 4, 2#32, 0, 0#8⟩, ⟨2, 4, 0#32, 0, 0#8⟩, ⟨0, 4, 6#32, 0, 0#8⟩] := ⟨_, rfl⟩
          have hyl : ys.length = 8 := by rw [hys]; rfl
          have hall : [.int .i64 0, .int .i64 3, u32 1#32, .int .i64 0, u8 0#8, .int .i64 0, .int .i64 3, u32 1#32, .int .i64 0, u8 0#8, .int .i64 4, .int .i64 0, u32 0#32, .int .i64 1100, u8 0#8, .int .i64 3, .int .i64 0, u32 0#32, .int .i64 0, u8 0#8, .int .i64 2, .int .i64 4, u32 0#32, .int .i64 0, u8 0#8, .int .i64 0, .int .i64 4, u32 2#32, .int .i64 0, u8 0#8, .int .i64 2, .int .i64 4, u32 0#32, .int .i64 0, u8 0#8, .int .i64 0, .int .i64 4, u32 6#32, .int .i64 0, u8 0#8] = encAsk.all ys := by rw [hys]; rfl
          rw [hall]
          have Kl : Kp h' (h'.push (.cells false (encAsk.all ys))) := (Kp.refl h').push _
          have Sl : Sees encAsk (h'.push (.cells false (encAsk.all ys))) (some ⟨h'.next, 0, none⟩) ys := ⟨fun hB => (by cases hB), fun B hB => by
            cases hB
            have := rdn_all (h := h'.push (.cells false (encAsk.all ys))) (b := h'.next) get_push_self (n := ys.length * 5) (by simp)
            simpa using this, fun B hB => by cases hB; exact .inl rfl⟩
          generalize h'.push (.cells false (encAsk.all ys)) = h3 at *
          clear hall hys
          refine GV_app (E := encAsk) (O2.kp Kl) Sl hyl.symm (by omega) (by omega) fun v' h4 fq' O4 U4 => ?_
          obtain ⟨ay, cy, hvy, Sy, _, _⟩ := O4.len
          subst hvy
          have K4 : Kp h2 h4 := U4.kp' (K2.trans Kl) hf2
          have hyn : (M ++ ys).length = 51 := by rw [List.length_append]; omega
          have hp := qplay (g := h4) (near := false) (cl := cy) Sy (by omega)
          rw [List.length_append] at hp
          simp (maxSteps := 1000000) (disch := first | assumption | ((try simp only [push_next, put_next, adv_next, List.length_cons, List.length_nil, List.length_map, List.length_set]); omega) | simp)
          refine GC_intro hp fun v h5 ⟨hv, K5⟩ => ?_
          subst hv
          have Ka := (Kp1.trans K4).trans K5
          simp (maxSteps := 1000000) (disch := first | assumption | ((try simp only [push_next, put_next, adv_next, List.length_cons, List.length_nil, List.length_map, List.length_set]); omega) | simp) [f1, f43, f44, f45]
          exact ih (8 - (n + 1)) (by omega) _ _ ⟨n + 1, rfl, by omega, by simp [f1], by simp [f43], by simp [f44], by simp, SL.kp Ka, (Ka.get tb (lt_of_get gT)).trans gT⟩
    · have ci : ¬ (n : Int) < 8 := by omega
      have hq := fun near h (S : Sees encAsk h al L) => qplay (g := h) (near := near) (cl := cl) S (by omega)
      simp only [hL80] at hq
      simp (maxSteps := 1000000) (disch := first | assumption | ((try simp only [push_next, put_next, adv_next, List.length_cons, List.length_nil, List.length_map, List.length_set]); omega) | simp) [e1, e44, e45, ci]
      refine GC_intro (hq false h SL) fun v h2 ⟨hv, K2⟩ => ?_
      subst hv
      simp (maxSteps := 1000000) (disch := first | assumption | ((try simp only [push_next, put_next, adv_next, List.length_cons, List.length_nil, List.length_map, List.length_set]); omega) | simp) [e1]
      refine GC_intro (hq true h2 (SL.kp K2)) fun v h3 ⟨hv, K3⟩ => ?_
      subst hv
      simp (maxSteps := 1000000) (disch := first | assumption | ((try simp only [push_next, put_next, adv_next, List.length_cons, List.length_nil, List.length_map, List.length_set]); omega) | simp) [e1]
      refine dknown.mono fun u g1 hu => ?_
      obtain ⟨rfl, _⟩ := hu
      simp (maxSteps := 1000000) (disch := first | assumption | ((try simp only [push_next, put_next, adv_next, List.length_cons, List.length_nil, List.length_map, List.length_set]); omega) | simp)
end
end Go.Proofs.Ytpdfdemoflofhaa.Cd
