/- Texts of one kind, one behind the other. -/
import Derived.Test.YtpdfdemoflofhaaMeDiskNumbers1
/- A disk and the document's bus, side by side. -/
set_option maxRecDepth 1000000
set_option maxHeartbeats 8000000
set_option linter.unusedSimpArgs false
set_option linter.unusedVariables false
namespace Go.Proofs.Ytpdfdemoflofhaa.Cd
open Go Go.Dx
def KL (kw kx kz ky : Nat) (fp : List Nat) : List Nat := [kw, kx, kx + 1, kx + 2, kx + 3, kz, ky] ++ fp
/-- A disk, its wheel, its memory. -/
structure KU (h : Hp) (kw kx kz ky bd : Nat) (fp : List Nat) (X : BS) : Prop where
  dk : Dk h ky kz kw kx 5 X.E X.K
  ra : Ra h kx X.B X.M X.W
  wh : WhA h kw X.S fp
  gf : ∀ b ∈ fp, bd < b
  ln : bd < h.next
  bh : kw < kx ∧ kx + 3 < kz ∧ kz < ky ∧ ky ≤ bd
/-- Both. -/
structure PW (g h : Hp) (n0 x : Nat) (fp fr fo : List Nat) (X Y : BS) : Prop where
  ku : KU h n0 (n0 + 1) (n0 + 5) (n0 + 6) (n0 + 12) fp X
  rw' : RW h x fr fo Y
  hx : x = n0 + 7
  d1 : ∀ b ∈ fp, b ∉ fr ∧ b ∉ fo
  kp : Kp g h
  gn : g.next ≤ n0
section
variable {g h h' : Hp} {q : Value → Hp → Prop} {n0 x kw kx kz ky bd : Nat} {fp fr fo fp' fr' fo' nw : List Nat} {X Y X' Y' : BS} {now d t : Int} {a v : BitVec 32}
theorem KU.lt (A : KU h kw kx kz ky bd fp X) : ky < h.next := lt_of_get A.dk.d
theorem KU.live (A : KU h kw kx kz ky bd fp X) : ∀ b ∈ KL kw kx kz ky fp, b < h.next := fun b hb => by
  have := A.lt
  have hbh := A.bh
  rcases List.mem_append.1 hb with hb | hb
  · simp at hb; omega
  · exact A.wh.live b (List.mem_cons_of_mem _ hb)
theorem KU.keep (A : KU h kw kx kz ky bd fp X) (hn : h.next ≤ h'.next) (hk : ∀ b ∈ KL kw kx kz ky fp, h'.get b = h.get b) : KU h' kw kx kz ky bd fp X := by
  refine ⟨A.dk.keep (hk _ (by simp [KL])) (hk _ (by simp [KL])), A.ra.keep fun b h1 h2 => hk b ?_, A.wh.keep fun b hb => hk b ?_, A.gf, Nat.lt_of_lt_of_le A.ln hn, A.bh⟩
  · have : b = kx ∨ b = kx + 1 ∨ b = kx + 2 ∨ b = kx + 3 := by omega
    rcases this with rfl | rfl | rfl | rfl <;> simp [KL]
  · rcases List.mem_cons.1 hb with rfl | hb
    · simp [KL]
    · simp [KL, hb]
theorem KU.kp (A : KU h kw kx kz ky bd fp X) (K : Kp h h') : KU h' kw kx kz ky bd fp X := A.keep K.le fun b hb => K.get b (A.live b hb)
/-- What the disk's side does leaves the document's side. -/
theorem PW.dev (A : PW g h n0 x fp fr fo X Y) (k : KU h' n0 (n0 + 1) (n0 + 5) (n0 + 6) (n0 + 12) fp' X') (U : Upd h h' (KL n0 (n0 + 1) (n0 + 5) (n0 + 6) fp) (KL n0 (n0 + 1) (n0 + 5) (n0 + 6) fp')) : PW g h' n0 x fp' fr fo X' Y := by
  have hl := A.rw'.lt
  have hx := A.hx
  have off : ∀ b ∈ RL x fr fo, b ∉ KL n0 (n0 + 1) (n0 + 5) (n0 + 6) fp := fun b hb hm => by
    simp only [RL, KL, List.mem_append] at hb hm
    rcases hb with hb | hb | hb
    · rcases hm with hm | hm
      · simp at hb hm; omega
      · have := A.ku.gf b hm; simp at hb; omega
    · rcases hm with hm | hm
      · have := (A.rw'.fr b hb).1; simp at hm; omega
      · exact (A.d1 b hm).1 hb
    · rcases hm with hm | hm
      · have := A.rw'.fo b hb; simp at hm; omega
      · exact (A.d1 b hm).2 hb
  refine ⟨k, A.rw'.upd U off, A.hx, fun b hb => ?_, U.kp' A.kp fun b hb => ?_, A.gn⟩
  · rcases U.sub b (List.mem_append_right _ hb) with h5 | h5
    · rcases List.mem_append.1 h5 with h5 | h5
      · have := k.gf b hb; simp at h5; omega
      · exact A.d1 b h5
    · exact ⟨fun hm => by have := (A.rw'.fr b hm).2.1; omega, fun hm => by have := A.rw'.folt b hm; omega⟩
  · have := A.gn
    rcases List.mem_append.1 hb with hb | hb
    · simp at hb; omega
    · have := A.ku.gf b hb; omega
theorem PW.ref (A : PW g h n0 x fp fr fo X Y) (k : RW h' x fr' fo' Y') (U : Upd h h' (RL x fr fo) (RL x fr' fo')) : PW g h' n0 x fp fr' fo' X Y' := by
  have hl := A.rw'.lt
  have hx := A.hx
  have off : ∀ b ∈ KL n0 (n0 + 1) (n0 + 5) (n0 + 6) fp, b ∉ RL x fr fo := fun b hm hb => by
    simp only [RL, KL, List.mem_append] at hb hm
    rcases hb with hb | hb | hb
    · rcases hm with hm | hm
      · simp at hb hm; omega
      · have := A.ku.gf b hm; simp at hb; omega
    · rcases hm with hm | hm
      · have := (A.rw'.fr b hb).1; simp at hm; omega
      · exact (A.d1 b hm).1 hb
    · rcases hm with hm | hm
      · have := A.rw'.fo b hb; simp at hm; omega
      · exact (A.d1 b hm).2 hb
  have sub : ∀ b, b ∈ fr' ∨ b ∈ fo' → b ∈ fr ∨ b ∈ fo ∨ h.next ≤ b := fun b hb => by
    have h9 : n0 + 12 < b := by
      rcases hb with hb | hb
      · have := (k.fr b hb).1; omega
      · have := k.fo b hb; omega
    rcases U.sub b (by simp only [RL, List.mem_append]; rcases hb with hb | hb <;> simp [hb]) with h5 | h5
    · simp only [RL, List.mem_append] at h5
      rcases h5 with h5 | h5 | h5
      · simp at h5; omega
      · exact .inl h5
      · exact .inr (.inl h5)
    · exact .inr (.inr h5)
  refine ⟨A.ku.keep U.le fun b hb => U.get b (A.ku.live b hb) (off b hb), k, A.hx, fun b hb => ⟨fun hm => ?_, fun hm => ?_⟩, U.kp' A.kp fun b hb => ?_, A.gn⟩
  · have hbl := A.ku.live b (List.mem_append_right _ hb)
    rcases sub b (.inl hm) with h5 | h5 | h5
    · exact (A.d1 b hb).1 h5
    · exact (A.d1 b hb).2 h5
    · omega
  · have hbl := A.ku.live b (List.mem_append_right _ hb)
    rcases sub b (.inr hm) with h5 | h5 | h5
    · exact (A.d1 b hb).1 h5
    · exact (A.d1 b hb).2 h5
    · omega
  · have := A.gn
    simp only [RL, List.mem_append] at hb
    rcases hb with hb | hb | hb
    · simp at hb; omega
    · have := (A.rw'.fr b hb).1; omega
    · have := A.rw'.fo b hb; omega
theorem PW.more (A : PW g h n0 x fp fr fo X Y) (K : Kp h h') : PW g h' n0 x fp fr fo X Y := ⟨A.ku.kp K, A.rw'.kp K, A.hx, A.d1, A.kp.trans K, A.gn⟩
/-- The disk's side. -/
theorem KU.wr (A : KU h kw kx kz ky bd fp X) (hn : 0 ≤ now ∧ now ≤ 2 ^ 60) (hq : ∀ h' fp', KU h' kw kx kz ky bd fp' (X.wr 5 a v now) → Upd h h' (KL kw kx kz ky fp) (KL kw kx kz ky fp') → q (.bool (kat a)) h') : WC T n_disk_Disk_Write [ptr ky 0, u32 a, u32 v, .int .i64 now] h q := by
  have hl := A.lt
  have hbh := A.bh
  have n1 : ky ∉ kw :: fp := fun hm => by
    rcases List.mem_cons.1 hm with h5 | h5
    · omega
    · have := A.gf _ h5; omega
  have n2 : kz ∉ kw :: fp := fun hm => by
    rcases List.mem_cons.1 hm with h5 | h5
    · omega
    · have := A.gf _ h5; omega
  have hlw := A.wh.live
  refine kwrite A.dk A.wh ⟨n1, n2⟩ (by omega) hn fun h1 fp1 D1 Q1 U1 N1 => hq h1 fp1 ⟨by simpa [BS.wr] using D1, ?_, by simpa [BS.wr] using Q1, fun b hb => ?_, Nat.lt_of_lt_of_le A.ln U1.le, A.bh⟩ ⟨U1.le, fun b hb hn => U1.get b hb fun hm => hn ?_, fun b hb => ?_⟩
  · refine (A.ra.keep fun b h1 h2 => U1.get b (by omega) fun hm => ?_ : Ra h1 kx X.B X.M X.W)
    simp only [List.mem_cons] at hm
    rcases hm with h5 | h5 | h5
    · omega
    · omega
    · have := A.gf b h5; omega
  · rcases U1.sub b (List.mem_cons_of_mem _ (List.mem_cons_of_mem _ hb)) with h5 | h5
    · simp only [List.mem_cons] at h5
      rcases h5 with rfl | rfl | h5
      · exact absurd (List.mem_cons_of_mem _ hb) N1.1
      · exact absurd hb Q1.wh.nw
      · exact A.gf b h5
    · have := A.ln; omega
  · simp only [List.mem_cons] at hm
    rcases hm with rfl | rfl | hm
    · simp [KL]
    · simp [KL]
    · simp [KL, hm]
  · simp only [KL, List.mem_append] at hb ⊢
    rcases hb with hb | hb
    · exact .inl (.inl hb)
    · rcases U1.sub b (List.mem_cons_of_mem _ (List.mem_cons_of_mem _ hb)) with h5 | h5
      · simp only [List.mem_cons] at h5
        rcases h5 with rfl | rfl | h5
        · exact .inl (.inl (by simp))
        · exact .inl (.inl (by simp))
        · exact .inl (.inr h5)
      · exact .inr h5
theorem KU.fire (A : KU h kw kx kz ky bd fp X) (hq : ∀ h', KU h' kw kx kz ky bd fp (X.fire 5 t) → Upd h h' (KL kw kx kz ky fp) (KL kw kx kz ky fp) → q (.tuple #[]) h') : WC T n_disk_Disk_Fire [ptr ky 0, .int .i64 now] h q := by
  have hl := A.lt
  have hbh := A.bh
  have hlw := A.wh.live
  refine kfire A.dk A.ra (by omega) (by omega) fun h1 D1 R1 U1 => hq h1 ⟨by simpa [BS.fire] using D1, by simpa [BS.fire] using R1, A.wh.keep fun b hb => U1.get b (hlw b hb) fun hm => ?_, A.gf, Nat.lt_of_lt_of_le A.ln U1.le, A.bh⟩ (U1.wid fun b hb => ?_)
  · simp at hm
    rcases List.mem_cons.1 hb with rfl | hb
    · omega
    · have := A.gf b hb; omega
  · simp at hb
    rcases hb with rfl | rfl | rfl | rfl <;> simp [KL]
theorem KU.take (A : KU h kw kx kz ky bd fp X) (hno : (∀ e ∈ X.S.L.head?, t < e.at') → ∀ h', Kp h h' → q (.tuple #[.agg #[.int .i64 0, .int .i64 0, .int .i64 0], .bool false]) h')
    (hyes : ∀ e B, X.S.L = e :: B → e.at' ≤ t → ∀ h' fp', KU h' kw kx kz ky bd fp' { X with S := ⟨B, X.S.n⟩ } → Upd h h' (KL kw kx kz ky fp) (KL kw kx kz ky fp') → q (.tuple #[.agg #[.int .i64 e.at', .int .i64 e.dev, .int .i64 e.seq], .bool true]) h') : WC T n_wheel_Wheel_Take [ptr kw 0, .int .i64 t] h q := by
  have hl := A.lt
  have hbh := A.bh
  have hln := A.ln
  refine takeS A.wh hno fun e B hL ht h1 fp1 Q1 U1 => hyes e B hL ht h1 fp1 ⟨A.dk.keep (U1.get _ (by omega) fun hm => ?_) (U1.get _ (by omega) fun hm => ?_), A.ra.keep fun b h1 h2 => U1.get b (by omega) fun hm => ?_, Q1, fun b hb => ?_, Nat.lt_of_lt_of_le A.ln U1.le, A.bh⟩ ⟨U1.le, fun b hb hn => U1.get b hb fun hm => hn ?_, fun b hb => ?_⟩
  · rcases List.mem_cons.1 hm with h5 | h5
    · omega
    · have := A.gf _ h5; omega
  · rcases List.mem_cons.1 hm with h5 | h5
    · omega
    · have := A.gf _ h5; omega
  · rcases List.mem_cons.1 hm with h5 | h5
    · omega
    · have := A.gf _ h5; omega
  · rcases U1.sub b (List.mem_cons_of_mem _ hb) with h5 | h5
    · rcases List.mem_cons.1 h5 with rfl | h5
      · exact absurd hb Q1.wh.nw
      · exact A.gf b h5
    · omega
  · rcases List.mem_cons.1 hm with rfl | hm
    · simp [KL]
    · simp [KL, hm]
  · simp only [KL, List.mem_append] at hb ⊢
    rcases hb with hb | hb
    · exact .inl (.inl hb)
    · rcases U1.sub b (List.mem_cons_of_mem _ hb) with h5 | h5
      · rcases List.mem_cons.1 h5 with rfl | h5
        · exact .inl (.inl (by simp))
        · exact .inl (.inr h5)
      · exact .inr h5
theorem KU.mem {B' : By} {W' : List Bool} (A : KU h kw kx kz ky bd fp X) (R : Ra h' kx B' X.M W') (U : Upd h h' [kx, kx + 2] [kx, kx + 2]) : KU h' kw kx kz ky bd fp { X with B := B', W := W' } ∧ Upd h h' (KL kw kx kz ky fp) (KL kw kx kz ky fp) := by
  have hl := A.lt
  have hbh := A.bh
  have hlw := A.wh.live
  refine ⟨⟨A.dk.keep (U.get _ (by omega) (by simp; omega)) (U.get _ (by omega) (by simp; omega)), R, A.wh.keep fun b hb => U.get b (hlw b hb) fun hm => ?_, A.gf, Nat.lt_of_lt_of_le A.ln U.le, A.bh⟩, U.wid fun b hb => ?_⟩
  · simp at hm
    rcases List.mem_cons.1 hb with rfl | hb
    · omega
    · have := A.gf b hb; omega
  · simp at hb
    rcases hb with rfl | rfl <;> simp [KL]
end
/-- All that is asked of a disk. -/
structure AskS where
  k : Int
  j : Int
  v : BitVec 32
  t : Int
  b : BitVec 8
def encAsk : Enc AskS := ⟨5, fun x => [.int .i64 x.k, .int .i64 x.j, u32 x.v, .int .i64 x.t, u8 x.b], fun _ => rfl, fun _ => rfl, by decide⟩
@[simp] theorem encAsk_sz : encAsk.sz = 5 := rfl
end Go.Proofs.Ytpdfdemoflofhaa.Cd

/- A disk's play: the disk and the document's bus do the same. -/
set_option maxRecDepth 1000000
set_option maxHeartbeats 8000000
set_option linter.unusedSimpArgs false
set_option linter.unusedVariables false
namespace Go.Proofs.Ytpdfdemoflofhaa.Cd
open Go Go.Dx
/-- Only this device is armed. -/
def Only (d : Int) (X : BS) : Prop := ∀ e ∈ X.S.L, e.dev = d
theorem Only.arm {d t : Int} {S : WhS} (h : ∀ e ∈ S.L, e.dev = d) : ∀ e ∈ (S.arm d t).L, e.dev = d := by
  intro e he
  unfold WhS.arm at he
  split at he
  · exact h e he
  · rcases (mem_insl (fun e : Ev => e.at')).1 he with rfl | he
    · rfl
    · exact h e (List.mem_of_mem_eraseP he)
section
variable {g h h' : Hp} {q : Value → Hp → Prop} {n0 x : Nat} {fp fr fo : List Nat} {X : BS} {now : Int}
/-- Where play stands. -/
structure KP (g h : Hp) (n0 x : Nat) (now : Int) (X : BS) : Prop where
  pw : ∃ fp fr fo, PW g h n0 x fp fr fo X X
  on : Only 5 X
  n0' : 0 ≤ now
  ml : X.M.length = 2
/-- What is compared behind each call. -/
theorem ktail {Q : Ex → Env → Hp → Prop} {e : Env} {F : List Fr} (A : KP g h n0 x now X) (hnow : now ≤ 2 ^ 60) (e7 : e 7 = ptr n0 0) (e9 : e 9 = ptr (n0 + 6) 0) (e10 : e 10 = ptr (x + 4) 0)
    (hk : ∀ e' : Env, e' 1 = e 1 → e' 2 = e 2 → e' 7 = e 7 → e' 8 = e 8 → e' 9 = e 9 → e' 10 = e 10 → e' 11 = e 11 → e' 12 = e 12 → ∀ h', KP g h' n0 x now X → Kp h h' → GR T Q F .n e' h') : G T Q c12_pianolalaw14_play F e h := by
  obtain ⟨fp, fr, fo, P⟩ := A.pw
  have hl1 := fun q => kline (q := q) P.ku.dk
  have hl2 := fun q => zline (q := q) (d := 5) P.rw' (by omega)
  have hbl : X.line 5 = (X.K.s &&& 6#32 != 0#32) := by simp [BS.line]
  rw [hbl] at hl2
  obtain ⟨vL, vi, vo, vu, S⟩ := P.rw'.bs
  have g1 := S.g
  simp only [rcl, rrest] at g1
  have hwl := P.ku.wh.wi.len
  obtain ⟨av, cv, hv, sv, hcv, hbv⟩ := S.sL
  subst hv
  simp (maxSteps := 1000000) (disch := first | assumption | ((try simp only [push_next, put_next, adv_next, List.length_cons, List.length_nil, List.length_map, List.length_set]); omega) | simp) [e7, e9, e10, GC_of hl1, GCI_of hl1, GC_of hl2, GCI_of hl2, g1]
  refine GCI_intro (wall P.ku.wh.wh (by omega) (q := fun v h' => ∃ a c, v = .slice a X.S.L.length c ∧ Sees encEv h' a X.S.L ∧ Kp h h') fun a c h' hs K => ⟨a, c, rfl, hs, K⟩) fun v h1 ⟨a1, c1, hv, s1, K1⟩ => ?_
  subst hv
  have P1 := P.more K1
  have S1 := RS.kp P.rw' S K1
  have g2 := S1.g
  simp only [rcl, rrest] at g2
  have he1 := b2sV_sees (c := X.E.length) (sees_b P1.rw'.dk)
  have K0 : Kp g h := P.kp
  simp (maxSteps := 1000000) (disch := first | assumption | ((try simp only [push_next, put_next, adv_next, List.length_cons, List.length_nil, List.length_map, List.length_set]); omega) | simp) [e7, e9, e10, g2]
  refine GCI_intro (same_ev (q := fun v h' => v = .bool true ∧ h' = h1) s1 (sv.kp K1) (by omega) (by simp)) fun v h2 ⟨hv, hh⟩ => ?_
  subst hv
  subst hh
  simp (maxSteps := 1000000) (disch := first | assumption | ((try simp only [push_next, put_next, adv_next, List.length_cons, List.length_nil, List.length_map, List.length_set]); omega) | simp) [e7, e9, e10, g2, he1]
  refine GCI_intro (kbytes (q := fun v h' => ∃ a c, v = .slice a X.E.length c ∧ Sees encB h' a X.E ∧ Kp h2 h') P1.ku.dk fun a c h' hs K => ⟨a, c, rfl, hs, K⟩) fun v h3 ⟨a3, c3, hv, s3, K3⟩ => ?_
  subst hv
  have P3 := P1.more K3
  have S3 := RS.kp P1.rw' S1 K3
  have g3 := S3.g
  simp only [rcl, rrest] at g3
  have he3 := b2sV_sees (c := X.E.length) (sees_b P3.rw'.dk)
  have he4 := b2sV_sees (c := c3) s3
  simp (maxSteps := 1000000) (disch := first | assumption | ((try simp only [push_next, put_next, adv_next, List.length_cons, List.length_nil, List.length_map, List.length_set]); omega) | simp) [e7, e9, e10, g3, he3, he4]
  refine ⟨by simp [strB, veq, veqF], ?_⟩
  refine hk _ ?_ ?_ ?_ ?_ ?_ ?_ ?_ ?_ _ ⟨⟨fp, fr, fo, P3⟩, A.on, A.n0', A.ml⟩ (K1.trans K3) <;> simp
/-- What is asked and behind it. -/
theorem kfires {Q : Ex → Env → Hp → Prop} {e : Env} {F : List Fr} (A : KP g h n0 x now X) (hnow : now ≤ 2 ^ 60) (e7 : e 7 = ptr n0 0) (e9 : e 9 = ptr (n0 + 6) 0) (e10 : e 10 = ptr (x + 4) 0) (e11 : e 11 = .int .i64 now) (e20 : e 20 = .int .i64 0)
    (hk : ∀ (X' : BS) (e' : Env), e' 1 = e 1 → e' 2 = e 2 → e' 7 = e 7 → e' 8 = e 8 → e' 9 = e 9 → e' 10 = e 10 → e' 11 = e 11 → e' 12 = e 12 → ∀ h', KP g h' n0 x now X' → GR T Q F .n e' h') : G T Q (.loop c6_pianolalaw14_play) (Fr.block 3 :: F) e h := by
  refine G_loop (fun k e1 h1 => ∃ (n : Nat) (X' : BS), k = 3 - n ∧ n ≤ 3 ∧ e1 1 = e 1 ∧ e1 2 = e 2 ∧ e1 7 = e 7 ∧ e1 8 = e 8 ∧ e1 9 = e 9 ∧ e1 10 = e 10 ∧ e1 11 = e 11 ∧ e1 12 = e 12 ∧ e1 20 = .int .i64 n ∧ KP g h1 n0 x now X') ?_ 3 _ _ ⟨0, X, rfl, by omega, rfl, rfl, rfl, rfl, rfl, rfl, rfl, rfl, e20, A⟩
  rintro k ih e1 h1 ⟨n, X, rfl, hn3, f1, f2, f7, f8, f9, f10, f11, f12, f20, A⟩
  rw [e7] at f7
  rw [e9] at f9
  rw [e10] at f10
  rw [e11] at f11
  by_cases hn : n < 3
  · have hni : (n : Int) < 3 := by omega
    obtain ⟨fp, fr, fo, P⟩ := A.pw
    simp (maxSteps := 1000000) (disch := first | assumption | ((try simp only [push_next, put_next, adv_next, List.length_cons, List.length_nil, List.length_map, List.length_set]); omega) | simp) [f7, f9, f10, f11, f20, hni]
    refine P.ku.take (fun hno h2 K2 => ?_) fun ev B hL ht h2 fp2 k2 U2 => ?_
    · have P2 := P.more (K2.push (.cells false [.int .i64 0, .int .i64 0, .int .i64 0]))
      simp (maxSteps := 1000000) (disch := first | assumption | ((try simp only [push_next, put_next, adv_next, List.length_cons, List.length_nil, List.length_map, List.length_set]); omega) | simp) [f7, f9, f10, f11, f20]
      generalize h2.push (.cells false [.int .i64 0, .int .i64 0, .int .i64 0]) = h3 at *
      refine P2.rw'.take (fun hno2 h4 K4 => ?_) fun ev B hL ht => ?_
      · simp (maxSteps := 1000000) (disch := first | assumption | ((try simp only [push_next, put_next, adv_next, List.length_cons, List.length_nil, List.length_map, List.length_set]); omega) | simp) [f7, f9, f10, f11, f20]
        exact ih (3 - (n + 1)) (by omega) _ _ ⟨n + 1, X, rfl, by omega, by simp [f1], by simp [f2], by simp [f7, e7], by simp [f8], by simp [f9, e9], by simp [f10, e10], by simp [f11, e11], by simp [f12], by simp, ⟨⟨_, _, _, (P2.more K4).more ((Kp.refl h4).push _)⟩, A.on, A.n0', A.ml⟩⟩
      · exact absurd (hno ev (by rw [hL]; simp)) (by omega)
    · have pos : 0 ≤ ev.at' := P.ku.wh.wi.pos ev (by rw [hL]; simp)
      have dv : ev.dev = 5 := A.on ev (by rw [hL]; simp)
      have P2 := P.dev k2 U2
      simp (maxSteps := 1000000) (disch := first | assumption | ((try simp only [push_next, put_next, adv_next, List.length_cons, List.length_nil, List.length_map, List.length_set]); omega) | simp) [f7, f9, f10, f11, f20, Hp.rdn]
      have P3 := P2.more ((Kp.refl h2).push (.cells false [.int .i64 ev.at', .int .i64 ev.dev, .int .i64 ev.seq]))
      generalize h2.push (.cells false [.int .i64 ev.at', .int .i64 ev.dev, .int .i64 ev.seq]) = h3 at *
      refine P3.ku.fire (t := ev.at') fun h4 k4 U4 => ?_
      have P4 := P3.dev k4 U4
      simp (maxSteps := 1000000) (disch := first | assumption | ((try simp only [push_next, put_next, adv_next, List.length_cons, List.length_nil, List.length_map, List.length_set]); omega) | simp) [f7, f9, f10, f11, f20]
      refine P4.rw'.take (fun hno2 => ?_) fun ev' B' hL' ht' h5 nw k5 U5 => ?_
      · exact absurd (hno2 ev (by rw [hL]; simp)) (by omega)
      · rw [hL] at hL'
        cases hL'
        have P5 := P4.ref k5 U5
        simp (maxSteps := 1000000) (disch := first | assumption | ((try simp only [push_next, put_next, adv_next, List.length_cons, List.length_nil, List.length_map, List.length_set]); omega) | simp) [f7, f9, f10, f11, f20, Hp.rdn]
        have P6 := P5.more ((Kp.refl h5).push (.cells false [.int .i64 ev.at', .int .i64 ev.dev, .int .i64 ev.seq]))
        generalize h5.push (.cells false [.int .i64 ev.at', .int .i64 ev.dev, .int .i64 ev.seq]) = h6 at *
        refine zb P6.rw' ⟨pos, by omega⟩ fun h7 fr7 fo7 k7 U7 => ?_
        have P7 := P6.ref k7 U7
        rw [dv] at P7
        simp (maxSteps := 1000000) (disch := first | assumption | ((try simp only [push_next, put_next, adv_next, List.length_cons, List.length_nil, List.length_map, List.length_set]); omega) | simp) [f7, f9, f10, f11, f20]
        refine ih (3 - (n + 1)) (by omega) _ _ ⟨n + 1, _, rfl, by omega, by simp [f1], by simp [f2], by simp [f7, e7], by simp [f8], by simp [f9, e9], by simp [f10, e10], by simp [f11, e11], by simp [f12], by simp, ⟨⟨_, _, _, P7⟩, fun e' he => ?_, A.n0', by simpa [BS.fire] using A.ml⟩⟩
        refine A.on e' ?_
        rw [hL]
        simp [BS.fire] at he
        exact List.mem_cons_of_mem _ he
  · have : n = 3 := by omega
    subst this
    simp (maxSteps := 1000000) (disch := first | assumption | ((try simp only [push_next, put_next, adv_next, List.length_cons, List.length_nil, List.length_map, List.length_set]); omega) | simp) [f20]
    refine hk X _ ?_ ?_ ?_ ?_ ?_ ?_ ?_ ?_ _ A <;> simp [f1, f2, f7, f8, f9, f10, f11, f12, e7, e9, e10, e11]
/-- One call. -/
theorem ksw {y : AskS} {Q : Ex → Env → Hp → Prop} {e : Env} {F : List Fr} {p : Nat} {k v : BitVec 32} (A : KP g h n0 x now X) (hnow : now ≤ 2 ^ 59) (hp : h.get p = some (.cells false [.int .i64 y.k, .int .i64 y.j, u32 y.v, .int .i64 y.t, u8 y.b])) (hpx : n0 + 12 < p) (e7 : e 7 = ptr n0 0) (e8 : e 8 = ptr (n0 + 1 + 3) 0) (e9 : e 9 = ptr (n0 + 6) 0) (e10 : e 10 = ptr (x + 4) 0) (e11 : e 11 = .int .i64 now) (e13 : e 13 = ptr p 0) (e14 : e 14 = u32 k) (e15 : e 15 = u32 v) (hk64 : k.toNat < 64)
    (hk : ∀ (X' : BS) (now' : Int) (e' : Env), e' 1 = e 1 → e' 2 = e 2 → e' 7 = e 7 → e' 8 = e 8 → e' 9 = e 9 → e' 10 = e 10 → e' 11 = .int .i64 now' → e' 12 = e 12 → now' ≤ now + 40 → ∀ h', KP g h' n0 x now' X' → GR T Q F .n e' h') :
    GR T Q (Fr.seq (.seq (.seq (.ops [⟨some 86, none, .fa 0 (.t 13)⟩, ⟨some 87, none, .ld (.t 86)⟩]) (.block 2 (.seq (.ops [⟨some 100, none, .bin .eql (.t 87) (.c (.int .i64 2))⟩, ⟨some 99, none, .mov (.t 100)⟩]) (.cond (.t 99) c3_pianolalaw14_play c11_pianolalaw14_play)))) c12_pianolalaw14_play) :: F) .n e h := by
  obtain ⟨fp, fr, fo, P⟩ := A.pw
  have hp0 := A.n0'
  have tail : ∀ (X' : BS) (now' : Int) (e' : Env) (h' : Hp), e' 1 = e 1 → e' 2 = e 2 → e' 7 = e 7 → e' 8 = e 8 → e' 9 = e 9 → e' 10 = e 10 → e' 11 = .int .i64 now' → e' 12 = e 12 → now' ≤ now + 40 → KP g h' n0 x now' X' → G T Q c12_pianolalaw14_play F e' h' := fun X' now' e' h' f1 f2 f7 f8 f9 f10 f11 f12 hn A' => by
    refine ktail A' (by omega) (f7.trans e7) (f9.trans e9) (f10.trans e10) fun e2 i1 i2 i7 i8 i9 i10 i11 i12 h2 A2 K2 => hk X' now' e2 (i1.trans f1) (i2.trans f2) (i7.trans f7) (i8.trans f8) (i9.trans f9) (i10.trans f10) (i11.trans f11) (i12.trans f12) hn h2 A2
  by_cases k2 : y.k = 2
  · have hr := fun q => kread (q := q) (a := k) P.ku.dk
    have hrd : X.rd 5 k now = X.K.rd k := by simp [BS.rd]
    have hwk : wok 5 k = kat k := by simp [wok]
    simp (maxSteps := 1000000) (disch := first | assumption | ((try simp only [push_next, put_next, adv_next, List.length_cons, List.length_nil, List.length_map, List.length_set]); omega) | simp) [e13, hp, k2, e9, e10, e11, e14, GC_of hr, -g12_pianolalaw14_play]
    refine zword P.rw' (by omega) ⟨hp0, by omega⟩ fun h1 fr1 k1 U1 => ?_
    have P1 := P.ref (k1.cast (show X.rds 5 k = X by simp [BS.rds])) U1
    rw [hrd, hwk]
    simp (maxSteps := 1000000) (disch := first | assumption | ((try simp only [push_next, put_next, adv_next, List.length_cons, List.length_nil, List.length_map, List.length_set]); omega) | simp) [-g12_pianolalaw14_play]
    exact tail X now _ h1 (by simp) (by simp) (by simp) (by simp) (by simp) (by simp) (by simp [e11]) (by simp) (by omega) ⟨⟨_, _, _, P1⟩, A.on, hp0, A.ml⟩
  by_cases k3 : y.k = 3
  · simp (maxSteps := 1000000) (disch := first | assumption | ((try simp only [push_next, put_next, adv_next, List.length_cons, List.length_nil, List.length_map, List.length_set]); omega) | simp) [e13, hp, k3, e9, e14, -g12_pianolalaw14_play, -g6_pianolalaw14_play]
    refine kfires A (by omega) (by simp [e7]) (by simp [e9]) (by simp [e10]) (by simp [e11]) (by simp) fun X' e' f1 f2 f7 f8 f9 f10 f11 f12 h' A' => ?_
    simp (maxSteps := 1000000) (disch := first | assumption | ((try simp only [push_next, put_next, adv_next, List.length_cons, List.length_nil, List.length_map, List.length_set]); omega) | simp) [-g12_pianolalaw14_play]
    exact tail X' now e' h' (by simp [f1]) (by simp [f2]) (by simp [f7]) (by simp [f8]) (by simp [f9]) (by simp [f10]) (by simp [f11, e11]) (by simp [f12]) (by omega) A'
  by_cases k4 : y.k = 4
  · have hw := fun q => within_eq (h := h) (q := q) (n := y.t) (lo := 0) (hi := 40) (by omega) (by omega) (by omega)
    have hwb := wi_bound (n := y.t) (show (0 : Int) ≤ 40 by omega)
    generalize wi y.t 0 40 = dt at *
    have hwr : IntKind.i64.wrap (now + dt) = now + dt := wrap_i64 (by omega) (by omega)
    simp (maxSteps := 1000000) (disch := first | assumption | ((try simp only [push_next, put_next, adv_next, List.length_cons, List.length_nil, List.length_map, List.length_set]); omega) | simp) [e13, hp, k4, e11, GC_of hw, hwr, -g12_pianolalaw14_play]
    exact tail X (now + dt) _ h (by simp) (by simp) (by simp) (by simp) (by simp) (by simp) (by simp) (by simp) (by omega) ⟨A.pw, A.on, by omega, A.ml⟩
  by_cases k5 : y.k = 5
  · have part2 : ∀ (X' : BS) (h1 : Hp) (e1 : Env), Only 5 X' → (∃ B' W', X' = { X with B := B', W := W' } ∧ ((evB X.B (y.v % 2048#32) 1 = false ∧ B' = X.B ∧ W' = X.W) ∨ (evB X.B (y.v % 2048#32) 1 = true ∧ B' = stB X.B (y.v % 2048#32).toNat (1 : Int).toNat (BitVec.setWidth 32 y.b) ∧ W' = tch X.M X.W (y.v % 2048#32).toNat (1 : Int).toNat))) → PW g h1 n0 x fp fr fo X' X → h1.get p = h.get p → e1 1 = e 1 → e1 2 = e 2 → e1 7 = e 7 → e1 8 = e 8 → e1 9 = e 9 → e1 10 = e 10 → e1 11 = e 11 → e1 12 = e 12 → e1 13 = e 13 → G T Q c7_pianolalaw14_play (Fr.block 2 :: Fr.seq c12_pianolalaw14_play :: F) e1 h1 := fun X' h1 e1 on' ⟨B', W', hX', hor⟩ P1 hpp f1 f2 f7 f8 f9 f10 f11 f12 f13 => by
      rw [hp] at hpp
      rw [e10] at f10
      rw [e13] at f13
      obtain ⟨vL, vi, vo, vu, S⟩ := P1.rw'.bs
      have g1 := S.g
      simp only [rcl, rrest] at g1
      simp (maxSteps := 1000000) (disch := first | assumption | ((try simp only [push_next, put_next, adv_next, List.length_cons, List.length_nil, List.length_map, List.length_set]); omega) | simp) [f10, f13, hpp, g1, -g12_pianolalaw14_play]
      refine zstore P1.rw'.ra (fun he => ?_) fun he h2 R2 U2 => ?_
      · rcases hor with ⟨h1', hB, hW⟩ | ⟨h1', _⟩
        · have hXX : X' = X := by rw [hX', hB, hW]
          subst hXX
          simp (maxSteps := 1000000) (disch := first | assumption | ((try simp only [push_next, put_next, adv_next, List.length_cons, List.length_nil, List.length_map, List.length_set]); omega) | simp) [-g12_pianolalaw14_play]
          exact tail _ now _ h1 (by simp [f1]) (by simp [f2]) (by simp [f7]) (by simp [f8]) (by simp [f9]) (by simp [f10, e10]) (by simp [f11, e11]) (by simp [f12]) (by omega) ⟨⟨_, _, _, P1⟩, on', hp0, A.ml⟩
        · rw [he] at h1'; cases h1'
      · rcases hor with ⟨h1', _⟩ | ⟨h1', hB, hW⟩
        · rw [he] at h1'; cases h1'
        · obtain ⟨k2', U2'⟩ := P1.rw'.mem R2 U2
          have P2 := P1.ref (k2'.cast (show _ = X' by rw [hX', hB, hW])) U2'
          simp (maxSteps := 1000000) (disch := first | assumption | ((try simp only [push_next, put_next, adv_next, List.length_cons, List.length_nil, List.length_map, List.length_set]); omega) | simp) [-g12_pianolalaw14_play]
          exact tail _ now _ h2 (by simp [f1]) (by simp [f2]) (by simp [f7]) (by simp [f8]) (by simp [f9]) (by simp [f10, e10]) (by simp [f11, e11]) (by simp [f12]) (by omega) ⟨⟨_, _, _, P2⟩, on', hp0, by rw [hX']; exact A.ml⟩
    simp (maxSteps := 1000000) (disch := first | assumption | ((try simp only [push_next, put_next, adv_next, List.length_cons, List.length_nil, List.length_map, List.length_set]); omega) | simp) [e13, hp, k5, e8, -g12_pianolalaw14_play, -g7_pianolalaw14_play]
    refine rstorer P.ku.ra (fun he => ?_) fun he h1 R1 U1 => ?_
    · simp (maxSteps := 1000000) (disch := first | assumption | ((try simp only [push_next, put_next, adv_next, List.length_cons, List.length_nil, List.length_map, List.length_set]); omega) | simp) [-g12_pianolalaw14_play, -g7_pianolalaw14_play]
      exact part2 X h _ A.on ⟨X.B, X.W, rfl, .inl ⟨he, rfl, rfl⟩⟩ P rfl (by simp) (by simp) (by simp) (by simp) (by simp) (by simp) (by simp) (by simp) (by simp)
    · obtain ⟨k1, U1'⟩ := P.ku.mem R1 U1
      simp (maxSteps := 1000000) (disch := first | assumption | ((try simp only [push_next, put_next, adv_next, List.length_cons, List.length_nil, List.length_map, List.length_set]); omega) | simp) [-g12_pianolalaw14_play, -g7_pianolalaw14_play]
      exact part2 { X with B := stB X.B (y.v % 2048#32).toNat (1 : Int).toNat (BitVec.setWidth 32 y.b), W := tch X.M X.W (y.v % 2048#32).toNat (1 : Int).toNat } h1 _ A.on ⟨_, _, rfl, .inr ⟨he, rfl, rfl⟩⟩ (P.dev k1 U1') (U1.get p (lt_of_get hp) (by simp; omega)) (by simp) (by simp) (by simp) (by simp) (by simp) (by simp) (by simp) (by simp) (by simp)
  have hwk : wok 5 k = kat k := by simp [wok]
  simp (maxSteps := 1000000) (disch := first | assumption | ((try simp only [push_next, put_next, adv_next, List.length_cons, List.length_nil, List.length_map, List.length_set]); omega) | simp) [e13, hp, k2, k3, k4, k5, e9, e14, e15, e11, -g12_pianolalaw14_play]
  refine P.ku.wr ⟨hp0, by omega⟩ fun h1 fp1 k1 U1 => ?_
  have P1 := P.dev k1 U1
  simp (maxSteps := 1000000) (disch := first | assumption | ((try simp only [push_next, put_next, adv_next, List.length_cons, List.length_nil, List.length_map, List.length_set]); omega) | simp) [e10, e11, e14, e15, -g12_pianolalaw14_play]
  refine zset P1.rw' (by omega) hk64 ⟨hp0, by omega⟩ fun h2 fr2 k2' U2 => ?_
  have P2 := P1.ref k2' U2
  rw [hwk]
  simp (maxSteps := 1000000) (disch := first | assumption | ((try simp only [push_next, put_next, adv_next, List.length_cons, List.length_nil, List.length_map, List.length_set]); omega) | simp) [-g12_pianolalaw14_play]
  refine tail _ now _ h2 (by simp) (by simp) (by simp) (by simp) (by simp) (by simp) (by simp [e11]) (by simp) (by omega) ⟨⟨_, _, _, P2⟩, fun e' he => ?_, hp0, by simpa [BS.wr] using A.ml⟩
  simp [BS.wr] at he
  unfold DkS.wrw at he
  split at he
  · exact Only.arm A.on e' he
  · exact A.on e' he
theorem KP.more (A : KP g h n0 x now X) (K : Kp h h') : KP g h' n0 x now X := by
  obtain ⟨fp, fr, fo, P⟩ := A.pw
  exact ⟨⟨fp, fr, fo, P.more K⟩, A.on, A.n0', A.ml⟩
theorem kstep {y : AskS} {Q : Ex → Env → Hp → Prop} {e : Env} {F : List Fr} {p : Nat} {near : Bool} (A : KP g h n0 x now X) (hnow : now ≤ 2 ^ 59) (hp : h.get p = some (.cells false [.int .i64 y.k, .int .i64 y.j, u32 y.v, .int .i64 y.t, u8 y.b])) (hpx : n0 + 12 < p) (e2 : e 2 = .bool near) (e7 : e 7 = ptr n0 0) (e8 : e 8 = ptr (n0 + 1 + 3) 0) (e9 : e 9 = ptr (n0 + 6) 0) (e10 : e 10 = ptr (x + 4) 0) (e11 : e 11 = .int .i64 now) (e13 : e 13 = ptr p 0)
    (hk : ∀ (X' : BS) (now' : Int) (e' : Env), e' 1 = e 1 → e' 2 = e 2 → e' 7 = e 7 → e' 8 = e 8 → e' 9 = e 9 → e' 10 = e 10 → e' 11 = .int .i64 now' → e' 12 = e 12 → now' ≤ now + 40 → ∀ h', KP g h' n0 x now' X' → GR T Q F .n e' h') : G T Q c14_pianolalaw14_play F e h := by
  obtain ⟨m, hm⟩ : ∃ m, m = wi y.j 0 5 := ⟨_, rfl⟩
  have hmb := wi_bound (n := y.j) (show (0 : Int) ≤ 5 by omega)
  rw [← hm] at hmb
  have hm6 : m = 0 ∨ m = 1 ∨ m = 2 ∨ m = 3 ∨ m = 4 ∨ m = 5 := by omega
  have hw := fun q => within_eq (h := h) (q := q) (n := y.j) (lo := 0) (hi := 5) (by omega) (by omega) (by omega)
  rw [← hm] at hw
  have main : ∀ (k v : BitVec 32) (e1 : Env) (h1 : Hp), Kp h h1 → k.toNat < 64 → e1 1 = e 1 → e1 2 = e 2 → e1 7 = e 7 → e1 8 = e 8 → e1 9 = e 9 → e1 10 = e 10 → e1 11 = e 11 → e1 12 = e 12 → e1 13 = e 13 → e1 14 = u32 k → e1 15 = u32 v → GR T Q (Fr.seq (.seq (.seq (.ops [⟨some 86, none, .fa 0 (.t 13)⟩, ⟨some 87, none, .ld (.t 86)⟩]) (.block 2 (.seq (.ops [⟨some 100, none, .bin .eql (.t 87) (.c (.int .i64 2))⟩, ⟨some 99, none, .mov (.t 100)⟩]) (.cond (.t 99) c3_pianolalaw14_play c11_pianolalaw14_play)))) c12_pianolalaw14_play) :: F) .n e1 h1 := fun k v e1 h1 K1 hk64 f1 f2 f7 f8 f9 f10 f11 f12 f13 f14 f15 =>
    ksw (y := y) (A.more K1) hnow (by rw [K1.get p (lt_of_get hp), hp]) hpx (f7.trans e7) (f8.trans e8) (f9.trans e9) (f10.trans e10) (f11.trans e11) (f13.trans e13) f14 f15 hk64 fun X' now' e' i1 i2 i7 i8 i9 i10 i11 i12 hn h' A' => hk X' now' e' (i1.trans f1) (i2.trans f2) (i7.trans f7) (i8.trans f8) (i9.trans f9) (i10.trans f10) i11 (i12.trans f12) hn h' A'
  have hn13 := A.n0'
  have hpl := lt_of_get hp
  rcases hm6 with rfl | rfl | rfl | rfl | rfl | rfl
  · simp (maxSteps := 1000000) (disch := first | assumption | ((try simp only [push_next, put_next, adv_next, List.length_cons, List.length_nil, List.length_map, List.length_set]); omega) | simp) [e13, hp, GC_of hw, -g13_pianolalaw14_play]
    rw [g13_pianolalaw14_play]
    simp only [G_seq, G_ops]
    generalize (Fr.seq (.seq (.seq (.ops [⟨some 86, none, .fa 0 (.t 13)⟩, ⟨some 87, none, .ld (.t 86)⟩]) (.block 2 (.seq (.ops [⟨some 100, none, .bin .eql (.t 87) (.c (.int .i64 2))⟩, ⟨some 99, none, .mov (.t 100)⟩]) (.cond (.t 99) c3_pianolalaw14_play c11_pianolalaw14_play)))) c12_pianolalaw14_play) :: F) = F1 at main ⊢
    cases near with
    | false =>
      simp (maxSteps := 1000000) (disch := first | assumption | ((try simp only [push_next, put_next, adv_next, List.length_cons, List.length_nil, List.length_map, List.length_set]); omega) | simp) [e2]
      exact main 0#32 y.v _ h (.refl h) (by decide) (by simp) (by simp [e2]) (by simp) (by simp) (by simp) (by simp) (by simp) (by simp) (by simp) (by simp) (by simp)
    | true =>
      simp (maxSteps := 1000000) (disch := first | assumption | ((try simp only [push_next, put_next, adv_next, List.length_cons, List.length_nil, List.length_map, List.length_set]); omega) | simp) [e2, iaV_u32]
      exact main 0#32 _ _ _ ((Kp.refl h).push _) (by decide) (by simp) (by simp [e2]) (by simp) (by simp) (by simp) (by simp) (by simp) (by simp) (by simp) (by simp) (by simp; rfl)
  · simp (maxSteps := 1000000) (disch := first | assumption | ((try simp only [push_next, put_next, adv_next, List.length_cons, List.length_nil, List.length_map, List.length_set]); omega) | simp) [e13, hp, GC_of hw, -g13_pianolalaw14_play]
    rw [g13_pianolalaw14_play]
    simp only [G_seq, G_ops]
    generalize (Fr.seq (.seq (.seq (.ops [⟨some 86, none, .fa 0 (.t 13)⟩, ⟨some 87, none, .ld (.t 86)⟩]) (.block 2 (.seq (.ops [⟨some 100, none, .bin .eql (.t 87) (.c (.int .i64 2))⟩, ⟨some 99, none, .mov (.t 100)⟩]) (.cond (.t 99) c3_pianolalaw14_play c11_pianolalaw14_play)))) c12_pianolalaw14_play) :: F) = F1 at main ⊢
    cases near with
    | false =>
      simp (maxSteps := 1000000) (disch := first | assumption | ((try simp only [push_next, put_next, adv_next, List.length_cons, List.length_nil, List.length_map, List.length_set]); omega) | simp) [e2]
      exact main 4#32 y.v _ h (.refl h) (by decide) (by simp) (by simp [e2]) (by simp) (by simp) (by simp) (by simp) (by simp) (by simp) (by simp) (by simp) (by simp)
    | true =>
      simp (maxSteps := 1000000) (disch := first | assumption | ((try simp only [push_next, put_next, adv_next, List.length_cons, List.length_nil, List.length_map, List.length_set]); omega) | simp) [e2, iaV_u32]
      exact main 4#32 _ _ _ ((Kp.refl h).push _) (by decide) (by simp) (by simp [e2]) (by simp) (by simp) (by simp) (by simp) (by simp) (by simp) (by simp) (by simp) (by simp; rfl)
  · simp (maxSteps := 1000000) (disch := first | assumption | ((try simp only [push_next, put_next, adv_next, List.length_cons, List.length_nil, List.length_map, List.length_set]); omega) | simp) [e13, hp, GC_of hw, -g13_pianolalaw14_play]
    rw [g13_pianolalaw14_play]
    simp only [G_seq, G_ops]
    generalize (Fr.seq (.seq (.seq (.ops [⟨some 86, none, .fa 0 (.t 13)⟩, ⟨some 87, none, .ld (.t 86)⟩]) (.block 2 (.seq (.ops [⟨some 100, none, .bin .eql (.t 87) (.c (.int .i64 2))⟩, ⟨some 99, none, .mov (.t 100)⟩]) (.cond (.t 99) c3_pianolalaw14_play c11_pianolalaw14_play)))) c12_pianolalaw14_play) :: F) = F1 at main ⊢
    cases near with
    | false =>
      simp (maxSteps := 1000000) (disch := first | assumption | ((try simp only [push_next, put_next, adv_next, List.length_cons, List.length_nil, List.length_map, List.length_set]); omega) | simp) [e2]
      exact main 8#32 y.v _ h (.refl h) (by decide) (by simp) (by simp [e2]) (by simp) (by simp) (by simp) (by simp) (by simp) (by simp) (by simp) (by simp) (by simp)
    | true =>
      simp (maxSteps := 1000000) (disch := first | assumption | ((try simp only [push_next, put_next, adv_next, List.length_cons, List.length_nil, List.length_map, List.length_set]); omega) | simp) [e2, iaV_u32]
      exact main 8#32 _ _ _ ((Kp.refl h).push _) (by decide) (by simp) (by simp [e2]) (by simp) (by simp) (by simp) (by simp) (by simp) (by simp) (by simp) (by simp) (by simp; rfl)
  · simp (maxSteps := 1000000) (disch := first | assumption | ((try simp only [push_next, put_next, adv_next, List.length_cons, List.length_nil, List.length_map, List.length_set]); omega) | simp) [e13, hp, GC_of hw, -g13_pianolalaw14_play]
    rw [g13_pianolalaw14_play]
    simp only [G_seq, G_ops]
    generalize (Fr.seq (.seq (.seq (.ops [⟨some 86, none, .fa 0 (.t 13)⟩, ⟨some 87, none, .ld (.t 86)⟩]) (.block 2 (.seq (.ops [⟨some 100, none, .bin .eql (.t 87) (.c (.int .i64 2))⟩, ⟨some 99, none, .mov (.t 100)⟩]) (.cond (.t 99) c3_pianolalaw14_play c11_pianolalaw14_play)))) c12_pianolalaw14_play) :: F) = F1 at main ⊢
    cases near with
    | false =>
      simp (maxSteps := 1000000) (disch := first | assumption | ((try simp only [push_next, put_next, adv_next, List.length_cons, List.length_nil, List.length_map, List.length_set]); omega) | simp) [e2]
      exact main 12#32 y.v _ h (.refl h) (by decide) (by simp) (by simp [e2]) (by simp) (by simp) (by simp) (by simp) (by simp) (by simp) (by simp) (by simp) (by simp)
    | true =>
      simp (maxSteps := 1000000) (disch := first | assumption | ((try simp only [push_next, put_next, adv_next, List.length_cons, List.length_nil, List.length_map, List.length_set]); omega) | simp) [e2, iaV_u32]
      exact main 12#32 _ _ _ ((Kp.refl h).push _) (by decide) (by simp) (by simp [e2]) (by simp) (by simp) (by simp) (by simp) (by simp) (by simp) (by simp) (by simp) (by simp; rfl)
  · simp (maxSteps := 1000000) (disch := first | assumption | ((try simp only [push_next, put_next, adv_next, List.length_cons, List.length_nil, List.length_map, List.length_set]); omega) | simp) [e13, hp, GC_of hw, -g13_pianolalaw14_play]
    rw [g13_pianolalaw14_play]
    simp only [G_seq, G_ops]
    generalize (Fr.seq (.seq (.seq (.ops [⟨some 86, none, .fa 0 (.t 13)⟩, ⟨some 87, none, .ld (.t 86)⟩]) (.block 2 (.seq (.ops [⟨some 100, none, .bin .eql (.t 87) (.c (.int .i64 2))⟩, ⟨some 99, none, .mov (.t 100)⟩]) (.cond (.t 99) c3_pianolalaw14_play c11_pianolalaw14_play)))) c12_pianolalaw14_play) :: F) = F1 at main ⊢
    cases near with
    | false =>
      simp (maxSteps := 1000000) (disch := first | assumption | ((try simp only [push_next, put_next, adv_next, List.length_cons, List.length_nil, List.length_map, List.length_set]); omega) | simp) [e2]
      exact main 16#32 y.v _ h (.refl h) (by decide) (by simp) (by simp [e2]) (by simp) (by simp) (by simp) (by simp) (by simp) (by simp) (by simp) (by simp) (by simp)
    | true =>
      simp (maxSteps := 1000000) (disch := first | assumption | ((try simp only [push_next, put_next, adv_next, List.length_cons, List.length_nil, List.length_map, List.length_set]); omega) | simp) [e2, iaV_u32]
      exact main 16#32 _ _ _ ((Kp.refl h).push _) (by decide) (by simp) (by simp [e2]) (by simp) (by simp) (by simp) (by simp) (by simp) (by simp) (by simp) (by simp) (by simp; rfl)
  · simp (maxSteps := 1000000) (disch := first | assumption | ((try simp only [push_next, put_next, adv_next, List.length_cons, List.length_nil, List.length_map, List.length_set]); omega) | simp) [e13, hp, GC_of hw, -g13_pianolalaw14_play]
    rw [g13_pianolalaw14_play]
    simp only [G_seq, G_ops]
    generalize (Fr.seq (.seq (.seq (.ops [⟨some 86, none, .fa 0 (.t 13)⟩, ⟨some 87, none, .ld (.t 86)⟩]) (.block 2 (.seq (.ops [⟨some 100, none, .bin .eql (.t 87) (.c (.int .i64 2))⟩, ⟨some 99, none, .mov (.t 100)⟩]) (.cond (.t 99) c3_pianolalaw14_play c11_pianolalaw14_play)))) c12_pianolalaw14_play) :: F) = F1 at main ⊢
    cases near with
    | false =>
      simp (maxSteps := 1000000) (disch := first | assumption | ((try simp only [push_next, put_next, adv_next, List.length_cons, List.length_nil, List.length_map, List.length_set]); omega) | simp) [e2]
      exact main 20#32 y.v _ h (.refl h) (by decide) (by simp) (by simp [e2]) (by simp) (by simp) (by simp) (by simp) (by simp) (by simp) (by simp) (by simp) (by simp)
    | true =>
      simp (maxSteps := 1000000) (disch := first | assumption | ((try simp only [push_next, put_next, adv_next, List.length_cons, List.length_nil, List.length_map, List.length_set]); omega) | simp) [e2, iaV_u32]
      exact main 20#32 _ _ _ ((Kp.refl h).push _) (by decide) (by simp) (by simp [e2]) (by simp) (by simp) (by simp) (by simp) (by simp) (by simp) (by simp) (by simp) (by simp; rfl)
end
end Go.Proofs.Ytpdfdemoflofhaa.Cd

/- A disk's play: all calls. -/
set_option maxRecDepth 1000000
set_option maxHeartbeats 8000000
set_option linter.unusedSimpArgs false
set_option linter.unusedVariables false
namespace Go.Proofs.Ytpdfdemoflofhaa.Cd
open Go Go.Dx
section
variable {g h h' : Hp} {q : Value → Hp → Prop} {n0 x : Nat} {fp fr fo : List Nat} {X : BS} {now : Int}
theorem kplay {near : Bool} {im : By} {l : List AskS} {ai al : Option Addr} {ci cl : Nat} (Si : Sees encB g ai im) (Sl : Sees encAsk g al l) (hi : im.length < 2 ^ 40) (hl : l.length < 2 ^ 40) :
    WC T n_pianolalaw14_play [.slice ai im.length ci, .slice al l.length cl, .bool near] g fun v h' => v = .bool true ∧ Kp g h' := by
  rw [w_pianolalaw14_play]
  simp (maxSteps := 1000000) (disch := first | assumption | ((try simp only [push_next, put_next, adv_next, List.length_cons, List.length_nil, List.length_map, List.length_set]); omega) | simp) [GC_of (fun q => wnew)]
  have W1 : WhA (g.push (.cells false [.slice none 0 0, .int .i64 0])) g.next ⟨[], 0⟩ [] := ⟨Wh.new (h := g), .nil⟩
  have K1 : Kp g (g.push (.cells false [.slice none 0 0, .int .i64 0])) := (Kp.refl g).push _
  have n1 : (g.push (.cells false [.slice none 0 0, .int .i64 0])).next = g.next + 1 := rfl
  generalize g.push (.cells false [.slice none 0 0, .int .i64 0]) = h1 at *
  refine rnew fun h2 R2 K2 n2 => ?_
  rw [show (max 1 (min (2 : Int) 64)).toNat = pgs 2 from rfl, n1] at R2
  rw [n1] at n2
  have K12 := K1.trans K2
  rw [n1]
  simp (maxSteps := 1000000) (disch := first | assumption | ((try simp only [push_next, put_next, adv_next, List.length_cons, List.length_nil, List.length_map, List.length_set]); omega) | simp)
  refine knew (Si.kp K12) hi (by omega) (by omega) fun h3 D3 K3 n3 => ?_
  simp (maxSteps := 1000000) (disch := first | assumption | ((try simp only [push_next, put_next, adv_next, List.length_cons, List.length_nil, List.length_map, List.length_set]); omega) | simp)
  have K13 := K12.trans K3
  have hn3 : h3.next = g.next + 7 := by omega
  have z1 : h2.next = g.next + 5 := by omega
  rw [z1] at D3 ⊢
  refine znew (im := []) .nul (Si.kp K13) (by simp) hi fun h4 R4 K4 n4 => ?_
  have hx4 : h3.next = g.next + 7 := hn3
  obtain ⟨x, hx⟩ : ∃ x, x = g.next + 7 := ⟨_, rfl⟩
  rw [hn3, ← hx] at R4
  rw [hn3, ← hx]
  have P4 : PW g h4 g.next x [] [] [] (BS.mk0 2 [] im) (BS.mk0 2 [] im) := by
    have hB : (BS.mk0 2 [] im).B = List.replicate (1024 * pgs 2) 0#8 := by simp only [BS.mk0, List.take_nil]; rw [ovB_nil]
    have hW : (BS.mk0 2 [] im).W = List.replicate (pgs 2) false := by simp only [BS.mk0]; exact tch_false ..
    refine ⟨⟨D3.keep (K4.get _ (by omega)) (K4.get _ (by omega)), ?_, W1.kp (K2.trans (K3.trans K4)), by simp, by omega, by omega⟩, R4, hx, by simp, K13.trans K4, Nat.le_refl _⟩
    have := R2.kp (K3.trans K4)
    rw [hB, hW]
    exact this
  have hon : Only 5 (BS.mk0 2 [] im) := fun e he => by simp [BS.mk0] at he
  have hml : (BS.mk0 2 [] im).M.length = 2 := by simp [BS.mk0, show pgs 2 = 2 from rfl]
  generalize BS.mk0 2 [] im = X0 at *
  have SK : ∀ {h'}, Kp g h' → Sees encAsk h' al l := fun K => Sl.kp K
  simp (maxSteps := 1000000) (disch := first | assumption | ((try simp only [push_next, put_next, adv_next, List.length_cons, List.length_nil, List.length_map, List.length_set]); omega) | simp)
  refine G_loop (fun k e h' => ∃ (i : Nat) (now : Int) (X : BS), k = 80 - i ∧ i ≤ 80 ∧ i ≤ l.length ∧ now ≤ 40 * i ∧ e 1 = .slice al l.length cl ∧ e 2 = .bool near ∧ e 7 = ptr g.next 0 ∧ e 8 = ptr (g.next + 1 + 3) 0 ∧ e 9 = ptr (g.next + 6) 0 ∧ e 10 = ptr (x + 4) 0 ∧ e 11 = .int .i64 now ∧ e 12 = .int .i64 i ∧ KP g h' g.next x now X) ?_ 80 _ _ ⟨0, 0, X0, rfl, by omega, by omega, by omega, by simp, by simp, by simp, by simp, by simp, by simp, by simp, by simp, ⟨⟨[], [], [], P4⟩, hon, by omega, hml⟩⟩
  rintro k ih e h' ⟨i, now, X, rfl, i80, il, hnow, e1, e2, e7, e8, e9, e10, e11, e12, A⟩
  obtain ⟨fp, fr, fo, P⟩ := A.pw
  obtain ⟨vL, vi, vo, vu, S⟩ := P.rw'.bs
  have g1 := S.g
  have hel := P.rw'.el
  simp only [rcl, rrest] at g1
  by_cases c : i < l.length ∧ i < 80
  · obtain ⟨c1, c2⟩ := c
    have c1i : (i : Int) < l.length := by omega
    have c2i : (i : Int) < 80 := by omega
    have hspl : l = l.take i ++ l[i] :: l.drop (i + 1) := by rw [List.getElem_cons_drop, List.take_append_drop]
    obtain ⟨A0, hA, hr⟩ := Sees.mid (A := l.take i) (x := l[i]) (B := l.drop (i + 1)) (by rw [← hspl]; exact SK P.kp)
    obtain ⟨y, hy⟩ : ∃ y, y = l[i] := ⟨_, rfl⟩
    rw [List.length_take, Nat.min_eq_left (by omega), ← hy] at hr
    subst hA
    have hr' : h'.rdn A0.block (A0.off + i * 5) 5 = some [.int .i64 y.k, .int .i64 y.j, u32 y.v, .int .i64 y.t, u8 y.b] := hr
    have hsec := fun q => ksectors (q := q) P.ku.dk
    have hq' : IntKind.i64.wrap ((X.E.length : Int).tdiv 64) = (X.E.length : Int) / 64 := by
      rw [Int.tdiv_eq_ediv_of_nonneg (by omega)]
      exact wrap_i64 (by omega) (by omega)
    simp (maxSteps := 1000000) (disch := first | assumption | ((try simp only [push_next, put_next, adv_next, List.length_cons, List.length_nil, List.length_map, List.length_set]); omega) | simp) [e1, e2, e7, e8, e9, e10, e11, e12, c1i, c2i, g1, GC_of hsec, GCI_of hsec, hq', hr', -g14_pianolalaw14_play]
    have Kp1 : Kp h' (h'.push (.cells false [.int .i64 y.k, .int .i64 y.j, u32 y.v, .int .i64 y.t, u8 y.b])) := (Kp.refl h').push _
    refine kstep (y := y) (p := h'.next) (near := near) (A.more Kp1) (by omega) get_push_self P.ku.ln (by simp [e2]) (by simp [e7]) (by simp [e8]) (by simp [e9]) (by simp [e10]) (by simp [e11]) (by simp) fun X' now' e' f1 f2 f7 f8 f9 f10 f11 f12 hn h2 A2 => ?_
    have f12' : e' 12 = .int .i64 i := by rw [f12]; simp [e12]
    simp (maxSteps := 1000000) (disch := first | assumption | ((try simp only [push_next, put_next, adv_next, List.length_cons, List.length_nil, List.length_map, List.length_set]); omega) | simp) [f12']
    exact ih (80 - (i + 1)) (by omega) _ _ ⟨i + 1, now', X', rfl, by omega, by omega, by omega, by simp [f1, e1], by simp [f2, e2], by simp [f7, e7], by simp [f8, e8], by simp [f9, e9], by simp [f10, e10], by simp [f11], by simp, A2⟩
  · have hB : X.B.length = 2048 := by rw [P.ku.ra.sz, A.ml]
    have hth : thB X.B 0#32 2048 = true := by simp [thB, hB]
    have fini : ∀ e' : Env, e' 8 = ptr (g.next + 1 + 3) 0 → e' 10 = ptr (x + 4) 0 → G T (fin [.t 6] (some []) g.next fun v h' => v = .bool true ∧ Kp g h') c18_pianolalaw14_play [] e' h' := fun e' f8 f10 => by
      simp (maxSteps := 1000000) (disch := first | assumption | ((try simp only [push_next, put_next, adv_next, List.length_cons, List.length_nil, List.length_map, List.length_set]); omega) | simp) [f8, -g17_pianolalaw14_play]
      refine rbytes P.ku.ra (by omega) (fun hb => by rw [hth] at hb; cases hb) fun m hm hle hb a' c' h2 S2 K2 _ _ _ => ?_
      have hm' : m = 2048 := by omega
      subst hm'
      have S2' : Sees encB h2 a' X.B := by
        have : (X.B.drop (0#32).toNat).take 2048 = X.B := by
          simp only [show (0#32).toNat = 0 from rfl, List.drop_zero]
          exact List.take_of_length_le (by omega)
        rw [this] at S2
        exact S2
      have P2 := P.more K2
      have S3 := RS.kp P.rw' S K2
      have g2 := S3.g
      simp only [rcl, rrest] at g2
      have hr2 := P2.rw'.ra.r
      have he1 := b2sV_sees (c := X.B.length) (sees_b P2.rw'.ra.b)
      have he2 := b2sV_sees (c := c') S2'
      rw [hB] at he2
      simp (maxSteps := 1000000) (disch := first | assumption | ((try simp only [push_next, put_next, adv_next, List.length_cons, List.length_nil, List.length_map, List.length_set]); omega) | simp) [f10, g2, hr2, he1, he2]
      exact P2.kp
    by_cases c1 : i < l.length
    · have c1i : (i : Int) < l.length := by omega
      have c2i : ¬ (i : Int) < 80 := by omega
      simp (maxSteps := 1000000) (disch := first | assumption | ((try simp only [push_next, put_next, adv_next, List.length_cons, List.length_nil, List.length_map, List.length_set]); omega) | simp) [e1, e12, c1i, c2i, -g18_pianolalaw14_play]
      exact fini _ (by simp [e8]) (by simp [e10])
    · have c1i : ¬ (i : Int) < l.length := by omega
      simp (maxSteps := 1000000) (disch := first | assumption | ((try simp only [push_next, put_next, adv_next, List.length_cons, List.length_nil, List.length_map, List.length_set]); omega) | simp) [e1, e12, c1i, -g18_pianolalaw14_play]
      exact fini _ (by simp [e8]) (by simp [e10])
end
end Go.Proofs.Ytpdfdemoflofhaa.Cd

/- DiskNumbers: what it answers. -/
set_option maxRecDepth 1000000
set_option maxHeartbeats 8000000
set_option linter.unusedSimpArgs false
set_option linter.unusedVariables false
namespace Go.Proofs.Ytpdfdemoflofhaa.Cd
open Go Go.Dx
@[simp] theorem opV_ms {e : Env} {h : Hp} {x : Dx.X} : opV e h (.ms x) = (match x.ev e with
    | .slice (some ⟨b, o, none⟩) n c => (match h.get b with | some (.cells false _) => some (.slice (some ⟨b, o, none⟩) n c, h) | _ => none)
    | _ => none) := rfl
section
variable {g h h' : Hp} {q : Value → Hp → Prop} {n0 x : Nat} {fp fr fo : List Nat} {X : BS} {now : Int}
theorem kknown : WC T n_pianolalaw14_known [] g fun v h' => v = .bool true ∧ Kp g h' := by
  rw [w_pianolalaw14_known]
  simp (maxSteps := 1000000) (disch := first | assumption | ((try simp only [push_next, put_next, adv_next, List.length_cons, List.length_nil, List.length_map, List.length_set]); omega) | simp) [GC_of (fun q => wnew)]
  have W1 : WhA (g.push (.cells false [.slice none 0 0, .int .i64 0])) g.next ⟨[], 0⟩ [] := ⟨Wh.new (h := g), .nil⟩
  have K1 : Kp g (g.push (.cells false [.slice none 0 0, .int .i64 0])) := (Kp.refl g).push _
  have n1 : (g.push (.cells false [.slice none 0 0, .int .i64 0])).next = g.next + 1 := rfl
  generalize g.push (.cells false [.slice none 0 0, .int .i64 0]) = h1 at *
  refine rnew fun h2 R2 K2 n2 => ?_
  rw [show (max 1 (min (1 : Int) 64)).toNat = pgs 1 from rfl, n1] at R2
  rw [n1] at n2
  have K12 := K1.trans K2
  rw [n1]
  simp (maxSteps := 1000000) (disch := first | assumption | ((try simp only [push_next, put_next, adv_next, List.length_cons, List.length_nil, List.length_map, List.length_set]); omega) | simp)
  have S0 : Sees encB (h2.push (.cells false [u8 100#8, u8 105#8, u8 115#8, u8 107#8])) (some ⟨h2.next, 0, none⟩) [100#8, 105#8, 115#8, 107#8] := sees_b get_push_self
  have K3 : Kp h2 (h2.push (.cells false [u8 100#8, u8 105#8, u8 115#8, u8 107#8])) := (Kp.refl h2).push _
  have n3 : (h2.push (.cells false [u8 100#8, u8 105#8, u8 115#8, u8 107#8])).next = g.next + 6 := by simp; omega
  generalize h2.push (.cells false [u8 100#8, u8 105#8, u8 115#8, u8 107#8]) = h3 at *
  have hk := knew (h := h3) (w := g.next) (x := g.next + 1) (dv := 5) (c := 4) (q := fun v h' => v = ptr (h3.next + 1) 0 ∧ Dk h' (h3.next + 1) h3.next g.next (g.next + 1) 5 (dkE [100#8, 105#8, 115#8, 107#8]) ⟨0#32, 0#32, 0#32, 0#32⟩ ∧ Kp h3 h' ∧ h'.next = h3.next + 2) S0 (by decide) (by omega) (by omega) fun h' a b c => ⟨rfl, a, b, c⟩
  refine GC_intro hk fun v h4 ⟨hv, D4, K4, n4⟩ => ?_
  subst hv
  rw [n3] at D4 n4 ⊢
  have hE : (dkE [100#8, 105#8, 115#8, 107#8]).length = 64 := by rw [dkE_length]; rfl
  have hE5 : (dkE [100#8, 105#8, 115#8, 107#8]).take 5 = [100#8, 105#8, 115#8, 107#8, 0#8] := by decide
  generalize dkE [100#8, 105#8, 115#8, 107#8] = E at *
  have K24 := K3.trans K4
  have hBl : (List.replicate (1024 * pgs 1) 0#8 : By).length = 1024 := by simp [show pgs 1 = 1 from rfl]
  generalize (List.replicate (1024 * pgs 1) 0#8 : By) = B at *
  generalize List.replicate (pgs 1) false = M at *
  obtain ⟨X0, hX0⟩ : ∃ X0 : BS, X0 = { B := B, M := M, W := M, S := ⟨[], 0⟩, r := 0#32, m := 0#32, T1 := ⟨0#32, 0#32, 0#32⟩, T2 := ⟨0#32, 0#32, 0#32⟩, U := ⟨[], [], false, 0#32, []⟩, D := ⟨0#32, 0#32, 0#32, 0#32⟩, K := ⟨0#32, 0#32, 0#32, 0#32⟩, E := E } := ⟨_, rfl⟩
  have A0 : KU h4 g.next (g.next + 1) (g.next + 6) (g.next + 6 + 1) (g.next + 6 + 1) [] X0 := by
    subst hX0
    exact ⟨D4, R2.kp K24, W1.kp (K2.trans K24), by simp, by omega, by omega⟩
  have Kg : Kp g h4 := K12.trans K24
  have fresh : ∀ fp, (∀ b ∈ fp, g.next + 6 + 1 < b) → ∀ b ∈ KL g.next (g.next + 1) (g.next + 6) (g.next + 6 + 1) fp, g.next ≤ b := fun fp hf b hb => by
    rcases List.mem_append.1 hb with hb | hb
    · simp at hb; omega
    · have := hf b hb; omega
  have hsec := fun q => ksectors (q := q) A0.dk
  have hXE : X0.E = E := by rw [hX0]
  rw [hXE, hE] at hsec
  simp (maxSteps := 1000000) (disch := first | assumption | ((try simp only [push_next, put_next, adv_next, List.length_cons, List.length_nil, List.length_map, List.length_set]); omega) | simp) [GC_of hsec, GCI_of hsec]
  refine A0.wr (by omega) fun h5 f5 A1 U1 => ?_
  have K5 := U1.kp' Kg (fresh _ A0.gf)
  simp (maxSteps := 1000000) (disch := first | assumption | ((try simp only [push_next, put_next, adv_next, List.length_cons, List.length_nil, List.length_map, List.length_set]); omega) | simp)
  refine A1.wr (by omega) fun h6 f6 A2 U2 => ?_
  have K6 := U2.kp' K5 (fresh _ A1.gf)
  have e2 : (X0.wr 5 4#32 100#32 0).wr 5 8#32 1#32 0 = { X0 with K := ⟨0#32, 100#32, 1#32, 1#32⟩, S := ⟨[⟨32, 5, 0⟩], 1⟩ } := by
    rw [hX0]
    simp [BS.wr, DkS.wr, DkS.wrw, WhS.arm, wbad, wcan, insl_nil]
  rw [e2] at A2
  simp (maxSteps := 1000000) (disch := first | assumption | ((try simp only [push_next, put_next, adv_next, List.length_cons, List.length_nil, List.length_map, List.length_set]); omega) | simp)
  refine A2.take (fun hno => by simp at hno) fun ev EL hL ht h7 f7 A3 U3 => ?_
  simp at hL
  obtain ⟨rfl, rfl⟩ := hL
  have K7 := U3.kp' K6 (fresh _ A2.gf)
  simp (maxSteps := 1000000) (disch := first | assumption | ((try simp only [push_next, put_next, adv_next, List.length_cons, List.length_nil, List.length_map, List.length_set]); omega) | simp) [Hp.rdn]
  have K8 : Kp h7 (h7.push (.cells false [.int .i64 32, .int .i64 5, .int .i64 0])) := (Kp.refl h7).push _
  have A4 := A3.kp K8
  generalize h7.push (.cells false [.int .i64 32, .int .i64 5, .int .i64 0]) = h8 at *
  refine A4.fire (t := 32) fun h9 A5 U5 => ?_
  have K9 := U5.kp' (K7.trans K8) (fresh _ A3.gf)
  have hok : (⟨0#32, 100#32, 1#32, 1#32⟩ : DkS).ok E B = true := by simp [DkS.ok, hE, thB, hBl]
  have e5 : BS.fire { { X0 with K := ⟨0#32, 100#32, 1#32, 1#32⟩, S := ⟨[⟨32, 5, 0⟩], 1⟩ } with S := ⟨[], 1⟩ } 5 32 = { X0 with K := ⟨0#32, 100#32, 1#32, 2#32⟩, S := ⟨[], 1⟩, B := ovB B 100 (E.take 64), W := tch M M 100 64 } := by
    rw [hX0]
    simp [BS.fire, DkS.fire, DkS.mem, DkS.wrt, DkS.img, hok]
  rw [e5] at A5
  have hl64 : (E.take 64).length = 64 := by rw [List.length_take, hE]; rfl
  have hBn : (ovB B 100 (E.take 64)).length = 1024 := by rw [ovB_length (by rw [hl64, hBl]; decide), hBl]
  have h5b : ((ovB B 100 (E.take 64)).drop 100).take 5 = [100#8, 105#8, 115#8, 107#8, 0#8] := by
    have h1 : (B.take 100).length = 100 := by simp; omega
    unfold ovB
    rw [List.append_assoc, List.drop_left' h1, List.take_append_of_le_length (by omega), List.take_take]
    simpa using hE5
  simp (maxSteps := 1000000) (disch := first | assumption | ((try simp only [push_next, put_next, adv_next, List.length_cons, List.length_nil, List.length_map, List.length_set]); omega) | simp)
  refine rbytes A5.ra (by omega) (fun hb => by simp [thB, hBn] at hb) fun m hm hle hb a' c' h10 S10 K10 _ _ _ => ?_
  have hm5 : m = 5 := by omega
  subst hm5
  have S11 : Sees encB h10 a' [100#8, 105#8, 115#8, 107#8, 0#8] := by rw [← h5b]; exact S10
  have A6 := A5.kp K10
  have hr := fun q => kread (q := q) (a := 12#32) A6.dk
  have hln := fun q => kline (q := q) A6.dk
  have he : b2sV h10 (.slice a' 5 c') = some (.string ⟨#[100, 105, 115, 107, 0]⟩) := b2sV_sees (c := c') S11
  simp (maxSteps := 1000000) (disch := first | assumption | ((try simp only [push_next, put_next, adv_next, List.length_cons, List.length_nil, List.length_map, List.length_set]); omega) | simp) [GC_of hr, GCI_of hr, GC_of hln, GCI_of hln, he, DkS.rd, kat]
  exact K9.trans K10
end
end Go.Proofs.Ytpdfdemoflofhaa.Cd

/- DiskNumbers: the closed sentence. -/
set_option maxRecDepth 1000000
set_option maxHeartbeats 8000000
set_option linter.unusedSimpArgs false
set_option linter.unusedVariables false
namespace Go.Proofs.Ytpdfdemoflofhaa.Cd
open Go Go.Dx
section
variable {g h h' : Hp} {q : Value → Hp → Prop} {n0 x : Nat} {fp fr fo : List Nat} {X : BS} {now : Int}
theorem knumbers : WC T n_pianolalaw14_DiskNumbers [] g fun v h' => v = .bool true := by
  rw [w_pianolalaw14_DiskNumbers]
  simp (maxSteps := 1000000) (disch := first | assumption | ((try simp only [push_next, put_next, adv_next, List.length_cons, List.length_nil, List.length_map, List.length_set]); omega) | simp)
  refine G_loop (fun k e h' => ∃ (i : Nat) (L : List AskS) (v : Value) (fp : List Nat), k = 78 - i ∧ i ≤ 78 ∧ L.length = i ∧ e 1 = v ∧ e 2 = .int .i64 i ∧ Own encAsk h' v L fp ∧ Kp g h' ∧ ∀ b ∈ fp, g.next ≤ b) ?_ 78 _ _ ⟨0, [], .slice none 0 0, [], rfl, by omega, rfl, by simp, by simp, .nul, .refl g, by simp⟩
  rintro k ih e h ⟨i, L, v, fp, rfl, i78, hL, e1, e2, O, K, hf⟩
  by_cases c : i < 78
  · have ci : (i : Int) < 78 := by omega
    obtain ⟨j, hj, hj7⟩ : ∃ j : Nat, (i : Int).tmod 7 = j ∧ j < 7 := ⟨i % 7, by rw [Int.tmod_eq_emod_of_nonneg (by omega)]; omega, by omega⟩
    obtain ⟨m, hm, hm4⟩ : ∃ m : Nat, (i : Int).tmod 4 = m ∧ m < 4 := ⟨i % 4, by rw [Int.tmod_eq_emod_of_nonneg (by omega)]; omega, by omega⟩
    obtain ⟨c7, h7⟩ : ∃ c7 : Int, ([.int .i64 5, .int .i64 0, .int .i64 1, .int .i64 0, .int .i64 4, .int .i64 3, .int .i64 2] : List Value)[j]? = some (.int .i64 c7) := by
      rcases (by omega : j = 0 ∨ j = 1 ∨ j = 2 ∨ j = 3 ∨ j = 4 ∨ j = 5 ∨ j = 6) with rfl | rfl | rfl | rfl | rfl | rfl | rfl <;> exact ⟨_, rfl⟩
    obtain ⟨c4, h4⟩ : ∃ c4 : Int, ([.int .i64 0, .int .i64 1, .int .i64 2, .int .i64 3] : List Value)[m]? = some (.int .i64 c4) := by
      rcases (by omega : m = 0 ∨ m = 1 ∨ m = 2 ∨ m = 3) with rfl | rfl | rfl | rfl <;> exact ⟨_, rfl⟩
    have h7' : ∀ hh : j < ([.int .i64 5, .int .i64 0, .int .i64 1, .int .i64 0, .int .i64 4, .int .i64 3, .int .i64 2] : List Value).length, ([.int .i64 5, .int .i64 0, .int .i64 1, .int .i64 0, .int .i64 4, .int .i64 3, .int .i64 2] : List Value)[j]'hh = .int .i64 c7 := fun hh => by rw [List.getElem?_eq_getElem hh] at h7; exact Option.some.inj h7
    have h4' : ∀ hh : m < ([.int .i64 0, .int .i64 1, .int .i64 2, .int .i64 3] : List Value).length, ([.int .i64 0, .int .i64 1, .int .i64 2, .int .i64 3] : List Value)[m]'hh = .int .i64 c4 := fun hh => by rw [List.getElem?_eq_getElem hh] at h4; exact Option.some.inj h4
    simp (maxSteps := 1000000) (disch := first | assumption | ((try simp only [push_next, put_next, adv_next, List.length_cons, List.length_nil, List.length_map, List.length_set]); omega) | simp) [e1, e2, ci, hj, hm, h7, h4, h7', h4']
    have KA : Kp h ((((h.adv 3).put h.next (some (.cells false [.int .i64 5, .int .i64 0, .int .i64 1, .int .i64 0, .int .i64 4, .int .i64 3, .int .i64 2]))).put (h.next + 1) (some (.cells false [.int .i64 0, .int .i64 1, .int .i64 2, .int .i64 3]))).put (h.next + 2) (some (.cells false [.int .i64 c7, .int .i64 c4, u32 (BitVec.ofInt 32 (((i : Int) * 41).tmod 2110)), .int .i64 ((i : Int).tmod 41), u8 (BitVec.ofNat 8 i)]))) := ((((Kp.refl h).adv 3).put (Nat.le_refl _) _).put (by omega) _).put (by omega) _
    have gA : ((((h.adv 3).put h.next (some (.cells false [.int .i64 5, .int .i64 0, .int .i64 1, .int .i64 0, .int .i64 4, .int .i64 3, .int .i64 2]))).put (h.next + 1) (some (.cells false [.int .i64 0, .int .i64 1, .int .i64 2, .int .i64 3]))).put (h.next + 2) (some (.cells false [.int .i64 c7, .int .i64 c4, u32 (BitVec.ofInt 32 (((i : Int) * 41).tmod 2110)), .int .i64 ((i : Int).tmod 41), u8 (BitVec.ofNat 8 i)]))).get (h.next + 2) = some (.cells false (encAsk.all [(⟨c7, c4, BitVec.ofInt 32 (((i : Int) * 41).tmod 2110), (i : Int).tmod 41, BitVec.ofNat 8 i⟩ : AskS)])) := by
      rw [get_put_self (by simp)]
      simp [encAsk, Enc.all]
    generalize (((h.adv 3).put h.next (some (.cells false [.int .i64 5, .int .i64 0, .int .i64 1, .int .i64 0, .int .i64 4, .int .i64 3, .int .i64 2]))).put (h.next + 1) (some (.cells false [.int .i64 0, .int .i64 1, .int .i64 2, .int .i64 3]))).put (h.next + 2) (some (.cells false [.int .i64 c7, .int .i64 c4, u32 (BitVec.ofInt 32 (((i : Int) * 41).tmod 2110)), .int .i64 ((i : Int).tmod 41), u8 (BitVec.ofNat 8 i)])) = hA at *
    generalize (⟨c7, c4, BitVec.ofInt 32 (((i : Int) * 41).tmod 2110), (i : Int).tmod 41, BitVec.ofNat 8 i⟩ : AskS) = y at *
    have SA : Sees encAsk hA (some ⟨h.next + 2, 0, none⟩) [y] := ⟨fun hB => (by cases hB), fun B hB => by
      cases hB
      simp [Hp.rdn, gA]
      exact ⟨Nat.le_refl 5, rfl⟩, fun B hB => by cases hB; exact .inl rfl⟩
    refine GVI_app (E := encAsk) (O.kp KA) SA rfl (by simp; omega) (by simp; omega) fun v' h' fp' O' U => ?_
    simp (maxSteps := 1000000) (disch := first | assumption | ((try simp only [push_next, put_next, adv_next, List.length_cons, List.length_nil, List.length_map, List.length_set]); omega) | simp) [e2]
    refine ih (78 - (i + 1)) (by omega) _ _ ⟨i + 1, _, v', fp', rfl, by omega, by simp [hL], by simp, by simp, O', U.kp' (K.trans KA) hf, fun b hb => ?_⟩
    rcases U.sub b hb with h5 | h5
    · exact hf b h5
    · have := K.le; have := KA.le; omega
  · have ci : ¬ (i : Int) < 78 := by omega
    obtain ⟨al, cl, hv, SL, _, _⟩ := O.len
    subst hv
    have hL78 : L.length = 78 := by omega
    simp (maxSteps := 1000000) (disch := first | assumption | ((try simp only [push_next, put_next, adv_next, List.length_cons, List.length_nil, List.length_map, List.length_set]); omega) | simp) [e1, e2, ci]
    rw [hL78] at e1
    refine G_loop (fun k e h' => ∃ n : Nat, k = 300 - n ∧ n ≤ 220 ∧ e 1 = .slice al 78 cl ∧ e 3 = .int .i64 n ∧ Sees encAsk h' al L) ?_ 300 _ _ ⟨0, rfl, by omega, by simp [e1], by simp, SL⟩
    clear ih e1 e2 ci
    rintro k ih e h ⟨n, rfl, hn, e1, e3, SL⟩
    by_cases c : n < 200
    · have ci : (n : Int) < 200 := by omega
      simp (maxSteps := 1000000) (disch := first | assumption | ((try simp only [push_next, put_next, adv_next, List.length_cons, List.length_nil, List.length_map, List.length_set]); omega) | simp) [e1, e3, ci]
      have Kx : Kp h (h.push (.cells false (List.replicate n (u8 0#8)))) := (Kp.refl h).push _
      have Sx : Sees encB (h.push (.cells false (List.replicate n (u8 0#8)))) (some ⟨h.next, 0, none⟩) (List.replicate n 0#8) := sees_b (show (h.push (.cells false (List.replicate n (u8 0#8)))).get h.next = some (.cells false ((List.replicate n 0#8).map u8)) by rw [get_push_self]; simp)
      generalize h.push (.cells false (List.replicate n (u8 0#8))) = h1 at *
      have hp := kplay (near := true) (ci := n) (cl := cl) Sx (SL.kp Kx) (by simp; omega) (by omega)
      rw [hL78, List.length_replicate] at hp
      refine GC_intro hp fun v h2 ⟨hv, K2⟩ => ?_
      subst hv
      simp (maxSteps := 1000000) (disch := first | assumption | ((try simp only [push_next, put_next, adv_next, List.length_cons, List.length_nil, List.length_map, List.length_set]); omega) | simp) [e3]
      exact ih (300 - (n + 13)) (by omega) _ _ ⟨n + 13, rfl, by omega, by simp [e1], by simp, SL.kp (Kx.trans K2)⟩
    · have ci : ¬ (n : Int) < 200 := by omega
      simp (maxSteps := 1000000) (disch := first | assumption | ((try simp only [push_next, put_next, adv_next, List.length_cons, List.length_nil, List.length_map, List.length_set]); omega) | simp) [e1, e3, ci, GC_of (fun q => wnew)]
      have Kw : Kp h (h.push (.cells false [.slice none 0 0, .int .i64 0])) := (Kp.refl h).push _
      have nw : (h.push (.cells false [.slice none 0 0, .int .i64 0])).next = h.next + 1 := rfl
      generalize h.push (.cells false [.slice none 0 0, .int .i64 0]) = h1 at *
      refine rnew fun h2 R2 K2 n2 => ?_
      simp (maxSteps := 1000000) (disch := first | assumption | ((try simp only [push_next, put_next, adv_next, List.length_cons, List.length_nil, List.length_map, List.length_set]); omega) | simp) [-List.reduceReplicate]
      have Kx : Kp h2 (h2.push (.cells false (List.replicate 9999 (u8 0#8)))) := (Kp.refl h2).push _
      have Sx : Sees encB (h2.push (.cells false (List.replicate 9999 (u8 0#8)))) (some ⟨h2.next, 0, none⟩) (List.replicate 9999 0#8) := sees_b (show (h2.push (.cells false (List.replicate 9999 (u8 0#8)))).get h2.next = some (.cells false ((List.replicate 9999 0#8).map u8)) by rw [get_push_self, List.map_replicate])
      have nx : (h2.push (.cells false (List.replicate 9999 (u8 0#8)))).next = h2.next + 1 := rfl
      generalize h2.push (.cells false (List.replicate 9999 (u8 0#8))) = h3 at *
      have hk := knew (h := h3) (w := h.next) (x := h1.next) (dv := 5) (c := 9999) (q := fun v h' => v = ptr (h3.next + 1) 0 ∧ Dk h' (h3.next + 1) h3.next h.next h1.next 5 (dkE (List.replicate 9999 0#8)) ⟨0#32, 0#32, 0#32, 0#32⟩ ∧ Kp h3 h') Sx (by rw [List.length_replicate]; decide) (by omega) (by omega) fun h' a b c => ⟨rfl, a, b⟩
      rw [List.length_replicate] at hk
      refine GC_intro hk fun v h4 ⟨hv, D4, K4⟩ => ?_
      subst hv
      have hE : (dkE (List.replicate 9999 0#8)).length = 4096 := by rw [dkE_length, List.length_replicate]; decide
      generalize dkE (List.replicate 9999 0#8) = E at *
      simp (maxSteps := 1000000) (disch := first | assumption | ((try simp only [push_next, put_next, adv_next, List.length_cons, List.length_nil, List.length_map, List.length_set]); omega) | simp) [e1]
      have K14 := ((Kw.trans K2).trans Kx).trans K4
      have Ki : Kp h4 (h4.push (.cells false [u8 105#8, u8 109#8, u8 97#8, u8 103#8, u8 101#8])) := (Kp.refl h4).push _
      have Si : Sees encB (h4.push (.cells false [u8 105#8, u8 109#8, u8 97#8, u8 103#8, u8 101#8])) (some ⟨h4.next, 0, none⟩) [105#8, 109#8, 97#8, 103#8, 101#8] := sees_b get_push_self
      generalize h4.push (.cells false [u8 105#8, u8 109#8, u8 97#8, u8 103#8, u8 101#8]) = h5 at *
      have hp := kplay (near := false) (ci := 5) (cl := cl) Si (SL.kp (K14.trans Ki)) (by simp) (by omega)
      rw [hL78] at hp
      refine GC_intro hp fun v h6 ⟨hv, K6⟩ => ?_
      subst hv
      have D6 : Dk h6 (h3.next + 1) h3.next h.next h1.next 5 E ⟨0#32, 0#32, 0#32, 0#32⟩ := D4.keep ((Ki.trans K6).get _ (lt_of_get D4.d)) ((Ki.trans K6).get _ (lt_of_get D4.b))
      have hsec := fun q => ksectors (q := q) D6
      rw [hE] at hsec
      simp (maxSteps := 1000000) (disch := first | assumption | ((try simp only [push_next, put_next, adv_next, List.length_cons, List.length_nil, List.length_map, List.length_set]); omega) | simp) [GC_of hsec, GCI_of hsec]
      refine kknown.mono fun u g1 hu => ?_
      obtain ⟨rfl, _⟩ := hu
      simp (maxSteps := 1000000) (disch := first | assumption | ((try simp only [push_next, put_next, adv_next, List.length_cons, List.length_nil, List.length_map, List.length_set]); omega) | simp)
end
end Go.Proofs.Ytpdfdemoflofhaa.Cd
