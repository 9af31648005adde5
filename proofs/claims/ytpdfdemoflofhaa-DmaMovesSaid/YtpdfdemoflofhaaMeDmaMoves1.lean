/- Texts of one kind, one behind the other. -/
import Derived.Test.YtpdfdemoflofhaaMeDmaMoves0
import Derived.Test.YtpdfdemoflofhaaMcz0
/- The wheel, and what is common to all that use one. -/
set_option maxRecDepth 1000000
set_option linter.unusedSimpArgs false
set_option linter.unusedVariables false
namespace Go.Proofs.Ytpdfdemoflofhaa.Cd
open Go Go.Dx
section
variable {h : Hp}
theorem warmI {w : Nat} {L : List Ev} {s d t : Int} {fp : List Nat} {q : Value → Hp → Prop} (W : Wh h w L s fp) (I : WI L)
    (hno : wbad d t = true → q (.bool false) h) (hyes : wbad d t = false → ∀ h' fp', WI (insl (·.at') ⟨t, d, s⟩ (wcan d L)) → Wh h' w (insl (·.at') ⟨t, d, s⟩ (wcan d L)) (IntKind.i64.wrap (s + 1)) fp' → Upd h h' (w :: fp) (w :: fp') → q (.bool true) h') : WC T n_wheel_Wheel_Arm [ptr w 0, .int .i64 d, .int .i64 t] h q := by
  have h1 := I.len
  have h2 := (I.can d).len
  exact warm W (by omega) (by omega) I.srt hno fun hb h' fp' W' U' => hyes hb h' fp' (I.arm hb) W' U'
theorem mod50 (a : Int) : -50 < a.tmod 50 ∧ a.tmod 50 < 50 ∧ 0 ≤ (a.tmod 50 + 50).tmod 50 ∧ (a.tmod 50 + 50).tmod 50 < 50 := by
  have h1 := Int.tmod_lt_of_pos a (show (0 : Int) < 50 by decide)
  have h2 := Int.tmod_lt_of_pos (-a) (show (0 : Int) < 50 by decide)
  rw [Int.neg_tmod] at h2
  exact ⟨by omega, h1, Int.tmod_nonneg _ (by omega), Int.tmod_lt_of_pos _ (by decide)⟩
theorem fpUp {g h h' : Hp} {w : Nat} {fp fp' : List Nat} (hf : ∀ b ∈ w :: fp, g.next ≤ b) (K : Kp g h) (U : Upd h h' (w :: fp) (w :: fp')) : (∀ b ∈ w :: fp', g.next ≤ b) ∧ Kp g h' := ⟨fun b hb => by
  rcases U.sub b hb with h5 | h5
  · exact hf b h5
  · have := K.le; omega, U.kp' K hf⟩
/-- A struct laid anew: what it takes. -/
theorem kp_laid {g h : Hp} (K : Kp g h) (o p : Ob) : Kp g ((h.push o).put h.next (some p)) := (K.push _).put K.le _
theorem Wh.laid {h : Hp} {w : Nat} {L : List Ev} {s : Int} {fp : List Nat} (W : Wh h w L s fp) (o p : Ob) : Wh ((h.push o).put h.next (some p)) w L s fp := W.kp (kp_laid (Kp.refl h) o p)
section
variable {q : Value → Hp → Prop}
theorem within {n lo hi : Int} (h0 : -1000000000000 ≤ lo) (h1 : lo ≤ hi) (h2 : hi ≤ 1000000000000) (hq : ∀ m, lo ≤ m → m ≤ hi → q (.int .i64 m) h) : WC T n_pianolabook_Within [.int .i64 n, .int .i64 lo, .int .i64 hi] h q := by
  rw [w_pianolabook_Within]
  have hne : hi - lo + 1 ≠ 0 := by omega
  have hw : n.tmod (hi - lo + 1) < hi - lo + 1 := Int.tmod_lt_of_pos _ (by omega)
  have hw' : - (hi - lo + 1) < n.tmod (hi - lo + 1) := by
    have := Int.tmod_lt_of_pos (-n) (show 0 < hi - lo + 1 by omega)
    rw [Int.neg_tmod] at this
    omega
  by_cases c1 : lo ≤ n
  · by_cases c2 : n ≤ hi
    · simp (maxSteps := 1000000) (disch := first | assumption | ((try simp only [push_next, put_next, adv_next, List.length_cons, List.length_nil, List.length_map, List.length_set]); omega) | simp) [c1, c2]
      exact hq _ c1 c2
    · by_cases c3 : n.tmod (hi - lo + 1) < 0
      · simp (maxSteps := 1000000) (disch := first | assumption | ((try simp only [push_next, put_next, adv_next, List.length_cons, List.length_nil, List.length_map, List.length_set]); omega) | simp) [c1, c2, c3, hne]
        exact hq _ (by omega) (by omega)
      · simp (maxSteps := 1000000) (disch := first | assumption | ((try simp only [push_next, put_next, adv_next, List.length_cons, List.length_nil, List.length_map, List.length_set]); omega) | simp) [c1, c2, c3, hne]
        exact hq _ (by omega) (by omega)
  · by_cases c3 : n.tmod (hi - lo + 1) < 0
    · simp (maxSteps := 1000000) (disch := first | assumption | ((try simp only [push_next, put_next, adv_next, List.length_cons, List.length_nil, List.length_map, List.length_set]); omega) | simp) [c1, c3, hne]
      exact hq _ (by omega) (by omega)
    · simp (maxSteps := 1000000) (disch := first | assumption | ((try simp only [push_next, put_next, adv_next, List.length_cons, List.length_nil, List.length_map, List.length_set]); omega) | simp) [c1, c3, hne]
      exact hq _ (by omega) (by omega)
theorem within_eq {n lo hi : Int} (h0 : -1000000000000000 ≤ lo) (h1 : lo ≤ hi) (h2 : hi ≤ 4000000000000000000) : WC T n_pianolabook_Within [.int .i64 n, .int .i64 lo, .int .i64 hi] h q ↔ q (.int .i64 (wi n lo hi)) h := by
  rw [w_pianolabook_Within]
  have hne : hi - lo + 1 ≠ 0 := by omega
  have he := tmod_emod (n := n) (m := hi - lo + 1) (by omega)
  have hw : n.tmod (hi - lo + 1) < hi - lo + 1 := Int.tmod_lt_of_pos _ (by omega)
  have hw' : - (hi - lo + 1) < n.tmod (hi - lo + 1) := by
    have := Int.tmod_lt_of_pos (-n) (show 0 < hi - lo + 1 by omega)
    rw [Int.neg_tmod] at this
    omega
  unfold wi
  by_cases c1 : lo ≤ n
  · by_cases c2 : n ≤ hi
    · simp (maxSteps := 1000000) (disch := first | assumption | ((try simp only [push_next, put_next, adv_next, List.length_cons, List.length_nil, List.length_map, List.length_set]); omega) | simp) [c1, c2]
    · by_cases c3 : n.tmod (hi - lo + 1) < 0
      · simp (maxSteps := 1000000) (disch := first | assumption | ((try simp only [push_next, put_next, adv_next, List.length_cons, List.length_nil, List.length_map, List.length_set]); omega) | simp) [c1, c2, c3, hne]
        rw [he, if_pos c3]
        have e : lo + (n.tmod (hi - lo + 1) + hi - lo + 1) = lo + (n.tmod (hi - lo + 1) + (hi - lo + 1)) := by omega
        rw [e]
      · simp (maxSteps := 1000000) (disch := first | assumption | ((try simp only [push_next, put_next, adv_next, List.length_cons, List.length_nil, List.length_map, List.length_set]); omega) | simp) [c1, c2, c3, hne]
        rw [he, if_neg c3]
  · by_cases c3 : n.tmod (hi - lo + 1) < 0
    · simp (maxSteps := 1000000) (disch := first | assumption | ((try simp only [push_next, put_next, adv_next, List.length_cons, List.length_nil, List.length_map, List.length_set]); omega) | simp) [c1, c3, hne]
      rw [he, if_pos c3]
      have e : lo + (n.tmod (hi - lo + 1) + hi - lo + 1) = lo + (n.tmod (hi - lo + 1) + (hi - lo + 1)) := by omega
      rw [e]
    · simp (maxSteps := 1000000) (disch := first | assumption | ((try simp only [push_next, put_next, adv_next, List.length_cons, List.length_nil, List.length_map, List.length_set]); omega) | simp) [c1, c3, hne]
      rw [he, if_neg c3]
end
end
end Go.Proofs.Ytpdfdemoflofhaa.Cd

/- Clone of a row, and whether two rows are the same. -/
set_option maxRecDepth 1000000
set_option linter.unusedSimpArgs false
set_option linter.unusedVariables false
namespace Go.Proofs.Ytpdfdemoflofhaa.Cd
open Go Go.Dx
section
variable {h : Hp} {a a' : Option Addr} {c c' : Nat} {xs ys : List (BitVec 8)}
theorem clone_by {q : Value → Hp → Prop} (hs : Sees encB h a xs) (hb : xs.length < 2 ^ 40) (hq : ∀ a' c' h', Sees encB h' a' xs → Kp h h' → (∀ A, a' = some A → h.next ≤ A.block) → (xs = [] ∨ ∃ fp, Own encB h' (.slice a' xs.length c') xs fp ∧ ∀ b ∈ fp, h.next ≤ b) → q (.slice a' xs.length c') h') : WC T n_slices_Clone_byte_byte [.slice a xs.length c] h q := by
  rw [w_slices_Clone_byte_byte]
  cases a with
  | none =>
    have := hs.nil rfl
    subst this
    simp (maxSteps := 1000000) (disch := first | assumption | ((try simp only [push_next, put_next, adv_next, List.length_cons, List.length_nil, List.length_map, List.length_set]); omega) | simp) [isNil]
    exact hq none 0 h Sees.nul (.refl _) (fun A hA => (by cases hA)) (.inl rfl)
  | some A =>
    simp (maxSteps := 1000000) (disch := first | assumption | ((try simp only [push_next, put_next, adv_next, List.length_cons, List.length_nil, List.length_map, List.length_set]); omega) | simp) [isNil]
    have K1 : Kp h (h.push (.cells false [])) := (Kp.refl h).push _
    have he := (hs.kp K1).elems (c := c)
    by_cases h0 : xs.length = 0
    · have : xs = [] := List.length_eq_zero_iff.1 h0
      subst this
      have e : appendV (h.push (.cells false [])) 1 1 (.slice (some ⟨h.next, 0, none⟩) 0 0) (.slice (some A) 0 c) = some (.slice (some ⟨h.next, 0, none⟩) 0 0, h.push (.cells false [])) := by
        have he' : elems (h.push (.cells false [])) 1 0 (.slice (some A) 0 c) = some [] := he
        simp [appendV, lenV, he']
      simp only [List.length_nil, e]
      simp (maxSteps := 1000000) (disch := first | assumption | ((try simp only [push_next, put_next, adv_next, List.length_cons, List.length_nil, List.length_map, List.length_set]); omega) | simp)
      refine hq _ 0 _ ⟨fun hA => (by cases hA), fun B hB => ?_, fun B hB => (by cases hB; first | exact .inl rfl | exact .inr rfl)⟩ K1 (fun A hA => by cases hA; exact Nat.le_refl _) (.inl rfl)
      cases hB
      simp [Hp.rdn, get_push_self]
    · have e : appendV (h.push (.cells false [])) 1 1 (.slice (some ⟨h.next, 0, none⟩) 0 0) (.slice (some A) xs.length c) = some (.slice (some ⟨h.next + 1, 0, some 1⟩) xs.length xs.length, (h.push (.cells false [])).push (.cells false (encB.all xs))) := by
        have he' : elems (h.push (.cells false [])) 1 xs.length (.slice (some A) xs.length c) = some (encB.all xs) := he
        have hl : (encB.all xs).length = xs.length * 1 := encB.all_length xs
        simp only [appendV, lenV, he', hl, if_true, Nat.zero_add]
        rw [if_neg (by omega), if_pos ⟨by omega, by omega⟩]
        simp [Hp.rdn, get_push_self]
      rw [e]
      simp (maxSteps := 1000000) (disch := first | assumption | ((try simp only [push_next, put_next, adv_next, List.length_cons, List.length_nil, List.length_map, List.length_set]); omega) | simp)
      refine hq _ _ _ ⟨fun hA => (by cases hA), fun B hB => ?_, fun B hB => (by cases hB; first | exact .inl rfl | exact .inr rfl)⟩ (K1.push _) (fun A hA => by cases hA; simp) (.inr ⟨_, .blk (E := encB) (r := []) (by rw [show h.next + 1 = (h.push (.cells false [])).next from rfl, get_push_self]; simp) rfl (Nat.le_refl _) (by omega) (by simp), by simp⟩)
      cases hB
      simp only [Hp.rdn, Hp.cells, show h.next + 1 = (h.push (.cells false [])).next from rfl, get_push_self, Option.bind_some, Nat.zero_add]
      rw [if_pos (by simp), List.drop_zero, List.take_of_length_le (by simp)]
end
end Go.Proofs.Ytpdfdemoflofhaa.Cd

/- Memory: what each function does. -/
set_option maxRecDepth 1000000
set_option maxHeartbeats 4000000
set_option linter.unusedSimpArgs false
set_option linter.unusedVariables false
namespace Go.Proofs.Ytpdfdemoflofhaa.Cd
open Go Go.Dx
/-- Memory as it lies: bytes, marks, what was written. -/
structure Ra (h : Hp) (x : Nat) (B : By) (M W : List Bool) : Prop where
  r : h.get (x + 3) = some (.cells false [.slice (some ⟨x, 0, none⟩) B.length B.length, .slice (some ⟨x + 1, 0, none⟩) M.length M.length, .slice (some ⟨x + 2, 0, none⟩) M.length M.length])
  b : h.get x = some (.cells false (B.map u8))
  m : h.get (x + 1) = some (.cells false (M.map Value.bool))
  w : h.get (x + 2) = some (.cells false (W.map Value.bool))
  sz : B.length = 1024 * M.length
  wl : W.length = M.length
  ml : 1 ≤ M.length ∧ M.length ≤ 64
section
variable {h : Hp} {q : Value → Hp → Prop} {x : Nat} {B : By} {M W : List Bool}
theorem Ra.keep {h' : Hp} (R : Ra h x B M W) (hk : ∀ b, x ≤ b → b ≤ x + 3 → h'.get b = h.get b) : Ra h' x B M W :=
  ⟨by rw [hk _ (by omega) (by omega), R.r], by rw [hk _ (by omega) (by omega), R.b], by rw [hk _ (by omega) (by omega), R.m], by rw [hk _ (by omega) (by omega), R.w], R.sz, R.wl, R.ml⟩
theorem Ra.lt (R : Ra h x B M W) : x + 3 < h.next := lt_of_get R.r
theorem Ra.kp {h' : Hp} (R : Ra h x B M W) (K : Kp h h') : Ra h' x B M W := R.keep fun b h1 h2 => K.get b (by have := R.lt; omega)
theorem Ra.upd {h' : Hp} {fp fp' : List Nat} (R : Ra h x B M W) (U : Upd h h' fp fp') (hn : ∀ b ∈ fp, b < x ∨ x + 3 < b) : Ra h' x B M W := R.keep fun b h1 h2 => U.get b (by have := R.lt; omega) fun hm => by have := hn b hm; omega
theorem rnew {n : Int} (hq : ∀ h', Ra h' h.next (List.replicate (1024 * (max 1 (min n 64)).toNat) 0#8) (List.replicate (max 1 (min n 64)).toNat false) (List.replicate (max 1 (min n 64)).toNat false) → Kp h h' → h'.next = h.next + 4 → q (ptr (h.next + 3) 0) h') :
    WC T n_ram_New [.int .i64 n] h q := by
  obtain ⟨m, hm, h1, h2⟩ : ∃ m : Nat, (if 1 < if 64 < n then 64 else n then if 64 < n then 64 else n else 1) = (m : Int) ∧ 1 ≤ m ∧ m ≤ 64 := ⟨(max 1 (min n 64)).toNat, by omega, by omega, by omega⟩
  have e : (max 1 (min n 64)).toNat = m := by omega
  rw [e] at hq
  have e2 : ((m : Int) * 1024).toNat = 1024 * m := by omega
  rw [w_ram_New]
  simp (maxSteps := 1000000) (disch := first | assumption | ((try simp only [push_next, put_next, adv_next, List.length_cons, List.length_nil, List.length_map, List.length_set]); omega) | simp) [hm, e2]
  refine hq _ ⟨?_, ?_, ?_, ?_, ?_, ?_, ?_⟩ ((((((Kp.refl h).adv 4).put (Nat.le_refl _) _).put (by omega) _).put (by omega) _).put (by omega) _) (by simp)
  · rw [get_put_self (by simp)]
    simp
  · rw [get_put_ne (by omega), get_put_ne (by omega), get_put_ne (by omega), get_put_self (by simp)]
    simp
  · rw [get_put_ne (by omega), get_put_ne (by omega), get_put_self (by simp)]
    simp
  · rw [get_put_ne (by omega), get_put_self (by simp)]
    simp
  · simp
  · simp
  · simpa using ⟨h1, h2⟩
theorem rsize (R : Ra h x B M W) : WC T n_ram_Ram_Size [ptr (x + 3) 0] h q ↔ q (u32 (BitVec.ofNat 32 B.length)) h := by
  have hr := R.r
  rw [w_ram_Ram_Size]
  simp (maxSteps := 1000000) (disch := first | assumption | ((try simp only [push_next, put_next, adv_next, List.length_cons, List.length_nil, List.length_map, List.length_set]); omega) | simp) [hr]
theorem rthere {a : BitVec 32} {n : Int} (R : Ra h x B M W) (hn : -2 ^ 62 ≤ n ∧ n ≤ 2 ^ 62) : WC T n_ram_Ram_there [ptr (x + 3) 0, u32 a, .int .i64 n] h q ↔ q (.bool (thB B a n)) h := by
  have hr := R.r
  have hl := R.sz
  have hm := R.ml
  have ha := a.isLt
  rw [w_ram_Ram_there]
  by_cases c1 : 0 ≤ n
  · by_cases c2 : (a.toNat : Int) ≤ B.length
    · simp (maxSteps := 1000000) (disch := first | assumption | ((try simp only [push_next, put_next, adv_next, List.length_cons, List.length_nil, List.length_map, List.length_set]); omega) | simp) [hr, c1, c2, thB]
    · simp (maxSteps := 1000000) (disch := first | assumption | ((try simp only [push_next, put_next, adv_next, List.length_cons, List.length_nil, List.length_map, List.length_set]); omega) | simp) [hr, c1, c2, thB]
  · simp (maxSteps := 1000000) (disch := first | assumption | ((try simp only [push_next, put_next, adv_next, List.length_cons, List.length_nil, List.length_map, List.length_set]); omega) | simp) [hr, c1, thB]
theorem ev_th {a : BitVec 32} {n : Int} (hn : n = 1 ∨ n = 2 ∨ n = 4) : evB B a n = (decide ((a.toNat : Int) % n = 0) && thB B a n) := by
  unfold evB thB
  rw [← Bool.decide_and]
  congr 1
  apply propext
  constructor
  · rintro ⟨_, h1, h2⟩; exact ⟨h1, by omega⟩
  · rintro ⟨h1, h2⟩; exact ⟨hn, h1, by omega⟩
theorem reven {a : BitVec 32} {n : Int} (R : Ra h x B M W) (hn : -2 ^ 62 ≤ n ∧ n ≤ 2 ^ 62) : WC T n_ram_Ram_even [ptr (x + 3) 0, u32 a, .int .i64 n] h q ↔ q (.bool (evB B a n)) h := by
  rw [w_ram_Ram_even]
  have ht := fun q => rthere (q := q) (a := a) R hn
  by_cases c1 : n = 1
  · subst c1
    rw [ev_th (by omega)]
    simp (maxSteps := 1000000) (disch := first | assumption | ((try simp only [push_next, put_next, adv_next, List.length_cons, List.length_nil, List.length_map, List.length_set]); omega) | simp) [GC_of ht]
  by_cases c2 : n = 2
  · subst c2
    rw [ev_th (by omega)]
    have e : ((a.toNat : Int) % 2 = 0) ↔ a % 2#32 = 0#32 := by
      rw [← BitVec.toNat_inj]
      simp
      omega
    simp only [e]
    by_cases c3 : a % 2#32 = 0#32
    · simp (maxSteps := 1000000) (disch := first | assumption | ((try simp only [push_next, put_next, adv_next, List.length_cons, List.length_nil, List.length_map, List.length_set]); omega) | simp) [GC_of ht, c3]
    · simp (maxSteps := 1000000) (disch := first | assumption | ((try simp only [push_next, put_next, adv_next, List.length_cons, List.length_nil, List.length_map, List.length_set]); omega) | simp) [c3]
  by_cases c4 : n = 4
  · subst c4
    rw [ev_th (by omega)]
    have e : ((a.toNat : Int) % 4 = 0) ↔ a % 4#32 = 0#32 := by
      rw [← BitVec.toNat_inj]
      simp
      omega
    simp only [e]
    by_cases c3 : a % 4#32 = 0#32
    · simp (maxSteps := 1000000) (disch := first | assumption | ((try simp only [push_next, put_next, adv_next, List.length_cons, List.length_nil, List.length_map, List.length_set]); omega) | simp) [GC_of ht, c3]
    · simp (maxSteps := 1000000) (disch := first | assumption | ((try simp only [push_next, put_next, adv_next, List.length_cons, List.length_nil, List.length_map, List.length_set]); omega) | simp) [c3]
  simp (maxSteps := 1000000) (disch := first | assumption | ((try simp only [push_next, put_next, adv_next, List.length_cons, List.length_nil, List.length_map, List.length_set]); omega) | simp) [c1, c2, c4, evB]
/-- What is loaded. -/
theorem rload {a : BitVec 32} {n : Int} (R : Ra h x B M W) (hn : -2 ^ 62 ≤ n ∧ n ≤ 2 ^ 62) : WC T n_ram_Ram_Load [ptr (x + 3) 0, u32 a, .int .i64 n] h q ↔ q (.tuple #[u32 (if evB B a n = true then ldB B a.toNat n.toNat else 0#32), .bool (evB B a n)]) h := by
  have he := fun q => reven (q := q) (a := a) R hn
  have hr := R.r
  have hl := R.sz
  have hm := R.ml
  refine WC_iff ?_ q
  rw [w_ram_Ram_Load]
  cases hc : evB B a n with
  | false =>
    rw [hc] at he
    simp (maxSteps := 1000000) (disch := first | assumption | ((try simp only [push_next, put_next, adv_next, List.length_cons, List.length_nil, List.length_map, List.length_set]); omega) | simp) [GC_of he]
  | true =>
    rw [hc] at he
    simp only [evB, decide_eq_true_eq] at hc
    obtain ⟨m, rfl⟩ := Int.eq_ofNat_of_zero_le (show 0 ≤ n by omega)
    obtain ⟨a', c', hs, hc', S⟩ := (sees_b R.b).parte (a := a) (m := m) (by omega) (Nat.le_refl _)
    simp only [encB_sz] at hs
    simp (maxSteps := 1000000) (disch := first | assumption | ((try simp only [push_next, put_next, adv_next, List.length_cons, List.length_nil, List.length_map, List.length_set]); omega) | simp) [GC_of he, hr, hs]
    have hL : ((B.drop a.toNat).take m).length = m := by simp; omega
    unfold ldB
    generalize (B.drop a.toNat).take m = L at *
    refine G_loop (fun n e h' => ∃ us bs, n = bs.length ∧ L = us ++ bs ∧ e 8 = u32 (ldL us) ∧ e 25 = .slice a' m c' ∧ e 26 = .int .i64 m ∧ e 27 = .int .i64 us.length ∧ h' = h) ?_ m _ _ ⟨[], L, hL.symm, rfl, by simp [ldL], by simp, by simp, by simp, rfl⟩
    rintro n ih e h' ⟨us, bs, rfl, hx, e8, e25, e26, e27, rfl⟩
    cases bs with
    | nil =>
      have h9 : us.length = m := by rw [← hL, hx]; simp
      rw [List.append_nil] at hx
      subst hx
      simp (maxSteps := 1000000) (disch := first | assumption | ((try simp only [push_next, put_next, adv_next, List.length_cons, List.length_nil, List.length_map, List.length_set]); omega) | simp) [e27, e26, h9, e8]
    | cons c bs =>
      rw [hx] at hL
      have hlt : (us.length : Int) < m := by rw [← hL]; simp; omega
      rw [hx] at S
      obtain ⟨A, ro, C, hA, hg, hC⟩ := S.cell (f := u8) (fun _ => rfl) rfl
      subst hA
      simp (maxSteps := 1000000) (disch := first | assumption | ((try simp only [push_next, put_next, adv_next, List.length_cons, List.length_nil, List.length_map, List.length_set]); omega) | simp) [e27, e26, hlt, e25, hg, hC, e8]
      exact ih bs.length (by simp) _ _ ⟨us ++ [c], bs, rfl, by simp [hx], by simp [ldL_snoc], by simp [e25], by simp [e26], by simp, rfl⟩
/-- Which pages were written. -/
theorem rtouch {a : BitVec 32} {n : Nat} (R : Ra h x B M W) (hn : a.toNat + n ≤ B.length) (hq : ∀ h', Ra h' x B M (tch M W a.toNat n) → Upd h h' [x + 2] [x + 2] → q (.tuple #[]) h') : WC T n_ram_Ram_touch [ptr (x + 3) 0, u32 a, .int .i64 n] h q := by
  have hr := R.r
  have hl := R.sz
  have hm := R.ml
  have hwl := R.wl
  have ha := a.isLt
  rw [w_ram_Ram_touch]
  by_cases h0 : n = 0
  · subst h0
    simp (maxSteps := 1000000) (disch := first | assumption | ((try simp only [push_next, put_next, adv_next, List.length_cons, List.length_nil, List.length_map, List.length_set]); omega) | simp)
    have := hq h (by simpa [tch] using R) (Kp.upd (Kp.refl h) _)
    simpa using this
  have h1 : ¬ (n : Int) < 1 := by omega
  rw [tch_tpg _ _ h0] at hq
  have hlast : (a.toNat + n - 1) / 1024 < W.length := by omega
  have hi1 : (((a.toNat + n - 1) / 1024 : Nat) : Int) = ((a.toNat : Int) + n - 1) / 1024 := by omega
  have hi2 : ((a.toNat : Int) + n - 1).tdiv 1024 = ((a.toNat : Int) + n - 1) / 1024 := Int.tdiv_eq_ediv_of_nonneg (by omega)
  have hlo : a.toNat / 1024 ≤ (a.toNat + n - 1) / 1024 := Nat.div_le_div_right (by omega)
  simp (maxSteps := 1000000) (disch := first | assumption | ((try simp only [push_next, put_next, adv_next, List.length_cons, List.length_nil, List.length_map, List.length_set]); omega) | simp) [h1]
  refine G_loop (fun k e h' => ∃ p : Nat, k = (a.toNat + n - 1) / 1024 + 1 - p ∧ a.toNat / 1024 ≤ p ∧ p ≤ (a.toNat + n - 1) / 1024 + 1 ∧ e 0 = ptr (x + 3) 0 ∧ e 1 = u32 a ∧ e 2 = .int .i64 n ∧ e 6 = .int .i64 p ∧ Ra h' x B M (tpg M W (a.toNat / 1024) p) ∧ Upd h h' [x + 2] [x + 2]) ?_ ((a.toNat + n - 1) / 1024 + 1 - a.toNat / 1024) _ _ ⟨a.toNat / 1024, rfl, Nat.le_refl _, by omega, by simp, by simp, by simp, by simp, by rw [tpg_self]; exact R, Kp.upd (Kp.refl h) _⟩
  rintro k ih e h' ⟨p, rfl, p1, p2, e0, e1, e2, e6, R', U'⟩
  generalize hlastv : (a.toNat + n - 1) / 1024 = last at *
  by_cases hp : p ≤ last
  · have hpi : (p : Int) ≤ ((a.toNat : Int) + n - 1) / 1024 := by omega
    have hr' := R'.r
    have hw' := R'.w
    have hm' := R'.m
    have hlt := R'.lt
    have hW : ((tpg M W (a.toNat / 1024) p).map Value.bool)[p]? = some (.bool (W.getD p false)) := by
      rw [List.getElem?_map, tpg_at (by omega)]
      have : ¬ (a.toNat / 1024 ≤ p ∧ p < p) := by omega
      simp [this]
    have hM : (M.map Value.bool)[p]? = some (.bool (M.getD p false)) := by
      rw [List.getElem?_map, List.getElem?_eq_getElem (by omega)]
      simp [show p < M.length by omega]
    have hset : ((tpg M W (a.toNat / 1024) p).map Value.bool).set p (.bool (W.getD p false || M.getD p false)) = (tpg M W (a.toNat / 1024) (p + 1)).map Value.bool := by
      rw [← tpg_set p1 (by omega), List.map_set]
    have hWn : ((tpg M W (a.toNat / 1024) p).map Value.bool).length = M.length := by simp [hwl]
    have hMn : (M.map Value.bool).length = M.length := by simp
    have hpM : p < M.length := by omega
    have hp1 : p + 1 ≤ M.length := by omega
    have hfin : Ra (h'.put (x + 2) (some (.cells false ((tpg M W (a.toNat / 1024) (p + 1)).map Value.bool)))) x B M (tpg M W (a.toNat / 1024) (p + 1)) :=
      ⟨by rw [get_put_ne (by omega), R'.r], by rw [get_put_ne (by omega), R'.b], by rw [get_put_ne (by omega), R'.m], by rw [get_put_self (by omega)], R'.sz, by simp [hwl], R'.ml⟩
    have hst : ∀ v, over ((tpg M W (a.toNat / 1024) p).map Value.bool) p [v] = ((tpg M W (a.toNat / 1024) p).map Value.bool).set p v := fun v => over_set (by rw [hWn]; exact hpM)
    generalize (tpg M W (a.toNat / 1024) p).map Value.bool = WL at *
    generalize (tpg M W (a.toNat / 1024) (p + 1)).map Value.bool = WL2 at *
    generalize M.map Value.bool = ML at *
    generalize W.getD p false = w0 at *
    generalize M.getD p false = m0 at *
    have fin : ∀ e', e' 0 = ptr (x + 3) 0 → e' 1 = u32 a → e' 2 = .int .i64 n → e' 6 = .int .i64 ((p : Int) + 1) → G T (fin [] (some []) h.next q) c1_ram_Ram_touch.loop [Fr.block 0] e' (h'.put (x + 2) (some (.cells false WL2))) := fun e' f0 f1 f2 f6 =>
      ih (last + 1 - (p + 1)) (by omega) _ _ ⟨p + 1, rfl, by omega, by omega, f0, f1, f2, by simpa using f6, hfin, U'.put1⟩
    have hW2 : ∀ hh : p < WL.length, WL[p]'hh = .bool w0 := fun hh => by rw [List.getElem?_eq_getElem hh] at hW; exact Option.some.inj hW
    have hM2 : ∀ hh : p < ML.length, ML[p]'hh = .bool m0 := fun hh => by rw [List.getElem?_eq_getElem hh] at hM; exact Option.some.inj hM
    cases w0
    · simp only [Bool.false_or] at hset
      simp (maxSteps := 1000000) (disch := first | assumption | ((try simp only [push_next, put_next, adv_next, List.length_cons, List.length_nil, List.length_map, List.length_set]); omega) | simp) [e0, e1, e2, e6, hi2, hpi, hr', hw', hm', hW, hM, hW2, hM2, hst, hset, hWn, hMn, hp1, -over]
      exact fin _ (by simp [e0]) (by simp [e1]) (by simp [e2]) (by simp)
    · simp only [Bool.true_or] at hset
      simp (maxSteps := 1000000) (disch := first | assumption | ((try simp only [push_next, put_next, adv_next, List.length_cons, List.length_nil, List.length_map, List.length_set]); omega) | simp) [e0, e1, e2, e6, hi2, hpi, hr', hw', hm', hW, hM, hW2, hM2, hst, hset, hWn, hMn, hp1, -over]
      exact fin _ (by simp [e0]) (by simp [e1]) (by simp [e2]) (by simp)
  · have : p = last + 1 := by omega
    subst this
    have hpi : ¬ (last : Int) + 1 ≤ ((a.toNat : Int) + n - 1) / 1024 := by omega
    simp (maxSteps := 1000000) (disch := first | assumption | ((try simp only [push_next, put_next, adv_next, List.length_cons, List.length_nil, List.length_map, List.length_set]); omega) | simp) [e1, e2, e6, hi2, hpi]
    exact hq _ R' U'
/-- Bytes that are handed out. -/
theorem rbytes {a : BitVec 32} {n : Int} (R : Ra h x B M W) (hn : -2 ^ 62 ≤ n ∧ n ≤ 2 ^ 62) (hno : thB B a n = false → q (.tuple #[.slice none 0 0, .bool false]) h)
    (hyes : ∀ m : Nat, n = m → a.toNat + m ≤ B.length → thB B a n = true → ∀ a' c' h', Sees encB h' a' ((B.drop a.toNat).take m) → Kp h h' → (∀ A, a' = some A → h.next ≤ A.block) → m ≤ c' → ((B.drop a.toNat).take m = [] ∨ ∃ fp, Own encB h' (.slice a' m c') ((B.drop a.toNat).take m) fp ∧ ∀ b ∈ fp, h.next ≤ b) → q (.tuple #[.slice a' m c', .bool true]) h') : WC T n_ram_Ram_Bytes [ptr (x + 3) 0, u32 a, .int .i64 n] h q := by
  have ht := fun q => rthere (q := q) (a := a) R hn
  have hr := R.r
  have hl := R.sz
  have hm := R.ml
  rw [w_ram_Ram_Bytes]
  cases hc : thB B a n with
  | false =>
    rw [hc] at ht
    simp (maxSteps := 1000000) (disch := first | assumption | ((try simp only [push_next, put_next, adv_next, List.length_cons, List.length_nil, List.length_map, List.length_set]); omega) | simp) [GC_of ht]
    exact hno hc
  | true =>
    rw [hc] at ht
    have hc' := hc
    simp only [thB, decide_eq_true_eq] at hc
    obtain ⟨m, rfl⟩ := Int.eq_ofNat_of_zero_le hc.1
    obtain ⟨a', c', hs, hc2, S⟩ := (sees_b R.b).parte (a := a) (m := m) (by omega) (Nat.le_refl _)
    simp only [encB_sz] at hs
    have hL : ((B.drop a.toNat).take m).length = m := by simp; omega
    simp (maxSteps := 1000000) (disch := first | assumption | ((try simp only [push_next, put_next, adv_next, List.length_cons, List.length_nil, List.length_map, List.length_set]); omega) | simp) [GC_of ht, hr, hs]
    have hcl := clone_by (q := fun v h' => q (.tuple #[v, .bool true]) h') (c := c') S (by omega) fun a2 c2 h2 S2 K2 F2 O2 => by
      rw [hL] at O2 ⊢
      refine hyes m rfl (by omega) hc' a2 c2 h2 S2 K2 F2 ?_ O2
      rcases O2 with O2 | ⟨fp, O2, _⟩
      · rw [O2] at hL
        simp at hL
        omega
      · obtain ⟨a3, c3, h3, _, h4, _⟩ := O2.len
        simp only [Value.slice.injEq] at h3
        omega
    rw [hL] at hcl
    unfold GC
    refine GC_intro hcl fun v h1 hv => ?_
    simp (maxSteps := 1000000) (disch := first | assumption | ((try simp only [push_next, put_next, adv_next, List.length_cons, List.length_nil, List.length_map, List.length_set]); omega) | simp)
    exact hv
/-- Bytes that are put there. -/
theorem rput {a : BitVec 32} {l : By} {s : Option Addr} {c : Nat} (R : Ra h x B M W) (S : Sees encB h s l) (hb : l.length < 2 ^ 40) (hno : thB B a l.length = false → q (.bool false) h)
    (hyes : thB B a l.length = true → ∀ h', Ra h' x (ovB B a.toNat l) M (tch M W a.toNat l.length) → Upd h h' [x, x + 2] [x, x + 2] → q (.bool true) h') : WC T n_ram_Ram_Put [ptr (x + 3) 0, u32 a, .slice s l.length c] h q := by
  have ht := fun q => rthere (q := q) (a := a) (n := l.length) R (by omega)
  have hr := R.r
  have hl := R.sz
  have hm := R.ml
  have hlt := R.lt
  rw [w_ram_Ram_Put]
  cases hc : thB B a l.length with
  | false =>
    rw [hc] at ht
    simp (maxSteps := 1000000) (disch := first | assumption | ((try simp only [push_next, put_next, adv_next, List.length_cons, List.length_nil, List.length_map, List.length_set]); omega) | simp) [GC_of ht]
    exact hno hc
  | true =>
    rw [hc] at ht
    have hc' := hc
    simp only [thB, decide_eq_true_eq] at hc
    have hs := sliceV_lo' (sz := 1) (b := x) (o := 0) (n := B.length) (k := .u32) (lo := a.toNat) (by omega) (by omega)
    have hs' : sliceV 1 (.slice (some ⟨x, 0, none⟩) B.length B.length) (some (u32 a)) none none = some (.slice (some (if B.length = a.toNat then ⟨x, 0, none⟩ else ⟨x, a.toNat, none⟩)) (B.length - a.toNat) (B.length - a.toNat)) := by
      have e : u32 a = .int .u32 (a.toNat : Int) := rfl
      rw [e, hs]
      simp
    have hcp := cpy_in (c := B.length - a.toNat) (c' := c) R.b S (show a.toNat + l.length ≤ B.length by omega)
    have hR : Ra (h.put x (some (.cells false ((ovB B a.toNat l).map u8)))) x (ovB B a.toNat l) M W :=
      ⟨by rw [get_put_ne (by omega), R.r, ovB_length (by omega)], by rw [get_put_self (by omega)], by rw [get_put_ne (by omega), R.m], by rw [get_put_ne (by omega), R.w], by rw [ovB_length (by omega), R.sz], R.wl, R.ml⟩
    simp (maxSteps := 1000000) (disch := first | assumption | ((try simp only [push_next, put_next, adv_next, List.length_cons, List.length_nil, List.length_map, List.length_set]); omega) | simp) [GC_of ht, hr, hs', hcp]
    refine GC_intro (rtouch (q := fun v h' => v = .tuple #[] ∧ Ra h' x (ovB B a.toNat l) M (tch M W a.toNat l.length) ∧ Upd h h' [x, x + 2] [x, x + 2]) hR (by rw [ovB_length (by omega)]; omega) fun h2 R2 U2 => ⟨rfl, R2, ?_⟩) fun v h2 ⟨hv, R2, U2⟩ => ?_
    · refine ⟨?_, fun k hk hn => ?_, fun k hk => .inl hk⟩
      · have := U2.le; simpa using this
      · rw [U2.get k (by simpa using hk) (by simp at hn ⊢; exact hn.2), get_put_ne (by simp at hn; exact hn.1)]
    · subst hv
      simp (maxSteps := 1000000) (disch := first | assumption | ((try simp only [push_next, put_next, adv_next, List.length_cons, List.length_nil, List.length_map, List.length_set]); omega) | simp)
      exact hyes hc' _ R2 U2
/-- What is stored. -/
theorem rstore {a v : BitVec 32} {n : Int} (R : Ra h x B M W) (hn : -2 ^ 62 ≤ n ∧ n ≤ 2 ^ 62) (hno : evB B a n = false → q (.bool false) h)
    (hyes : evB B a n = true → ∀ h', Ra h' x (stB B a.toNat n.toNat v) M (tch M W a.toNat n.toNat) → Upd h h' [x, x + 2] [x, x + 2] → q (.bool true) h') : WC T n_ram_Ram_Store [ptr (x + 3) 0, u32 a, .int .i64 n, u32 v] h q := by
  have he := fun q => reven (q := q) (a := a) R hn
  have hr := R.r
  have hl := R.sz
  have hm := R.ml
  have hlt := R.lt
  have ha := a.isLt
  rw [w_ram_Ram_Store]
  cases hc : evB B a n with
  | false =>
    rw [hc] at he
    simp (maxSteps := 1000000) (disch := first | assumption | ((try simp only [push_next, put_next, adv_next, List.length_cons, List.length_nil, List.length_map, List.length_set]); omega) | simp) [GC_of he]
    exact hno hc
  | true =>
    rw [hc] at he
    have hc' := hc
    simp only [evB, decide_eq_true_eq] at hc
    obtain ⟨m, rfl⟩ := Int.eq_ofNat_of_zero_le (show 0 ≤ n by omega)
    simp (maxSteps := 1000000) (disch := first | assumption | ((try simp only [push_next, put_next, adv_next, List.length_cons, List.length_nil, List.length_map, List.length_set]); omega) | simp) [GC_of he]
    refine G_loop (fun j e h' => ∃ k : Nat, j = m - k ∧ k ≤ m ∧ e 0 = ptr (x + 3) 0 ∧ e 1 = u32 a ∧ e 2 = .int .i64 m ∧ e 3 = u32 v ∧ e 15 = .int .i64 m ∧ e 16 = .int .i64 k ∧ Ra h' x (ovB B (a.toNat + m - k) ((wdB v m).drop (m - k))) M W ∧ Upd h h' [x, x + 2] [x, x + 2]) ?_ m _ _ ⟨0, rfl, Nat.zero_le _, by simp, by simp, by simp, by simp, by simp, by simp, by rw [List.drop_of_length_le (by simp), ovB_nil]; exact R, Kp.upd (Kp.refl h) _⟩
    rintro j ih e h' ⟨k, rfl, hk, e0, e1, e2, e3, e15, e16, R', U'⟩
    by_cases hkm : k < m
    · have hki : (k : Int) < m := by omega
      have hr' := R'.r
      have hb' := R'.b
      have hlt' := R'.lt
      have hlen : (ovB B (a.toNat + m - k) ((wdB v m).drop (m - k))).length = B.length := ovB_length (by simp; omega)
      have hset := ovB_set (B := B) (l := (wdB v m).drop (m - k)) (p := a.toNat + m - 1 - k) (c := (v >>> (8 * k)).setWidth 8) (by omega)
      rw [show a.toNat + m - 1 - k + 1 = a.toNat + m - k by omega, ← wdB_drop hkm] at hset
      have hfin : Ra (h'.put x (some (.cells false ((ovB B (a.toNat + m - (k + 1)) ((wdB v m).drop (m - (k + 1)))).map u8)))) x (ovB B (a.toNat + m - (k + 1)) ((wdB v m).drop (m - (k + 1)))) M W := by
        have hlen2 : (ovB B (a.toNat + m - (k + 1)) ((wdB v m).drop (m - (k + 1)))).length = B.length := ovB_length (by simp; omega)
        exact ⟨by rw [get_put_ne (by omega), R'.r, hlen, hlen2], by rw [get_put_self (by omega)], by rw [get_put_ne (by omega), R'.m], by rw [get_put_ne (by omega), R'.w], by rw [hlen2, R.sz], R.wl, R.ml⟩
      rw [show a.toNat + m - 1 - k = a.toNat + m - (k + 1) by omega, show m - 1 - k = m - (k + 1) by omega] at hset
      rw [hlen] at hr'
      have hst : over ((ovB B (a.toNat + m - k) ((wdB v m).drop (m - k))).map u8) (a.toNat + m - (k + 1)) [u8 ((v >>> (8 * k)).setWidth 8)] = (ovB B (a.toNat + m - (k + 1)) ((wdB v m).drop (m - (k + 1)))).map u8 := by
        rw [over_set (by simp [hlen]; omega), ← List.map_set, hset]
      have hix : ((a.toNat : Int) + m - 1 - k).toNat = a.toNat + m - (k + 1) := by omega
      have hbl : a.toNat + m - (k + 1) + 1 ≤ B.length := by omega
      have hsh : binV .shr (u32 v) (.int .i64 (8 * (k : Int))) = some (u32 (v >>> (8 * k))) := by
        have := shr_u32_n v .i64 (8 * k)
        simpa using this
      have hwr := wr_ok hb' (o := a.toNat + m - (k + 1)) (vs := [u8 ((v >>> (8 * k)).setWidth 8)]) (by simp [hlen]; omega) rfl
      rw [hst] at hwr
      simp (maxSteps := 1000000) (disch := first | assumption | ((try simp only [push_next, put_next, adv_next, List.length_cons, List.length_nil, List.length_map, List.length_set]); omega) | simp) [e0, e1, e2, e3, e15, e16, hki, hr', hb', hix, hsh, hwr, -over, -Hp.wr]
      exact ih (m - (k + 1)) (by omega) _ _ ⟨k + 1, rfl, by omega, by simp [e0], by simp [e1], by simp [e2], by simp [e3], by simp [e15], by simp, hfin, ⟨by simpa using U'.le, fun b hb hn => by rw [get_put_ne (by simp at hn; omega), U'.get b hb hn], fun b hb => .inl hb⟩⟩
    · have : k = m := by omega
      subst this
      simp (maxSteps := 1000000) (disch := first | assumption | ((try simp only [push_next, put_next, adv_next, List.length_cons, List.length_nil, List.length_map, List.length_set]); omega) | simp) [e15, e16, e0, e1, e2]
      rw [show a.toNat + k - k = a.toNat by omega, Nat.sub_self, List.drop_zero] at R'
      refine GC_intro (rtouch (q := fun v' h2 => v' = .tuple #[] ∧ Ra h2 x (stB B a.toNat k v) M (tch M W a.toNat k) ∧ Upd h h2 [x, x + 2] [x, x + 2]) R' (by rw [ovB_length (by simp; omega)]; omega) fun h2 R2 U2 => ⟨rfl, R2, ?_⟩) fun v' h2 ⟨hv, R2, U2⟩ => ?_
      · exact ⟨Nat.le_trans U'.le U2.le, fun b hb hn => by rw [U2.get b (Nat.lt_of_lt_of_le hb U'.le) (by simp at hn ⊢; exact hn.2), U'.get b hb hn], fun b hb => .inl hb⟩
      · subst hv
        simp (maxSteps := 1000000) (disch := first | assumption | ((try simp only [push_next, put_next, adv_next, List.length_cons, List.length_nil, List.length_map, List.length_set]); omega) | simp)
        exact hyes hc' _ (by simpa using R2) U2
end
end Go.Proofs.Ytpdfdemoflofhaa.Cd

/- Moves of memory: what each function does. -/
set_option maxRecDepth 1000000
set_option maxHeartbeats 4000000
set_option linter.unusedSimpArgs false
set_option linter.unusedVariables false
namespace Go.Proofs.Ytpdfdemoflofhaa.Cd
open Go Go.Dx
/-- A wheel, as what it holds. -/
structure WhS where
  L : List Ev
  n : Int
def WhS.arm (w : WhS) (d t : Int) : WhS := if wbad d t = true then w else ⟨insl (·.at') ⟨t, d, w.n⟩ (wcan d w.L), IntKind.i64.wrap (w.n + 1)⟩
def WhS.can (w : WhS) (d : Int) : WhS := ⟨wcan d w.L, w.n⟩
structure WhA (h : Hp) (w : Nat) (S : WhS) (fp : List Nat) : Prop where
  wh : Wh h w S.L S.n fp
  wi : WI S.L
/-- What moves, as words. -/
structure DmS where
  f : BitVec 32
  t : BitVec 32
  c : BitVec 32
  s : BitVec 32
def DmS.rd (D : DmS) (a : BitVec 32) : BitVec 32 := if a = 0#32 then D.f else if a = 4#32 then D.t else if a = 8#32 then D.c else if a = 16#32 then D.s else 0#32
def dat (a : BitVec 32) : Bool := decide (a = 0#32 ∨ a = 4#32 ∨ a = 8#32 ∨ a = 12#32 ∨ a = 16#32)
/-- How long a move takes. -/
def dtime (c : BitVec 32) : Int := ((if 4096#32 < c then 4096#32 else c).toNat : Int) / 4 + 1
def DmS.go (D : DmS) (v : BitVec 32) : Bool := v &&& 1#32 != 0#32 && D.s &&& 1#32 == 0#32
def DmS.wr (D : DmS) (a v : BitVec 32) : DmS :=
  if a = 0#32 then { D with f := v } else if a = 4#32 then { D with t := v } else if a = 8#32 then { D with c := v }
  else if a = 12#32 then (if D.go v = true then { D with s := D.s ||| 1#32 } else D) else if a = 16#32 then { D with s := D.s &&& ~~~(v &&& 6#32) } else D
def DmS.wrw (D : DmS) (W : WhS) (d : Int) (a v : BitVec 32) (now : Int) : WhS := if a = 12#32 ∧ D.go v = true then W.arm d (now + dtime D.c) else W
/-- May it be moved? -/
def DmS.ok (D : DmS) (B : By) : Bool := decide (D.c.toNat ≤ 4096) && thB B D.f D.c.toNat && thB B D.t D.c.toNat
def DmS.fire (D : DmS) (B : By) : DmS := { D with s := if D.ok B = true then (D.s &&& 4294967294#32) ||| 2#32 else ((D.s &&& 4294967294#32) ||| 2#32) ||| 4#32 }
def DmS.mem (D : DmS) (B : By) : By := if D.ok B = true then ovB B D.t.toNat ((B.drop D.f.toNat).take D.c.toNat) else B
def DmS.wrt (D : DmS) (B : By) (M W : List Bool) : List Bool := if D.ok B = true then tch M W D.t.toNat D.c.toNat else W
def Dm (h : Hp) (d w x : Nat) (v : Int) (D : DmS) : Prop := h.get d = some (.cells false [.int .i64 v, ptr w 0, ptr (x + 3) 0, u32 D.f, u32 D.t, u32 D.c, u32 D.s])
section
variable {h : Hp} {q : Value → Hp → Prop} {d w x : Nat} {B : By} {M W : List Bool} {S : WhS} {fp : List Nat} {D : DmS} {dv now : Int} {a v : BitVec 32}
theorem WhA.keep {h' : Hp} (A : WhA h w S fp) (hk : ∀ b ∈ w :: fp, h'.get b = h.get b) : WhA h' w S fp := ⟨A.wh.keep hk, A.wi⟩
theorem WhA.kp {h' : Hp} (A : WhA h w S fp) (K : Kp h h') : WhA h' w S fp := ⟨A.wh.kp K, A.wi⟩
theorem WhA.live (A : WhA h w S fp) : ∀ b ∈ w :: fp, b < h.next := A.wh.live
theorem warmS {t : Int} (A : WhA h w S fp) (hq : ∀ h' fp', WhA h' w (S.arm dv t) fp' → Upd h h' (w :: fp) (w :: fp') → q (.bool (!wbad dv t)) h') : WC T n_wheel_Wheel_Arm [ptr w 0, .int .i64 dv, .int .i64 t] h q := by
  refine warmI A.wh A.wi (fun hb => ?_) fun hb h' fp' I W' U => ?_
  · have := hq h fp (by unfold WhS.arm; rw [if_pos hb]; exact A) .refl
    rw [hb] at this
    exact this
  · have := hq h' fp' (by unfold WhS.arm; rw [if_neg (by simp [hb])]; exact ⟨W', I⟩) U
    rw [hb] at this
    exact this
theorem dnew (hw : w < h.next) : WC T n_dma_New [.int .i64 dv, ptr w 0, ptr (x + 3) 0] h q ↔ q (ptr h.next 0) (h.push (.cells false [.int .i64 dv, ptr w 0, ptr (x + 3) 0, u32 0#32, u32 0#32, u32 0#32, u32 0#32])) := by
  rw [w_dma_New]
  simp (maxSteps := 1000000) (disch := first | assumption | ((try simp only [push_next, put_next, adv_next, List.length_cons, List.length_nil, List.length_map, List.length_set]); omega) | simp)
theorem dnew_nil : WC T n_dma_New [.int .i64 dv, ptr w 0, .pointer none] h q ↔ q (.pointer none) h := by
  rw [w_dma_New]
  simp (maxSteps := 1000000) (disch := first | assumption | ((try simp only [push_next, put_next, adv_next, List.length_cons, List.length_nil, List.length_map, List.length_set]); omega) | simp)
theorem dread (A : Dm h d w x dv D) : WC T n_dma_Dma_Read [ptr d 0, u32 a] h q ↔ q (.tuple #[u32 (D.rd a), .bool (dat a)]) h := by
  unfold Dm at A
  rw [w_dma_Dma_Read]
  by_cases a0 : a = 0#32
  · subst a0; simp (maxSteps := 1000000) (disch := first | assumption | ((try simp only [push_next, put_next, adv_next, List.length_cons, List.length_nil, List.length_map, List.length_set]); omega) | simp) [A, DmS.rd, dat]
  by_cases a4 : a = 4#32
  · subst a4; simp (maxSteps := 1000000) (disch := first | assumption | ((try simp only [push_next, put_next, adv_next, List.length_cons, List.length_nil, List.length_map, List.length_set]); omega) | simp) [A, DmS.rd, dat]
  by_cases a8 : a = 8#32
  · subst a8; simp (maxSteps := 1000000) (disch := first | assumption | ((try simp only [push_next, put_next, adv_next, List.length_cons, List.length_nil, List.length_map, List.length_set]); omega) | simp) [A, DmS.rd, dat]
  by_cases a12 : a = 12#32
  · subst a12; simp (maxSteps := 1000000) (disch := first | assumption | ((try simp only [push_next, put_next, adv_next, List.length_cons, List.length_nil, List.length_map, List.length_set]); omega) | simp) [A, DmS.rd, dat]
  by_cases a16 : a = 16#32
  · subst a16; simp (maxSteps := 1000000) (disch := first | assumption | ((try simp only [push_next, put_next, adv_next, List.length_cons, List.length_nil, List.length_map, List.length_set]); omega) | simp) [A, DmS.rd, dat]
  simp (maxSteps := 1000000) (disch := first | assumption | ((try simp only [push_next, put_next, adv_next, List.length_cons, List.length_nil, List.length_map, List.length_set]); omega) | simp) [A, a0, a4, a8, a12, a16, DmS.rd, dat]
theorem dline (A : Dm h d w x dv D) : WC T n_dma_Dma_Line [ptr d 0] h q ↔ q (.bool (D.s &&& 6#32 != 0#32)) h := by
  unfold Dm at A
  rw [w_dma_Dma_Line]
  simp (maxSteps := 1000000) (disch := first | assumption | ((try simp only [push_next, put_next, adv_next, List.length_cons, List.length_nil, List.length_map, List.length_set]); omega) | simp) [A]
theorem dbegin (A : Dm h d w x dv D) (Q : WhA h w S fp) (hd : d ∉ w :: fp) (hn : 0 ≤ now ∧ now ≤ 2 ^ 60)
    (hno : D.s &&& 1#32 ≠ 0#32 → q (.tuple #[]) h)
    (hyes : D.s &&& 1#32 = 0#32 → ∀ h' fp', Dm h' d w x dv { D with s := D.s ||| 1#32 } → WhA h' w (S.arm dv (now + dtime D.c)) fp' → Upd h h' (d :: w :: fp) (d :: w :: fp') → d ∉ w :: fp' → q (.tuple #[]) h') :
    WC T n_dma_Dma_begin [ptr d 0, .int .i64 now] h q := by
  unfold Dm at A
  have hl := lt_of_get A
  rw [w_dma_Dma_begin]
  by_cases c1 : D.s &&& 1#32 = 0#32
  · simp (maxSteps := 1000000) (disch := first | assumption | ((try simp only [push_next, put_next, adv_next, List.length_cons, List.length_nil, List.length_map, List.length_set]); omega) | simp) [A, c1]
    have e : now + ((if 4096#32 < D.c then 4096#32 else D.c).toNat : Int) / 4 + 1 = now + dtime D.c := by unfold dtime; omega
    rw [e]
    have hdw : ∀ b ∈ w :: fp, b ≠ d := fun b hb e => hd (e ▸ hb)
    have Q1 := Q.keep (h' := h.put d (some (.cells false [.int .i64 dv, ptr w 0, ptr (x + 3) 0, u32 D.f, u32 D.t, u32 D.c, u32 (D.s ||| 1#32)]))) fun b hb => get_put_ne (hdw b hb)
    refine GC_intro (warmS (q := fun v h' => ∃ fp', Dm h' d w x dv { D with s := D.s ||| 1#32 } ∧ WhA h' w (S.arm dv (now + dtime D.c)) fp' ∧ Upd h h' (d :: w :: fp) (d :: w :: fp') ∧ d ∉ w :: fp') Q1 fun h2 fp2 Q2 U2 => ⟨fp2, ?_, Q2, ?_, fun hm => ?_⟩) fun v h2 ⟨fp2, D2, Q2, U2, N2⟩ => ?_
    · unfold Dm
      rw [U2.get d (by simpa using hl) hd, get_put_self hl]
    · refine ⟨by simpa using U2.le, fun b hb hn => ?_, fun b hb => ?_⟩
      · rw [U2.get b (by simpa using hb) (fun hm => hn (List.mem_cons_of_mem _ hm)), get_put_ne (fun e => hn (by rw [e]; simp))]
      · rcases List.mem_cons.1 hb with rfl | hb
        · exact .inl (by simp)
        · rcases U2.sub b hb with h5 | h5
          · exact .inl (List.mem_cons_of_mem _ h5)
          · exact .inr (by simpa using h5)
    · rcases U2.sub d hm with h5 | h5
      · exact hd h5
      · simp at h5; omega
    · simp (maxSteps := 1000000) (disch := first | assumption | ((try simp only [push_next, put_next, adv_next, List.length_cons, List.length_nil, List.length_map, List.length_set]); omega) | simp)
      exact hyes c1 _ _ D2 Q2 U2 N2
  · simp (maxSteps := 1000000) (disch := first | assumption | ((try simp only [push_next, put_next, adv_next, List.length_cons, List.length_nil, List.length_map, List.length_set]); omega) | simp) [A, c1]
    exact hno c1
theorem dwrite (A : Dm h d w x dv D) (Q : WhA h w S fp) (hd : d ∉ w :: fp) (hn : 0 ≤ now ∧ now ≤ 2 ^ 60)
    (hq : ∀ h' fp', Dm h' d w x dv (D.wr a v) → WhA h' w (D.wrw S dv a v now) fp' → Upd h h' (d :: w :: fp) (d :: w :: fp') → d ∉ w :: fp' → q (.bool (dat a)) h') :
    WC T n_dma_Dma_Write [ptr d 0, u32 a, u32 v, .int .i64 now] h q := by
  have A0 := A
  unfold Dm at A
  have hl := lt_of_get A
  have hdw : ∀ b ∈ w :: fp, b ≠ d := fun b hb e => hd (e ▸ hb)
  have key : ∀ D' : DmS, ∀ o, o = Ob.cells false [.int .i64 dv, ptr w 0, ptr (x + 3) 0, u32 D'.f, u32 D'.t, u32 D'.c, u32 D'.s] → Dm (h.put d (some o)) d w x dv D' ∧ WhA (h.put d (some o)) w S fp ∧ Upd h (h.put d (some o)) (d :: w :: fp) (d :: w :: fp) := fun D' o ho => by
    subst ho
    refine ⟨by unfold Dm; rw [get_put_self hl], Q.keep fun b hb => get_put_ne (hdw b hb), ⟨by simp, fun b hb hn => get_put_ne fun e => hn (by rw [e]; simp), fun b hb => .inl hb⟩⟩
  rw [w_dma_Dma_Write]
  by_cases a0 : a = 0#32
  · subst a0
    simp (maxSteps := 1000000) (disch := first | assumption | ((try simp only [push_next, put_next, adv_next, List.length_cons, List.length_nil, List.length_map, List.length_set]); omega) | simp) [A]
    obtain ⟨k1, k2, k3⟩ := key { D with f := v } _ rfl
    exact hq _ fp (by simpa [DmS.wr] using k1) (by simpa [DmS.wrw] using k2) k3 hd
  by_cases a4 : a = 4#32
  · subst a4
    simp (maxSteps := 1000000) (disch := first | assumption | ((try simp only [push_next, put_next, adv_next, List.length_cons, List.length_nil, List.length_map, List.length_set]); omega) | simp) [A]
    obtain ⟨k1, k2, k3⟩ := key { D with t := v } _ rfl
    exact hq _ fp (by simpa [DmS.wr] using k1) (by simpa [DmS.wrw] using k2) k3 hd
  by_cases a8 : a = 8#32
  · subst a8
    simp (maxSteps := 1000000) (disch := first | assumption | ((try simp only [push_next, put_next, adv_next, List.length_cons, List.length_nil, List.length_map, List.length_set]); omega) | simp) [A]
    obtain ⟨k1, k2, k3⟩ := key { D with c := v } _ rfl
    exact hq _ fp (by simpa [DmS.wr] using k1) (by simpa [DmS.wrw] using k2) k3 hd
  by_cases a16 : a = 16#32
  · subst a16
    simp (maxSteps := 1000000) (disch := first | assumption | ((try simp only [push_next, put_next, adv_next, List.length_cons, List.length_nil, List.length_map, List.length_set]); omega) | simp) [A]
    obtain ⟨k1, k2, k3⟩ := key { D with s := D.s &&& ~~~(v &&& 6#32) } _ rfl
    exact hq _ fp (by simpa [DmS.wr] using k1) (by simpa [DmS.wrw] using k2) k3 hd
  by_cases a12 : a = 12#32
  · subst a12
    by_cases v1 : v &&& 1#32 = 0#32
    · simp (maxSteps := 1000000) (disch := first | assumption | ((try simp only [push_next, put_next, adv_next, List.length_cons, List.length_nil, List.length_map, List.length_set]); omega) | simp) [A, v1]
      exact hq _ fp (by simpa [DmS.wr, DmS.go, v1] using A0) (by simpa [DmS.wrw, DmS.go, v1] using Q) (Kp.upd (Kp.refl h) _) hd
    · simp (maxSteps := 1000000) (disch := first | assumption | ((try simp only [push_next, put_next, adv_next, List.length_cons, List.length_nil, List.length_map, List.length_set]); omega) | simp) [A, v1]
      refine GC_intro (dbegin (q := fun u h' => ∃ fp', Dm h' d w x dv (D.wr 12#32 v) ∧ WhA h' w (D.wrw S dv 12#32 v now) fp' ∧ Upd h h' (d :: w :: fp) (d :: w :: fp') ∧ d ∉ w :: fp') A0 Q hd hn (fun hs => ⟨fp, ?_, ?_, Kp.upd (Kp.refl h) _, hd⟩) fun hs h' fp' k1 k2 k3 k4 => ⟨fp', ?_, ?_, k3, k4⟩) fun u h' ⟨fp', k1, k2, k3, k4⟩ => ?_
      · simpa [DmS.wr, DmS.go, hs] using A0
      · simpa [DmS.wrw, DmS.go, hs] using Q
      · simpa [DmS.wr, DmS.go, hs, v1] using k1
      · simpa [DmS.wrw, DmS.go, hs, v1] using k2
      · simp (maxSteps := 1000000) (disch := first | assumption | ((try simp only [push_next, put_next, adv_next, List.length_cons, List.length_nil, List.length_map, List.length_set]); omega) | simp)
        exact hq _ _ k1 k2 k3 k4
  simp (maxSteps := 1000000) (disch := first | assumption | ((try simp only [push_next, put_next, adv_next, List.length_cons, List.length_nil, List.length_map, List.length_set]); omega) | simp) [A, a0, a4, a8, a12, a16]
  have := hq h fp (by simpa [DmS.wr, a0, a4, a8, a12, a16] using A0) (by simpa [DmS.wrw, a12] using Q) (Kp.upd (Kp.refl h) _) hd
  simpa [dat, a0, a4, a8, a12, a16] using this
theorem dmove (A : Dm h d w x dv D) (R : Ra h x B M W) (hno : D.ok B = false → ∀ h', Kp h h' → q (.bool false) h')
    (hyes : D.ok B = true → ∀ h', Ra h' x (D.mem B) M (D.wrt B M W) → Upd h h' [x, x + 2] [x, x + 2] → q (.bool true) h') : WC T n_dma_Dma_move [ptr d 0] h q := by
  unfold Dm at A
  have hc := D.c.isLt
  have hl := lt_of_get A
  rw [w_dma_Dma_move]
  by_cases c1 : 4096#32 < D.c
  · have : ¬ D.c.toNat ≤ 4096 := by
      have := BitVec.lt_def.1 c1
      simp at this
      omega
    simp (maxSteps := 1000000) (disch := first | assumption | ((try simp only [push_next, put_next, adv_next, List.length_cons, List.length_nil, List.length_map, List.length_set]); omega) | simp) [A, c1]
    exact hno (by simp [DmS.ok, this]) _ (.refl _)
  · have c2 : D.c.toNat ≤ 4096 := by
      rw [BitVec.lt_def] at c1
      simp at c1
      omega
    simp (maxSteps := 1000000) (disch := first | assumption | ((try simp only [push_next, put_next, adv_next, List.length_cons, List.length_nil, List.length_map, List.length_set]); omega) | simp) [A, c1]
    refine GC_intro (rbytes (q := fun v h' => (thB B D.f D.c.toNat = false ∧ v = .tuple #[.slice none 0 0, .bool false] ∧ h' = h) ∨ ∃ a' c', thB B D.f D.c.toNat = true ∧ v = .tuple #[.slice a' D.c.toNat c', .bool true] ∧ Sees encB h' a' ((B.drop D.f.toNat).take D.c.toNat) ∧ Kp h h' ∧ D.f.toNat + D.c.toNat ≤ B.length) R (by omega) (fun hb => .inl ⟨hb, rfl, rfl⟩) fun m hm hle hb a' c' h' S K F hc O => .inr ?_) fun v h1 hv => ?_
    · have : m = D.c.toNat := by omega
      subst this
      exact ⟨a', c', hb, rfl, S, K, hle⟩
    · rcases hv with ⟨hb, rfl, rfl⟩ | ⟨a', c', hb, rfl, S, K, hle⟩
      · simp (maxSteps := 1000000) (disch := first | assumption | ((try simp only [push_next, put_next, adv_next, List.length_cons, List.length_nil, List.length_map, List.length_set]); omega) | simp)
        exact hno (by simp [DmS.ok, hb]) _ (.refl _)
      · have A1 : h1.get d = _ := (K.get d hl).trans A
        have R1 := R.kp K
        have hL : ((B.drop D.f.toNat).take D.c.toNat).length = D.c.toNat := by simp; omega
        simp (maxSteps := 1000000) (disch := first | assumption | ((try simp only [push_next, put_next, adv_next, List.length_cons, List.length_nil, List.length_map, List.length_set]); omega) | simp) [A1]
        have hp := rput (a := D.t) (c := c') (q := fun v h' => (D.ok B = false ∧ v = .bool false ∧ Kp h h') ∨ (D.ok B = true ∧ v = .bool true ∧ Ra h' x (D.mem B) M (D.wrt B M W) ∧ Upd h h' [x, x + 2] [x, x + 2])) R1 S (by omega) (fun ht => .inl ⟨by rw [hL] at ht; simp [DmS.ok, ht], rfl, K⟩) fun ht h2 R2 U2 => .inr ?_
        · rw [hL] at hp
          refine GC_intro hp fun v h2 hv => ?_
          rcases hv with ⟨ho, rfl, K2⟩ | ⟨ho, rfl, R2, U2⟩
          · simp (maxSteps := 1000000) (disch := first | assumption | ((try simp only [push_next, put_next, adv_next, List.length_cons, List.length_nil, List.length_map, List.length_set]); omega) | simp)
            exact hno ho _ K2
          · simp (maxSteps := 1000000) (disch := first | assumption | ((try simp only [push_next, put_next, adv_next, List.length_cons, List.length_nil, List.length_map, List.length_set]); omega) | simp)
            exact hyes ho _ R2 U2
        · rw [hL] at ht R2
          have ho : D.ok B = true := by simp [DmS.ok, ht, hb, c2]
          refine ⟨ho, rfl, ?_, (K.upd _).trans U2⟩
          unfold DmS.mem DmS.wrt
          rw [if_pos ho, if_pos ho]
          exact R2
theorem dfire (A : Dm h d w x dv D) (R : Ra h x B M W) (hd : d < x ∨ x + 3 < d) (hq : ∀ h', Dm h' d w x dv (D.fire B) → Ra h' x (D.mem B) M (D.wrt B M W) → Upd h h' [d, x, x + 2] [d, x, x + 2] → q (.tuple #[]) h') :
    WC T n_dma_Dma_Fire [ptr d 0, .int .i64 now] h q := by
  have A0 := A
  unfold Dm at A
  have hl := lt_of_get A
  rw [w_dma_Dma_Fire]
  simp (maxSteps := 1000000) (disch := first | assumption | ((try simp only [push_next, put_next, adv_next, List.length_cons, List.length_nil, List.length_map, List.length_set]); omega) | simp) [A]
  have D1 : Dm (h.put d (some (.cells false [.int .i64 dv, ptr w 0, ptr (x + 3) 0, u32 D.f, u32 D.t, u32 D.c, u32 (D.s &&& 4294967294#32 ||| 2#32)]))) d w x dv { D with s := D.s &&& 4294967294#32 ||| 2#32 } := by
    unfold Dm
    rw [get_put_self hl]
  have R1 : Ra (h.put d (some (.cells false [.int .i64 dv, ptr w 0, ptr (x + 3) 0, u32 D.f, u32 D.t, u32 D.c, u32 (D.s &&& 4294967294#32 ||| 2#32)]))) x B M W := R.keep fun b h1 h2 => get_put_ne (by omega)
  have U1 : Upd h (h.put d (some (.cells false [.int .i64 dv, ptr w 0, ptr (x + 3) 0, u32 D.f, u32 D.t, u32 D.c, u32 (D.s &&& 4294967294#32 ||| 2#32)]))) [d, x, x + 2] [d, x, x + 2] := ⟨by simp, fun b hb hn => get_put_ne (by simp at hn; exact hn.1), fun b hb => .inl hb⟩
  generalize h.put d (some (.cells false [.int .i64 dv, ptr w 0, ptr (x + 3) 0, u32 D.f, u32 D.t, u32 D.c, u32 (D.s &&& 4294967294#32 ||| 2#32)])) = h1 at *
  refine GC_intro (dmove (q := fun v h' => (D.ok B = false ∧ v = .bool false ∧ Kp h1 h') ∨ (D.ok B = true ∧ v = .bool true ∧ Ra h' x (D.mem B) M (D.wrt B M W) ∧ Upd h1 h' [x, x + 2] [x, x + 2])) D1 R1 (fun ho h' K => .inl ⟨ho, rfl, K⟩) fun ho h' R2 U2 => .inr ⟨ho, rfl, R2, U2⟩) fun v h2 hv => ?_
  have D1' := D1
  unfold Dm at D1'
  have hl1 := lt_of_get D1'
  rcases hv with ⟨ho, rfl, K⟩ | ⟨ho, rfl, R2, U2⟩
  · have D2 : h2.get d = _ := (K.get d hl1).trans D1'
    have hl2 := lt_of_get D2
    simp (maxSteps := 1000000) (disch := first | assumption | ((try simp only [push_next, put_next, adv_next, List.length_cons, List.length_nil, List.length_map, List.length_set]); omega) | simp) [D2]
    refine hq _ ?_ ?_ ?_
    · unfold Dm
      rw [get_put_self hl2]
      simp [DmS.fire, ho]
    · simp only [DmS.mem, DmS.wrt, ho]
      exact (R1.kp K).keep fun b h1 h2 => get_put_ne (by omega)
    · refine U1.trans ⟨by simpa using K.le, fun b hb hn => ?_, fun b hb => .inl hb⟩
      rw [get_put_ne (by simp at hn; exact hn.1), K.get b hb]
  · simp (maxSteps := 1000000) (disch := first | assumption | ((try simp only [push_next, put_next, adv_next, List.length_cons, List.length_nil, List.length_map, List.length_set]); omega) | simp)
    refine hq _ ?_ R2 (U1.trans ⟨U2.le, fun b hb hn => U2.get b hb (by simp at hn ⊢; exact hn.2), fun b hb => .inl hb⟩)
    unfold Dm
    rw [U2.get d hl1 (by simp; omega), D1']
    simp [DmS.fire, ho]
end
end Go.Proofs.Ytpdfdemoflofhaa.Cd

/- DmaMoves: what it answers. -/
set_option maxRecDepth 1000000
set_option maxHeartbeats 8000000
set_option linter.unusedSimpArgs false
set_option linter.unusedVariables false
namespace Go.Proofs.Ytpdfdemoflofhaa.Cd
open Go Go.Dx
/-- All that a move needs. -/
structure DU (g h : Hp) (w x d : Nat) (dv : Int) (B : By) (M W : List Bool) (S : WhS) (fp : List Nat) (D : DmS) (Z : List (Nat × Ob)) : Prop where
  dm : Dm h d w x dv D
  ra : Ra h x B M W
  wh : WhA h w S fp
  kp : Kp g h
  gf : ∀ b ∈ w :: fp, g.next ≤ b ∧ b ≠ d ∧ (b < x ∨ x + 3 < b)
  gx : g.next ≤ x
  gd : g.next ≤ d
  dx : d < x ∨ x + 3 < d
  zz : ∀ p ∈ Z, h.get p.1 = some p.2 ∧ p.1 ∉ d :: w :: fp ∧ (p.1 < x ∨ x + 3 < p.1)
section
variable {g h h' : Hp} {q : Value → Hp → Prop} {d w x : Nat} {B B' : By} {M W W' : List Bool} {S S' : WhS} {fp fp' : List Nat} {D D' : DmS} {dv now : Int} {a v : BitVec 32} {Z : List (Nat × Ob)}
theorem DU.dlt (X : DU g h w x d dv B M W S fp D Z) : d < h.next := by
  have := X.dm
  unfold Dm at this
  exact lt_of_get this
theorem DU.off (X : DU g h w x d dv B M W S fp D Z) : d ∉ w :: fp := fun hm => (X.gf d hm).2.1 rfl
theorem DU.more (X : DU g h w x d dv B M W S fp D Z) (K : Kp h h') : DU g h' w x d dv B M W S fp D Z :=
  ⟨by have h1 := X.dm; have h2 := X.dlt; unfold Dm at h1 ⊢; rw [K.get d h2, h1], X.ra.kp K, X.wh.kp K, X.kp.trans K, X.gf, X.gx, X.gd, X.dx, fun p hp => ⟨by rw [K.get _ (lt_of_get (X.zz p hp).1), (X.zz p hp).1], (X.zz p hp).2⟩⟩
theorem DU.wheel (X : DU g h w x d dv B M W S fp D Z) (D1 : Dm h' d w x dv D') (Q1 : WhA h' w S' fp') (U : Upd h h' (d :: w :: fp) (d :: w :: fp')) (hd : d ∉ fp') : DU g h' w x d dv B M W S' fp' D' Z :=
  ⟨D1, X.ra.upd U (fun b hb => by
    rcases List.mem_cons.1 hb with rfl | hb
    · exact X.dx
    · exact (X.gf b hb).2.2), Q1, U.kp' X.kp (fun b hb => by
    rcases List.mem_cons.1 hb with rfl | hb
    · exact X.gd
    · exact (X.gf b hb).1), fun b hb => by
      have h1 := X.ra.lt
      have h2 := X.dlt
      have h3 := X.kp.le
      have hbd : b ≠ d := fun e => by
        subst e
        rcases List.mem_cons.1 hb with rfl | hb
        · exact X.off (by simp)
        · exact hd hb
      rcases U.sub b (List.mem_cons_of_mem _ hb) with h5 | h5
      · rcases List.mem_cons.1 h5 with rfl | h5
        · exact absurd rfl hbd
        · exact ⟨(X.gf b h5).1, hbd, (X.gf b h5).2.2⟩
      · exact ⟨by omega, by omega, by omega⟩, X.gx, X.gd, X.dx, fun p hp => by
      obtain ⟨z1, z2, z3⟩ := X.zz p hp
      have z4 := lt_of_get z1
      refine ⟨by rw [U.get _ z4 z2, z1], fun hm => ?_, z3⟩
      rcases U.sub _ hm with h5 | h5
      · exact z2 h5
      · omega⟩
theorem duwrite (X : DU g h w x d dv B M W S fp D Z) (hn : 0 ≤ now ∧ now ≤ 2 ^ 60) (hq : ∀ h' fp', DU g h' w x d dv B M W (D.wrw S dv a v now) fp' (D.wr a v) Z → q (.bool (dat a)) h') :
    WC T n_dma_Dma_Write [ptr d 0, u32 a, u32 v, .int .i64 now] h q := by
  refine dwrite X.dm X.wh X.off hn fun h1 fp1 D1 Q1 U1 N1 => hq _ _ (X.wheel D1 Q1 U1 fun hm => N1 (List.mem_cons_of_mem _ hm))
theorem takeS {t : Int} (A : WhA h w S fp) (hno : (∀ x ∈ S.L.head?, t < x.at') → ∀ h', Kp h h' → q (.tuple #[.agg #[.int .i64 0, .int .i64 0, .int .i64 0], .bool false]) h')
    (hyes : ∀ x B, S.L = x :: B → x.at' ≤ t → ∀ h' fp', WhA h' w ⟨B, S.n⟩ fp' → Upd h h' (w :: fp) (w :: fp') → q (.tuple #[.agg #[.int .i64 x.at', .int .i64 x.dev, .int .i64 x.seq], .bool true]) h') : WC T n_wheel_Wheel_Take [ptr w 0, .int .i64 t] h q := by
  have := A.wi.len
  refine wtake A.wh (by omega) hno fun x B hx ht h' fp' W' U => hyes x B hx ht h' fp' ⟨W', ?_⟩ U
  have := A.wi
  rw [hx] at this
  exact this.tail
theorem DU.take (X : DU g h w x d dv B M W S fp D Z) (Q1 : WhA h' w S' fp') (U : Upd h h' (w :: fp) (w :: fp')) : DU g h' w x d dv B M W S' fp' D Z := by
  have h1 := X.dm
  have h2 := X.dlt
  refine X.wheel (by unfold Dm at h1 ⊢; rw [U.get d h2 X.off, h1]) Q1 ⟨U.le, fun b hb hn => U.get b hb fun hm => hn (List.mem_cons_of_mem _ hm), fun b hb => ?_⟩ fun hm => ?_
  · rcases List.mem_cons.1 hb with rfl | hb
    · exact .inl (by simp)
    · rcases U.sub b hb with h5 | h5
      · exact .inl (List.mem_cons_of_mem _ h5)
      · exact .inr h5
  · rcases U.sub d (List.mem_cons_of_mem _ hm) with h5 | h5
    · exact X.off h5
    · omega
theorem DU.mem (X : DU g h w x d dv B M W S fp D Z) (R : Ra h' x B' M W') (D1 : Dm h' d w x dv D') (U : Upd h h' [d, x, x + 2] [d, x, x + 2]) : DU g h' w x d dv B' M W' S fp D' Z :=
  ⟨D1, R, X.wh.keep fun b hb => U.get b (X.wh.live b hb) (by have := (X.gf b hb).2; simp; omega), U.kp' X.kp (fun b hb => by
    have := X.gx
    have := X.gd
    simp at hb
    omega), X.gf, X.gx, X.gd, X.dx, fun p hp => by
      obtain ⟨z1, z2, z3⟩ := X.zz p hp
      refine ⟨by rw [U.get _ (lt_of_get z1) (by simp at z2 ⊢; omega), z1], z2, z3⟩⟩
theorem DU.ram (X : DU g h w x d dv B M W S fp D Z) (R : Ra h' x B' M W') (U : Upd h h' [x, x + 2] [x, x + 2]) : DU g h' w x d dv B' M W' S fp D Z := by
  have h1 := X.dm
  have h2 := X.dlt
  have h3 := X.dx
  refine X.mem R (by unfold Dm at h1 ⊢; rw [U.get d h2 (by simp; omega), h1]) ⟨U.le, fun b hb hn => U.get b hb (by simp at hn ⊢; exact hn.2), fun b hb => .inl hb⟩
theorem dufire (X : DU g h w x d dv B M W S fp D Z) (hq : ∀ h', DU g h' w x d dv (D.mem B) M (D.wrt B M W) S fp (D.fire B) Z → q (.tuple #[]) h') : WC T n_dma_Dma_Fire [ptr d 0, .int .i64 now] h q :=
  dfire X.dm X.ra X.dx fun h1 D1 R1 U1 => hq _ (X.mem R1 D1 U1)
/-- Made anew. -/
theorem DU.made {h1 : Hp} (R : Ra h1 (g.next + 1) B M W) (K : Kp (g.push (.cells false [.slice none 0 0, .int .i64 0])) h1) (hn : h1.next = g.next + 1 + 4) :
    DU g (h1.push (.cells false [.int .i64 dv, ptr g.next 0, ptr (g.next + 1 + 3) 0, u32 0#32, u32 0#32, u32 0#32, u32 0#32])) g.next (g.next + 1) h1.next dv B M W ⟨[], 0⟩ [] ⟨0#32, 0#32, 0#32, 0#32⟩ [] :=
  ⟨by unfold Dm; rw [get_push_self], R.kp ((Kp.refl h1).push _), ⟨(Wh.new (h := g)).kp (K.push _), .nil⟩, ((Kp.refl g).push _).trans (K.push _), fun b hb => by simp at hb; omega, by omega, by omega, by omega, by simp⟩
theorem ovB_take {B l : By} {a : Nat} (h : a ≤ B.length) : ((ovB B a l).drop a).take l.length = l := by
  have h1 : (B.take a).length = a := by simp; omega
  unfold ovB
  rw [List.append_assoc]
  rw [List.drop_left' h1, List.take_left' rfl]
theorem dutake {t : Int} {e : Ev} {E : List Ev} (X : DU g h w x d dv B M W S fp D Z) (hS : S.L = e :: E) (ht : e.at' ≤ t) (hq : ∀ h' fp', DU g h' w x d dv B M W ⟨E, S.n⟩ fp' D Z → q (.tuple #[.agg #[.int .i64 e.at', .int .i64 e.dev, .int .i64 e.seq], .bool true]) h') :
    WC T n_wheel_Wheel_Take [ptr w 0, .int .i64 t] h q := by
  refine takeS X.wh (fun hx => by rw [hS] at hx; simp at hx; omega) fun e' E' he _ h1 fp1 Q1 U1 => ?_
  rw [hS] at he
  cases he
  exact hq _ _ (X.take Q1 U1)
theorem dknown : WC T n_pianolalaw13_known [] g fun v h' => v = .bool true ∧ Kp g h' := by
  rw [w_pianolalaw13_known]
  simp (maxSteps := 1000000) (disch := first | assumption | ((try simp only [push_next, put_next, adv_next, List.length_cons, List.length_nil, List.length_map, List.length_set]); omega) | simp) [GC_of (fun q => wnew)]
  refine rnew fun h1 R1 K1 n1 => ?_
  simp only [push_next] at R1 n1
  have hd0 : g.next < h1.next := by omega
  simp (maxSteps := 1000000) (disch := first | assumption | ((try simp only [push_next, put_next, adv_next, List.length_cons, List.length_nil, List.length_map, List.length_set]); omega) | simp) [GC_of (fun q => dnew hd0)]
  have hd1 : g.next < (h1.push (.cells false [.int .i64 4, ptr g.next 0, ptr (g.next + 1 + 3) 0, u32 0#32, u32 0#32, u32 0#32, u32 0#32])).next := by simp; omega
  simp (maxSteps := 1000000) (disch := first | assumption | ((try simp only [push_next, put_next, adv_next, List.length_cons, List.length_nil, List.length_map, List.length_set]); omega) | simp) [GC_of (fun q => dnew_nil (q := q) (h := h1.push (.cells false [.int .i64 4, ptr g.next 0, ptr (g.next + 1 + 3) 0, u32 0#32, u32 0#32, u32 0#32, u32 0#32])) (dv := 4) (w := g.next))]
  have X0 := DU.made (dv := 4) R1 K1 n1
  have hB : (List.replicate (1024 * (max 1 (min (1 : Int) 64)).toNat) 0#8 : By).length = 1024 := by rw [List.length_replicate]; rfl
  generalize (List.replicate (1024 * (max 1 (min (1 : Int) 64)).toNat) 0#8 : By) = B at *
  generalize List.replicate (max 1 (min (1 : Int) 64)).toNat false = M at *
  generalize h1.push (.cells false [.int .i64 4, ptr g.next 0, ptr (g.next + 1 + 3) 0, u32 0#32, u32 0#32, u32 0#32, u32 0#32]) = h2 at *
  generalize h1.next = d at *
  refine rstore X0.ra (by omega) (fun hb => by simp [evB, hB] at hb) fun _ h3 R3 U3 => ?_
  have X1 := X0.ram R3 U3
  simp (maxSteps := 1000000) (disch := first | assumption | ((try simp only [push_next, put_next, adv_next, List.length_cons, List.length_nil, List.length_map, List.length_set]); omega) | simp)
  refine duwrite X1 (by omega) fun h4 fp4 X2 => ?_
  simp (maxSteps := 1000000) (disch := first | assumption | ((try simp only [push_next, put_next, adv_next, List.length_cons, List.length_nil, List.length_map, List.length_set]); omega) | simp)
  refine duwrite X2 (by omega) fun h5 fp5 X3 => ?_
  simp (maxSteps := 1000000) (disch := first | assumption | ((try simp only [push_next, put_next, adv_next, List.length_cons, List.length_nil, List.length_map, List.length_set]); omega) | simp)
  refine duwrite X3 (by omega) fun h6 fp6 X4 => ?_
  simp (maxSteps := 1000000) (disch := first | assumption | ((try simp only [push_next, put_next, adv_next, List.length_cons, List.length_nil, List.length_map, List.length_set]); omega) | simp)
  refine duwrite X4 (by omega) fun h7 fp7 X5 => ?_
  simp (maxSteps := 1000000) (disch := first | assumption | ((try simp only [push_next, put_next, adv_next, List.length_cons, List.length_nil, List.length_map, List.length_set]); omega) | simp)
  simp [DmS.wrw, DmS.wr, DmS.go] at X5
  have hA : (⟨[], 0⟩ : WhS).arm 4 (dtime 4#32) = ⟨[⟨2, 4, 0⟩], 1⟩ := rfl
  rw [hA] at X5
  refine dutake X5 rfl (by simp) fun h8 fp8 X6 => ?_
  simp (maxSteps := 1000000) (disch := first | assumption | ((try simp only [push_next, put_next, adv_next, List.length_cons, List.length_nil, List.length_map, List.length_set]); omega) | simp)
  have X7 := X6.more (h' := (h8.push (.cells false [.int .i64 0, .int .i64 0, .int .i64 0])).put h8.next (some (.cells false [.int .i64 2, .int .i64 4, .int .i64 0]))) (kp_laid (Kp.refl h8) _ _)
  have hst : (stB B 8 4 16909060#32).length = 1024 := by unfold stB; rw [ovB_length (by simp; omega), hB]
  have hok : DmS.ok ⟨8#32, 100#32, 4#32, 1#32⟩ (stB B 8 4 16909060#32) = true := by simp [DmS.ok, thB, hst]
  have hmem : DmS.mem ⟨8#32, 100#32, 4#32, 1#32⟩ (stB B 8 4 16909060#32) = ovB (stB B 8 4 16909060#32) 100 (wdB 16909060#32 4) := by
    unfold DmS.mem
    rw [if_pos hok]
    congr 1
    exact ovB_take (l := wdB 16909060#32 4) (a := 8) (by omega)
  simp only [push_put_self] at X7
  have hg8 : (h8.push (.cells false [.int .i64 2, .int .i64 4, .int .i64 0])).get h8.next = some (.cells false [.int .i64 2, .int .i64 4, .int .i64 0]) := get_push_self
  generalize h8.push (.cells false [.int .i64 2, .int .i64 4, .int .i64 0]) = h9 at *
  refine dufire X7 fun h10 X8 => ?_
  rw [hmem] at X8
  have hfire : DmS.fire ⟨8#32, 100#32, 4#32, 1#32⟩ (stB B 8 4 16909060#32) = ⟨8#32, 100#32, 4#32, 2#32⟩ := by
    unfold DmS.fire
    rw [if_pos hok]
    rfl
  rw [hfire] at X8
  have hl10 : (ovB (stB B 8 4 16909060#32) 100 (wdB 16909060#32 4)).length = 1024 := by rw [ovB_length (by simp; omega), hst]
  have hev : evB (ovB (stB B 8 4 16909060#32) 100 (wdB 16909060#32 4)) 100#32 4 = true := by simp [evB, hl10]
  have hld : ldB (ovB (stB B 8 4 16909060#32) 100 (wdB 16909060#32 4)) 100 4 = 16909060#32 := by
    unfold ldB
    have := ovB_take (B := stB B 8 4 16909060#32) (l := wdB 16909060#32 4) (a := 100) (by omega)
    simp only [wdB_length] at this
    rw [this]
    decide
  have hL := fun q => rload (q := q) (a := 100#32) (n := 4) X8.ra (by omega)
  simp only [hev, if_true, show (100#32).toNat = 100 from rfl, show Int.toNat 4 = 4 from rfl, hld] at hL
  have hR := fun q => dread (q := q) (a := 16#32) X8.dm
  have hLi := fun q => dline (q := q) X8.dm
  simp (maxSteps := 1000000) (disch := first | assumption | ((try simp only [push_next, put_next, adv_next, List.length_cons, List.length_nil, List.length_map, List.length_set]); omega) | simp) [GC_of hL, GC_of hR, GC_of hLi, DmS.rd, dat]
  exact X8.kp
/-- Kept from now on. -/
theorem DU.keep {y : Nat} {o : Ob} (X : DU g h w x d dv B M W S fp D Z) (hy : h.get y = some o) (hd : y ∉ d :: w :: fp) (hx : y < x ∨ x + 3 < y) : DU g h w x d dv B M W S fp D ((y, o) :: Z) :=
  ⟨X.dm, X.ra, X.wh, X.kp, X.gf, X.gx, X.gd, X.dx, fun p hp => by
    rcases List.mem_cons.1 hp with rfl | hp
    · exact ⟨hy, hd, hx⟩
    · exact X.zz p hp⟩
/-- Put into a block that is new. -/
theorem DU.put {y : Nat} {o : Ob} (X : DU g h w x d dv B M W S fp D Z) (K : Kp h h') (hy : h.next ≤ y) (hy' : y < h'.next) : DU g (h'.put y (some o)) w x d dv B M W S fp D ((y, o) :: Z) :=
  (X.more (K.put hy _)).keep (by rw [get_put_self hy']) (fun hm => by
    rcases List.mem_cons.1 hm with rfl | hm
    · have := X.dlt; omega
    · have := X.wh.live y hm; omega) (by have := X.ra.lt; omega)
theorem dmoves {a : Option Addr} {c : Nat} {xs : By} {fr to : BitVec 32} {n : Int} (hs : Sees encB g a xs) (hb : xs.length ≤ 9223372036854775807) (hc : xs.length ≤ c) : WC T n_pianolalaw13_DmaMoves [.slice a xs.length c, u32 fr, u32 to, .int .i64 n] g fun v h' => v = .bool true := by
  rw [w_pianolalaw13_DmaMoves]
  simp (maxSteps := 1000000) (disch := first | assumption | ((try simp only [push_next, put_next, adv_next, List.length_cons, List.length_nil, List.length_map, List.length_set]); omega) | simp) [GC_of (fun q => wnew)]
  refine rnew fun h1 R1 K1 n1 => ?_
  simp only [push_next] at R1 n1
  have hd0 : g.next < h1.next := by omega
  have X0 := DU.made (dv := 4) R1 K1 n1
  have hB : (List.replicate (1024 * (max 1 (min (1 : Int) 64)).toNat) 0#8 : By).length = 1024 := by rw [List.length_replicate]; rfl
  simp (maxSteps := 1000000) (disch := first | assumption | ((try simp only [push_next, put_next, adv_next, List.length_cons, List.length_nil, List.length_map, List.length_set]); omega) | simp) [GC_of (fun q => dnew hd0), -g9_pianolalaw13_DmaMoves]
  generalize (List.replicate (1024 * (max 1 (min (1 : Int) 64)).toNat) 0#8 : By) = B at *
  generalize List.replicate (max 1 (min (1 : Int) 64)).toNat false = M at *
  generalize h1.push (.cells false [.int .i64 4, ptr g.next 0, ptr (g.next + 1 + 3) 0, u32 0#32, u32 0#32, u32 0#32, u32 0#32]) = h2 at *
  generalize h1.next = d at *
  have S0 := hs.kp X0.kp
  have key : ∀ (e : Env) a' c' (l : By), Sees encB h2 a' l → l.length ≤ 1024 → e 0 = .slice a' l.length c' → e 1 = u32 fr → e 2 = u32 to → e 3 = .int .i64 n → e 9 = ptr g.next 0 → e 10 = ptr (g.next + 1 + 3) 0 → e 11 = ptr d 0 →
      G T (fin [RV.t 8] (some []) g.next fun v h' => v = Value.bool true) c8_pianolalaw13_DmaMoves [] e h2 := by
    intro e a' c' l Sl hl e0 e1 e2 e3 e9 e10 e11
    simp (maxSteps := 1000000) (disch := first | assumption | ((try simp only [push_next, put_next, adv_next, List.length_cons, List.length_nil, List.length_map, List.length_set]); omega) | simp) [e0, e1, e2, e3, e9, e10, e11]
    refine rput X0.ra Sl (by omega) (fun hb => by simp [thB, hB] at hb; omega) fun _ h3 R3 U3 => ?_
    have X1 := X0.ram R3 U3
    have hB1 : (ovB B (0#32).toNat l).length = 1024 := by rw [ovB_length (by simp; omega), hB]
    generalize ovB B (0#32).toNat l = B1 at *
    generalize tch M M (0#32).toNat l.length = W1 at *
    have hf : (fr % 1000#32).toNat < 1000 := by simp; omega
    have ht : (to % 1000#32).toNat < 1000 := by simp; omega
    obtain ⟨f, hfe⟩ : ∃ f, fr % 1000#32 = f := ⟨_, rfl⟩
    obtain ⟨u, hue⟩ : ∃ u, to % 1000#32 = u := ⟨_, rfl⟩
    rw [hfe] at hf
    rw [hue] at ht
    obtain ⟨m, hm, hmf, hmt⟩ : ∃ m : Nat, ((1024#32 - if f < u then u else f).toNat : Int) = m ∧ f.toNat + m ≤ 1024 ∧ u.toNat + m ≤ 1024 := by
      refine ⟨_, rfl, ?_, ?_⟩
      · split
        · rename_i hlt
          rw [BitVec.lt_def] at hlt
          simp
          omega
        · simp; omega
      · split
        · simp; omega
        · rename_i hlt
          rw [BitVec.lt_def] at hlt
          simp
          omega
    simp (maxSteps := 1000000) (disch := first | assumption | ((try simp only [push_next, put_next, adv_next, List.length_cons, List.length_nil, List.length_map, List.length_set]); omega) | simp) [e0, e1, e2, e3, e9, e10, e11, hfe, hue, hm, -BitVec.toNat_sub]
    refine within (by omega) (by omega) (by omega) fun k0 k1 k2 => ?_
    obtain ⟨k, rfl⟩ := Int.eq_ofNat_of_zero_le k1
    simp (maxSteps := 1000000) (disch := first | assumption | ((try simp only [push_next, put_next, adv_next, List.length_cons, List.length_nil, List.length_map, List.length_set]); omega) | simp) [e10]
    refine rbytes X1.ra (by omega) (fun hb => by simp [thB, hB1] at hb) fun m1 hm1 _ _ a4 c4 h4 S4 K4 F4 hc4 O4 => ?_
    have : m1 = 1024 := by omega
    subst this
    have hBt : (B1.drop (0#32).toNat).take 1024 = B1 := by simp [List.take_of_length_le, hB1]
    rw [hBt] at S4 O4
    have X4 := X1.more K4
    simp (maxSteps := 1000000) (disch := first | assumption | ((try simp only [push_next, put_next, adv_next, List.length_cons, List.length_nil, List.length_map, List.length_set]); omega) | simp) [e10]
    refine rbytes X4.ra (by omega) (fun hb => by simp [thB, hB1] at hb; omega) fun m2 hm2 _ _ a5 c5 h5 S5 K5 F5 hc5 O5 => ?_
    obtain rfl : k = m2 := by omega
    have hL5 : ((B1.drop f.toNat).take k).length = k := by simp; omega
    obtain ⟨fp, O4, F4'⟩ := O4.resolve_left (fun e => by rw [e] at hB1; simp at hB1)
    cases O4 with
    | blk hg4 hn4 hcc h04 hr4 =>
      rename_i y r
      simp only [encB_sz] at hs ⊢
      have hy := F4' y (by simp)
      have hg5 : h5.get y = _ := (K5.get y (lt_of_get hg4)).trans hg4
      rw [encB_all] at hg5
      have hcp := cpy_own (c := c4 - u.toNat) (c' := c5) (a := u.toNat) hg5 S5 (by omega)
      rw [hL5, hB1] at hcp
      have hsl : sliceV 1 (.slice (some ⟨y, 0, some 1⟩) 1024 c4) (some (u32 u)) none none = some (.slice (some ⟨y, u.toNat, some 1⟩) (1024 - u.toNat) (c4 - u.toNat)) := by
        have e : u32 u = .int .u32 (u.toNat : Int) := rfl
        rw [e, sliceV_lo (by omega) (by omega) hcc]
        simp
      have X5 := X1.put (o := .cells false ((ovB B1 u.toNat ((B1.drop f.toNat).take k)).map u8 ++ r)) (K4.trans K5) hy (lt_of_get hg5)
      have hlw : (ovB B1 u.toNat ((B1.drop f.toNat).take k)).length = 1024 := by rw [ovB_length (by omega), hB1]
      have t0 : dat 0#32 = true := rfl
      have t4 : dat 4#32 = true := rfl
      have t8 : dat 8#32 = true := rfl
      have t12 : dat 12#32 = true := rfl
      have t16 : dat 16#32 = true := rfl
      simp (maxSteps := 1000000) (disch := first | assumption | ((try simp only [push_next, put_next, adv_next, List.length_cons, List.length_nil, List.length_map, List.length_set]); omega) | simp) [hsl, hcp, e11]
      generalize h5.put y (some (.cells false ((ovB B1 u.toNat ((B1.drop f.toNat).take k)).map u8 ++ r))) = h6 at *
      refine duwrite X5 (by omega) fun h7 fp7 X7 => ?_
      simp (maxSteps := 1000000) (disch := first | assumption | ((try simp only [push_next, put_next, adv_next, List.length_cons, List.length_nil, List.length_map, List.length_set]); omega) | simp) [t0, e11]
      refine duwrite X7 (by omega) fun h8 fp8 X8 => ?_
      simp (maxSteps := 1000000) (disch := first | assumption | ((try simp only [push_next, put_next, adv_next, List.length_cons, List.length_nil, List.length_map, List.length_set]); omega) | simp) [t4, e11]
      refine duwrite X8 (by omega) fun h9 fp9 X9 => ?_
      simp (maxSteps := 1000000) (disch := first | assumption | ((try simp only [push_next, put_next, adv_next, List.length_cons, List.length_nil, List.length_map, List.length_set]); omega) | simp) [t8, e11]
      refine duwrite X9 (by omega) fun h10 fp10 X10 => ?_
      simp (maxSteps := 1000000) (disch := first | assumption | ((try simp only [push_next, put_next, adv_next, List.length_cons, List.length_nil, List.length_map, List.length_set]); omega) | simp) [t12, e9, -g1_pianolalaw13_DmaMoves]
      simp [DmS.wrw, DmS.wr, DmS.go] at X10
      have hk1 : k ≤ 1024 := by omega
      have hkn : (BitVec.ofNat 32 k).toNat = k := by simp; omega
      have hdt : dtime (BitVec.ofNat 32 k) = (k : Int) / 4 + 1 := by
        have hlt : ¬ (4096#32 < BitVec.ofNat 32 k) := by
          rw [BitVec.lt_def, hkn]
          simp
          omega
        unfold dtime
        rw [if_neg hlt, hkn]
      have hA : (⟨[], 0⟩ : WhS).arm 4 (dtime (BitVec.ofNat 32 k)) = ⟨[⟨(k : Int) / 4 + 1, 4, 0⟩], 1⟩ := by
        rw [hdt]
        have hb : wbad 4 ((k : Int) / 4 + 1) = false := by simp [wbad]; omega
        unfold WhS.arm
        rw [if_neg (by simp [hb])]
        rfl
      rw [hA] at X10
      refine dutake X10 rfl (Int.le_refl _) fun h11 fp11 X11 => ?_
      simp (maxSteps := 1000000) (disch := first | assumption | ((try simp only [push_next, put_next, adv_next, List.length_cons, List.length_nil, List.length_map, List.length_set]); omega) | simp) [e9]
      have X12 := X11.more (h' := h11.push (.cells false [.int .i64 ((k : Int) / 4 + 1), .int .i64 4, .int .i64 0])) ((Kp.refl _).push _)
      have hg12 : (h11.push (.cells false [.int .i64 ((k : Int) / 4 + 1), .int .i64 4, .int .i64 0])).get h11.next = some (.cells false [.int .i64 ((k : Int) / 4 + 1), .int .i64 4, .int .i64 0]) := get_push_self
      generalize h11.push (.cells false [.int .i64 ((k : Int) / 4 + 1), .int .i64 4, .int .i64 0]) = h12 at *
      refine takeS X12.wh (fun _ h13 K13 => ?_) fun e' E' he _ => by cases he
      have X13 := X12.more K13
      have hg13 : h13.get h11.next = _ := (K13.get _ (lt_of_get hg12)).trans hg12
      have hl13 := lt_of_get hg13
      have hg14 : (h13.push (.cells false [.int .i64 0, .int .i64 0, .int .i64 0])).get h11.next = some (.cells false [.int .i64 ((k : Int) / 4 + 1), .int .i64 4, .int .i64 0]) := by rw [get_push_ne (by omega), hg13]
      have X14 := X13.more (h' := h13.push (.cells false [.int .i64 0, .int .i64 0, .int .i64 0])) ((Kp.refl _).push _)
      simp (maxSteps := 1000000) (disch := first | assumption | ((try simp only [push_next, put_next, adv_next, List.length_cons, List.length_nil, List.length_map, List.length_set]); omega) | simp) [e11, hg13]
      generalize h13.push (.cells false [.int .i64 0, .int .i64 0, .int .i64 0]) = h14 at *
      have hok : DmS.ok ⟨f, u, BitVec.ofNat 32 k, 1#32⟩ B1 = true := by
        unfold DmS.ok
        simp only [hkn]
        simp [thB, hB1]
        omega
      refine dufire X14 fun h15 X15 => ?_
      have hmem : DmS.mem ⟨f, u, BitVec.ofNat 32 k, 1#32⟩ B1 = ovB B1 u.toNat ((B1.drop f.toNat).take k) := by
        unfold DmS.mem
        rw [if_pos hok]
        simp only [hkn]
      have hfire : DmS.fire ⟨f, u, BitVec.ofNat 32 k, 1#32⟩ B1 = ⟨f, u, BitVec.ofNat 32 k, 2#32⟩ := by
        unfold DmS.fire
        rw [if_pos hok]
        simp
      rw [hmem, hfire] at X15
      generalize hBW : ovB B1 u.toNat ((B1.drop f.toNat).take k) = BW at *
      simp (maxSteps := 1000000) (disch := first | assumption | ((try simp only [push_next, put_next, adv_next, List.length_cons, List.length_nil, List.length_map, List.length_set]); omega) | simp) [e10]
      refine rbytes X15.ra (by omega) (fun hb => by simp [thB, hlw] at hb) fun m6 hm6 _ _ a6 c6 h16 S6 K6 F6 hc6 O6 => ?_
      have : m6 = 1024 := by omega
      subst this
      have hBt2 : (BW.drop (0#32).toNat).take 1024 = BW := by simp [List.take_of_length_le, hlw]
      rw [hBt2] at S6
      have X16 := X15.more K6
      have hR := fun q => dread (q := q) (a := 16#32) X16.dm
      have hw1 := b2sV_sees (c := c6) S6
      have hz := (X16.zz _ (List.mem_cons_self ..)).1
      have S7 : Sees encB h16 (some ⟨y, 0, some 1⟩) BW := ⟨fun hA => (by cases hA), fun A hA => by
        cases hA
        simp only [Hp.rdn, Hp.cells, hz, Option.bind_some, Nat.zero_add]
        rw [if_pos (by simp), List.drop_zero, ← encB_all, encB.take _ _ _ (Nat.le_refl _), List.take_length], fun A hA => (by cases hA; exact .inr rfl)⟩
      have hw2 := b2sV_sees (c := c4) S7
      rw [hlw] at hw1 hw2
      simp (maxSteps := 1000000) (disch := first | assumption | ((try simp only [push_next, put_next, adv_next, List.length_cons, List.length_nil, List.length_map, List.length_set]); omega) | simp) [e11, GC_of hR, hw1, hw2, DmS.rd]
      refine GC_intro dknown fun v h17 ⟨hv, _⟩ => ?_
      subst hv
      simp (maxSteps := 1000000) (disch := first | assumption | ((try simp only [push_next, put_next, adv_next, List.length_cons, List.length_nil, List.length_map, List.length_set]); omega) | simp)
  by_cases hx : xs.length ≤ 1024
  · have hx' : ¬ (1024 : Int) < xs.length := by omega
    simp (maxSteps := 1000000) (disch := first | assumption | ((try simp only [push_next, put_next, adv_next, List.length_cons, List.length_nil, List.length_map, List.length_set]); omega) | simp) [hx', -g8_pianolalaw13_DmaMoves]
    exact key _ a c xs S0 hx (by simp) (by simp) (by simp) (by simp) (by simp) (by simp) (by simp)
  · have hx' : (1024 : Int) < xs.length := by omega
    obtain ⟨a', c', hsl, hc', S1⟩ := S0.part (lo := 0) (hi := 1024) (by omega) (by omega) hc (l := none) (u := some (.int .i64 1024)) (.inl ⟨rfl, rfl⟩) (.inr ⟨.i64, rfl⟩)
    simp only [encB_sz, Nat.sub_zero, List.drop_zero] at hsl S1
    have hl : (xs.take 1024).length = 1024 := by simp; omega
    simp (maxSteps := 1000000) (disch := first | assumption | ((try simp only [push_next, put_next, adv_next, List.length_cons, List.length_nil, List.length_map, List.length_set]); omega) | simp) [hx', hsl, -g8_pianolalaw13_DmaMoves]
    refine key _ a' c' (xs.take 1024) S1 (by omega) ?_ (by simp) (by simp) (by simp) (by simp) (by simp) (by simp)
    rw [hl]
    simp
end
end Go.Proofs.Ytpdfdemoflofhaa.Cd
