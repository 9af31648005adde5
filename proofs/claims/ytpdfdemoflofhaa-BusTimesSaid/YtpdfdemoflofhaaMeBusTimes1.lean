/- Texts of one kind, one behind the other. -/
import Derived.Test.YtpdfdemoflofhaaMeBusTimes0
import Derived.Test.YtpdfdemoflofhaaMcz0
import Derived.Test.YtpdfdemoflofhaaMd1
/- The wheel, and what is common to all that use one. -/
set_option maxRecDepth 1000000
set_option linter.unusedSimpArgs false
set_option linter.unusedVariables false
namespace Go.Proofs.Ytpdfdemoflofhaa.Cd
open Go Go.Dx
section
variable {h : Hp}
theorem warmI {w : Nat} {L : List Ev} {s d t : Int} {fp : List Nat} {q : Value → Hp → Prop} (W : Wh h w L s fp) (I : WI L)
    (hno : wbad d t = true → q (.bool false) h) (hyes : wbad d t = false → ∀ h' fp', WI (insl (·.at') ⟨t, d, s⟩ (wcan d L)) → Wh h' w (insl (·.at') ⟨t, d, s⟩ (wcan d L)) (IntKind.i64.wrap (s + 1)) fp' → Upd h h' (w :: fp) (w :: fp') → q (.bool true) h') : WC T n_wheel_Wheel_Arm [ptr w 0, .int .i64 d, .int .i64 t] h q := by
  have h1 := I.len
  have h2 := (I.can d).len
  exact warm W (by omega) (by omega) I.srt hno fun hb h' fp' W' U' => hyes hb h' fp' (I.arm hb) W' U'
theorem mod50 (a : Int) : -50 < a.tmod 50 ∧ a.tmod 50 < 50 ∧ 0 ≤ (a.tmod 50 + 50).tmod 50 ∧ (a.tmod 50 + 50).tmod 50 < 50 := by
  have h1 := Int.tmod_lt_of_pos a (show (0 : Int) < 50 by decide)
  have h2 := Int.tmod_lt_of_pos (-a) (show (0 : Int) < 50 by decide)
  rw [Int.neg_tmod] at h2
  exact ⟨by omega, h1, Int.tmod_nonneg _ (by omega), Int.tmod_lt_of_pos _ (by decide)⟩
theorem fpUp {g h h' : Hp} {w : Nat} {fp fp' : List Nat} (hf : ∀ b ∈ w :: fp, g.next ≤ b) (K : Kp g h) (U : Upd h h' (w :: fp) (w :: fp')) : (∀ b ∈ w :: fp', g.next ≤ b) ∧ Kp g h' := ⟨fun b hb => by
  rcases U.sub b hb with h5 | h5
  · exact hf b h5
  · have := K.le; omega, U.kp' K hf⟩
/-- A struct laid anew: what it takes. -/
theorem kp_laid {g h : Hp} (K : Kp g h) (o p : Ob) : Kp g ((h.push o).put h.next (some p)) := (K.push _).put K.le _
theorem Wh.laid {h : Hp} {w : Nat} {L : List Ev} {s : Int} {fp : List Nat} (W : Wh h w L s fp) (o p : Ob) : Wh ((h.push o).put h.next (some p)) w L s fp := W.kp (kp_laid (Kp.refl h) o p)
section
variable {q : Value → Hp → Prop}
theorem within {n lo hi : Int} (h0 : -1000000000000 ≤ lo) (h1 : lo ≤ hi) (h2 : hi ≤ 1000000000000) (hq : ∀ m, lo ≤ m → m ≤ hi → q (.int .i64 m) h) : WC T n_pianolabook_Within [.int .i64 n, .int .i64 lo, .int .i64 hi] h q := by
  rw [w_pianolabook_Within]
  have hne : hi - lo + 1 ≠ 0 := by omega
  have hw : n.tmod (hi - lo + 1) < hi - lo + 1 := Int.tmod_lt_of_pos _ (by omega)
  have hw' : - (hi - lo + 1) < n.tmod (hi - lo + 1) := by
    have := Int.tmod_lt_of_pos (-n) (show 0 < hi - lo + 1 by omega)
    rw [Int.neg_tmod] at this
    omega
  by_cases c1 : lo ≤ n
  · by_cases c2 : n ≤ hi
    · simp (maxSteps := 1000000) (disch := first | assumption | ((try simp only [push_next, put_next, adv_next, List.length_cons, List.length_nil, List.length_map, List.length_set]); omega) | simp) [c1, c2]
      exact hq _ c1 c2
    · by_cases c3 : n.tmod (hi - lo + 1) < 0
      · simp (maxSteps := 1000000) (disch := first | assumption | ((try simp only [push_next, put_next, adv_next, List.length_cons, List.length_nil, List.length_map, List.length_set]); omega) | simp) [c1, c2, c3, hne]
        exact hq _ (by omega) (by omega)
      · simp (maxSteps := 1000000) (disch := first | assumption | ((try simp only [push_next, put_next, adv_next, List.length_cons, List.length_nil, List.length_map, List.length_set]); omega) | simp) [c1, c2, c3, hne]
        exact hq _ (by omega) (by omega)
  · by_cases c3 : n.tmod (hi - lo + 1) < 0
    · simp (maxSteps := 1000000) (disch := first | assumption | ((try simp only [push_next, put_next, adv_next, List.length_cons, List.length_nil, List.length_map, List.length_set]); omega) | simp) [c1, c3, hne]
      exact hq _ (by omega) (by omega)
    · simp (maxSteps := 1000000) (disch := first | assumption | ((try simp only [push_next, put_next, adv_next, List.length_cons, List.length_nil, List.length_map, List.length_set]); omega) | simp) [c1, c3, hne]
      exact hq _ (by omega) (by omega)
theorem within_eq {n lo hi : Int} (h0 : -1000000000000000 ≤ lo) (h1 : lo ≤ hi) (h2 : hi ≤ 4000000000000000000) : WC T n_pianolabook_Within [.int .i64 n, .int .i64 lo, .int .i64 hi] h q ↔ q (.int .i64 (wi n lo hi)) h := by
  rw [w_pianolabook_Within]
  have hne : hi - lo + 1 ≠ 0 := by omega
  have he := tmod_emod (n := n) (m := hi - lo + 1) (by omega)
  have hw : n.tmod (hi - lo + 1) < hi - lo + 1 := Int.tmod_lt_of_pos _ (by omega)
  have hw' : - (hi - lo + 1) < n.tmod (hi - lo + 1) := by
    have := Int.tmod_lt_of_pos (-n) (show 0 < hi - lo + 1 by omega)
    rw [Int.neg_tmod] at this
    omega
  unfold wi
  by_cases c1 : lo ≤ n
  · by_cases c2 : n ≤ hi
    · simp (maxSteps := 1000000) (disch := first | assumption | ((try simp only [push_next, put_next, adv_next, List.length_cons, List.length_nil, List.length_map, List.length_set]); omega) | simp) [c1, c2]
    · by_cases c3 : n.tmod (hi - lo + 1) < 0
      · simp (maxSteps := 1000000) (disch := first | assumption | ((try simp only [push_next, put_next, adv_next, List.length_cons, List.length_nil, List.length_map, List.length_set]); omega) | simp) [c1, c2, c3, hne]
        rw [he, if_pos c3]
        have e : lo + (n.tmod (hi - lo + 1) + hi - lo + 1) = lo + (n.tmod (hi - lo + 1) + (hi - lo + 1)) := by omega
        rw [e]
      · simp (maxSteps := 1000000) (disch := first | assumption | ((try simp only [push_next, put_next, adv_next, List.length_cons, List.length_nil, List.length_map, List.length_set]); omega) | simp) [c1, c2, c3, hne]
        rw [he, if_neg c3]
  · by_cases c3 : n.tmod (hi - lo + 1) < 0
    · simp (maxSteps := 1000000) (disch := first | assumption | ((try simp only [push_next, put_next, adv_next, List.length_cons, List.length_nil, List.length_map, List.length_set]); omega) | simp) [c1, c3, hne]
      rw [he, if_pos c3]
      have e : lo + (n.tmod (hi - lo + 1) + hi - lo + 1) = lo + (n.tmod (hi - lo + 1) + (hi - lo + 1)) := by omega
      rw [e]
    · simp (maxSteps := 1000000) (disch := first | assumption | ((try simp only [push_next, put_next, adv_next, List.length_cons, List.length_nil, List.length_map, List.length_set]); omega) | simp) [c1, c3, hne]
      rw [he, if_neg c3]
end
end
end Go.Proofs.Ytpdfdemoflofhaa.Cd

/- Clone of a row, and whether two rows are the same. -/
set_option maxRecDepth 1000000
set_option linter.unusedSimpArgs false
set_option linter.unusedVariables false
namespace Go.Proofs.Ytpdfdemoflofhaa.Cd
open Go Go.Dx
section
variable {h : Hp} {a a' : Option Addr} {c c' : Nat} {xs ys : List (BitVec 8)}
theorem clone_by {q : Value → Hp → Prop} (hs : Sees encB h a xs) (hb : xs.length < 2 ^ 40) (hq : ∀ a' c' h', Sees encB h' a' xs → Kp h h' → (∀ A, a' = some A → h.next ≤ A.block) → (xs = [] ∨ ∃ fp, Own encB h' (.slice a' xs.length c') xs fp ∧ ∀ b ∈ fp, h.next ≤ b) → q (.slice a' xs.length c') h') : WC T n_slices_Clone_byte_byte [.slice a xs.length c] h q := by
  rw [w_slices_Clone_byte_byte]
  cases a with
  | none =>
    have := hs.nil rfl
    subst this
    simp (maxSteps := 1000000) (disch := first | assumption | ((try simp only [push_next, put_next, adv_next, List.length_cons, List.length_nil, List.length_map, List.length_set]); omega) | simp) [isNil]
    exact hq none 0 h Sees.nul (.refl _) (fun A hA => (by cases hA)) (.inl rfl)
  | some A =>
    simp (maxSteps := 1000000) (disch := first | assumption | ((try simp only [push_next, put_next, adv_next, List.length_cons, List.length_nil, List.length_map, List.length_set]); omega) | simp) [isNil]
    have K1 : Kp h (h.push (.cells false [])) := (Kp.refl h).push _
    have he := (hs.kp K1).elems (c := c)
    by_cases h0 : xs.length = 0
    · have : xs = [] := List.length_eq_zero_iff.1 h0
      subst this
      have e : appendV (h.push (.cells false [])) 1 1 (.slice (some ⟨h.next, 0, none⟩) 0 0) (.slice (some A) 0 c) = some (.slice (some ⟨h.next, 0, none⟩) 0 0, h.push (.cells false [])) := by
        have he' : elems (h.push (.cells false [])) 1 0 (.slice (some A) 0 c) = some [] := he
        simp [appendV, lenV, he']
      simp only [List.length_nil, e]
      simp (maxSteps := 1000000) (disch := first | assumption | ((try simp only [push_next, put_next, adv_next, List.length_cons, List.length_nil, List.length_map, List.length_set]); omega) | simp)
      refine hq _ 0 _ ⟨fun hA => (by cases hA), fun B hB => ?_, fun B hB => (by cases hB; first | exact .inl rfl | exact .inr rfl)⟩ K1 (fun A hA => by cases hA; exact Nat.le_refl _) (.inl rfl)
      cases hB
      simp [Hp.rdn, get_push_self]
    · have e : appendV (h.push (.cells false [])) 1 1 (.slice (some ⟨h.next, 0, none⟩) 0 0) (.slice (some A) xs.length c) = some (.slice (some ⟨h.next + 1, 0, some 1⟩) xs.length xs.length, (h.push (.cells false [])).push (.cells false (encB.all xs))) := by
        have he' : elems (h.push (.cells false [])) 1 xs.length (.slice (some A) xs.length c) = some (encB.all xs) := he
        have hl : (encB.all xs).length = xs.length * 1 := encB.all_length xs
        simp only [appendV, lenV, he', hl, if_true, Nat.zero_add]
        rw [if_neg (by omega), if_pos ⟨by omega, by omega⟩]
        simp [Hp.rdn, get_push_self]
      rw [e]
      simp (maxSteps := 1000000) (disch := first | assumption | ((try simp only [push_next, put_next, adv_next, List.length_cons, List.length_nil, List.length_map, List.length_set]); omega) | simp)
      refine hq _ _ _ ⟨fun hA => (by cases hA), fun B hB => ?_, fun B hB => (by cases hB; first | exact .inl rfl | exact .inr rfl)⟩ (K1.push _) (fun A hA => by cases hA; simp) (.inr ⟨_, .blk (E := encB) (r := []) (by rw [show h.next + 1 = (h.push (.cells false [])).next from rfl, get_push_self]; simp) rfl (Nat.le_refl _) (by omega) (by simp), by simp⟩)
      cases hB
      simp only [Hp.rdn, Hp.cells, show h.next + 1 = (h.push (.cells false [])).next from rfl, get_push_self, Option.bind_some, Nat.zero_add]
      rw [if_pos (by simp), List.drop_zero, List.take_of_length_le (by simp)]
end
end Go.Proofs.Ytpdfdemoflofhaa.Cd

/- Memory: what each function does. -/
set_option maxRecDepth 1000000
set_option maxHeartbeats 4000000
set_option linter.unusedSimpArgs false
set_option linter.unusedVariables false
namespace Go.Proofs.Ytpdfdemoflofhaa.Cd
open Go Go.Dx
/-- Memory as it lies: bytes, marks, what was written. -/
structure Ra (h : Hp) (x : Nat) (B : By) (M W : List Bool) : Prop where
  r : h.get (x + 3) = some (.cells false [.slice (some ⟨x, 0, none⟩) B.length B.length, .slice (some ⟨x + 1, 0, none⟩) M.length M.length, .slice (some ⟨x + 2, 0, none⟩) M.length M.length])
  b : h.get x = some (.cells false (B.map u8))
  m : h.get (x + 1) = some (.cells false (M.map Value.bool))
  w : h.get (x + 2) = some (.cells false (W.map Value.bool))
  sz : B.length = 1024 * M.length
  wl : W.length = M.length
  ml : 1 ≤ M.length ∧ M.length ≤ 64
section
variable {h : Hp} {q : Value → Hp → Prop} {x : Nat} {B : By} {M W : List Bool}
theorem Ra.keep {h' : Hp} (R : Ra h x B M W) (hk : ∀ b, x ≤ b → b ≤ x + 3 → h'.get b = h.get b) : Ra h' x B M W :=
  ⟨by rw [hk _ (by omega) (by omega), R.r], by rw [hk _ (by omega) (by omega), R.b], by rw [hk _ (by omega) (by omega), R.m], by rw [hk _ (by omega) (by omega), R.w], R.sz, R.wl, R.ml⟩
theorem Ra.lt (R : Ra h x B M W) : x + 3 < h.next := lt_of_get R.r
theorem Ra.kp {h' : Hp} (R : Ra h x B M W) (K : Kp h h') : Ra h' x B M W := R.keep fun b h1 h2 => K.get b (by have := R.lt; omega)
theorem Ra.upd {h' : Hp} {fp fp' : List Nat} (R : Ra h x B M W) (U : Upd h h' fp fp') (hn : ∀ b ∈ fp, b < x ∨ x + 3 < b) : Ra h' x B M W := R.keep fun b h1 h2 => U.get b (by have := R.lt; omega) fun hm => by have := hn b hm; omega
theorem rnew {n : Int} (hq : ∀ h', Ra h' h.next (List.replicate (1024 * (max 1 (min n 64)).toNat) 0#8) (List.replicate (max 1 (min n 64)).toNat false) (List.replicate (max 1 (min n 64)).toNat false) → Kp h h' → h'.next = h.next + 4 → q (ptr (h.next + 3) 0) h') :
    WC T n_ram_New [.int .i64 n] h q := by
  obtain ⟨m, hm, h1, h2⟩ : ∃ m : Nat, (if 1 < if 64 < n then 64 else n then if 64 < n then 64 else n else 1) = (m : Int) ∧ 1 ≤ m ∧ m ≤ 64 := ⟨(max 1 (min n 64)).toNat, by omega, by omega, by omega⟩
  have e : (max 1 (min n 64)).toNat = m := by omega
  rw [e] at hq
  have e2 : ((m : Int) * 1024).toNat = 1024 * m := by omega
  rw [w_ram_New]
  simp (maxSteps := 1000000) (disch := first | assumption | ((try simp only [push_next, put_next, adv_next, List.length_cons, List.length_nil, List.length_map, List.length_set]); omega) | simp) [hm, e2]
  refine hq _ ⟨?_, ?_, ?_, ?_, ?_, ?_, ?_⟩ ((((((Kp.refl h).adv 4).put (Nat.le_refl _) _).put (by omega) _).put (by omega) _).put (by omega) _) (by simp)
  · rw [get_put_self (by simp)]
    simp
  · rw [get_put_ne (by omega), get_put_ne (by omega), get_put_ne (by omega), get_put_self (by simp)]
    simp
  · rw [get_put_ne (by omega), get_put_ne (by omega), get_put_self (by simp)]
    simp
  · rw [get_put_ne (by omega), get_put_self (by simp)]
    simp
  · simp
  · simp
  · simpa using ⟨h1, h2⟩
theorem rsize (R : Ra h x B M W) : WC T n_ram_Ram_Size [ptr (x + 3) 0] h q ↔ q (u32 (BitVec.ofNat 32 B.length)) h := by
  have hr := R.r
  rw [w_ram_Ram_Size]
  simp (maxSteps := 1000000) (disch := first | assumption | ((try simp only [push_next, put_next, adv_next, List.length_cons, List.length_nil, List.length_map, List.length_set]); omega) | simp) [hr]
theorem rthere {a : BitVec 32} {n : Int} (R : Ra h x B M W) (hn : -2 ^ 62 ≤ n ∧ n ≤ 2 ^ 62) : WC T n_ram_Ram_there [ptr (x + 3) 0, u32 a, .int .i64 n] h q ↔ q (.bool (thB B a n)) h := by
  have hr := R.r
  have hl := R.sz
  have hm := R.ml
  have ha := a.isLt
  rw [w_ram_Ram_there]
  by_cases c1 : 0 ≤ n
  · by_cases c2 : (a.toNat : Int) ≤ B.length
    · simp (maxSteps := 1000000) (disch := first | assumption | ((try simp only [push_next, put_next, adv_next, List.length_cons, List.length_nil, List.length_map, List.length_set]); omega) | simp) [hr, c1, c2, thB]
    · simp (maxSteps := 1000000) (disch := first | assumption | ((try simp only [push_next, put_next, adv_next, List.length_cons, List.length_nil, List.length_map, List.length_set]); omega) | simp) [hr, c1, c2, thB]
  · simp (maxSteps := 1000000) (disch := first | assumption | ((try simp only [push_next, put_next, adv_next, List.length_cons, List.length_nil, List.length_map, List.length_set]); omega) | simp) [hr, c1, thB]
theorem ev_th {a : BitVec 32} {n : Int} (hn : n = 1 ∨ n = 2 ∨ n = 4) : evB B a n = (decide ((a.toNat : Int) % n = 0) && thB B a n) := by
  unfold evB thB
  rw [← Bool.decide_and]
  congr 1
  apply propext
  constructor
  · rintro ⟨_, h1, h2⟩; exact ⟨h1, by omega⟩
  · rintro ⟨h1, h2⟩; exact ⟨hn, h1, by omega⟩
theorem reven {a : BitVec 32} {n : Int} (R : Ra h x B M W) (hn : -2 ^ 62 ≤ n ∧ n ≤ 2 ^ 62) : WC T n_ram_Ram_even [ptr (x + 3) 0, u32 a, .int .i64 n] h q ↔ q (.bool (evB B a n)) h := by
  rw [w_ram_Ram_even]
  have ht := fun q => rthere (q := q) (a := a) R hn
  by_cases c1 : n = 1
  · subst c1
    rw [ev_th (by omega)]
    simp (maxSteps := 1000000) (disch := first | assumption | ((try simp only [push_next, put_next, adv_next, List.length_cons, List.length_nil, List.length_map, List.length_set]); omega) | simp) [GC_of ht]
  by_cases c2 : n = 2
  · subst c2
    rw [ev_th (by omega)]
    have e : ((a.toNat : Int) % 2 = 0) ↔ a % 2#32 = 0#32 := by
      rw [← BitVec.toNat_inj]
      simp
      omega
    simp only [e]
    by_cases c3 : a % 2#32 = 0#32
    · simp (maxSteps := 1000000) (disch := first | assumption | ((try simp only [push_next, put_next, adv_next, List.length_cons, List.length_nil, List.length_map, List.length_set]); omega) | simp) [GC_of ht, c3]
    · simp (maxSteps := 1000000) (disch := first | assumption | ((try simp only [push_next, put_next, adv_next, List.length_cons, List.length_nil, List.length_map, List.length_set]); omega) | simp) [c3]
  by_cases c4 : n = 4
  · subst c4
    rw [ev_th (by omega)]
    have e : ((a.toNat : Int) % 4 = 0) ↔ a % 4#32 = 0#32 := by
      rw [← BitVec.toNat_inj]
      simp
      omega
    simp only [e]
    by_cases c3 : a % 4#32 = 0#32
    · simp (maxSteps := 1000000) (disch := first | assumption | ((try simp only [push_next, put_next, adv_next, List.length_cons, List.length_nil, List.length_map, List.length_set]); omega) | simp) [GC_of ht, c3]
    · simp (maxSteps := 1000000) (disch := first | assumption | ((try simp only [push_next, put_next, adv_next, List.length_cons, List.length_nil, List.length_map, List.length_set]); omega) | simp) [c3]
  simp (maxSteps := 1000000) (disch := first | assumption | ((try simp only [push_next, put_next, adv_next, List.length_cons, List.length_nil, List.length_map, List.length_set]); omega) | simp) [c1, c2, c4, evB]
/-- What is loaded. -/
theorem rload {a : BitVec 32} {n : Int} (R : Ra h x B M W) (hn : -2 ^ 62 ≤ n ∧ n ≤ 2 ^ 62) : WC T n_ram_Ram_Load [ptr (x + 3) 0, u32 a, .int .i64 n] h q ↔ q (.tuple #[u32 (if evB B a n = true then ldB B a.toNat n.toNat else 0#32), .bool (evB B a n)]) h := by
  have he := fun q => reven (q := q) (a := a) R hn
  have hr := R.r
  have hl := R.sz
  have hm := R.ml
  refine WC_iff ?_ q
  rw [w_ram_Ram_Load]
  cases hc : evB B a n with
  | false =>
    rw [hc] at he
    simp (maxSteps := 1000000) (disch := first | assumption | ((try simp only [push_next, put_next, adv_next, List.length_cons, List.length_nil, List.length_map, List.length_set]); omega) | simp) [GC_of he]
  | true =>
    rw [hc] at he
    simp only [evB, decide_eq_true_eq] at hc
    obtain ⟨m, rfl⟩ := Int.eq_ofNat_of_zero_le (show 0 ≤ n by omega)
    obtain ⟨a', c', hs, hc', S⟩ := (sees_b R.b).parte (a := a) (m := m) (by omega) (Nat.le_refl _)
    simp only [encB_sz] at hs
    simp (maxSteps := 1000000) (disch := first | assumption | ((try simp only [push_next, put_next, adv_next, List.length_cons, List.length_nil, List.length_map, List.length_set]); omega) | simp) [GC_of he, hr, hs]
    have hL : ((B.drop a.toNat).take m).length = m := by simp; omega
    unfold ldB
    generalize (B.drop a.toNat).take m = L at *
    refine G_loop (fun n e h' => ∃ us bs, n = bs.length ∧ L = us ++ bs ∧ e 8 = u32 (ldL us) ∧ e 25 = .slice a' m c' ∧ e 26 = .int .i64 m ∧ e 27 = .int .i64 us.length ∧ h' = h) ?_ m _ _ ⟨[], L, hL.symm, rfl, by simp [ldL], by simp, by simp, by simp, rfl⟩
    rintro n ih e h' ⟨us, bs, rfl, hx, e8, e25, e26, e27, rfl⟩
    cases bs with
    | nil =>
      have h9 : us.length = m := by rw [← hL, hx]; simp
      rw [List.append_nil] at hx
      subst hx
      simp (maxSteps := 1000000) (disch := first | assumption | ((try simp only [push_next, put_next, adv_next, List.length_cons, List.length_nil, List.length_map, List.length_set]); omega) | simp) [e27, e26, h9, e8]
    | cons c bs =>
      rw [hx] at hL
      have hlt : (us.length : Int) < m := by rw [← hL]; simp; omega
      rw [hx] at S
      obtain ⟨A, ro, C, hA, hg, hC⟩ := S.cell (f := u8) (fun _ => rfl) rfl
      subst hA
      simp (maxSteps := 1000000) (disch := first | assumption | ((try simp only [push_next, put_next, adv_next, List.length_cons, List.length_nil, List.length_map, List.length_set]); omega) | simp) [e27, e26, hlt, e25, hg, hC, e8]
      exact ih bs.length (by simp) _ _ ⟨us ++ [c], bs, rfl, by simp [hx], by simp [ldL_snoc], by simp [e25], by simp [e26], by simp, rfl⟩
/-- Which pages were written. -/
theorem rtouch {a : BitVec 32} {n : Nat} (R : Ra h x B M W) (hn : a.toNat + n ≤ B.length) (hq : ∀ h', Ra h' x B M (tch M W a.toNat n) → Upd h h' [x + 2] [x + 2] → q (.tuple #[]) h') : WC T n_ram_Ram_touch [ptr (x + 3) 0, u32 a, .int .i64 n] h q := by
  have hr := R.r
  have hl := R.sz
  have hm := R.ml
  have hwl := R.wl
  have ha := a.isLt
  rw [w_ram_Ram_touch]
  by_cases h0 : n = 0
  · subst h0
    simp (maxSteps := 1000000) (disch := first | assumption | ((try simp only [push_next, put_next, adv_next, List.length_cons, List.length_nil, List.length_map, List.length_set]); omega) | simp)
    have := hq h (by simpa [tch] using R) (Kp.upd (Kp.refl h) _)
    simpa using this
  have h1 : ¬ (n : Int) < 1 := by omega
  rw [tch_tpg _ _ h0] at hq
  have hlast : (a.toNat + n - 1) / 1024 < W.length := by omega
  have hi1 : (((a.toNat + n - 1) / 1024 : Nat) : Int) = ((a.toNat : Int) + n - 1) / 1024 := by omega
  have hi2 : ((a.toNat : Int) + n - 1).tdiv 1024 = ((a.toNat : Int) + n - 1) / 1024 := Int.tdiv_eq_ediv_of_nonneg (by omega)
  have hlo : a.toNat / 1024 ≤ (a.toNat + n - 1) / 1024 := Nat.div_le_div_right (by omega)
  simp (maxSteps := 1000000) (disch := first | assumption | ((try simp only [push_next, put_next, adv_next, List.length_cons, List.length_nil, List.length_map, List.length_set]); omega) | simp) [h1]
  refine G_loop (fun k e h' => ∃ p : Nat, k = (a.toNat + n - 1) / 1024 + 1 - p ∧ a.toNat / 1024 ≤ p ∧ p ≤ (a.toNat + n - 1) / 1024 + 1 ∧ e 0 = ptr (x + 3) 0 ∧ e 1 = u32 a ∧ e 2 = .int .i64 n ∧ e 6 = .int .i64 p ∧ Ra h' x B M (tpg M W (a.toNat / 1024) p) ∧ Upd h h' [x + 2] [x + 2]) ?_ ((a.toNat + n - 1) / 1024 + 1 - a.toNat / 1024) _ _ ⟨a.toNat / 1024, rfl, Nat.le_refl _, by omega, by simp, by simp, by simp, by simp, by rw [tpg_self]; exact R, Kp.upd (Kp.refl h) _⟩
  rintro k ih e h' ⟨p, rfl, p1, p2, e0, e1, e2, e6, R', U'⟩
  generalize hlastv : (a.toNat + n - 1) / 1024 = last at *
  by_cases hp : p ≤ last
  · have hpi : (p : Int) ≤ ((a.toNat : Int) + n - 1) / 1024 := by omega
    have hr' := R'.r
    have hw' := R'.w
    have hm' := R'.m
    have hlt := R'.lt
    have hW : ((tpg M W (a.toNat / 1024) p).map Value.bool)[p]? = some (.bool (W.getD p false)) := by
      rw [List.getElem?_map, tpg_at (by omega)]
      have : ¬ (a.toNat / 1024 ≤ p ∧ p < p) := by omega
      simp [this]
    have hM : (M.map Value.bool)[p]? = some (.bool (M.getD p false)) := by
      rw [List.getElem?_map, List.getElem?_eq_getElem (by omega)]
      simp [show p < M.length by omega]
    have hset : ((tpg M W (a.toNat / 1024) p).map Value.bool).set p (.bool (W.getD p false || M.getD p false)) = (tpg M W (a.toNat / 1024) (p + 1)).map Value.bool := by
      rw [← tpg_set p1 (by omega), List.map_set]
    have hWn : ((tpg M W (a.toNat / 1024) p).map Value.bool).length = M.length := by simp [hwl]
    have hMn : (M.map Value.bool).length = M.length := by simp
    have hpM : p < M.length := by omega
    have hp1 : p + 1 ≤ M.length := by omega
    have hfin : Ra (h'.put (x + 2) (some (.cells false ((tpg M W (a.toNat / 1024) (p + 1)).map Value.bool)))) x B M (tpg M W (a.toNat / 1024) (p + 1)) :=
      ⟨by rw [get_put_ne (by omega), R'.r], by rw [get_put_ne (by omega), R'.b], by rw [get_put_ne (by omega), R'.m], by rw [get_put_self (by omega)], R'.sz, by simp [hwl], R'.ml⟩
    have hst : ∀ v, over ((tpg M W (a.toNat / 1024) p).map Value.bool) p [v] = ((tpg M W (a.toNat / 1024) p).map Value.bool).set p v := fun v => over_set (by rw [hWn]; exact hpM)
    generalize (tpg M W (a.toNat / 1024) p).map Value.bool = WL at *
    generalize (tpg M W (a.toNat / 1024) (p + 1)).map Value.bool = WL2 at *
    generalize M.map Value.bool = ML at *
    generalize W.getD p false = w0 at *
    generalize M.getD p false = m0 at *
    have fin : ∀ e', e' 0 = ptr (x + 3) 0 → e' 1 = u32 a → e' 2 = .int .i64 n → e' 6 = .int .i64 ((p : Int) + 1) → G T (fin [] (some []) h.next q) c1_ram_Ram_touch.loop [Fr.block 0] e' (h'.put (x + 2) (some (.cells false WL2))) := fun e' f0 f1 f2 f6 =>
      ih (last + 1 - (p + 1)) (by omega) _ _ ⟨p + 1, rfl, by omega, by omega, f0, f1, f2, by simpa using f6, hfin, U'.put1⟩
    have hW2 : ∀ hh : p < WL.length, WL[p]'hh = .bool w0 := fun hh => by rw [List.getElem?_eq_getElem hh] at hW; exact Option.some.inj hW
    have hM2 : ∀ hh : p < ML.length, ML[p]'hh = .bool m0 := fun hh => by rw [List.getElem?_eq_getElem hh] at hM; exact Option.some.inj hM
    cases w0
    · simp only [Bool.false_or] at hset
      simp (maxSteps := 1000000) (disch := first | assumption | ((try simp only [push_next, put_next, adv_next, List.length_cons, List.length_nil, List.length_map, List.length_set]); omega) | simp) [e0, e1, e2, e6, hi2, hpi, hr', hw', hm', hW, hM, hW2, hM2, hst, hset, hWn, hMn, hp1, -over]
      exact fin _ (by simp [e0]) (by simp [e1]) (by simp [e2]) (by simp)
    · simp only [Bool.true_or] at hset
      simp (maxSteps := 1000000) (disch := first | assumption | ((try simp only [push_next, put_next, adv_next, List.length_cons, List.length_nil, List.length_map, List.length_set]); omega) | simp) [e0, e1, e2, e6, hi2, hpi, hr', hw', hm', hW, hM, hW2, hM2, hst, hset, hWn, hMn, hp1, -over]
      exact fin _ (by simp [e0]) (by simp [e1]) (by simp [e2]) (by simp)
  · have : p = last + 1 := by omega
    subst this
    have hpi : ¬ (last : Int) + 1 ≤ ((a.toNat : Int) + n - 1) / 1024 := by omega
    simp (maxSteps := 1000000) (disch := first | assumption | ((try simp only [push_next, put_next, adv_next, List.length_cons, List.length_nil, List.length_map, List.length_set]); omega) | simp) [e1, e2, e6, hi2, hpi]
    exact hq _ R' U'
/-- Bytes that are handed out. -/
theorem rbytes {a : BitVec 32} {n : Int} (R : Ra h x B M W) (hn : -2 ^ 62 ≤ n ∧ n ≤ 2 ^ 62) (hno : thB B a n = false → q (.tuple #[.slice none 0 0, .bool false]) h)
    (hyes : ∀ m : Nat, n = m → a.toNat + m ≤ B.length → thB B a n = true → ∀ a' c' h', Sees encB h' a' ((B.drop a.toNat).take m) → Kp h h' → (∀ A, a' = some A → h.next ≤ A.block) → m ≤ c' → ((B.drop a.toNat).take m = [] ∨ ∃ fp, Own encB h' (.slice a' m c') ((B.drop a.toNat).take m) fp ∧ ∀ b ∈ fp, h.next ≤ b) → q (.tuple #[.slice a' m c', .bool true]) h') : WC T n_ram_Ram_Bytes [ptr (x + 3) 0, u32 a, .int .i64 n] h q := by
  have ht := fun q => rthere (q := q) (a := a) R hn
  have hr := R.r
  have hl := R.sz
  have hm := R.ml
  rw [w_ram_Ram_Bytes]
  cases hc : thB B a n with
  | false =>
    rw [hc] at ht
    simp (maxSteps := 1000000) (disch := first | assumption | ((try simp only [push_next, put_next, adv_next, List.length_cons, List.length_nil, List.length_map, List.length_set]); omega) | simp) [GC_of ht]
    exact hno hc
  | true =>
    rw [hc] at ht
    have hc' := hc
    simp only [thB, decide_eq_true_eq] at hc
    obtain ⟨m, rfl⟩ := Int.eq_ofNat_of_zero_le hc.1
    obtain ⟨a', c', hs, hc2, S⟩ := (sees_b R.b).parte (a := a) (m := m) (by omega) (Nat.le_refl _)
    simp only [encB_sz] at hs
    have hL : ((B.drop a.toNat).take m).length = m := by simp; omega
    simp (maxSteps := 1000000) (disch := first | assumption | ((try simp only [push_next, put_next, adv_next, List.length_cons, List.length_nil, List.length_map, List.length_set]); omega) | simp) [GC_of ht, hr, hs]
    have hcl := clone_by (q := fun v h' => q (.tuple #[v, .bool true]) h') (c := c') S (by omega) fun a2 c2 h2 S2 K2 F2 O2 => by
      rw [hL] at O2 ⊢
      refine hyes m rfl (by omega) hc' a2 c2 h2 S2 K2 F2 ?_ O2
      rcases O2 with O2 | ⟨fp, O2, _⟩
      · rw [O2] at hL
        simp at hL
        omega
      · obtain ⟨a3, c3, h3, _, h4, _⟩ := O2.len
        simp only [Value.slice.injEq] at h3
        omega
    rw [hL] at hcl
    unfold GC
    refine GC_intro hcl fun v h1 hv => ?_
    simp (maxSteps := 1000000) (disch := first | assumption | ((try simp only [push_next, put_next, adv_next, List.length_cons, List.length_nil, List.length_map, List.length_set]); omega) | simp)
    exact hv
/-- Bytes that are put there. -/
theorem rput {a : BitVec 32} {l : By} {s : Option Addr} {c : Nat} (R : Ra h x B M W) (S : Sees encB h s l) (hb : l.length < 2 ^ 40) (hno : thB B a l.length = false → q (.bool false) h)
    (hyes : thB B a l.length = true → ∀ h', Ra h' x (ovB B a.toNat l) M (tch M W a.toNat l.length) → Upd h h' [x, x + 2] [x, x + 2] → q (.bool true) h') : WC T n_ram_Ram_Put [ptr (x + 3) 0, u32 a, .slice s l.length c] h q := by
  have ht := fun q => rthere (q := q) (a := a) (n := l.length) R (by omega)
  have hr := R.r
  have hl := R.sz
  have hm := R.ml
  have hlt := R.lt
  rw [w_ram_Ram_Put]
  cases hc : thB B a l.length with
  | false =>
    rw [hc] at ht
    simp (maxSteps := 1000000) (disch := first | assumption | ((try simp only [push_next, put_next, adv_next, List.length_cons, List.length_nil, List.length_map, List.length_set]); omega) | simp) [GC_of ht]
    exact hno hc
  | true =>
    rw [hc] at ht
    have hc' := hc
    simp only [thB, decide_eq_true_eq] at hc
    have hs := sliceV_lo' (sz := 1) (b := x) (o := 0) (n := B.length) (k := .u32) (lo := a.toNat) (by omega) (by omega)
    have hs' : sliceV 1 (.slice (some ⟨x, 0, none⟩) B.length B.length) (some (u32 a)) none none = some (.slice (some (if B.length = a.toNat then ⟨x, 0, none⟩ else ⟨x, a.toNat, none⟩)) (B.length - a.toNat) (B.length - a.toNat)) := by
      have e : u32 a = .int .u32 (a.toNat : Int) := rfl
      rw [e, hs]
      simp
    have hcp := cpy_in (c := B.length - a.toNat) (c' := c) R.b S (show a.toNat + l.length ≤ B.length by omega)
    have hR : Ra (h.put x (some (.cells false ((ovB B a.toNat l).map u8)))) x (ovB B a.toNat l) M W :=
      ⟨by rw [get_put_ne (by omega), R.r, ovB_length (by omega)], by rw [get_put_self (by omega)], by rw [get_put_ne (by omega), R.m], by rw [get_put_ne (by omega), R.w], by rw [ovB_length (by omega), R.sz], R.wl, R.ml⟩
    simp (maxSteps := 1000000) (disch := first | assumption | ((try simp only [push_next, put_next, adv_next, List.length_cons, List.length_nil, List.length_map, List.length_set]); omega) | simp) [GC_of ht, hr, hs', hcp]
    refine GC_intro (rtouch (q := fun v h' => v = .tuple #[] ∧ Ra h' x (ovB B a.toNat l) M (tch M W a.toNat l.length) ∧ Upd h h' [x, x + 2] [x, x + 2]) hR (by rw [ovB_length (by omega)]; omega) fun h2 R2 U2 => ⟨rfl, R2, ?_⟩) fun v h2 ⟨hv, R2, U2⟩ => ?_
    · refine ⟨?_, fun k hk hn => ?_, fun k hk => .inl hk⟩
      · have := U2.le; simpa using this
      · rw [U2.get k (by simpa using hk) (by simp at hn ⊢; exact hn.2), get_put_ne (by simp at hn; exact hn.1)]
    · subst hv
      simp (maxSteps := 1000000) (disch := first | assumption | ((try simp only [push_next, put_next, adv_next, List.length_cons, List.length_nil, List.length_map, List.length_set]); omega) | simp)
      exact hyes hc' _ R2 U2
/-- What is stored. -/
theorem rstore {a v : BitVec 32} {n : Int} (R : Ra h x B M W) (hn : -2 ^ 62 ≤ n ∧ n ≤ 2 ^ 62) (hno : evB B a n = false → q (.bool false) h)
    (hyes : evB B a n = true → ∀ h', Ra h' x (stB B a.toNat n.toNat v) M (tch M W a.toNat n.toNat) → Upd h h' [x, x + 2] [x, x + 2] → q (.bool true) h') : WC T n_ram_Ram_Store [ptr (x + 3) 0, u32 a, .int .i64 n, u32 v] h q := by
  have he := fun q => reven (q := q) (a := a) R hn
  have hr := R.r
  have hl := R.sz
  have hm := R.ml
  have hlt := R.lt
  have ha := a.isLt
  rw [w_ram_Ram_Store]
  cases hc : evB B a n with
  | false =>
    rw [hc] at he
    simp (maxSteps := 1000000) (disch := first | assumption | ((try simp only [push_next, put_next, adv_next, List.length_cons, List.length_nil, List.length_map, List.length_set]); omega) | simp) [GC_of he]
    exact hno hc
  | true =>
    rw [hc] at he
    have hc' := hc
    simp only [evB, decide_eq_true_eq] at hc
    obtain ⟨m, rfl⟩ := Int.eq_ofNat_of_zero_le (show 0 ≤ n by omega)
    simp (maxSteps := 1000000) (disch := first | assumption | ((try simp only [push_next, put_next, adv_next, List.length_cons, List.length_nil, List.length_map, List.length_set]); omega) | simp) [GC_of he]
    refine G_loop (fun j e h' => ∃ k : Nat, j = m - k ∧ k ≤ m ∧ e 0 = ptr (x + 3) 0 ∧ e 1 = u32 a ∧ e 2 = .int .i64 m ∧ e 3 = u32 v ∧ e 15 = .int .i64 m ∧ e 16 = .int .i64 k ∧ Ra h' x (ovB B (a.toNat + m - k) ((wdB v m).drop (m - k))) M W ∧ Upd h h' [x, x + 2] [x, x + 2]) ?_ m _ _ ⟨0, rfl, Nat.zero_le _, by simp, by simp, by simp, by simp, by simp, by simp, by rw [List.drop_of_length_le (by simp), ovB_nil]; exact R, Kp.upd (Kp.refl h) _⟩
    rintro j ih e h' ⟨k, rfl, hk, e0, e1, e2, e3, e15, e16, R', U'⟩
    by_cases hkm : k < m
    · have hki : (k : Int) < m := by omega
      have hr' := R'.r
      have hb' := R'.b
      have hlt' := R'.lt
      have hlen : (ovB B (a.toNat + m - k) ((wdB v m).drop (m - k))).length = B.length := ovB_length (by simp; omega)
      have hset := ovB_set (B := B) (l := (wdB v m).drop (m - k)) (p := a.toNat + m - 1 - k) (c := (v >>> (8 * k)).setWidth 8) (by omega)
      rw [show a.toNat + m - 1 - k + 1 = a.toNat + m - k by omega, ← wdB_drop hkm] at hset
      have hfin : Ra (h'.put x (some (.cells false ((ovB B (a.toNat + m - (k + 1)) ((wdB v m).drop (m - (k + 1)))).map u8)))) x (ovB B (a.toNat + m - (k + 1)) ((wdB v m).drop (m - (k + 1)))) M W := by
        have hlen2 : (ovB B (a.toNat + m - (k + 1)) ((wdB v m).drop (m - (k + 1)))).length = B.length := ovB_length (by simp; omega)
        exact ⟨by rw [get_put_ne (by omega), R'.r, hlen, hlen2], by rw [get_put_self (by omega)], by rw [get_put_ne (by omega), R'.m], by rw [get_put_ne (by omega), R'.w], by rw [hlen2, R.sz], R.wl, R.ml⟩
      rw [show a.toNat + m - 1 - k = a.toNat + m - (k + 1) by omega, show m - 1 - k = m - (k + 1) by omega] at hset
      rw [hlen] at hr'
      have hst : over ((ovB B (a.toNat + m - k) ((wdB v m).drop (m - k))).map u8) (a.toNat + m - (k + 1)) [u8 ((v >>> (8 * k)).setWidth 8)] = (ovB B (a.toNat + m - (k + 1)) ((wdB v m).drop (m - (k + 1)))).map u8 := by
        rw [over_set (by simp [hlen]; omega), ← List.map_set, hset]
      have hix : ((a.toNat : Int) + m - 1 - k).toNat = a.toNat + m - (k + 1) := by omega
      have hbl : a.toNat + m - (k + 1) + 1 ≤ B.length := by omega
      have hsh : binV .shr (u32 v) (.int .i64 (8 * (k : Int))) = some (u32 (v >>> (8 * k))) := by
        have := shr_u32_n v .i64 (8 * k)
        simpa using this
      have hwr := wr_ok hb' (o := a.toNat + m - (k + 1)) (vs := [u8 ((v >>> (8 * k)).setWidth 8)]) (by simp [hlen]; omega) rfl
      rw [hst] at hwr
      simp (maxSteps := 1000000) (disch := first | assumption | ((try simp only [push_next, put_next, adv_next, List.length_cons, List.length_nil, List.length_map, List.length_set]); omega) | simp) [e0, e1, e2, e3, e15, e16, hki, hr', hb', hix, hsh, hwr, -over, -Hp.wr]
      exact ih (m - (k + 1)) (by omega) _ _ ⟨k + 1, rfl, by omega, by simp [e0], by simp [e1], by simp [e2], by simp [e3], by simp [e15], by simp, hfin, ⟨by simpa using U'.le, fun b hb hn => by rw [get_put_ne (by simp at hn; omega), U'.get b hb hn], fun b hb => .inl hb⟩⟩
    · have : k = m := by omega
      subst this
      simp (maxSteps := 1000000) (disch := first | assumption | ((try simp only [push_next, put_next, adv_next, List.length_cons, List.length_nil, List.length_map, List.length_set]); omega) | simp) [e15, e16, e0, e1, e2]
      rw [show a.toNat + k - k = a.toNat by omega, Nat.sub_self, List.drop_zero] at R'
      refine GC_intro (rtouch (q := fun v' h2 => v' = .tuple #[] ∧ Ra h2 x (stB B a.toNat k v) M (tch M W a.toNat k) ∧ Upd h h2 [x, x + 2] [x, x + 2]) R' (by rw [ovB_length (by simp; omega)]; omega) fun h2 R2 U2 => ⟨rfl, R2, ?_⟩) fun v' h2 ⟨hv, R2, U2⟩ => ?_
      · exact ⟨Nat.le_trans U'.le U2.le, fun b hb hn => by rw [U2.get b (Nat.lt_of_lt_of_le hb U'.le) (by simp at hn ⊢; exact hn.2), U'.get b hb hn], fun b hb => .inl hb⟩
      · subst hv
        simp (maxSteps := 1000000) (disch := first | assumption | ((try simp only [push_next, put_next, adv_next, List.length_cons, List.length_nil, List.length_map, List.length_set]); omega) | simp)
        exact hyes hc' _ (by simpa using R2) U2
end
end Go.Proofs.Ytpdfdemoflofhaa.Cd

/- The wheel as a state. -/
set_option maxRecDepth 1000000
set_option maxHeartbeats 4000000
set_option linter.unusedSimpArgs false
set_option linter.unusedVariables false
namespace Go.Proofs.Ytpdfdemoflofhaa.Cd
open Go Go.Dx
/-- A wheel, as what it holds. -/
structure WhS where
  L : List Ev
  n : Int
def WhS.arm (w : WhS) (d t : Int) : WhS := if wbad d t = true then w else ⟨insl (·.at') ⟨t, d, w.n⟩ (wcan d w.L), IntKind.i64.wrap (w.n + 1)⟩
def WhS.can (w : WhS) (d : Int) : WhS := ⟨wcan d w.L, w.n⟩
structure WhA (h : Hp) (w : Nat) (S : WhS) (fp : List Nat) : Prop where
  wh : Wh h w S.L S.n fp
  wi : WI S.L
section
variable {h : Hp} {q : Value → Hp → Prop} {w : Nat} {S : WhS} {fp : List Nat} {dv now : Int}
theorem WhA.keep {h' : Hp} (A : WhA h w S fp) (hk : ∀ b ∈ w :: fp, h'.get b = h.get b) : WhA h' w S fp := ⟨A.wh.keep hk, A.wi⟩
theorem WhA.kp {h' : Hp} (A : WhA h w S fp) (K : Kp h h') : WhA h' w S fp := ⟨A.wh.kp K, A.wi⟩
theorem WhA.live (A : WhA h w S fp) : ∀ b ∈ w :: fp, b < h.next := A.wh.live
theorem warmS {t : Int} (A : WhA h w S fp) (hq : ∀ h' fp', WhA h' w (S.arm dv t) fp' → Upd h h' (w :: fp) (w :: fp') → q (.bool (!wbad dv t)) h') : WC T n_wheel_Wheel_Arm [ptr w 0, .int .i64 dv, .int .i64 t] h q := by
  refine warmI A.wh A.wi (fun hb => ?_) fun hb h' fp' I W' U => ?_
  · have := hq h fp (by unfold WhS.arm; rw [if_pos hb]; exact A) .refl
    rw [hb] at this
    exact this
  · have := hq h' fp' (by unfold WhS.arm; rw [if_neg (by simp [hb])]; exact ⟨W', I⟩) U
    rw [hb] at this
    exact this
theorem takeS {t : Int} (A : WhA h w S fp) (hno : (∀ x ∈ S.L.head?, t < x.at') → ∀ h', Kp h h' → q (.tuple #[.agg #[.int .i64 0, .int .i64 0, .int .i64 0], .bool false]) h')
    (hyes : ∀ x B, S.L = x :: B → x.at' ≤ t → ∀ h' fp', WhA h' w ⟨B, S.n⟩ fp' → Upd h h' (w :: fp) (w :: fp') → q (.tuple #[.agg #[.int .i64 x.at', .int .i64 x.dev, .int .i64 x.seq], .bool true]) h') : WC T n_wheel_Wheel_Take [ptr w 0, .int .i64 t] h q := by
  have := A.wi.len
  refine wtake A.wh (by omega) hno fun x B hx ht h' fp' W' U => hyes x B hx ht h' fp' ⟨W', ?_⟩ U
  have := A.wi
  rw [hx] at this
  exact this.tail
end
end Go.Proofs.Ytpdfdemoflofhaa.Cd

/- Moves of memory: what each function does. -/
set_option maxRecDepth 1000000
set_option maxHeartbeats 4000000
set_option linter.unusedSimpArgs false
set_option linter.unusedVariables false
namespace Go.Proofs.Ytpdfdemoflofhaa.Cd
open Go Go.Dx
/-- What moves, as words. -/
structure DmS where
  f : BitVec 32
  t : BitVec 32
  c : BitVec 32
  s : BitVec 32
def DmS.rd (D : DmS) (a : BitVec 32) : BitVec 32 := if a = 0#32 then D.f else if a = 4#32 then D.t else if a = 8#32 then D.c else if a = 16#32 then D.s else 0#32
def dat (a : BitVec 32) : Bool := decide (a = 0#32 ∨ a = 4#32 ∨ a = 8#32 ∨ a = 12#32 ∨ a = 16#32)
/-- How long a move takes. -/
def dtime (c : BitVec 32) : Int := ((if 4096#32 < c then 4096#32 else c).toNat : Int) / 4 + 1
def DmS.go (D : DmS) (v : BitVec 32) : Bool := v &&& 1#32 != 0#32 && D.s &&& 1#32 == 0#32
def DmS.wr (D : DmS) (a v : BitVec 32) : DmS :=
  if a = 0#32 then { D with f := v } else if a = 4#32 then { D with t := v } else if a = 8#32 then { D with c := v }
  else if a = 12#32 then (if D.go v = true then { D with s := D.s ||| 1#32 } else D) else if a = 16#32 then { D with s := D.s &&& ~~~(v &&& 6#32) } else D
def DmS.wrw (D : DmS) (W : WhS) (d : Int) (a v : BitVec 32) (now : Int) : WhS := if a = 12#32 ∧ D.go v = true then W.arm d (now + dtime D.c) else W
/-- May it be moved? -/
def DmS.ok (D : DmS) (B : By) : Bool := decide (D.c.toNat ≤ 4096) && thB B D.f D.c.toNat && thB B D.t D.c.toNat
def DmS.fire (D : DmS) (B : By) : DmS := { D with s := if D.ok B = true then (D.s &&& 4294967294#32) ||| 2#32 else ((D.s &&& 4294967294#32) ||| 2#32) ||| 4#32 }
def DmS.mem (D : DmS) (B : By) : By := if D.ok B = true then ovB B D.t.toNat ((B.drop D.f.toNat).take D.c.toNat) else B
def DmS.wrt (D : DmS) (B : By) (M W : List Bool) : List Bool := if D.ok B = true then tch M W D.t.toNat D.c.toNat else W
def Dm (h : Hp) (d w x : Nat) (v : Int) (D : DmS) : Prop := h.get d = some (.cells false [.int .i64 v, ptr w 0, ptr (x + 3) 0, u32 D.f, u32 D.t, u32 D.c, u32 D.s])
section
variable {h : Hp} {q : Value → Hp → Prop} {d w x : Nat} {B : By} {M W : List Bool} {S : WhS} {fp : List Nat} {D : DmS} {dv now : Int} {a v : BitVec 32}
theorem dnew (hw : w < h.next) : WC T n_dma_New [.int .i64 dv, ptr w 0, ptr (x + 3) 0] h q ↔ q (ptr h.next 0) (h.push (.cells false [.int .i64 dv, ptr w 0, ptr (x + 3) 0, u32 0#32, u32 0#32, u32 0#32, u32 0#32])) := by
  rw [w_dma_New]
  simp (maxSteps := 1000000) (disch := first | assumption | ((try simp only [push_next, put_next, adv_next, List.length_cons, List.length_nil, List.length_map, List.length_set]); omega) | simp)
theorem dnew_nil : WC T n_dma_New [.int .i64 dv, ptr w 0, .pointer none] h q ↔ q (.pointer none) h := by
  rw [w_dma_New]
  simp (maxSteps := 1000000) (disch := first | assumption | ((try simp only [push_next, put_next, adv_next, List.length_cons, List.length_nil, List.length_map, List.length_set]); omega) | simp)
theorem dread (A : Dm h d w x dv D) : WC T n_dma_Dma_Read [ptr d 0, u32 a] h q ↔ q (.tuple #[u32 (D.rd a), .bool (dat a)]) h := by
  unfold Dm at A
  rw [w_dma_Dma_Read]
  by_cases a0 : a = 0#32
  · subst a0; simp (maxSteps := 1000000) (disch := first | assumption | ((try simp only [push_next, put_next, adv_next, List.length_cons, List.length_nil, List.length_map, List.length_set]); omega) | simp) [A, DmS.rd, dat]
  by_cases a4 : a = 4#32
  · subst a4; simp (maxSteps := 1000000) (disch := first | assumption | ((try simp only [push_next, put_next, adv_next, List.length_cons, List.length_nil, List.length_map, List.length_set]); omega) | simp) [A, DmS.rd, dat]
  by_cases a8 : a = 8#32
  · subst a8; simp (maxSteps := 1000000) (disch := first | assumption | ((try simp only [push_next, put_next, adv_next, List.length_cons, List.length_nil, List.length_map, List.length_set]); omega) | simp) [A, DmS.rd, dat]
  by_cases a12 : a = 12#32
  · subst a12; simp (maxSteps := 1000000) (disch := first | assumption | ((try simp only [push_next, put_next, adv_next, List.length_cons, List.length_nil, List.length_map, List.length_set]); omega) | simp) [A, DmS.rd, dat]
  by_cases a16 : a = 16#32
  · subst a16; simp (maxSteps := 1000000) (disch := first | assumption | ((try simp only [push_next, put_next, adv_next, List.length_cons, List.length_nil, List.length_map, List.length_set]); omega) | simp) [A, DmS.rd, dat]
  simp (maxSteps := 1000000) (disch := first | assumption | ((try simp only [push_next, put_next, adv_next, List.length_cons, List.length_nil, List.length_map, List.length_set]); omega) | simp) [A, a0, a4, a8, a12, a16, DmS.rd, dat]
theorem dline (A : Dm h d w x dv D) : WC T n_dma_Dma_Line [ptr d 0] h q ↔ q (.bool (D.s &&& 6#32 != 0#32)) h := by
  unfold Dm at A
  rw [w_dma_Dma_Line]
  simp (maxSteps := 1000000) (disch := first | assumption | ((try simp only [push_next, put_next, adv_next, List.length_cons, List.length_nil, List.length_map, List.length_set]); omega) | simp) [A]
theorem dbegin (A : Dm h d w x dv D) (Q : WhA h w S fp) (hd : d ∉ w :: fp) (hn : 0 ≤ now ∧ now ≤ 2 ^ 60)
    (hno : D.s &&& 1#32 ≠ 0#32 → q (.tuple #[]) h)
    (hyes : D.s &&& 1#32 = 0#32 → ∀ h' fp', Dm h' d w x dv { D with s := D.s ||| 1#32 } → WhA h' w (S.arm dv (now + dtime D.c)) fp' → Upd h h' (d :: w :: fp) (d :: w :: fp') → d ∉ w :: fp' → q (.tuple #[]) h') :
    WC T n_dma_Dma_begin [ptr d 0, .int .i64 now] h q := by
  unfold Dm at A
  have hl := lt_of_get A
  rw [w_dma_Dma_begin]
  by_cases c1 : D.s &&& 1#32 = 0#32
  · simp (maxSteps := 1000000) (disch := first | assumption | ((try simp only [push_next, put_next, adv_next, List.length_cons, List.length_nil, List.length_map, List.length_set]); omega) | simp) [A, c1]
    have e : now + ((if 4096#32 < D.c then 4096#32 else D.c).toNat : Int) / 4 + 1 = now + dtime D.c := by unfold dtime; omega
    rw [e]
    have hdw : ∀ b ∈ w :: fp, b ≠ d := fun b hb e => hd (e ▸ hb)
    have Q1 := Q.keep (h' := h.put d (some (.cells false [.int .i64 dv, ptr w 0, ptr (x + 3) 0, u32 D.f, u32 D.t, u32 D.c, u32 (D.s ||| 1#32)]))) fun b hb => get_put_ne (hdw b hb)
    refine GC_intro (warmS (q := fun v h' => ∃ fp', Dm h' d w x dv { D with s := D.s ||| 1#32 } ∧ WhA h' w (S.arm dv (now + dtime D.c)) fp' ∧ Upd h h' (d :: w :: fp) (d :: w :: fp') ∧ d ∉ w :: fp') Q1 fun h2 fp2 Q2 U2 => ⟨fp2, ?_, Q2, ?_, fun hm => ?_⟩) fun v h2 ⟨fp2, D2, Q2, U2, N2⟩ => ?_
    · unfold Dm
      rw [U2.get d (by simpa using hl) hd, get_put_self hl]
    · refine ⟨by simpa using U2.le, fun b hb hn => ?_, fun b hb => ?_⟩
      · rw [U2.get b (by simpa using hb) (fun hm => hn (List.mem_cons_of_mem _ hm)), get_put_ne (fun e => hn (by rw [e]; simp))]
      · rcases List.mem_cons.1 hb with rfl | hb
        · exact .inl (by simp)
        · rcases U2.sub b hb with h5 | h5
          · exact .inl (List.mem_cons_of_mem _ h5)
          · exact .inr (by simpa using h5)
    · rcases U2.sub d hm with h5 | h5
      · exact hd h5
      · simp at h5; omega
    · simp (maxSteps := 1000000) (disch := first | assumption | ((try simp only [push_next, put_next, adv_next, List.length_cons, List.length_nil, List.length_map, List.length_set]); omega) | simp)
      exact hyes c1 _ _ D2 Q2 U2 N2
  · simp (maxSteps := 1000000) (disch := first | assumption | ((try simp only [push_next, put_next, adv_next, List.length_cons, List.length_nil, List.length_map, List.length_set]); omega) | simp) [A, c1]
    exact hno c1
theorem dwrite (A : Dm h d w x dv D) (Q : WhA h w S fp) (hd : d ∉ w :: fp) (hn : 0 ≤ now ∧ now ≤ 2 ^ 60)
    (hq : ∀ h' fp', Dm h' d w x dv (D.wr a v) → WhA h' w (D.wrw S dv a v now) fp' → Upd h h' (d :: w :: fp) (d :: w :: fp') → d ∉ w :: fp' → q (.bool (dat a)) h') :
    WC T n_dma_Dma_Write [ptr d 0, u32 a, u32 v, .int .i64 now] h q := by
  have A0 := A
  unfold Dm at A
  have hl := lt_of_get A
  have hdw : ∀ b ∈ w :: fp, b ≠ d := fun b hb e => hd (e ▸ hb)
  have key : ∀ D' : DmS, ∀ o, o = Ob.cells false [.int .i64 dv, ptr w 0, ptr (x + 3) 0, u32 D'.f, u32 D'.t, u32 D'.c, u32 D'.s] → Dm (h.put d (some o)) d w x dv D' ∧ WhA (h.put d (some o)) w S fp ∧ Upd h (h.put d (some o)) (d :: w :: fp) (d :: w :: fp) := fun D' o ho => by
    subst ho
    refine ⟨by unfold Dm; rw [get_put_self hl], Q.keep fun b hb => get_put_ne (hdw b hb), ⟨by simp, fun b hb hn => get_put_ne fun e => hn (by rw [e]; simp), fun b hb => .inl hb⟩⟩
  rw [w_dma_Dma_Write]
  by_cases a0 : a = 0#32
  · subst a0
    simp (maxSteps := 1000000) (disch := first | assumption | ((try simp only [push_next, put_next, adv_next, List.length_cons, List.length_nil, List.length_map, List.length_set]); omega) | simp) [A]
    obtain ⟨k1, k2, k3⟩ := key { D with f := v } _ rfl
    exact hq _ fp (by simpa [DmS.wr] using k1) (by simpa [DmS.wrw] using k2) k3 hd
  by_cases a4 : a = 4#32
  · subst a4
    simp (maxSteps := 1000000) (disch := first | assumption | ((try simp only [push_next, put_next, adv_next, List.length_cons, List.length_nil, List.length_map, List.length_set]); omega) | simp) [A]
    obtain ⟨k1, k2, k3⟩ := key { D with t := v } _ rfl
    exact hq _ fp (by simpa [DmS.wr] using k1) (by simpa [DmS.wrw] using k2) k3 hd
  by_cases a8 : a = 8#32
  · subst a8
    simp (maxSteps := 1000000) (disch := first | assumption | ((try simp only [push_next, put_next, adv_next, List.length_cons, List.length_nil, List.length_map, List.length_set]); omega) | simp) [A]
    obtain ⟨k1, k2, k3⟩ := key { D with c := v } _ rfl
    exact hq _ fp (by simpa [DmS.wr] using k1) (by simpa [DmS.wrw] using k2) k3 hd
  by_cases a16 : a = 16#32
  · subst a16
    simp (maxSteps := 1000000) (disch := first | assumption | ((try simp only [push_next, put_next, adv_next, List.length_cons, List.length_nil, List.length_map, List.length_set]); omega) | simp) [A]
    obtain ⟨k1, k2, k3⟩ := key { D with s := D.s &&& ~~~(v &&& 6#32) } _ rfl
    exact hq _ fp (by simpa [DmS.wr] using k1) (by simpa [DmS.wrw] using k2) k3 hd
  by_cases a12 : a = 12#32
  · subst a12
    by_cases v1 : v &&& 1#32 = 0#32
    · simp (maxSteps := 1000000) (disch := first | assumption | ((try simp only [push_next, put_next, adv_next, List.length_cons, List.length_nil, List.length_map, List.length_set]); omega) | simp) [A, v1]
      exact hq _ fp (by simpa [DmS.wr, DmS.go, v1] using A0) (by simpa [DmS.wrw, DmS.go, v1] using Q) (Kp.upd (Kp.refl h) _) hd
    · simp (maxSteps := 1000000) (disch := first | assumption | ((try simp only [push_next, put_next, adv_next, List.length_cons, List.length_nil, List.length_map, List.length_set]); omega) | simp) [A, v1]
      refine GC_intro (dbegin (q := fun u h' => ∃ fp', Dm h' d w x dv (D.wr 12#32 v) ∧ WhA h' w (D.wrw S dv 12#32 v now) fp' ∧ Upd h h' (d :: w :: fp) (d :: w :: fp') ∧ d ∉ w :: fp') A0 Q hd hn (fun hs => ⟨fp, ?_, ?_, Kp.upd (Kp.refl h) _, hd⟩) fun hs h' fp' k1 k2 k3 k4 => ⟨fp', ?_, ?_, k3, k4⟩) fun u h' ⟨fp', k1, k2, k3, k4⟩ => ?_
      · simpa [DmS.wr, DmS.go, hs] using A0
      · simpa [DmS.wrw, DmS.go, hs] using Q
      · simpa [DmS.wr, DmS.go, hs, v1] using k1
      · simpa [DmS.wrw, DmS.go, hs, v1] using k2
      · simp (maxSteps := 1000000) (disch := first | assumption | ((try simp only [push_next, put_next, adv_next, List.length_cons, List.length_nil, List.length_map, List.length_set]); omega) | simp)
        exact hq _ _ k1 k2 k3 k4
  simp (maxSteps := 1000000) (disch := first | assumption | ((try simp only [push_next, put_next, adv_next, List.length_cons, List.length_nil, List.length_map, List.length_set]); omega) | simp) [A, a0, a4, a8, a12, a16]
  have := hq h fp (by simpa [DmS.wr, a0, a4, a8, a12, a16] using A0) (by simpa [DmS.wrw, a12] using Q) (Kp.upd (Kp.refl h) _) hd
  simpa [dat, a0, a4, a8, a12, a16] using this
theorem dmove (A : Dm h d w x dv D) (R : Ra h x B M W) (hno : D.ok B = false → ∀ h', Kp h h' → q (.bool false) h')
    (hyes : D.ok B = true → ∀ h', Ra h' x (D.mem B) M (D.wrt B M W) → Upd h h' [x, x + 2] [x, x + 2] → q (.bool true) h') : WC T n_dma_Dma_move [ptr d 0] h q := by
  unfold Dm at A
  have hc := D.c.isLt
  have hl := lt_of_get A
  rw [w_dma_Dma_move]
  by_cases c1 : 4096#32 < D.c
  · have : ¬ D.c.toNat ≤ 4096 := by
      have := BitVec.lt_def.1 c1
      simp at this
      omega
    simp (maxSteps := 1000000) (disch := first | assumption | ((try simp only [push_next, put_next, adv_next, List.length_cons, List.length_nil, List.length_map, List.length_set]); omega) | simp) [A, c1]
    exact hno (by simp [DmS.ok, this]) _ (.refl _)
  · have c2 : D.c.toNat ≤ 4096 := by
      rw [BitVec.lt_def] at c1
      simp at c1
      omega
    simp (maxSteps := 1000000) (disch := first | assumption | ((try simp only [push_next, put_next, adv_next, List.length_cons, List.length_nil, List.length_map, List.length_set]); omega) | simp) [A, c1]
    refine GC_intro (rbytes (q := fun v h' => (thB B D.f D.c.toNat = false ∧ v = .tuple #[.slice none 0 0, .bool false] ∧ h' = h) ∨ ∃ a' c', thB B D.f D.c.toNat = true ∧ v = .tuple #[.slice a' D.c.toNat c', .bool true] ∧ Sees encB h' a' ((B.drop D.f.toNat).take D.c.toNat) ∧ Kp h h' ∧ D.f.toNat + D.c.toNat ≤ B.length) R (by omega) (fun hb => .inl ⟨hb, rfl, rfl⟩) fun m hm hle hb a' c' h' S K F hc O => .inr ?_) fun v h1 hv => ?_
    · have : m = D.c.toNat := by omega
      subst this
      exact ⟨a', c', hb, rfl, S, K, hle⟩
    · rcases hv with ⟨hb, rfl, rfl⟩ | ⟨a', c', hb, rfl, S, K, hle⟩
      · simp (maxSteps := 1000000) (disch := first | assumption | ((try simp only [push_next, put_next, adv_next, List.length_cons, List.length_nil, List.length_map, List.length_set]); omega) | simp)
        exact hno (by simp [DmS.ok, hb]) _ (.refl _)
      · have A1 : h1.get d = _ := (K.get d hl).trans A
        have R1 := R.kp K
        have hL : ((B.drop D.f.toNat).take D.c.toNat).length = D.c.toNat := by simp; omega
        simp (maxSteps := 1000000) (disch := first | assumption | ((try simp only [push_next, put_next, adv_next, List.length_cons, List.length_nil, List.length_map, List.length_set]); omega) | simp) [A1]
        have hp := rput (a := D.t) (c := c') (q := fun v h' => (D.ok B = false ∧ v = .bool false ∧ Kp h h') ∨ (D.ok B = true ∧ v = .bool true ∧ Ra h' x (D.mem B) M (D.wrt B M W) ∧ Upd h h' [x, x + 2] [x, x + 2])) R1 S (by omega) (fun ht => .inl ⟨by rw [hL] at ht; simp [DmS.ok, ht], rfl, K⟩) fun ht h2 R2 U2 => .inr ?_
        · rw [hL] at hp
          refine GC_intro hp fun v h2 hv => ?_
          rcases hv with ⟨ho, rfl, K2⟩ | ⟨ho, rfl, R2, U2⟩
          · simp (maxSteps := 1000000) (disch := first | assumption | ((try simp only [push_next, put_next, adv_next, List.length_cons, List.length_nil, List.length_map, List.length_set]); omega) | simp)
            exact hno ho _ K2
          · simp (maxSteps := 1000000) (disch := first | assumption | ((try simp only [push_next, put_next, adv_next, List.length_cons, List.length_nil, List.length_map, List.length_set]); omega) | simp)
            exact hyes ho _ R2 U2
        · rw [hL] at ht R2
          have ho : D.ok B = true := by simp [DmS.ok, ht, hb, c2]
          refine ⟨ho, rfl, ?_, (K.upd _).trans U2⟩
          unfold DmS.mem DmS.wrt
          rw [if_pos ho, if_pos ho]
          exact R2
theorem dfire (A : Dm h d w x dv D) (R : Ra h x B M W) (hd : d < x ∨ x + 3 < d) (hq : ∀ h', Dm h' d w x dv (D.fire B) → Ra h' x (D.mem B) M (D.wrt B M W) → Upd h h' [d, x, x + 2] [d, x, x + 2] → q (.tuple #[]) h') :
    WC T n_dma_Dma_Fire [ptr d 0, .int .i64 now] h q := by
  have A0 := A
  unfold Dm at A
  have hl := lt_of_get A
  rw [w_dma_Dma_Fire]
  simp (maxSteps := 1000000) (disch := first | assumption | ((try simp only [push_next, put_next, adv_next, List.length_cons, List.length_nil, List.length_map, List.length_set]); omega) | simp) [A]
  have D1 : Dm (h.put d (some (.cells false [.int .i64 dv, ptr w 0, ptr (x + 3) 0, u32 D.f, u32 D.t, u32 D.c, u32 (D.s &&& 4294967294#32 ||| 2#32)]))) d w x dv { D with s := D.s &&& 4294967294#32 ||| 2#32 } := by
    unfold Dm
    rw [get_put_self hl]
  have R1 : Ra (h.put d (some (.cells false [.int .i64 dv, ptr w 0, ptr (x + 3) 0, u32 D.f, u32 D.t, u32 D.c, u32 (D.s &&& 4294967294#32 ||| 2#32)]))) x B M W := R.keep fun b h1 h2 => get_put_ne (by omega)
  have U1 : Upd h (h.put d (some (.cells false [.int .i64 dv, ptr w 0, ptr (x + 3) 0, u32 D.f, u32 D.t, u32 D.c, u32 (D.s &&& 4294967294#32 ||| 2#32)]))) [d, x, x + 2] [d, x, x + 2] := ⟨by simp, fun b hb hn => get_put_ne (by simp at hn; exact hn.1), fun b hb => .inl hb⟩
  generalize h.put d (some (.cells false [.int .i64 dv, ptr w 0, ptr (x + 3) 0, u32 D.f, u32 D.t, u32 D.c, u32 (D.s &&& 4294967294#32 ||| 2#32)])) = h1 at *
  refine GC_intro (dmove (q := fun v h' => (D.ok B = false ∧ v = .bool false ∧ Kp h1 h') ∨ (D.ok B = true ∧ v = .bool true ∧ Ra h' x (D.mem B) M (D.wrt B M W) ∧ Upd h1 h' [x, x + 2] [x, x + 2])) D1 R1 (fun ho h' K => .inl ⟨ho, rfl, K⟩) fun ho h' R2 U2 => .inr ⟨ho, rfl, R2, U2⟩) fun v h2 hv => ?_
  have D1' := D1
  unfold Dm at D1'
  have hl1 := lt_of_get D1'
  rcases hv with ⟨ho, rfl, K⟩ | ⟨ho, rfl, R2, U2⟩
  · have D2 : h2.get d = _ := (K.get d hl1).trans D1'
    have hl2 := lt_of_get D2
    simp (maxSteps := 1000000) (disch := first | assumption | ((try simp only [push_next, put_next, adv_next, List.length_cons, List.length_nil, List.length_map, List.length_set]); omega) | simp) [D2]
    refine hq _ ?_ ?_ ?_
    · unfold Dm
      rw [get_put_self hl2]
      simp [DmS.fire, ho]
    · simp only [DmS.mem, DmS.wrt, ho]
      exact (R1.kp K).keep fun b h1 h2 => get_put_ne (by omega)
    · refine U1.trans ⟨by simpa using K.le, fun b hb hn => ?_, fun b hb => .inl hb⟩
      rw [get_put_ne (by simp at hn; exact hn.1), K.get b hb]
  · simp (maxSteps := 1000000) (disch := first | assumption | ((try simp only [push_next, put_next, adv_next, List.length_cons, List.length_nil, List.length_map, List.length_set]); omega) | simp)
    refine hq _ ?_ R2 (U1.trans ⟨U2.le, fun b hb hn => U2.get b hb (by simp at hn ⊢; exact hn.2), fun b hb => .inl hb⟩)
    unfold Dm
    rw [U2.get d hl1 (by simp; omega), D1']
    simp [DmS.fire, ho]
end
end Go.Proofs.Ytpdfdemoflofhaa.Cd

/- The disk: what each function does. -/
set_option maxRecDepth 1000000
set_option maxHeartbeats 4000000
set_option linter.unusedSimpArgs false
set_option linter.unusedVariables false
namespace Go.Proofs.Ytpdfdemoflofhaa.Cd
open Go Go.Dx
/-- A disk's words. -/
structure DkS where
  e : BitVec 32
  a : BitVec 32
  c : BitVec 32
  s : BitVec 32
def DkS.rd (D : DkS) (a : BitVec 32) : BitVec 32 := if a = 0#32 then D.e else if a = 4#32 then D.a else if a = 8#32 then D.c else if a = 12#32 then D.s else 0#32
def kat (a : BitVec 32) : Bool := decide (a = 0#32 ∨ a = 4#32 ∨ a = 8#32 ∨ a = 12#32)
def DkS.wr (D : DkS) (a v : BitVec 32) : DkS :=
  if a = 0#32 then { D with e := v } else if a = 4#32 then { D with a := v }
  else if a = 8#32 then (if D.s &&& 1#32 = 0#32 then { D with c := v, s := D.s ||| 1#32 } else D) else if a = 12#32 then { D with s := D.s &&& ~~~(v &&& 6#32) } else D
def DkS.wrw (D : DkS) (W : WhS) (d : Int) (a : BitVec 32) (now : Int) : WhS := if a = 8#32 ∧ D.s &&& 1#32 = 0#32 then W.arm d (now + 32) else W
/-- May it be done? -/
def DkS.ok (D : DkS) (E B : By) : Bool := decide (D.e.toNat < E.length / 64 ∧ (D.c = 1#32 ∨ D.c = 2#32)) && thB B D.a 64
def DkS.fire (D : DkS) (E B : By) : DkS := { D with s := if D.ok E B = true then (D.s &&& 4294967294#32) ||| 2#32 else ((D.s &&& 4294967294#32) ||| 2#32) ||| 4#32 }
def DkS.mem (D : DkS) (E B : By) : By := if D.ok E B = true ∧ D.c = 1#32 then ovB B D.a.toNat ((E.drop (64 * D.e.toNat)).take 64) else B
def DkS.wrt (D : DkS) (E B : By) (M W : List Bool) : List Bool := if D.ok E B = true ∧ D.c = 1#32 then tch M W D.a.toNat 64 else W
def DkS.img (D : DkS) (E B : By) : By := if D.ok E B = true ∧ D.c = 2#32 then ovB E (64 * D.e.toNat) ((B.drop D.a.toNat).take 64) else E
/-- A disk as it lies: its words in block y, its bytes in block z. -/
structure Dk (h : Hp) (y z w x : Nat) (v : Int) (E : By) (D : DkS) : Prop where
  d : h.get y = some (.cells false [.int .i64 v, ptr w 0, ptr (x + 3) 0, .slice (some ⟨z, 0, none⟩) E.length E.length, u32 D.e, u32 D.a, u32 D.c, u32 D.s])
  b : h.get z = some (.cells false (E.map u8))
  l : E.length % 64 = 0 ∧ E.length ≤ 4096
section
variable {h : Hp} {q : Value → Hp → Prop} {y z w x : Nat} {B E : By} {M W : List Bool} {S : WhS} {fp : List Nat} {D : DkS} {dv now : Int} {a v : BitVec 32}
theorem kread (A : Dk h y z w x dv E D) : WC T n_disk_Disk_Read [ptr y 0, u32 a] h q ↔ q (.tuple #[u32 (D.rd a), .bool (kat a)]) h := by
  have g1 := A.d
  rw [w_disk_Disk_Read]
  by_cases a0 : a = 0#32
  · subst a0; simp (maxSteps := 1000000) (disch := first | assumption | ((try simp only [push_next, put_next, adv_next, List.length_cons, List.length_nil, List.length_map, List.length_set]); omega) | simp) [g1, DkS.rd, kat]
  by_cases a4 : a = 4#32
  · subst a4; simp (maxSteps := 1000000) (disch := first | assumption | ((try simp only [push_next, put_next, adv_next, List.length_cons, List.length_nil, List.length_map, List.length_set]); omega) | simp) [g1, DkS.rd, kat]
  by_cases a8 : a = 8#32
  · subst a8; simp (maxSteps := 1000000) (disch := first | assumption | ((try simp only [push_next, put_next, adv_next, List.length_cons, List.length_nil, List.length_map, List.length_set]); omega) | simp) [g1, DkS.rd, kat]
  by_cases a12 : a = 12#32
  · subst a12; simp (maxSteps := 1000000) (disch := first | assumption | ((try simp only [push_next, put_next, adv_next, List.length_cons, List.length_nil, List.length_map, List.length_set]); omega) | simp) [g1, DkS.rd, kat]
  simp (maxSteps := 1000000) (disch := first | assumption | ((try simp only [push_next, put_next, adv_next, List.length_cons, List.length_nil, List.length_map, List.length_set]); omega) | simp) [g1, a0, a4, a8, a12, DkS.rd, kat]
theorem kline (A : Dk h y z w x dv E D) : WC T n_disk_Disk_Line [ptr y 0] h q ↔ q (.bool (D.s &&& 6#32 != 0#32)) h := by
  have g1 := A.d
  rw [w_disk_Disk_Line]
  simp (maxSteps := 1000000) (disch := first | assumption | ((try simp only [push_next, put_next, adv_next, List.length_cons, List.length_nil, List.length_map, List.length_set]); omega) | simp) [g1]
theorem kbytes (A : Dk h y z w x dv E D) (hq : ∀ a c h', Sees encB h' a E → Kp h h' → q (.slice a E.length c) h') : WC T n_disk_Disk_Bytes [ptr y 0] h q := by
  have g1 := A.d
  have hl := A.l
  rw [w_disk_Disk_Bytes]
  simp (maxSteps := 1000000) (disch := first | assumption | ((try simp only [push_next, put_next, adv_next, List.length_cons, List.length_nil, List.length_map, List.length_set]); omega) | simp) [g1]
  refine clone_by (sees_b A.b) (by omega) fun a' c' h' hs' K _ _ => ?_
  simp (maxSteps := 1000000) (disch := first | assumption | ((try simp only [push_next, put_next, adv_next, List.length_cons, List.length_nil, List.length_map, List.length_set]); omega) | simp)
  exact hq _ _ _ hs' K
theorem kwrite (A : Dk h y z w x dv E D) (Q : WhA h w S fp) (hd : y ∉ w :: fp ∧ z ∉ w :: fp) (hyz : y ≠ z) (hn : 0 ≤ now ∧ now ≤ 2 ^ 60)
    (hq : ∀ h' fp', Dk h' y z w x dv E (D.wr a v) → WhA h' w (D.wrw S dv a now) fp' → Upd h h' (y :: w :: fp) (y :: w :: fp') → y ∉ w :: fp' ∧ z ∉ w :: fp' → q (.bool (kat a)) h') :
    WC T n_disk_Disk_Write [ptr y 0, u32 a, u32 v, .int .i64 now] h q := by
  have A0 := A
  have g1 := A.d
  have hl := lt_of_get g1
  have hlz := lt_of_get A.b
  have key : ∀ D' : DkS, Dk (h.put y (some (.cells false [.int .i64 dv, ptr w 0, ptr (x + 3) 0, .slice (some ⟨z, 0, none⟩) E.length E.length, u32 D'.e, u32 D'.a, u32 D'.c, u32 D'.s]))) y z w x dv E D' ∧ WhA (h.put y (some (.cells false [.int .i64 dv, ptr w 0, ptr (x + 3) 0, .slice (some ⟨z, 0, none⟩) E.length E.length, u32 D'.e, u32 D'.a, u32 D'.c, u32 D'.s]))) w S fp ∧ Upd h (h.put y (some (.cells false [.int .i64 dv, ptr w 0, ptr (x + 3) 0, .slice (some ⟨z, 0, none⟩) E.length E.length, u32 D'.e, u32 D'.a, u32 D'.c, u32 D'.s]))) (y :: w :: fp) (y :: w :: fp) := fun D' =>
    ⟨⟨get_put_self hl, by rw [get_put_ne (Ne.symm hyz), A0.b], A0.l⟩, Q.keep fun b hb => get_put_ne fun e => hd.1 (e ▸ hb), ⟨by simp, fun b hb hn => get_put_ne fun e => hn (by rw [e]; simp), fun b hb => .inl hb⟩⟩
  rw [w_disk_Disk_Write]
  by_cases a0 : a = 0#32
  · subst a0
    simp (maxSteps := 1000000) (disch := first | assumption | ((try simp only [push_next, put_next, adv_next, List.length_cons, List.length_nil, List.length_map, List.length_set]); omega) | simp) [g1]
    obtain ⟨k1, k2, k3⟩ := key { D with e := v }
    exact hq _ fp (by simpa [DkS.wr] using k1) (by simpa [DkS.wrw] using k2) k3 hd
  by_cases a4 : a = 4#32
  · subst a4
    simp (maxSteps := 1000000) (disch := first | assumption | ((try simp only [push_next, put_next, adv_next, List.length_cons, List.length_nil, List.length_map, List.length_set]); omega) | simp) [g1]
    obtain ⟨k1, k2, k3⟩ := key { D with a := v }
    exact hq _ fp (by simpa [DkS.wr] using k1) (by simpa [DkS.wrw] using k2) k3 hd
  by_cases a12 : a = 12#32
  · subst a12
    simp (maxSteps := 1000000) (disch := first | assumption | ((try simp only [push_next, put_next, adv_next, List.length_cons, List.length_nil, List.length_map, List.length_set]); omega) | simp) [g1]
    obtain ⟨k1, k2, k3⟩ := key { D with s := D.s &&& ~~~(v &&& 6#32) }
    exact hq _ fp (by simpa [DkS.wr] using k1) (by simpa [DkS.wrw] using k2) k3 hd
  by_cases a8 : a = 8#32
  · subst a8
    by_cases c1 : D.s &&& 1#32 = 0#32
    · obtain ⟨k1, k2, k3⟩ := key { D with c := v, s := D.s ||| 1#32 }
      have hwr : D.wr 8#32 v = { D with c := v, s := D.s ||| 1#32 } := by simp [DkS.wr, c1]
      simp (maxSteps := 1000000) (disch := first | assumption | ((try simp only [push_next, put_next, adv_next, List.length_cons, List.length_nil, List.length_map, List.length_set]); omega) | simp) []
      unfold GC
      rw [w_disk_Disk_begin]
      simp (maxSteps := 1000000) (disch := first | assumption | ((try simp only [push_next, put_next, adv_next, List.length_cons, List.length_nil, List.length_map, List.length_set]); omega) | simp) [g1, c1]
      refine warmS k2 fun h2 fp2 Q2 U2 => ?_
      simp (maxSteps := 1000000) (disch := first | assumption | ((try simp only [push_next, put_next, adv_next, List.length_cons, List.length_nil, List.length_map, List.length_set]); omega) | simp)
      have hk1 := k1.d
      have hk2 := k1.b
      generalize h.put y (some (.cells false [.int .i64 dv, ptr w 0, ptr (x + 3) 0, .slice (some ⟨z, 0, none⟩) E.length E.length, u32 D.e, u32 D.a, u32 v, u32 (D.s ||| 1#32)])) = h1 at *
      have := hq h2 fp2 (by rw [hwr]; exact ⟨by rw [U2.get y (lt_of_get hk1) hd.1, hk1], by rw [U2.get z (lt_of_get hk2) hd.2, hk2], A0.l⟩) (by simpa [DkS.wrw, c1] using Q2) ⟨Nat.le_trans k3.le U2.le, fun b hb hn => by
        rw [U2.get b (Nat.lt_of_lt_of_le hb k3.le) (fun hm => hn (List.mem_cons_of_mem _ hm)), k3.get b hb hn], fun b hb => by
        rcases List.mem_cons.1 hb with rfl | hb
        · exact .inl (by simp)
        · rcases U2.sub b hb with h5 | h5
          · exact .inl (List.mem_cons_of_mem _ h5)
          · exact .inr (Nat.le_trans k3.le h5)⟩ ⟨fun hm => by
        rcases U2.sub y hm with h5 | h5
        · exact hd.1 h5
        · have := lt_of_get hk1; omega, fun hm => by
        rcases U2.sub z hm with h5 | h5
        · exact hd.2 h5
        · have := lt_of_get hk2; omega⟩
      rwa [show kat 8#32 = true from rfl] at this
    · simp (maxSteps := 1000000) (disch := first | assumption | ((try simp only [push_next, put_next, adv_next, List.length_cons, List.length_nil, List.length_map, List.length_set]); omega) | simp) []
      unfold GC
      rw [w_disk_Disk_begin]
      simp (maxSteps := 1000000) (disch := first | assumption | ((try simp only [push_next, put_next, adv_next, List.length_cons, List.length_nil, List.length_map, List.length_set]); omega) | simp) [g1, c1]
      exact hq h fp (by simpa [DkS.wr, c1] using A0) (by simpa [DkS.wrw, c1] using Q) (Kp.upd (Kp.refl h) _) hd
  have h9 := hq h fp (by simpa [DkS.wr, a0, a4, a8, a12] using A0) (by simpa [DkS.wrw, a8] using Q) (Kp.upd (Kp.refl h) _) hd
  simp only [kat, a0, a4, a8, a12, or_false, decide_false] at h9
  simp (maxSteps := 1000000) (disch := first | assumption | ((try simp only [push_next, put_next, adv_next, List.length_cons, List.length_nil, List.length_map, List.length_set]); omega) | simp) [a0, a4, a8, a12]
  exact h9
theorem _root_.Go.Dx.Upd.wid {h h' : Hp} {fp fp' fp2 : List Nat} (U : Upd h h' fp fp') (hs : ∀ b ∈ fp, b ∈ fp2) : Upd h h' fp2 fp2 := ⟨U.le, fun b hb hn => U.get b hb fun hm => hn (hs b hm), fun b hb => .inl hb⟩
theorem Dk.keep {h' : Hp} (A : Dk h y z w x dv E D) (hy : h'.get y = h.get y) (hz : h'.get z = h.get z) : Dk h' y z w x dv E D := ⟨by rw [hy, A.d], by rw [hz, A.b], A.l⟩
theorem cpy_at {h : Hp} {z o n c c' : Nat} {B l : By} {s : Option Addr} (hg : h.get z = some (.cells false (B.map u8))) (S : Sees encB h s l) (hl : o + l.length ≤ B.length) (hn : l.length = n) :
    copyV h 1 (.slice (some ⟨z, o, none⟩) n c) (.slice s n c') = some (.int .i64 n, h.put z (some (.cells false ((ovB B o l).map u8)))) := by
  subst hn
  have he := S.elems (c := c')
  simp only [encB_sz, encB_all] at he
  unfold copyV
  simp only [lenV, Nat.min_self, he]
  by_cases h0 : l.length = 0
  · have : l = [] := List.length_eq_zero_iff.1 h0
    subst this
    rw [ovB_nil, put_get hg]
    simp
  · rw [if_neg h0, wr_ok hg (by simp; omega) (all_u8 l), over_u8]
    rfl
theorem ksectors (A : Dk h y z w x dv E D) : WC T n_disk_Disk_Sectors [ptr y 0] h q ↔ q (.int .i64 ((E.length : Int) / 64)) h := by
  have g1 := A.d
  have hl := A.l
  have hw : IntKind.i64.wrap ((E.length : Int) / 64) = (E.length : Int) / 64 := wrap_i64 (by omega) (by omega)
  rw [w_disk_Disk_Sectors]
  simp (maxSteps := 1000000) (disch := first | assumption | ((try simp only [push_next, put_next, adv_next, List.length_cons, List.length_nil, List.length_map, List.length_set]); omega) | simp) [g1, hw]
theorem kdo (A : Dk h y z w x dv E D) (R : Ra h x B M W) (hyz : y ≠ z) (hoff : (y < x ∨ x + 3 < y) ∧ (z < x ∨ x + 3 < z))
    (hq : ∀ h', Dk h' y z w x dv (D.img E B) D → Ra h' x (D.mem E B) M (D.wrt E B M W) → Upd h h' [z, x, x + 2] [z, x, x + 2] → q (.bool (D.ok E B)) h') : WC T n_disk_Disk_do [ptr y 0] h q := by
  have g1 := A.d
  have hl := A.l
  have he := D.e.isLt
  have hS := fun q => ksectors (q := q) A
  rw [w_disk_Disk_do]
  have hin : (BitVec.ofInt 32 ((E.length : Int) / 64)).toNat = E.length / 64 := by
    rw [BitVec.toNat_ofInt]
    omega
  by_cases c1 : D.e.toNat < E.length / 64
  · have c1' : ¬ BitVec.ofInt 32 ((E.length : Int) / 64) ≤ D.e := by
      rw [BitVec.le_def, hin]
      omega
    have s1 := sliceV_lo' (sz := 1) (b := z) (o := 0) (n := E.length) (k := .i64) (lo := (D.e.toNat : Int) * 64) (by omega) (by omega)
    have e1 : ((D.e.toNat : Int) * 64).toNat = 64 * D.e.toNat := by omega
    rw [e1, if_neg (by omega)] at s1
    have s2 := sliceV_hi' (sz := 1) (b := z) (o := 64 * D.e.toNat) (n := E.length - 64 * D.e.toNat) (c := E.length - 64 * D.e.toNat) (k := .i64) (hi := 64) (by omega) (by omega) (by omega)
    have s3 : Sees encB h (some ⟨z, 64 * D.e.toNat, none⟩) ((E.drop (64 * D.e.toNat)).take 64) := ⟨fun hA => (by cases hA), fun A2 hA => by
      cases hA
      have hl64 : ((E.drop (64 * D.e.toNat)).take 64).length = 64 := by simp; omega
      have := rdn_part (rdn_all A.b (n := E.length) (by simp)) (k := 64 * D.e.toNat) (n := 64) (by omega)
      rw [Nat.zero_add] at this
      rw [hl64, encB_sz, Nat.mul_one, encB_all, this, List.map_take, List.map_drop], fun A2 hA => (by cases hA; exact .inl rfl)⟩
    have hl64 : ((E.drop (64 * D.e.toNat)).take 64).length = 64 := by simp; omega
    by_cases d1 : D.c = 1#32
    · simp (maxSteps := 1000000) (disch := first | assumption | ((try simp only [push_next, put_next, adv_next, List.length_cons, List.length_nil, List.length_map, List.length_set]); omega) | simp) [g1, GC_of hS, GCI_of hS, c1', s1, s2, d1]
      have hp := rput (a := D.a) (c := E.length - 64 * D.e.toNat) (q := fun v h' => (D.ok E B = false ∧ v = .bool false ∧ h' = h) ∨ (D.ok E B = true ∧ v = .bool true ∧ Ra h' x (D.mem E B) M (D.wrt E B M W) ∧ Upd h h' [x, x + 2] [x, x + 2])) R s3 (by omega) (fun ht => .inl ⟨by rw [hl64] at ht; simpa [DkS.ok, d1] using fun _ => ht, rfl, rfl⟩) fun ht h2 R2 U2 => .inr ?_
      · rw [hl64] at hp
        refine GC_intro hp fun v h2 hv => ?_
        rcases hv with ⟨ho, rfl, rfl⟩ | ⟨ho, rfl, R2, U2⟩
        · have := hq h2 (by simpa [DkS.img, ho] using A) (by simpa [DkS.mem, DkS.wrt, ho] using R) (Kp.upd (Kp.refl h2) _)
          rw [ho] at this
          simp (maxSteps := 1000000) (disch := first | assumption | ((try simp only [push_next, put_next, adv_next, List.length_cons, List.length_nil, List.length_map, List.length_set]); omega) | simp)
          exact this
        · have := hq h2 (by simpa [DkS.img, ho, d1] using A.keep (U2.get y (lt_of_get g1) (by simp; omega)) (U2.get z (lt_of_get A.b) (by simp; omega))) R2 (U2.wid (by simp))
          rw [ho] at this
          simp (maxSteps := 1000000) (disch := first | assumption | ((try simp only [push_next, put_next, adv_next, List.length_cons, List.length_nil, List.length_map, List.length_set]); omega) | simp)
          exact this
      · rw [hl64] at ht R2
        have ho : D.ok E B = true := by have : thB B D.a 64 = true := ht; simp [DkS.ok, this, d1, c1]
        refine ⟨ho, rfl, ?_, U2⟩
        simpa [DkS.mem, DkS.wrt, ho, d1] using R2
    · by_cases d2 : D.c = 2#32
      · simp (maxSteps := 1000000) (disch := first | assumption | ((try simp only [push_next, put_next, adv_next, List.length_cons, List.length_nil, List.length_map, List.length_set]); omega) | simp) [g1, GC_of hS, GCI_of hS, c1', s1, s2, d1, d2]
        refine GC_intro (rbytes (a := D.a) (q := fun v h' => (thB B D.a 64 = false ∧ v = .tuple #[.slice none 0 0, .bool false] ∧ h' = h) ∨ ∃ a' c', thB B D.a 64 = true ∧ v = .tuple #[.slice a' 64 c', .bool true] ∧ Sees encB h' a' ((B.drop D.a.toNat).take 64) ∧ Kp h h' ∧ D.a.toNat + 64 ≤ B.length) R (by omega) (fun hb => .inl ⟨hb, rfl, rfl⟩) fun m hm hle hb a' c' h' S K F hc O => .inr ?_) fun v h1 hv => ?_
        · have : m = 64 := by omega
          subst this
          exact ⟨a', c', hb, rfl, S, K, hle⟩
        · rcases hv with ⟨hb, rfl, rfl⟩ | ⟨a', c', hb, rfl, S, K, hle⟩
          · have ho : D.ok E B = false := by simp [DkS.ok, hb]
            have := hq h1 (by simpa [DkS.img, ho] using A) (by simpa [DkS.mem, DkS.wrt, ho] using R) (Kp.upd (Kp.refl h1) _)
            rw [ho] at this
            simp (maxSteps := 1000000) (disch := first | assumption | ((try simp only [push_next, put_next, adv_next, List.length_cons, List.length_nil, List.length_map, List.length_set]); omega) | simp) [copyV, lenV, elems]
            exact this
          · have ho : D.ok E B = true := by simp [DkS.ok, hb, c1, d2]
            have hlz := lt_of_get A.b
            have hly := lt_of_get g1
            have hb1 : h1.get z = _ := (K.get z hlz).trans A.b
            have hL : ((B.drop D.a.toNat).take 64).length = 64 := by simp; omega
            have hcp := cpy_at (n := 64) (c := E.length - 64 * D.e.toNat) (c' := c') hb1 S (o := 64 * D.e.toNat) (by omega) hL
            have := hq (h1.put z (some (.cells false ((ovB E (64 * D.e.toNat) ((B.drop D.a.toNat).take 64)).map u8)))) (by
              have h9 : D.img E B = ovB E (64 * D.e.toNat) ((B.drop D.a.toNat).take 64) := by simp [DkS.img, ho, d2]
              have h8 : (D.img E B).length = E.length := by rw [h9, ovB_length (by omega)]
              rw [← h9]
              exact ⟨by rw [get_put_ne hyz, K.get y hly, g1, h8], get_put_self (Nat.lt_of_lt_of_le hlz K.le), by rw [h8]; exact hl⟩) (by
              have e1 : D.mem E B = B := by simp [DkS.mem, d1]
              have e2 : D.wrt E B M W = W := by simp [DkS.wrt, d1]
              rw [e1, e2]
              exact (R.kp K).keep fun b h3 h4 => get_put_ne (by omega)) ⟨by simpa using K.le, fun b hb hn => by rw [get_put_ne (by simp at hn; exact hn.1), K.get b hb], fun b hb => .inl hb⟩
            rw [ho] at this
            simp (maxSteps := 1000000) (disch := first | assumption | ((try simp only [push_next, put_next, adv_next, List.length_cons, List.length_nil, List.length_map, List.length_set]); omega) | simp) [hcp]
            exact this
      · have hok : D.ok E B = false := by simp [DkS.ok, d1, d2]
        have := hq h (by simpa [DkS.img, hok] using A) (by simpa [DkS.mem, DkS.wrt, hok] using R) (Kp.upd (Kp.refl h) _)
        rw [hok] at this
        simp (maxSteps := 1000000) (disch := first | assumption | ((try simp only [push_next, put_next, adv_next, List.length_cons, List.length_nil, List.length_map, List.length_set]); omega) | simp) [g1, GC_of hS, GCI_of hS, c1', s1, s2, d1, d2]
        exact this
  · have c1' : BitVec.ofInt 32 ((E.length : Int) / 64) ≤ D.e := by
      rw [BitVec.le_def, hin]
      omega
    have hok : D.ok E B = false := by simp [DkS.ok, c1]
    have := hq h (by simpa [DkS.img, hok] using A) (by simpa [DkS.mem, DkS.wrt, hok] using R) (Kp.upd (Kp.refl h) _)
    rw [hok] at this
    simp (maxSteps := 1000000) (disch := first | assumption | ((try simp only [push_next, put_next, adv_next, List.length_cons, List.length_nil, List.length_map, List.length_set]); omega) | simp) [g1, GC_of hS, GCI_of hS, c1']
    exact this
theorem kfire (A : Dk h y z w x dv E D) (R : Ra h x B M W) (hyz : y ≠ z) (hoff : (y < x ∨ x + 3 < y) ∧ (z < x ∨ x + 3 < z))
    (hq : ∀ h', Dk h' y z w x dv (D.img E B) (D.fire E B) → Ra h' x (D.mem E B) M (D.wrt E B M W) → Upd h h' [y, z, x, x + 2] [y, z, x, x + 2] → q (.tuple #[]) h') : WC T n_disk_Disk_Fire [ptr y 0, .int .i64 now] h q := by
  have g1 := A.d
  have hl := lt_of_get g1
  have hlz := lt_of_get A.b
  rw [w_disk_Disk_Fire]
  simp (maxSteps := 1000000) (disch := first | assumption | ((try simp only [push_next, put_next, adv_next, List.length_cons, List.length_nil, List.length_map, List.length_set]); omega) | simp) [g1]
  have D1 : Dk (h.put y (some (.cells false [.int .i64 dv, ptr w 0, ptr (x + 3) 0, .slice (some ⟨z, 0, none⟩) E.length E.length, u32 D.e, u32 D.a, u32 D.c, u32 (D.s &&& 4294967294#32 ||| 2#32)]))) y z w x dv E { D with s := D.s &&& 4294967294#32 ||| 2#32 } := ⟨get_put_self hl, by rw [get_put_ne (Ne.symm hyz), A.b], A.l⟩
  have R1 : Ra (h.put y (some (.cells false [.int .i64 dv, ptr w 0, ptr (x + 3) 0, .slice (some ⟨z, 0, none⟩) E.length E.length, u32 D.e, u32 D.a, u32 D.c, u32 (D.s &&& 4294967294#32 ||| 2#32)]))) x B M W := R.keep fun b h1 h2 => get_put_ne (by omega)
  have U1 : Upd h (h.put y (some (.cells false [.int .i64 dv, ptr w 0, ptr (x + 3) 0, .slice (some ⟨z, 0, none⟩) E.length E.length, u32 D.e, u32 D.a, u32 D.c, u32 (D.s &&& 4294967294#32 ||| 2#32)]))) [y, z, x, x + 2] [y, z, x, x + 2] := ⟨by simp, fun b hb hn => get_put_ne (by simp at hn; exact hn.1), fun b hb => .inl hb⟩
  generalize h.put y (some (.cells false [.int .i64 dv, ptr w 0, ptr (x + 3) 0, .slice (some ⟨z, 0, none⟩) E.length E.length, u32 D.e, u32 D.a, u32 D.c, u32 (D.s &&& 4294967294#32 ||| 2#32)])) = h1 at *
  refine GC_intro (kdo (q := fun v h' => v = .bool (D.ok E B) ∧ Dk h' y z w x dv (D.img E B) { D with s := D.s &&& 4294967294#32 ||| 2#32 } ∧ Ra h' x (D.mem E B) M (D.wrt E B M W) ∧ Upd h1 h' [z, x, x + 2] [z, x, x + 2]) D1 R1 hyz hoff fun h' A2 R2 U2 => ⟨rfl, A2, R2, U2⟩) fun v h2 ⟨hv, A2, R2, U2⟩ => ?_
  subst hv
  have g2 := A2.d
  have hl2 := lt_of_get g2
  have U3 := U1.trans (U2.wid (fp2 := [y, z, x, x + 2]) (by simp))
  cases ho : D.ok E B with
  | true =>
    have := hq h2 (by simpa [DkS.fire, ho] using A2) R2 U3
    simp (maxSteps := 1000000) (disch := first | assumption | ((try simp only [push_next, put_next, adv_next, List.length_cons, List.length_nil, List.length_map, List.length_set]); omega) | simp)
    exact this
  | false =>
    simp (maxSteps := 1000000) (disch := first | assumption | ((try simp only [push_next, put_next, adv_next, List.length_cons, List.length_nil, List.length_map, List.length_set]); omega) | simp) [g2]
    refine hq _ ⟨?_, ?_, A2.l⟩ (R2.keep fun b h1 h2 => get_put_ne (by omega)) ⟨by simpa using U3.le, fun b hb hn => by rw [get_put_ne (by simp at hn; exact hn.1), U3.get b hb hn], fun b hb => .inl hb⟩
    · rw [get_put_self hl2]
      simp [DkS.fire, ho]
    · rw [get_put_ne (Ne.symm hyz), A2.b]
/-- The bytes of a disk that is made of an image. -/
def dkE (l : By) : By := (l ++ List.replicate (64 * min ((l.length + 63) / 64) 64) 0#8).take (64 * min ((l.length + 63) / 64) 64)
theorem dkE_length (l : By) : (dkE l).length = 64 * min ((l.length + 63) / 64) 64 := by simp [dkE]
theorem cpy_pre {h : Hp} {z m c c' : Nat} {l : By} {s : Option Addr} (hg : h.get z = some (.cells false ((List.replicate m 0#8).map u8))) (S : Sees encB h s l) :
    ∃ j : Int, copyV h 1 (.slice (some ⟨z, 0, none⟩) m c) (.slice s l.length c') = some (.int .i64 j, h.put z (some (.cells false (((l ++ List.replicate m 0#8).take m).map u8)))) := by
  have S2 : Sees encB h s (l.take (min l.length m)) := ⟨fun hs => by rw [S.nil hs]; simp, fun A hA => by
    have := rdn_part (S.get A hA) (k := 0) (n := min l.length m) (by simp; omega)
    rw [Nat.add_zero] at this
    simpa [encB_all] using this, S.sp⟩
  have hL : (l.take (min l.length m)).length = min l.length m := by simp
  have hcp := cpy_at (B := List.replicate m 0#8) (c := c) (c' := c') (n := min l.length m) hg S2 (o := 0) (by simp; try omega) hL
  have hov : ovB (List.replicate m 0#8) 0 (l.take (min l.length m)) = (l ++ List.replicate m 0#8).take m := by
    simp only [ovB, List.take_zero, List.nil_append, hL, Nat.zero_add]
    by_cases hm : l.length ≤ m
    · rw [Nat.min_eq_left hm, List.take_length, List.take_append, List.take_of_length_le hm]
      simp
    · rw [Nat.min_eq_right (by omega), List.take_append_of_le_length (by omega)]
      simp
  rw [hov] at hcp
  refine ⟨(min l.length m : Nat), ?_⟩
  rw [← hcp]
  unfold copyV
  cases s <;> simp [lenV, elems]
theorem knew {l : By} {a : Option Addr} {c : Nat} (S : Sees encB h a l) (hb : l.length < 2 ^ 40) (hw : w < h.next) (hx : x + 3 < h.next)
    (hq : ∀ h', Dk h' (h.next + 1) h.next w x dv (dkE l) ⟨0#32, 0#32, 0#32, 0#32⟩ → Kp h h' → h'.next = h.next + 2 → q (ptr (h.next + 1) 0) h') : WC T n_disk_New [.int .i64 dv, ptr w 0, ptr (x + 3) 0, .slice a l.length c] h q := by
  rw [w_disk_New]
  obtain ⟨d, hd, hd2⟩ : ∃ d : Nat, ((l.length : Int) + 64 - 1).tdiv 64 = (d : Int) ∧ d = (l.length + 63) / 64 := ⟨(l.length + 63) / 64, by rw [Int.tdiv_eq_ediv_of_nonneg (by omega)]; omega, rfl⟩
  obtain ⟨n, hn, h64⟩ : ∃ n : Nat, (if 64 < (d : Int) then 64 else (d : Int)) = (n : Int) ∧ n = min d 64 := ⟨min d 64, by split <;> omega, rfl⟩
  have e2 : ((n : Int) * 64).toNat = 64 * n := by omega
  have hE : (l ++ List.replicate (64 * n) 0#8).take (64 * n) = dkE l := by rw [h64, hd2, dkE]
  have hEl : (dkE l).length = 64 * n := by rw [dkE_length, h64, hd2]
  simp (maxSteps := 1000000) (disch := first | assumption | ((try simp only [push_next, put_next, adv_next, List.length_cons, List.length_nil, List.length_map, List.length_set]); omega) | simp) [hd, hn, e2]
  generalize hg1 : (h.push (.cells false (List.replicate (64 * n) (u8 0#8)))) = h1 at *
  have hb1 : h1.get h.next = some (.cells false ((List.replicate (64 * n) 0#8).map u8)) := by rw [← hg1]; simp
  have hn1 : h1.next = h.next + 1 := by rw [← hg1]; simp
  have K1 : Kp h h1 := by rw [← hg1]; exact (Kp.refl h).push _
  obtain ⟨j, hcp⟩ := cpy_pre (c := 64 * n) (c' := c) hb1 (S.kp K1)
  rw [hE] at hcp
  simp (maxSteps := 1000000) (disch := first | assumption | ((try simp only [push_next, put_next, adv_next, List.length_cons, List.length_nil, List.length_map, List.length_set]); omega) | simp) [hcp]
  have hl1 : h.next < h1.next := by omega
  have hq' := hq ((h1.put h.next (some (.cells false ((dkE l).map u8)))).push (.cells false [.int .i64 dv, ptr w 0, ptr (x + 3) 0, .slice (some ⟨h.next, 0, none⟩) (64 * n) (64 * n), u32 0#32, u32 0#32, u32 0#32, u32 0#32])) ⟨?_, ?_, ?_⟩ (((K1.put (Nat.le_refl _) _)).push _) (by simp [hn1])
  · rw [hn1]
    exact hq'
  · rw [hEl, ← hn1]
    exact get_push_self
  · rw [get_push_ne (by simp; omega), get_put_self hl1]
  · rw [hEl]
    omega
end
end Go.Proofs.Ytpdfdemoflofhaa.Cd

/- A timer as a state: what each function does. -/
set_option maxRecDepth 1000000
set_option maxHeartbeats 4000000
set_option linter.unusedSimpArgs false
set_option linter.unusedVariables false
namespace Go.Proofs.Ytpdfdemoflofhaa.Cd
open Go Go.Dx
/-- A timer's words. -/
structure TmS where
  c : BitVec 32
  p : BitVec 32
  s : BitVec 32
def TmS.rd (T : TmS) (a : BitVec 32) : BitVec 32 := if a = 0#32 then T.c else if a = 4#32 then T.p else if a = 8#32 then T.s else 0#32
def mat (a : BitVec 32) : Bool := decide (a = 0#32 ∨ a = 4#32 ∨ a = 8#32)
/-- A period, one at least. -/
def tper (p : BitVec 32) : Int := ((if 1#32 < p then p else 1#32).toNat : Int)
theorem tper_pos (p : BitVec 32) : 1 ≤ tper p ∧ tper p < 4294967296 := by
  unfold tper
  split
  · rename_i h
    have h1 := BitVec.lt_def.1 h
    have h2 := p.isLt
    simp at h1
    omega
  · decide
def TmS.wr (T : TmS) (a v : BitVec 32) : TmS := if a = 0#32 then { T with c := v &&& 3#32 } else if a = 4#32 then { T with p := v } else if a = 8#32 then (if v &&& 1#32 = 0#32 then T else { T with s := 0#32 }) else T
def TmS.wrw (T : TmS) (W : WhS) (d : Int) (a v : BitVec 32) (now : Int) : WhS := if a = 0#32 then (if v &&& 1#32 = 0#32 then W.can d else W.arm d (now + tper T.p)) else W
def TmS.fire (T : TmS) : TmS := if T.c &&& 2#32 = 0#32 then { T with c := T.c &&& ~~~ 1#32, s := 1#32 } else { T with s := 1#32 }
def TmS.firew (T : TmS) (W : WhS) (d now : Int) : WhS := if T.c &&& 2#32 = 0#32 then W else W.arm d (now + tper T.p)
def TmC (h : Hp) (t w : Nat) (d : Int) (T : TmS) : Prop := h.get t = some (.cells false [.int .i64 d, ptr w 0, u32 T.c, u32 T.p, u32 T.s])
section
variable {h : Hp} {q : Value → Hp → Prop} {t w : Nat} {dv now : Int} {N : TmS} {S : WhS} {fp : List Nat} {a v : BitVec 32}
theorem wcanS (A : WhA h w S fp) (hq : ∀ v h' fp', WhA h' w (S.can dv) fp' → Upd h h' (w :: fp) (w :: fp') → q v h') : WC T n_wheel_Wheel_Cancel [ptr w 0, .int .i64 dv] h q := by
  have := A.wi.len
  exact wcancel A.wh (by omega) fun h1 fp1 W1 U1 => hq _ _ _ ⟨W1, A.wi.can dv⟩ U1
theorem mline (A : TmC h t w dv N) : WC T n_timer_Timer_Line [ptr t 0] h q ↔ q (.bool (N.s != 0#32)) h := by
  unfold TmC at A
  rw [w_timer_Timer_Line]
  simp (maxSteps := 1000000) (disch := first | assumption | ((try simp only [push_next, put_next, adv_next, List.length_cons, List.length_nil, List.length_map, List.length_set]); omega) | simp) [A]
theorem mnew (hw : w < h.next) : WC T n_timer_New [.int .i64 dv, ptr w 0] h q ↔ q (ptr h.next 0) (h.push (.cells false [.int .i64 dv, ptr w 0, u32 0#32, u32 0#32, u32 0#32])) := by
  rw [w_timer_New]
  simp (maxSteps := 1000000) (disch := first | assumption | ((try simp only [push_next, put_next, adv_next, List.length_cons, List.length_nil, List.length_map, List.length_set]); omega) | simp)
theorem mread (A : TmC h t w dv N) : WC T n_timer_Timer_Read [ptr t 0, u32 a] h q ↔ q (.tuple #[u32 (N.rd a), .bool (mat a)]) h := by
  unfold TmC at A
  rw [w_timer_Timer_Read]
  by_cases a0 : a = 0#32
  · subst a0; simp (maxSteps := 1000000) (disch := first | assumption | ((try simp only [push_next, put_next, adv_next, List.length_cons, List.length_nil, List.length_map, List.length_set]); omega) | simp) [A, TmS.rd, mat]
  by_cases a4 : a = 4#32
  · subst a4; simp (maxSteps := 1000000) (disch := first | assumption | ((try simp only [push_next, put_next, adv_next, List.length_cons, List.length_nil, List.length_map, List.length_set]); omega) | simp) [A, TmS.rd, mat]
  by_cases a8 : a = 8#32
  · subst a8; simp (maxSteps := 1000000) (disch := first | assumption | ((try simp only [push_next, put_next, adv_next, List.length_cons, List.length_nil, List.length_map, List.length_set]); omega) | simp) [A, TmS.rd, mat]
  simp (maxSteps := 1000000) (disch := first | assumption | ((try simp only [push_next, put_next, adv_next, List.length_cons, List.length_nil, List.length_map, List.length_set]); omega) | simp) [A, a0, a4, a8, TmS.rd, mat]
theorem TmC.upd {h' : Hp} {fp' : List Nat} (A : TmC h t w dv N) (hd : t ∉ w :: fp) (U : Upd h h' (w :: fp) (w :: fp')) : TmC h' t w dv N ∧ Upd h h' (t :: w :: fp) (t :: w :: fp') ∧ t ∉ w :: fp' := by
  unfold TmC at A ⊢
  have hl := lt_of_get A
  refine ⟨by rw [U.get t hl hd, A], ⟨U.le, fun b hb hn => U.get b hb fun hm => hn (List.mem_cons_of_mem _ hm), fun b hb => ?_⟩, fun hm => ?_⟩
  · rcases List.mem_cons.1 hb with rfl | hb
    · exact .inl (by simp)
    · rcases U.sub b hb with h5 | h5
      · exact .inl (List.mem_cons_of_mem _ h5)
      · exact .inr h5
  · rcases U.sub t hm with h5 | h5
    · exact hd h5
    · omega
theorem marm (A : TmC h t w dv N) (Q : WhA h w S fp) (hd : t ∉ w :: fp) (hn : 0 ≤ now ∧ now ≤ 2 ^ 60)
    (hq : ∀ h' fp', TmC h' t w dv N → WhA h' w (S.arm dv (now + tper N.p)) fp' → Upd h h' (t :: w :: fp) (t :: w :: fp') → t ∉ w :: fp' → q (.tuple #[]) h') : WC T n_timer_Timer_arm [ptr t 0, .int .i64 now] h q := by
  have A0 := A
  unfold TmC at A
  obtain ⟨p1, p2⟩ := tper_pos N.p
  have hw' : IntKind.i64.wrap (now + ((if 1#32 < N.p then N.p else 1#32).toNat : Int)) = now + tper N.p := wrap_i64 (by omega) (by omega)
  rw [w_timer_Timer_arm]
  simp (maxSteps := 1000000) (disch := first | assumption | ((try simp only [push_next, put_next, adv_next, List.length_cons, List.length_nil, List.length_map, List.length_set]); omega) | simp) [A, hw']
  refine warmS Q fun h1 fp1 Q1 U1 => ?_
  simp (maxSteps := 1000000) (disch := first | assumption | ((try simp only [push_next, put_next, adv_next, List.length_cons, List.length_nil, List.length_map, List.length_set]); omega) | simp)
  obtain ⟨k1, k2, k3⟩ := A0.upd hd U1
  exact hq _ _ k1 Q1 k2 k3
theorem mwrite (A : TmC h t w dv N) (Q : WhA h w S fp) (hd : t ∉ w :: fp) (hn : 0 ≤ now ∧ now ≤ 2 ^ 60)
    (hq : ∀ h' fp', TmC h' t w dv (N.wr a v) → WhA h' w (N.wrw S dv a v now) fp' → Upd h h' (t :: w :: fp) (t :: w :: fp') → t ∉ w :: fp' → q (.bool (mat a)) h') :
    WC T n_timer_Timer_Write [ptr t 0, u32 a, u32 v, .int .i64 now] h q := by
  have A0 := A
  unfold TmC at A
  have hl := lt_of_get A
  have hdw : ∀ b ∈ w :: fp, b ≠ t := fun b hb e => hd (e ▸ hb)
  have key : ∀ T' : TmS, TmC (h.put t (some (.cells false [.int .i64 dv, ptr w 0, u32 T'.c, u32 T'.p, u32 T'.s]))) t w dv T' ∧ WhA (h.put t (some (.cells false [.int .i64 dv, ptr w 0, u32 T'.c, u32 T'.p, u32 T'.s]))) w S fp ∧ Upd h (h.put t (some (.cells false [.int .i64 dv, ptr w 0, u32 T'.c, u32 T'.p, u32 T'.s]))) (t :: w :: fp) (t :: w :: fp) := fun T' =>
    ⟨by unfold TmC; rw [get_put_self hl], Q.keep fun b hb => get_put_ne (hdw b hb), ⟨by simp, fun b hb hn => get_put_ne fun e => hn (by rw [e]; simp), fun b hb => .inl hb⟩⟩
  rw [w_timer_Timer_Write]
  by_cases a0 : a = 0#32
  · subst a0
    obtain ⟨k1, k2, k3⟩ := key { N with c := v &&& 3#32 }
    by_cases v1 : v &&& 1#32 = 0#32
    · have A1 := k1
      unfold TmC at A1
      simp (maxSteps := 1000000) (disch := first | assumption | ((try simp only [push_next, put_next, adv_next, List.length_cons, List.length_nil, List.length_map, List.length_set]); omega) | simp) [A, v1]
      generalize h.put t (some (.cells false [.int .i64 dv, ptr w 0, u32 (v &&& 3#32), u32 N.p, u32 N.s])) = h1 at *
      refine wcanS k2 fun _ h2 fp2 Q2 U2 => ?_
      obtain ⟨j1, j2, j3⟩ := k1.upd hd U2
      simp (maxSteps := 1000000) (disch := first | assumption | ((try simp only [push_next, put_next, adv_next, List.length_cons, List.length_nil, List.length_map, List.length_set]); omega) | simp)
      exact hq _ _ (by simpa [TmS.wr] using j1) (by simpa [TmS.wrw, v1] using Q2) (k3.trans j2) j3
    · simp (maxSteps := 1000000) (disch := first | assumption | ((try simp only [push_next, put_next, adv_next, List.length_cons, List.length_nil, List.length_map, List.length_set]); omega) | simp) [A, v1]
      generalize h.put t (some (.cells false [.int .i64 dv, ptr w 0, u32 (v &&& 3#32), u32 N.p, u32 N.s])) = h1 at *
      refine marm k1 k2 hd hn fun h2 fp2 T2 Q2 U2 N2 => ?_
      simp (maxSteps := 1000000) (disch := first | assumption | ((try simp only [push_next, put_next, adv_next, List.length_cons, List.length_nil, List.length_map, List.length_set]); omega) | simp)
      exact hq _ _ (by simpa [TmS.wr] using T2) (by simpa [TmS.wrw, v1] using Q2) (k3.trans U2) N2
  by_cases a4 : a = 4#32
  · subst a4
    obtain ⟨k1, k2, k3⟩ := key { N with p := v }
    simp (maxSteps := 1000000) (disch := first | assumption | ((try simp only [push_next, put_next, adv_next, List.length_cons, List.length_nil, List.length_map, List.length_set]); omega) | simp) [A]
    exact hq _ fp (by simpa [TmS.wr] using k1) (by simpa [TmS.wrw] using k2) k3 hd
  by_cases a8 : a = 8#32
  · subst a8
    obtain ⟨k1, k2, k3⟩ := key { N with s := 0#32 }
    by_cases v1 : v &&& 1#32 = 0#32
    · simp (maxSteps := 1000000) (disch := first | assumption | ((try simp only [push_next, put_next, adv_next, List.length_cons, List.length_nil, List.length_map, List.length_set]); omega) | simp) [A, v1]
      exact hq _ fp (by simpa [TmS.wr, v1] using A0) (by simpa [TmS.wrw] using Q) (Kp.upd (Kp.refl h) _) hd
    · simp (maxSteps := 1000000) (disch := first | assumption | ((try simp only [push_next, put_next, adv_next, List.length_cons, List.length_nil, List.length_map, List.length_set]); omega) | simp) [A, v1]
      exact hq _ fp (by simpa [TmS.wr, v1] using k1) (by simpa [TmS.wrw] using k2) k3 hd
  have h9 := hq h fp (by simpa [TmS.wr, a0, a4, a8] using A0) (by simpa [TmS.wrw, a0] using Q) (Kp.upd (Kp.refl h) _) hd
  simp only [mat, a0, a4, a8, or_false, decide_false] at h9
  simp (maxSteps := 1000000) (disch := first | assumption | ((try simp only [push_next, put_next, adv_next, List.length_cons, List.length_nil, List.length_map, List.length_set]); omega) | simp) [a0, a4, a8]
  exact h9
theorem mfire (A : TmC h t w dv N) (Q : WhA h w S fp) (hd : t ∉ w :: fp) (hn : 0 ≤ now ∧ now ≤ 2 ^ 60)
    (hq : ∀ h' fp', TmC h' t w dv N.fire → WhA h' w (N.firew S dv now) fp' → Upd h h' (t :: w :: fp) (t :: w :: fp') → t ∉ w :: fp' → q (.tuple #[]) h') :
    WC T n_timer_Timer_Fire [ptr t 0, .int .i64 now] h q := by
  have A0 := A
  unfold TmC at A
  have hl := lt_of_get A
  have hdw : ∀ b ∈ w :: fp, b ≠ t := fun b hb e => hd (e ▸ hb)
  have key : ∀ T' : TmS, TmC (h.put t (some (.cells false [.int .i64 dv, ptr w 0, u32 T'.c, u32 T'.p, u32 T'.s]))) t w dv T' ∧ WhA (h.put t (some (.cells false [.int .i64 dv, ptr w 0, u32 T'.c, u32 T'.p, u32 T'.s]))) w S fp ∧ Upd h (h.put t (some (.cells false [.int .i64 dv, ptr w 0, u32 T'.c, u32 T'.p, u32 T'.s]))) (t :: w :: fp) (t :: w :: fp) := fun T' =>
    ⟨by unfold TmC; rw [get_put_self hl], Q.keep fun b hb => get_put_ne (hdw b hb), ⟨by simp, fun b hb hn => get_put_ne fun e => hn (by rw [e]; simp), fun b hb => .inl hb⟩⟩
  rw [w_timer_Timer_Fire]
  by_cases c2 : N.c &&& 2#32 = 0#32
  · obtain ⟨k1, k2, k3⟩ := key { N with c := N.c &&& ~~~ 1#32, s := 1#32 }
    simp (maxSteps := 1000000) (disch := first | assumption | ((try simp only [push_next, put_next, adv_next, List.length_cons, List.length_nil, List.length_map, List.length_set]); omega) | simp) [A, c2]
    exact hq _ _ (by simpa [TmS.fire, c2] using k1) (by simpa [TmS.firew, c2] using k2) k3 hd
  · obtain ⟨k1, k2, k3⟩ := key { N with s := 1#32 }
    simp (maxSteps := 1000000) (disch := first | assumption | ((try simp only [push_next, put_next, adv_next, List.length_cons, List.length_nil, List.length_map, List.length_set]); omega) | simp) [A, c2]
    generalize h.put t (some (.cells false [.int .i64 dv, ptr w 0, u32 N.c, u32 N.p, u32 1#32])) = h1 at *
    refine marm k1 k2 hd hn fun h2 fp2 T2 Q2 U2 N2 => ?_
    simp (maxSteps := 1000000) (disch := first | assumption | ((try simp only [push_next, put_next, adv_next, List.length_cons, List.length_nil, List.length_map, List.length_set]); omega) | simp)
    exact hq _ _ (by simpa [TmS.fire, c2] using T2) (by simpa [TmS.firew, c2] using Q2) (k3.trans U2) N2
end
end Go.Proofs.Ytpdfdemoflofhaa.Cd

/- The lines: what each function does. -/
set_option maxRecDepth 1000000
set_option linter.unusedSimpArgs false
namespace Go.Proofs.Ytpdfdemoflofhaa.Cd
open Go Go.Dx
theorem k32_0 : Value.int .u32 0 = u32 0 := rfl
theorem k32_1 : Value.int .u32 1 = u32 1 := rfl
theorem k32_4 : Value.int .u32 4 = u32 4 := rfl
theorem k32_8 : Value.int .u32 8 = u32 8 := rfl
theorem k32_12 : Value.int .u32 12 = u32 12 := rfl
theorem k32_62 : Value.int .u32 62 = u32 62 := rfl
section
variable {h : Hp} {b : Nat} {r m : BitVec 32} {q : Value → Hp → Prop}
def Ln (h : Hp) (b : Nat) (r m : BitVec 32) : Prop := h.get b = some (.cells false [u32 r, u32 m])
theorem lraised (hb : Ln h b r m) : WC T n_lines_Lines_Raised [ptr b 0] h q ↔ q (.bool (r &&& m != 0)) h := by
  unfold Ln at hb
  rw [w_lines_Lines_Raised]
  simp [Hp.rd, Hp.cells, hb, k32_0, and_u32, neq_u32]
theorem lnew : WC T n_lines_New [] h q ↔ q (ptr h.next 0) (h.push (.cells false [u32 0, u32 0])) := by
  rw [w_lines_New]
  simp [opA, k32_0, fillIn, evp, Value.cells]
/-- A line up or down. -/
def lset (d : Int) (up : Bool) (r : BitVec 32) : BitVec 32 :=
  if d < 1 ∨ 5 < d then r else if up then r &&& ~~~ (1#32 <<< d.toNat) ||| 1#32 <<< d.toNat else r &&& ~~~ (1#32 <<< d.toNat)
theorem shl_u32_I (x : BitVec 32) {k : IntKind} {n : Int} (hn : 0 ≤ n) : binV .shl (u32 x) (.int k n) = some (u32 (x <<< n.toNat)) := by
  obtain ⟨m, rfl⟩ := Int.eq_ofNat_of_zero_le hn
  exact shl_u32_n x k m
theorem binV_lss64 (a b : Int) : binV .lss (.int .i64 a) (.int .i64 b) = some (.bool (decide (a < b))) := rfl
theorem binV_gtr64 (a b : Int) : binV .gtr (.int .i64 a) (.int .i64 b) = some (.bool (decide (a > b))) := rfl
theorem lsets {d : Int} {up : Bool} (hb : Ln h b r m) : WC T n_lines_Lines_Set [ptr b 0, .int .i64 d, .bool up] h q ↔ q (.tuple #[]) (if d < 1 ∨ 5 < d then h else h.put b (some (.cells false [u32 (lset d up r), u32 m]))) := by
  have hlt := lt_of_get hb
  unfold Ln at hb
  rw [w_lines_Lines_Set]
  by_cases h1 : d < 1
  · simp [binV_lss64, binV_gtr64, h1]
  by_cases h2 : 5 < d
  · simp [binV_lss64, binV_gtr64, h1, h2]
  have h3 : 0 ≤ d := by omega
  cases up <;> simp [Hp.rd, Hp.cells, Hp.wr, over, hb, get_put_self hlt, k32_1, h1, h2, lset, andNot_u32, or_u32, shl_u32_I _ h3, binV_lss64, binV_gtr64]
/-- Which words there are. -/
def lat (at' : BitVec 32) : Bool := at' == 4 || at' == 0 || at' == 8 || at' == 12
theorem lwrite {at' v : BitVec 32} (hb : Ln h b r m) : WC T n_lines_Lines_Write [ptr b 0, u32 at', u32 v] h q ↔ q (.bool (lat at')) (if at' = 4 then h.put b (some (.cells false [u32 r, u32 (v &&& 62)])) else h) := by
  have hlt := lt_of_get hb
  unfold Ln at hb
  rw [w_lines_Lines_Write]
  by_cases h4 : at' = 4#32
  · simp [Hp.rd, Hp.cells, Hp.wr, over, hb, get_put_self hlt, h4, eql_u32, and_u32, k32_4, k32_62, lat]
  by_cases h0 : at' = 0#32
  · simp [Hp.rd, Hp.cells, Hp.wr, over, hb, get_put_self hlt, h0, eql_u32, and_u32, k32_4, k32_0, k32_8, k32_12, k32_62, lat]
  by_cases h8 : at' = 8#32
  · simp [Hp.rd, Hp.cells, Hp.wr, over, hb, get_put_self hlt, h8, eql_u32, and_u32, k32_4, k32_0, k32_8, k32_12, k32_62, lat]
  by_cases h12 : at' = 12#32
  · simp [Hp.rd, Hp.cells, Hp.wr, over, hb, get_put_self hlt, h12, eql_u32, and_u32, k32_4, k32_0, k32_8, k32_12, k32_62, lat]
  have e4 : (at' == 4#32) = false := by simpa using h4
  have e0 : (at' == 0#32) = false := by simpa using h0
  have e8 : (at' == 8#32) = false := by simpa using h8
  have e12 : (at' == 12#32) = false := by simpa using h12
  simp [Hp.rd, Hp.cells, Hp.wr, over, hb, get_put_self hlt, e4, e0, e8, e12, h0, h4, h8, h12, eql_u32, and_u32, k32_4, k32_0, k32_8, k32_12, k32_62, lat]
/-- What a word says. -/
def lrd (r m at' : BitVec 32) (now : Int) : BitVec 32 :=
  if at' = 0 then r else if at' = 4 then m else if at' = 8 then BitVec.ofInt 32 now else if at' = 12 then BitVec.ofInt 32 (now.fdiv 4294967296) else 0
theorem lread {at' : BitVec 32} {now : Int} (hb : Ln h b r m) : WC T n_lines_Lines_Read [ptr b 0, u32 at', .int .i64 now] h q ↔ q (.tuple #[u32 (lrd r m at' now), .bool (lat at')]) h := by
  have hlt := lt_of_get hb
  unfold Ln at hb
  rw [w_lines_Lines_Read]
  have hsh : binV .shr (.int .i64 now) (.int .u64 32) = some (.int .i64 (now.fdiv 4294967296)) := rfl
  by_cases h0 : at' = 0#32
  · simp [cvt_u32_int, int_u32, Hp.rd, Hp.cells, Hp.wr, over, hb, get_put_self hlt, h0, eql_u32, and_u32, k32_4, k32_0, k32_8, k32_12, k32_62, lat, lrd, hsh, cvt_u32_int]
  by_cases h4 : at' = 4#32
  · simp [cvt_u32_int, int_u32, Hp.rd, Hp.cells, Hp.wr, over, hb, get_put_self hlt, h4, eql_u32, and_u32, k32_4, k32_0, k32_8, k32_12, k32_62, lat, lrd, hsh, cvt_u32_int]
  by_cases h8 : at' = 8#32
  · simp [cvt_u32_int, int_u32, Hp.rd, Hp.cells, Hp.wr, over, hb, get_put_self hlt, h8, eql_u32, and_u32, k32_4, k32_0, k32_8, k32_12, k32_62, lat, lrd, hsh, cvt_u32_int]
  by_cases h12 : at' = 12#32
  · simp [cvt_u32_int, int_u32, Hp.rd, Hp.cells, Hp.wr, over, hb, get_put_self hlt, h12, eql_u32, and_u32, k32_4, k32_0, k32_8, k32_12, k32_62, lat, lrd, hsh, cvt_u32_int]
  have e4 : (at' == 4#32) = false := by simpa using h4
  have e0 : (at' == 0#32) = false := by simpa using h0
  have e8 : (at' == 8#32) = false := by simpa using h8
  have e12 : (at' == 12#32) = false := by simpa using h12
  simp [cvt_u32_int, int_u32, Hp.rd, Hp.cells, Hp.wr, over, hb, get_put_self hlt, e4, e0, e8, e12, h0, h4, h8, h12, eql_u32, and_u32, k32_4, k32_0, k32_8, k32_12, k32_62, lat, lrd, hsh, cvt_u32_int]
end
end Go.Proofs.Ytpdfdemoflofhaa.Cd

/- The line of bytes: what each function does. -/
set_option maxRecDepth 1000000
set_option maxHeartbeats 4000000
set_option linter.unusedSimpArgs false
set_option linter.unusedVariables false
namespace Go.Proofs.Ytpdfdemoflofhaa.Cd
open Go Go.Dx
structure UaS where
  i : By
  o : By
  lost : Bool
  ctl : BitVec 32
  out : By
def uat (a : BitVec 32) : Bool := decide (a = 0#32 ∨ a = 4#32 ∨ a = 8#32)
def ubit (t : Bool) (b : BitVec 32) : BitVec 32 := if t = true then b else 0#32
def UaS.stat (U : UaS) : BitVec 32 := ubit (decide (0 < U.i.length)) 1#32 ||| ubit (decide ((U.o.length : Int) = 16)) 2#32 ||| ubit U.lost 4#32 ||| ubit (decide (U.o = [])) 8#32
def UaS.rd (U : UaS) (a : BitVec 32) : BitVec 32 := if a = 0#32 then (match U.i with | [] => 256#32 | b :: _ => b.setWidth 32) else if a = 4#32 then U.stat else if a = 8#32 then U.ctl else 0#32
def UaS.rds (U : UaS) (a : BitVec 32) : UaS := if a = 0#32 then { U with i := U.i.tail } else U
def UaS.wr (U : UaS) (a v : BitVec 32) : UaS := if a = 0#32 then (if U.o.length < 16 then { U with o := U.o ++ [v.setWidth 8] } else U) else if a = 4#32 then { U with lost := U.lost && decide (v &&& 4#32 = 0#32) } else if a = 8#32 then { U with ctl := v &&& 3#32 } else U
def UaS.wrw (U : UaS) (W : WhS) (d : Int) (a : BitVec 32) (now : Int) : WhS := if a = 0#32 ∧ U.o.length = 0 then W.arm d (now + 8) else W
def UaS.fire (U : UaS) : UaS := match U.o with | [] => U | b :: t => { U with o := t, out := if U.out.length < 65536 then U.out ++ [b] else U.out }
def UaS.firew (U : UaS) (W : WhS) (d now : Int) : WhS := if 1 < U.o.length then W.arm d (now + 8) else W
def UaS.typ (U : UaS) (b : BitVec 8) : UaS := if U.i.length < 16 then { U with i := U.i ++ [b] } else { U with lost := true }
def UaS.line (U : UaS) : Bool := (U.ctl &&& 1#32 != 0#32 && decide (0 < U.i.length)) || (U.ctl &&& 2#32 != 0#32 && decide (U.o = []))
/-- A line as it lies. -/
structure Ua (h : Hp) (x w : Nat) (dv : Int) (fo : List Nat) (U : UaS) : Prop where
  u : ∃ v, h.get (x + 2) = some (.cells false [.int .i64 dv, ptr w 0, .chan (some x), .chan (some (x + 1)), .bool U.lost, u32 U.ctl, v]) ∧ Own encB h v U.out fo
  i : h.get x = some (.chan 16 (U.i.map u8))
  o : h.get (x + 1) = some (.chan 16 (U.o.map u8))
  off : ∀ b ∈ fo, b < x ∨ x + 2 < b
  ni : U.i.length ≤ 16
  no : U.o.length ≤ 16
  nout : U.out.length ≤ 65536
section
variable {h : Hp} {q : Value → Hp → Prop} {x w c : Nat} {dv now : Int} {fo fp : List Nat} {U : UaS} {S : WhS} {a v : BitVec 32} {B : By} {cap : Nat} {b : BitVec 8}
theorem utake (hg : h.get c = some (.chan cap (B.map u8))) : WC T n_uart_take [.chan (some c)] h q ↔ q (.tuple #[u8 (B.headD 0#8), .bool (!B.isEmpty)]) (match B with | [] => h | _ :: t => h.put c (some (.chan cap (t.map u8)))) := by
  rw [WC_spec T_uart_take]
  cases B with
  | nil =>
    simp only [List.map_nil] at hg
    simp only [sTake, hg]
    constructor
    · rintro ⟨r, e, hq⟩
      cases e
      exact hq
    · exact fun hq => ⟨_, rfl, hq⟩
  | cons y B =>
    simp only [List.map_cons] at hg
    have hg' : h.get c = some (.chan cap (.int .u8 (y.toNat : Int) :: B.map u8)) := hg
    simp only [sTake, hg']
    constructor
    · rintro ⟨r, e, hq⟩
      cases e
      exact hq
    · exact fun hq => ⟨_, rfl, hq⟩
theorem uput (hg : h.get c = some (.chan cap (B.map u8))) : WC T n_uart_put [.chan (some c), u8 b] h q ↔ q (.bool (decide (B.length < cap))) (if B.length < cap then h.put c (some (.chan cap ((B ++ [b]).map u8))) else h) := by
  rw [WC_spec T_uart_put]
  simp only [sPut, u8, hg]
  by_cases hl : B.length < cap
  · have hl' : (B.map u8).length < cap := by simpa using hl
    simp only [if_pos hl', if_pos hl]
    constructor
    · rintro ⟨r, e, hq⟩
      cases e
      simpa [hl, u8] using hq
    · exact fun hq => ⟨_, rfl, by simpa [hl, u8] using hq⟩
  · have hl' : ¬ (B.map u8).length < cap := by simpa using hl
    simp only [if_neg hl', if_neg hl]
    constructor
    · rintro ⟨r, e, hq⟩
      cases e
      simpa [hl] using hq
    · exact fun hq => ⟨_, rfl, by simpa [hl] using hq⟩
theorem ubit_ {t : Bool} {v : BitVec 32} : WC T n_uart_bit [.bool t, u32 v] h q ↔ q (u32 (ubit t v)) h := by
  rw [w_uart_bit]
  cases t <;> simp (maxSteps := 1000000) (disch := first | assumption | ((try simp only [push_next, put_next, adv_next, List.length_cons, List.length_nil, List.length_map, List.length_set]); omega) | simp) [ubit]
theorem unew (hw : w < h.next) (hq : ∀ h', Ua h' h.next w dv [] ⟨[], [], false, 0#32, []⟩ → Kp h h' → h'.next = h.next + 3 → q (ptr (h.next + 2) 0) h') : WC T n_uart_New [.int .i64 dv, ptr w 0] h q := by
  rw [w_uart_New]
  simp (maxSteps := 1000000) (disch := first | assumption | ((try simp only [push_next, put_next, adv_next, List.length_cons, List.length_nil, List.length_map, List.length_set]); omega) | simp)
  refine hq _ ⟨⟨.slice none 0 0, ?_, .nul⟩, ?_, ?_, by simp, by simp, by simp, by simp⟩ (((((Kp.refl h).adv 3).put (Nat.le_refl _) _).put (by omega) _).put (by omega) _) (by simp)
  · rw [get_put_self (by simp)]
  · rw [get_put_ne (by omega), get_put_ne (by omega), get_put_self (by simp)]
    rfl
  · rw [get_put_ne (by omega), get_put_self (by simp)]
    rfl
theorem uread (A : Ua h x w dv fo U) (hq : ∀ h', Ua h' x w dv fo (U.rds a) → Upd h h' [x] [x] → q (.tuple #[u32 (U.rd a), .bool (uat a)]) h') : WC T n_uart_Uart_Read [ptr (x + 2) 0, u32 a] h q := by
  obtain ⟨v, g1, ho⟩ := A.u
  have g2 := A.i
  have g3 := A.o
  have n2 := lenC_of g2
  have n3 := lenC_of g3
  have l1 := lt_of_get g1
  rw [w_uart_Uart_Read]
  by_cases a0 : a = 0#32
  · subst a0
    cases hU : U.i with
    | nil =>
      rw [hU] at g2
      have ht := fun q => utake (q := q) g2
      simp only [List.headD_nil, List.isEmpty_nil, Bool.not_true] at ht
      simp (maxSteps := 1000000) (disch := first | assumption | ((try simp only [push_next, put_next, adv_next, List.length_cons, List.length_nil, List.length_map, List.length_set]); omega) | simp) [g1, GC_of ht]
      have e : U.rds 0#32 = U := by cases U; simp at hU; subst hU; rfl
      have := hq h (by rw [e]; exact A) (Kp.upd (Kp.refl h) _)
      simpa [UaS.rd, hU, uat] using this
    | cons y t =>
      rw [hU] at g2
      have ht := fun q => utake (q := q) g2
      simp only [List.headD_cons, List.isEmpty_cons, Bool.not_false] at ht
      simp (maxSteps := 1000000) (disch := first | assumption | ((try simp only [push_next, put_next, adv_next, List.length_cons, List.length_nil, List.length_map, List.length_set]); omega) | simp) [g1, GC_of ht]
      have A1 : Ua (h.put x (some (.chan 16 (t.map u8)))) x w dv fo (U.rds 0#32) :=
        ⟨⟨v, by rw [get_put_ne (by omega), g1]; rfl, ho.keep fun b hb => get_put_ne (by have := A.off b hb; omega)⟩, by rw [get_put_self (by omega)]; simp [UaS.rds, hU], by rw [get_put_ne (by omega), g3]; rfl, A.off, by have := A.ni; rw [hU] at this; simp [UaS.rds, hU] at this ⊢; omega, A.no, A.nout⟩
      have := hq _ A1 ⟨by simp, fun b hb hn => get_put_ne (by simpa using hn), fun b hb => .inl hb⟩
      simpa [UaS.rd, hU, uat] using this
  by_cases a4 : a = 4#32
  · subst a4
    simp (maxSteps := 1000000) (disch := first | assumption | ((try simp only [push_next, put_next, adv_next, List.length_cons, List.length_nil, List.length_map, List.length_set]); omega) | simp) [g1, n2, n3, GC_of (fun q => ubit_ (q := q)), GCI_of (fun q => ubit_ (q := q))]
    refine ⟨by simp [veq, veqF], ?_⟩
    have := hq h A (Kp.upd (Kp.refl h) _)
    simpa [UaS.rd, UaS.stat, uat] using this
  by_cases a8 : a = 8#32
  · subst a8
    simp (maxSteps := 1000000) (disch := first | assumption | ((try simp only [push_next, put_next, adv_next, List.length_cons, List.length_nil, List.length_map, List.length_set]); omega) | simp) [g1]
    have := hq h A (Kp.upd (Kp.refl h) _)
    simpa [UaS.rd, uat] using this
  have h0 := hq h (by simpa [UaS.rds, a0] using A) (Kp.upd (Kp.refl h) _)
  simp only [UaS.rd, uat, a0, a4, a8, if_false, or_false, decide_false] at h0
  simp (maxSteps := 1000000) (disch := first | assumption | ((try simp only [push_next, put_next, adv_next, List.length_cons, List.length_nil, List.length_map, List.length_set]); omega) | simp) [a0, a4, a8]
  exact h0
theorem uline (A : Ua h x w dv fo U) : WC T n_uart_Uart_Line [ptr (x + 2) 0] h q ↔ q (.bool U.line) h := by
  obtain ⟨v, g1, ho⟩ := A.u
  have g2 := A.i
  have g3 := A.o
  have n2 := lenC_of g2
  have n3 := lenC_of g3
  rw [w_uart_Uart_Line]
  by_cases c1 : U.ctl &&& 1#32 = 0#32
  · by_cases c2 : U.ctl &&& 2#32 = 0#32
    · simp (maxSteps := 1000000) (disch := first | assumption | ((try simp only [push_next, put_next, adv_next, List.length_cons, List.length_nil, List.length_map, List.length_set]); omega) | simp) [g1, n2, n3, c1, c2, UaS.line]
    · have b2 : (U.ctl &&& 2#32 != 0#32) = true := by simpa using c2
      simp (maxSteps := 1000000) (disch := first | assumption | ((try simp only [push_next, put_next, adv_next, List.length_cons, List.length_nil, List.length_map, List.length_set]); omega) | simp) [g1, n2, n3, c1, c2, UaS.line, b2]
  · have b1 : (U.ctl &&& 1#32 != 0#32) = true := by simpa using c1
    by_cases c3 : 0 < U.i.length
    · simp (maxSteps := 1000000) (disch := first | assumption | ((try simp only [push_next, put_next, adv_next, List.length_cons, List.length_nil, List.length_map, List.length_set]); omega) | simp) [g1, n2, n3, c1, c3, UaS.line, b1]
    · by_cases c2 : U.ctl &&& 2#32 = 0#32
      · simp (maxSteps := 1000000) (disch := first | assumption | ((try simp only [push_next, put_next, adv_next, List.length_cons, List.length_nil, List.length_map, List.length_set]); omega) | simp) [g1, n2, n3, c1, c2, c3, UaS.line, b1]
      · have b2 : (U.ctl &&& 2#32 != 0#32) = true := by simpa using c2
        simp (maxSteps := 1000000) (disch := first | assumption | ((try simp only [push_next, put_next, adv_next, List.length_cons, List.length_nil, List.length_map, List.length_set]); omega) | simp) [g1, n2, n3, c1, c2, c3, UaS.line, b1, b2]
theorem Ua.lt (A : Ua h x w dv fo U) : x + 2 < h.next := by
  obtain ⟨v, g1, ho⟩ := A.u
  exact lt_of_get g1
theorem Ua.keep {h' : Hp} (A : Ua h x w dv fo U) (hk : ∀ b, b < h.next → (x ≤ b ∧ b ≤ x + 2 ∨ b ∈ fo) → h'.get b = h.get b) : Ua h' x w dv fo U := by
  have hl := A.lt
  obtain ⟨v, g1, ho⟩ := A.u
  exact ⟨⟨v, by rw [hk _ (by omega) (by omega), g1], ho.keep fun b hb => hk _ (ho.live b hb) (.inr hb)⟩, by rw [hk _ (by omega) (by omega), A.i], by rw [hk _ (by omega) (by omega), A.o], A.off, A.ni, A.no, A.nout⟩
theorem Ua.kp {h' : Hp} (A : Ua h x w dv fo U) (K : Kp h h') : Ua h' x w dv fo U := A.keep fun b hb _ => K.get b hb
theorem utype (A : Ua h x w dv fo U) (hq : ∀ h', Ua h' x w dv fo (U.typ b) → Upd h h' [x, x + 2] [x, x + 2] → q (.tuple #[]) h') : WC T n_uart_Uart_Type [ptr (x + 2) 0, u8 b] h q := by
  obtain ⟨v, g1, ho⟩ := A.u
  have g2 := A.i
  have g3 := A.o
  have l1 := lt_of_get g1
  have ht := fun q => uput (q := q) (b := b) g2
  rw [w_uart_Uart_Type]
  by_cases hc : U.i.length < 16
  · simp only [hc, decide_true, if_true] at ht
    simp (maxSteps := 1000000) (disch := first | assumption | ((try simp only [push_next, put_next, adv_next, List.length_cons, List.length_nil, List.length_map, List.length_set]); omega) | simp) [g1, GC_of ht]
    refine hq _ ⟨⟨v, by rw [get_put_ne (by omega), g1]; simp [UaS.typ, hc], by simpa [UaS.typ, hc] using ho.keep fun b hb => get_put_ne (by have := A.off b hb; omega)⟩, by rw [get_put_self (by omega)]; simp [UaS.typ, hc], by rw [get_put_ne (by omega), g3]; simp [UaS.typ, hc], A.off, by simp [UaS.typ, hc]; omega, by simpa [UaS.typ, hc] using A.no, by simpa [UaS.typ, hc] using A.nout⟩ ⟨by simp, fun b hb hn => get_put_ne (by simp at hn; exact hn.1), fun b hb => .inl hb⟩
  · simp only [hc, decide_false, if_false] at ht
    simp (maxSteps := 1000000) (disch := first | assumption | ((try simp only [push_next, put_next, adv_next, List.length_cons, List.length_nil, List.length_map, List.length_set]); omega) | simp) [g1, GC_of ht]
    refine hq _ ⟨⟨v, by rw [get_put_self (by omega)]; simp [UaS.typ, hc], by simpa [UaS.typ, hc] using ho.keep fun b hb => get_put_ne (by have := A.off b hb; omega)⟩, by rw [get_put_ne (by omega), g2]; simp [UaS.typ, hc], by rw [get_put_ne (by omega), g3]; simp [UaS.typ, hc], A.off, by simpa [UaS.typ, hc] using A.ni, by simpa [UaS.typ, hc] using A.no, by simpa [UaS.typ, hc] using A.nout⟩ ⟨by simp, fun b hb hn => get_put_ne (by simp at hn; exact hn.2), fun b hb => .inl hb⟩
theorem uout (A : Ua h x w dv fo U) (hq : ∀ a c h', Sees encB h' a U.out → Kp h h' → q (.slice a U.out.length c) h') : WC T n_uart_Uart_Out [ptr (x + 2) 0] h q := by
  obtain ⟨v, g1, ho⟩ := A.u
  have hno := A.nout
  obtain ⟨a, c, rfl, hs, _, _⟩ := ho.len
  rw [w_uart_Uart_Out]
  simp (maxSteps := 1000000) (disch := first | assumption | ((try simp only [push_next, put_next, adv_next, List.length_cons, List.length_nil, List.length_map, List.length_set]); omega) | simp) [g1]
  refine clone_by hs (by omega) fun a' c' h' hs' K _ _ => ?_
  simp (maxSteps := 1000000) (disch := first | assumption | ((try simp only [push_next, put_next, adv_next, List.length_cons, List.length_nil, List.length_map, List.length_set]); omega) | simp)
  exact hq _ _ _ hs' K
/-- Apart from the line's own blocks. -/
def Ap (x : Nat) (fo l : List Nat) : Prop := ∀ b ∈ l, (b < x ∨ x + 2 < b) ∧ b ∉ fo
/-- It is armed. -/
theorem uarm (A : Ua h x w dv fo U) (Q : WhA h w S fp) (hoff : Ap x fo (w :: fp)) (hn : -2 ^ 62 ≤ now ∧ now ≤ 2 ^ 62)
    (hq : ∀ h' fp', Ua h' x w dv fo U → WhA h' w (S.arm dv (now + 8)) fp' → Upd h h' (w :: fp) (w :: fp') → Ap x fo (w :: fp') → q (.tuple #[]) h') : WC T n_uart_Uart_arm [ptr (x + 2) 0, .int .i64 now] h q := by
  obtain ⟨v, g1, ho⟩ := A.u
  rw [w_uart_Uart_arm]
  simp (maxSteps := 1000000) (disch := first | assumption | ((try simp only [push_next, put_next, adv_next, List.length_cons, List.length_nil, List.length_map, List.length_set]); omega) | simp) [g1]
  refine warmS Q fun h1 fp1 Q1 U1 => ?_
  simp (maxSteps := 1000000) (disch := first | assumption | ((try simp only [push_next, put_next, adv_next, List.length_cons, List.length_nil, List.length_map, List.length_set]); omega) | simp)
  exact hq _ _ (A.keep fun b hb hm => U1.get b hb fun hc => by
    have := hoff b hc
    rcases hm with hm | hm
    · omega
    · exact this.2 hm) Q1 U1 fun b hb => by
      rcases U1.sub b hb with h5 | h5
      · exact hoff b h5
      · have := A.lt
        exact ⟨by omega, fun hf => by have := ho.live b hf; omega⟩
theorem uwrite (A : Ua h x w dv fo U) (Q : WhA h w S fp) (hoff : Ap x fo (w :: fp)) (hn : -2 ^ 62 ≤ now ∧ now ≤ 2 ^ 62)
    (hq : ∀ h' fp', Ua h' x w dv fo (U.wr a v) → WhA h' w (U.wrw S dv a now) fp' → Upd h h' ((x + 1) :: (x + 2) :: w :: fp) ((x + 1) :: (x + 2) :: w :: fp') → Ap x fo (w :: fp') → q (.bool (uat a)) h') :
    WC T n_uart_Uart_Write [ptr (x + 2) 0, u32 a, u32 v, .int .i64 now] h q := by
  have A0 := A
  obtain ⟨vo, g1, ho⟩ := A.u
  have g2 := A.i
  have g3 := A.o
  have n3 := lenC_of g3
  have l1 := lt_of_get g1
  rw [w_uart_Uart_Write]
  by_cases a0 : a = 0#32
  · subst a0
    have t0 : uat 0#32 = true := rfl
    have ht := fun q => uput (q := q) (b := v.setWidth 8) g3
    by_cases hc : U.o.length < 16
    · simp only [hc, decide_true, if_true] at ht
      have A1 : Ua (h.put (x + 1) (some (.chan 16 ((U.o ++ [v.setWidth 8]).map u8)))) x w dv fo (U.wr 0#32 v) :=
        ⟨⟨vo, by rw [get_put_ne (by omega), g1]; simp [UaS.wr, hc], by simpa [UaS.wr, hc] using ho.keep fun b hb => get_put_ne (by have := A.off b hb; omega)⟩, by rw [get_put_ne (by omega), g2]; simp [UaS.wr, hc], by rw [get_put_self (by omega)]; simp [UaS.wr, hc], A.off, by simpa [UaS.wr, hc] using A.ni, by simp [UaS.wr, hc]; omega, by simpa [UaS.wr, hc] using A.nout⟩
      have Q1 : WhA (h.put (x + 1) (some (.chan 16 ((U.o ++ [v.setWidth 8]).map u8)))) w S fp := Q.keep fun b hb => get_put_ne (by have := (hoff b hb).1; omega)
      have U1 : Upd h (h.put (x + 1) (some (.chan 16 ((U.o ++ [v.setWidth 8]).map u8)))) [x + 1] [x + 1] := ⟨by simp, fun b hb hn => get_put_ne (by simpa using hn), fun b hb => .inl hb⟩
      generalize h.put (x + 1) (some (.chan 16 ((U.o ++ [v.setWidth 8]).map u8))) = h1 at *
      by_cases h0 : U.o = []
      · have h0' : U.o.length = 0 := by rw [h0]; rfl
        simp (maxSteps := 1000000) (disch := first | assumption | ((try simp only [push_next, put_next, adv_next, List.length_cons, List.length_nil, List.length_map, List.length_set]); omega) | simp) [g1, n3, h0, GC_of ht]
        refine uarm A1 Q1 hoff hn fun h2 fp2 A2 Q2 U2 P2 => ?_
        simp (maxSteps := 1000000) (disch := first | assumption | ((try simp only [push_next, put_next, adv_next, List.length_cons, List.length_nil, List.length_map, List.length_set]); omega) | simp)
        have := hq h2 fp2 A2 (by simpa [UaS.wrw, h0'] using Q2) ⟨Nat.le_trans U1.le U2.le, fun b hb hn => by
          simp only [List.mem_cons, not_or] at hn
          rw [U2.get b (Nat.lt_of_lt_of_le hb U1.le) (by simp only [List.mem_cons, not_or]; exact hn.2.2), U1.get b hb (by simpa using hn.1)], fun b hb => by
          simp only [List.mem_cons] at hb ⊢
          rcases hb with hb | hb | hb
          · exact .inl (.inl hb)
          · exact .inl (.inr (.inl hb))
          · rcases U2.sub b (by simpa using hb) with h5 | h5
            · exact .inl (.inr (.inr (by simpa using h5)))
            · exact .inr (Nat.le_trans U1.le h5)⟩ P2
        rwa [t0] at this
      · have h0' : ¬ U.o.length = 0 := fun e => h0 (List.length_eq_zero_iff.1 e)
        simp (maxSteps := 1000000) (disch := first | assumption | ((try simp only [push_next, put_next, adv_next, List.length_cons, List.length_nil, List.length_map, List.length_set]); omega) | simp) [g1, n3, h0, h0', GC_of ht]
        have := hq h1 fp A1 (by simpa [UaS.wrw, h0'] using Q1) ⟨U1.le, fun b hb hn => U1.get b hb (by simp only [List.mem_cons, not_or] at hn; simpa using hn.1), fun b hb => .inl hb⟩ hoff
        rwa [t0] at this
    · simp only [hc, decide_false, if_false] at ht
      have h0' : ¬ U.o.length = 0 := by omega
      simp (maxSteps := 1000000) (disch := first | assumption | ((try simp only [push_next, put_next, adv_next, List.length_cons, List.length_nil, List.length_map, List.length_set]); omega) | simp) [g1, n3, GC_of ht]
      have := hq h fp (by simpa [UaS.wr, hc] using A0) (by simpa [UaS.wrw, h0'] using Q) (Kp.upd (Kp.refl h) _) hoff
      rwa [t0] at this
  have key : ∀ U' : UaS, U'.i = U.i → U'.o = U.o → U'.out = U.out → Ua (h.put (x + 2) (some (.cells false [.int .i64 dv, ptr w 0, .chan (some x), .chan (some (x + 1)), .bool U'.lost, u32 U'.ctl, vo]))) x w dv fo U' ∧ WhA (h.put (x + 2) (some (.cells false [.int .i64 dv, ptr w 0, .chan (some x), .chan (some (x + 1)), .bool U'.lost, u32 U'.ctl, vo]))) w S fp ∧ Upd h (h.put (x + 2) (some (.cells false [.int .i64 dv, ptr w 0, .chan (some x), .chan (some (x + 1)), .bool U'.lost, u32 U'.ctl, vo]))) ((x + 1) :: (x + 2) :: w :: fp) ((x + 1) :: (x + 2) :: w :: fp) := fun U' e1 e2 e3 =>
    ⟨⟨⟨vo, get_put_self l1, by rw [e3]; exact ho.keep fun b hb => get_put_ne (by have := A0.off b hb; omega)⟩, by rw [get_put_ne (by omega), g2, e1], by rw [get_put_ne (by omega), g3, e2], A0.off, by rw [e1]; exact A0.ni, by rw [e2]; exact A0.no, by rw [e3]; exact A0.nout⟩, Q.keep fun b hb => get_put_ne (by have := (hoff b hb).1; omega), ⟨by simp, fun b hb hn => get_put_ne (by simp only [List.mem_cons, not_or] at hn; exact hn.2.1), fun b hb => .inl hb⟩⟩
  by_cases a4 : a = 4#32
  · subst a4
    have t4 : uat 4#32 = true := rfl
    cases hlo : U.lost with
    | false =>
      rw [hlo] at g1
      simp (maxSteps := 1000000) (disch := first | assumption | ((try simp only [push_next, put_next, adv_next, List.length_cons, List.length_nil, List.length_map, List.length_set]); omega) | simp) [g1]
      obtain ⟨k1, k2, k3⟩ := key { U with lost := false } rfl rfl rfl
      have e : U.wr 4#32 v = { U with lost := false } := by simp [UaS.wr, hlo]
      have := hq _ fp (by rw [e]; exact k1) (by simpa [UaS.wrw] using k2) k3 hoff
      rwa [t4] at this
    | true =>
      rw [hlo] at g1
      by_cases v4 : v &&& 4#32 = 0#32
      · simp (maxSteps := 1000000) (disch := first | assumption | ((try simp only [push_next, put_next, adv_next, List.length_cons, List.length_nil, List.length_map, List.length_set]); omega) | simp) [g1, v4]
        obtain ⟨k1, k2, k3⟩ := key { U with lost := true } rfl rfl rfl
        have e : U.wr 4#32 v = { U with lost := true } := by simp [UaS.wr, hlo, v4]
        have := hq _ fp (by rw [e]; exact k1) (by simpa [UaS.wrw] using k2) k3 hoff
        rwa [t4] at this
      · have b4 : (v &&& 4#32 == 0#32) = false := by simpa using v4
        simp (maxSteps := 1000000) (disch := first | assumption | ((try simp only [push_next, put_next, adv_next, List.length_cons, List.length_nil, List.length_map, List.length_set]); omega) | simp) [g1, v4, b4]
        obtain ⟨k1, k2, k3⟩ := key { U with lost := false } rfl rfl rfl
        have e : U.wr 4#32 v = { U with lost := false } := by simp [UaS.wr, hlo, v4]
        have := hq _ fp (by rw [e]; exact k1) (by simpa [UaS.wrw] using k2) k3 hoff
        rwa [t4] at this
  by_cases a8 : a = 8#32
  · subst a8
    simp (maxSteps := 1000000) (disch := first | assumption | ((try simp only [push_next, put_next, adv_next, List.length_cons, List.length_nil, List.length_map, List.length_set]); omega) | simp) [g1]
    obtain ⟨k1, k2, k3⟩ := key { U with ctl := v &&& 3#32 } rfl rfl rfl
    have e : U.wr 8#32 v = { U with ctl := v &&& 3#32 } := by simp [UaS.wr]
    have := hq _ fp (by rw [e]; exact k1) (by simpa [UaS.wrw] using k2) k3 hoff
    rwa [show uat 8#32 = true from rfl] at this
  have h9 := hq h fp (by simpa [UaS.wr, a0, a4, a8] using A0) (by simpa [UaS.wrw, a0] using Q) (Kp.upd (Kp.refl h) _) hoff
  simp only [uat, a0, a4, a8, or_false, decide_false] at h9
  simp (maxSteps := 1000000) (disch := first | assumption | ((try simp only [push_next, put_next, adv_next, List.length_cons, List.length_nil, List.length_map, List.length_set]); omega) | simp) [a0, a4, a8]
  exact h9
/-- A byte goes out. -/
theorem ufire (A : Ua h x w dv fo U) (Q : WhA h w S fp) (hoff : Ap x fo (w :: fp)) (hn : -2 ^ 62 ≤ now ∧ now ≤ 2 ^ 62)
    (hq : ∀ h' fp' fo', Ua h' x w dv fo' U.fire → WhA h' w (U.firew S dv now) fp' → Upd h h' ((x + 1) :: (x + 2) :: fo ++ w :: fp) ((x + 1) :: (x + 2) :: fo' ++ w :: fp') → Ap x fo' (w :: fp') → q (.tuple #[]) h') :
    WC T n_uart_Uart_Fire [ptr (x + 2) 0, .int .i64 now] h q := by
  have A0 := A
  obtain ⟨vo, g1, ho⟩ := A.u
  have g2 := A.i
  have g3 := A.o
  have n3 := lenC_of g3
  have l1 := lt_of_get g1
  rw [w_uart_Uart_Fire]
  cases hU : U.o with
  | nil =>
    rw [hU] at g3 n3
    have ht := fun q => utake (q := q) g3
    simp only [List.headD_nil, List.isEmpty_nil, Bool.not_true] at ht
    simp (maxSteps := 1000000) (disch := first | assumption | ((try simp only [push_next, put_next, adv_next, List.length_cons, List.length_nil, List.length_map, List.length_set]); omega) | simp) [g1, GC_of ht, n3]
    refine hq h fp fo (by simpa [UaS.fire, hU] using A0) (by simpa [UaS.firew, hU] using Q) (Kp.upd (Kp.refl h) _) hoff
  | cons y t =>
    rw [hU] at g3 n3
    have ht := fun q => utake (q := q) g3
    simp only [List.headD_cons, List.isEmpty_cons, Bool.not_false] at ht
    obtain ⟨a0, c0, hvo, hs0, _, _⟩ := ho.len
    have hno := A0.nout
    subst hvo
    by_cases hl : U.out.length < 65536
    · have hli : (U.out.length : Int) < 65536 := by omega
      have ho1 : Own encB (h.put (x + 1) (some (.chan 16 (t.map u8)))) (.slice a0 U.out.length c0) U.out fo := ho.keep fun b hb => get_put_ne (by have := A0.off b hb; omega)
      obtain ⟨v', h2, fo2, e2, o2, U2⟩ := ho1.app1 y (bytes := 1) (by omega) (by omega)
      obtain ⟨a2, c2, hv2, _, _, _⟩ := o2.len
      rw [List.length_append, List.length_singleton] at hv2
      subst hv2
      have e2' : appendV ((h.put (x + 1) (some (.chan 16 (t.map u8)))).push (.cells false [u8 y])) 1 1 (.slice a0 U.out.length c0) (.slice (some ⟨h.next, 0, none⟩) 1 1) = some (.slice a2 (U.out.length + 1) c2, h2) := e2
      have hx : x ∉ fo := fun hm => by have := A0.off x hm; omega
      have hx1 : x + 1 ∉ fo := fun hm => by have := A0.off _ hm; omega
      have hx2 : x + 2 ∉ fo := fun hm => by have := A0.off _ hm; omega
      have k1 : h2.get (x + 2) = _ := (U2.get (x + 2) (by simpa using l1) hx2).trans ((get_put_ne (by omega)).trans g1)
      have k2 : h2.get x = some (.chan 16 (U.i.map u8)) := by rw [U2.get x (by simp; omega) hx, get_put_ne (by omega), g2]
      have k3 : h2.get (x + 1) = some (.chan 16 (t.map u8)) := by rw [U2.get (x + 1) (by simp; omega) hx1, get_put_self (by omega)]
      have l2 := lt_of_get k1
      have hle := U2.le
      simp only [put_next] at hle
      have hfo2 : ∀ b ∈ fo2, (b < x ∨ x + 2 < b) ∧ b ∉ w :: fp := fun b hb => by
        rcases U2.sub b hb with h5 | h5
        · exact ⟨A0.off b h5, fun hm => (hoff b hm).2 h5⟩
        · simp only [put_next] at h5
          exact ⟨by omega, fun hm => by have := Q.live b hm; omega⟩
      have A3 : Ua (h2.put (x + 2) (some (.cells false [.int .i64 dv, ptr w 0, .chan (some x), .chan (some (x + 1)), .bool U.lost, u32 U.ctl, .slice a2 (U.out.length + 1) c2]))) x w dv fo2 U.fire :=
        ⟨⟨.slice a2 (U.out.length + 1) c2, by rw [get_put_self l2]; simp [UaS.fire, hU], by
          have : U.fire.out = U.out ++ [y] := by simp [UaS.fire, hU, hl]
          rw [this]
          exact o2.keep fun b hb => get_put_ne (by have := (hfo2 b hb).1; omega)⟩, by rw [get_put_ne (by omega), k2]; simp [UaS.fire, hU], by rw [get_put_ne (by omega), k3]; simp [UaS.fire, hU], fun b hb => (hfo2 b hb).1, by simpa [UaS.fire, hU] using A0.ni, by have := A0.no; simp [UaS.fire, hU] at this ⊢; omega, by simp [UaS.fire, hU, hl]; omega⟩
      have Q3 : WhA (h2.put (x + 2) (some (.cells false [.int .i64 dv, ptr w 0, .chan (some x), .chan (some (x + 1)), .bool U.lost, u32 U.ctl, .slice a2 (U.out.length + 1) c2]))) w S fp := Q.keep fun b hb => by
        have h5 := hoff b hb
        rw [get_put_ne (by omega), U2.get b (by simpa using Q.live b hb) h5.2, get_put_ne (by omega)]
      have P3 : Ap x fo2 (w :: fp) := fun b hb => ⟨(hoff b hb).1, fun hm => (hfo2 b hm).2 hb⟩
      have U3 : Upd h (h2.put (x + 2) (some (.cells false [.int .i64 dv, ptr w 0, .chan (some x), .chan (some (x + 1)), .bool U.lost, u32 U.ctl, .slice a2 (U.out.length + 1) c2]))) ((x + 1) :: (x + 2) :: fo ++ w :: fp) ((x + 1) :: (x + 2) :: fo2 ++ w :: fp) := ⟨by simpa using hle, fun b hb hn => by
        simp only [List.cons_append, List.mem_cons, List.mem_append, not_or] at hn
        rw [get_put_ne hn.2.1, U2.get b (by simpa using hb) hn.2.2.1, get_put_ne hn.1], fun b hb => by
        simp only [List.cons_append, List.mem_cons, List.mem_append] at hb ⊢
        rcases hb with hb | hb | hb | hb
        · exact .inl (.inl hb)
        · exact .inl (.inr (.inl hb))
        · rcases U2.sub b hb with h5 | h5
          · exact .inl (.inr (.inr (.inl h5)))
          · exact .inr h5
        · exact .inl (.inr (.inr (.inr hb)))⟩
      have n4 : lenC (h2.put (x + 2) (some (.cells false [.int .i64 dv, ptr w 0, .chan (some x), .chan (some (x + 1)), .bool U.lost, u32 U.ctl, .slice a2 (U.out.length + 1) c2]))) (.chan (some (x + 1))) = some (.int .i64 t.length) := lenC_of (by rw [get_put_ne (by omega), k3])
      simp (maxSteps := 1000000) (disch := first | assumption | ((try simp only [push_next, put_next, adv_next, List.length_cons, List.length_nil, List.length_map, List.length_set]); omega) | simp) [g1, GC_of ht, n3, hli, e2', k1]
      generalize h2.put (x + 2) (some (.cells false [.int .i64 dv, ptr w 0, .chan (some x), .chan (some (x + 1)), .bool U.lost, u32 U.ctl, .slice a2 (U.out.length + 1) c2])) = h3 at *
      obtain ⟨v3, g5, _⟩ := A3.u
      cases t with
      | nil =>
        simp (maxSteps := 1000000) (disch := first | assumption | ((try simp only [push_next, put_next, adv_next, List.length_cons, List.length_nil, List.length_map, List.length_set]); omega) | simp) [g5, n4]
        exact hq h3 fp fo2 A3 (by simpa [UaS.firew, hU] using Q3) U3 P3
      | cons z t =>
        have hz : (0 : Int) < ((z :: t).length : Nat) := by simp
        simp (maxSteps := 1000000) (disch := first | assumption | ((try simp only [push_next, put_next, adv_next, List.length_cons, List.length_nil, List.length_map, List.length_set]); omega) | simp) [g5, n4]
        refine uarm A3 Q3 P3 hn fun h4 fp4 A4 Q4 U4 P4 => ?_
        simp (maxSteps := 1000000) (disch := first | assumption | ((try simp only [push_next, put_next, adv_next, List.length_cons, List.length_nil, List.length_map, List.length_set]); omega) | simp)
        refine hq h4 fp4 fo2 A4 (by simpa [UaS.firew, hU] using Q4) (U3.trans ⟨U4.le, fun b hb hn => U4.get b hb fun hm => hn (List.mem_append_right _ hm), fun b hb => ?_⟩) P4
        rcases List.mem_append.1 hb with h5 | h5
        · exact .inl (List.mem_append_left _ h5)
        · rcases U4.sub b h5 with h6 | h6
          · exact .inl (List.mem_append_right _ h6)
          · exact .inr h6
    · have hli : ¬ (U.out.length : Int) < 65536 := by omega
      have A3 : Ua (h.put (x + 1) (some (.chan 16 (t.map u8)))) x w dv fo U.fire :=
        ⟨⟨.slice a0 U.out.length c0, by rw [get_put_ne (by omega), g1]; simp [UaS.fire, hU], by
          have : U.fire.out = U.out := by simp [UaS.fire, hU, hl]
          rw [this]
          exact ho.keep fun b hb => get_put_ne (by have := A0.off b hb; omega)⟩, by rw [get_put_ne (by omega), g2]; simp [UaS.fire, hU], by rw [get_put_self (by omega)]; simp [UaS.fire, hU], A0.off, by simpa [UaS.fire, hU] using A0.ni, by have := A0.no; simp [UaS.fire, hU] at this ⊢; omega, by simp [UaS.fire, hU, hl]; omega⟩
      have Q3 : WhA (h.put (x + 1) (some (.chan 16 (t.map u8)))) w S fp := Q.keep fun b hb => get_put_ne (by have := hoff b hb; omega)
      have n4 : lenC (h.put (x + 1) (some (.chan 16 (t.map u8)))) (.chan (some (x + 1))) = some (.int .i64 t.length) := lenC_of (get_put_self (by omega))
      have U3 : Upd h (h.put (x + 1) (some (.chan 16 (t.map u8)))) ((x + 1) :: (x + 2) :: fo ++ w :: fp) ((x + 1) :: (x + 2) :: fo ++ w :: fp) := ⟨by simp, fun b hb hn => get_put_ne (by simp only [List.cons_append, List.mem_cons, not_or] at hn; exact hn.1), fun b hb => .inl hb⟩
      simp (maxSteps := 1000000) (disch := first | assumption | ((try simp only [push_next, put_next, adv_next, List.length_cons, List.length_nil, List.length_map, List.length_set]); omega) | simp) [g1, GC_of ht, n3, hli]
      generalize h.put (x + 1) (some (.chan 16 (t.map u8))) = h3 at *
      cases t with
      | nil =>
        simp (maxSteps := 1000000) (disch := first | assumption | ((try simp only [push_next, put_next, adv_next, List.length_cons, List.length_nil, List.length_map, List.length_set]); omega) | simp) [n4]
        exact hq h3 fp fo A3 (by simpa [UaS.firew, hU] using Q3) U3 hoff
      | cons z t =>
        have hz : (0 : Int) < ((z :: t).length : Nat) := by simp
        simp (maxSteps := 1000000) (disch := first | assumption | ((try simp only [push_next, put_next, adv_next, List.length_cons, List.length_nil, List.length_map, List.length_set]); omega) | simp) [n4]
        refine uarm A3 Q3 hoff hn fun h4 fp4 A4 Q4 U4 P4 => ?_
        simp (maxSteps := 1000000) (disch := first | assumption | ((try simp only [push_next, put_next, adv_next, List.length_cons, List.length_nil, List.length_map, List.length_set]); omega) | simp)
        refine hq h4 fp4 fo A4 (by simpa [UaS.firew, hU] using Q4) (U3.trans ⟨U4.le, fun b hb hn => U4.get b hb fun hm => hn (List.mem_append_right _ hm), fun b hb => ?_⟩) P4
        rcases List.mem_append.1 hb with h5 | h5
        · exact .inl (List.mem_append_left _ h5)
        · rcases U4.sub b h5 with h6 | h6
          · exact .inl (List.mem_append_right _ h6)
          · exact .inr h6
end
end Go.Proofs.Ytpdfdemoflofhaa.Cd

/- The bus: a world of memory and devices, and what keeps it. -/
set_option maxRecDepth 1000000
set_option maxHeartbeats 8000000
set_option linter.unusedSimpArgs false
set_option linter.unusedVariables false
namespace Go.Proofs.Ytpdfdemoflofhaa.Cd
open Go Go.Dx
/-- Where each part lies. -/
structure BL where
  x : Nat
  w : Nat
  l : Nat
  t1 : Nat
  t2 : Nat
  u : Nat
  d : Nat
  z : Nat
  y : Nat
  b : Nat
/-- What each part is. -/
structure BS where
  B : By
  M : List Bool
  W : List Bool
  S : WhS
  r : BitVec 32
  m : BitVec 32
  T1 : TmS
  T2 : TmS
  U : UaS
  D : DmS
  K : DkS
  E : By
def BL.ok (L : BL) : Prop := L.x + 3 < L.w ∧ L.w < L.l ∧ L.l < L.t1 ∧ L.t1 < L.t2 ∧ L.t2 < L.u ∧ L.u + 2 < L.d ∧ L.d < L.z ∧ L.z < L.y ∧ L.y < L.b
def BL.fx (L : BL) : List Nat := [L.x, L.x + 1, L.x + 2, L.x + 3, L.w, L.l, L.t1, L.t2, L.u, L.u + 1, L.u + 2, L.d, L.z, L.y, L.b]
def BL.fp (L : BL) (fp fo : List Nat) : List Nat := L.fx ++ (fp ++ fo)
/-- The bus as it lies. -/
structure BW (h : Hp) (L : BL) (fp fo : List Nat) (X : BS) : Prop where
  bs : h.get L.b = some (.cells false [ptr (L.x + 3) 0, ptr L.w 0, ptr L.l 0, ptr L.t1 0, ptr L.t2 0, ptr (L.u + 2) 0, ptr L.d 0, ptr L.y 0])
  ra : Ra h L.x X.B X.M X.W
  wh : WhA h L.w X.S fp
  ln : Ln h L.l X.r X.m
  t1 : TmC h L.t1 L.w 1 X.T1
  t2 : TmC h L.t2 L.w 2 X.T2
  ua : Ua h L.u L.w 3 fo X.U
  dm : Dm h L.d L.w L.x 4 X.D
  dk : Dk h L.y L.z L.w L.x 5 X.E X.K
  lay : L.ok
  gf : ∀ b ∈ fp, L.b < b
  go : ∀ b ∈ fo, L.b < b ∧ b ∉ fp
section
variable {h h' : Hp} {q : Value → Hp → Prop} {L : BL} {fp fo fp' fo' : List Nat} {X : BS} {S' : WhS} {now : Int} {a v : BitVec 32}
theorem BW.lt (A : BW h L fp fo X) : L.b < h.next := lt_of_get A.bs
theorem BW.nf (A : BW h L fp fo X) {c : Nat} (hc : c ≤ L.b) : c ∉ fp := fun hm => by have := A.gf c hm; omega
theorem BW.no (A : BW h L fp fo X) {c : Nat} (hc : c ≤ L.b) : c ∉ fo := fun hm => by have := A.go c hm; omega
theorem BL.mem (L : BL) {c : Nat} (ho : L.ok) (hc : c ∈ L.fx) : L.x ≤ c ∧ c ≤ L.b := by
  unfold BL.ok at ho
  simp only [BL.fx, List.mem_cons, List.not_mem_nil, or_false] at hc
  omega
theorem BW.keep (A : BW h L fp fo X) (hk : ∀ b ∈ L.fp fp fo, h'.get b = h.get b) : BW h' L fp fo X := by
  have ho := A.lay
  have kx : ∀ c ∈ L.fx, h'.get c = h.get c := fun c hc => hk c (List.mem_append_left _ hc)
  refine ⟨by rw [kx _ (by simp [BL.fx]), A.bs], A.ra.keep fun b h1 h2 => kx _ ?_, A.wh.keep fun b hb => ?_, ?_, ?_, ?_, A.ua.keep fun b _ hb => ?_, ?_, A.dk.keep (kx _ (by simp [BL.fx])) (kx _ (by simp [BL.fx])), ho, A.gf, A.go⟩
  · have : b = L.x ∨ b = L.x + 1 ∨ b = L.x + 2 ∨ b = L.x + 3 := by omega
    rcases this with rfl | rfl | rfl | rfl <;> simp [BL.fx]
  · rcases List.mem_cons.1 hb with rfl | hb
    · exact kx _ (by simp [BL.fx])
    · exact hk _ (List.mem_append_right _ (List.mem_append_left _ hb))
  · have := A.ln; unfold Ln at this ⊢; rw [kx _ (by simp [BL.fx]), this]
  · have := A.t1; unfold TmC at this ⊢; rw [kx _ (by simp [BL.fx]), this]
  · have := A.t2; unfold TmC at this ⊢; rw [kx _ (by simp [BL.fx]), this]
  · rcases hb with hb | hb
    · have : b = L.u ∨ b = L.u + 1 ∨ b = L.u + 2 := by omega
      rcases this with rfl | rfl | rfl <;> exact kx _ (by simp [BL.fx])
    · exact hk _ (List.mem_append_right _ (List.mem_append_right _ hb))
  · have := A.dm; unfold Dm at this ⊢; rw [kx _ (by simp [BL.fx]), this]
theorem BW.live (A : BW h L fp fo X) : ∀ b ∈ L.fp fp fo, b < h.next := fun b hb => by
  rcases List.mem_append.1 hb with hb | hb
  · have := (L.mem A.lay hb).2
    have := A.lt
    omega
  · rcases List.mem_append.1 hb with hb | hb
    · exact A.wh.live b (List.mem_cons_of_mem _ hb)
    · obtain ⟨v, _, ho⟩ := A.ua.u
      exact ho.live b hb
theorem BW.kp (A : BW h L fp fo X) (K : Kp h h') : BW h' L fp fo X := A.keep fun b hb => K.get b (A.live b hb)
theorem BW.upd {p p' : List Nat} (A : BW h L fp fo X) (U : Upd h h' p p') (hn : ∀ b ∈ L.fp fp fo, b ∉ p) : BW h' L fp fo X := A.keep fun b hb => U.get b (A.live b hb) (hn b hb)
/-- One part at a fixed place, and the wheel, changed. -/
theorem BW.dev (A : BW h L fp fo X) {c0 : Nat} (h0 : c0 ∈ L.fx) (Q1 : WhA h' L.w S' fp') (U : Upd h h' (c0 :: L.w :: fp) (c0 :: L.w :: fp')) (N : c0 ∉ fp') :
    (∀ c, c ≤ L.b → c ≠ c0 → c ≠ L.w → h'.get c = h.get c) ∧ (∀ b ∈ fo, h'.get b = h.get b) ∧ (∀ b ∈ fp', L.b < b) ∧ (∀ b ∈ fo, L.b < b ∧ b ∉ fp') ∧ Upd h h' (L.fp fp fo) (L.fp fp' fo) := by
  have hlt := A.lt
  have hx := (L.mem A.lay h0).2
  have hw : L.w ∈ L.fx := by simp [BL.fx]
  have hwb := (L.mem A.lay hw).2
  have sub : ∀ b ∈ fp', b ∈ fp ∨ h.next ≤ b := fun b hb => by
    rcases U.sub b (by simp [hb]) with h5 | h5
    · rcases List.mem_cons.1 h5 with rfl | h5
      · exact absurd hb N
      · rcases List.mem_cons.1 h5 with rfl | h5
        · exact absurd hb Q1.wh.nw
        · exact .inl h5
    · exact .inr h5
  have lo : ∀ b ∈ fo, b < h.next := fun b hb => A.live b (List.mem_append_right _ (List.mem_append_right _ hb))
  refine ⟨fun c hc n0 n1 => U.get c (by omega) ?_, fun b hb => U.get b (lo b hb) ?_, fun b hb => ?_, fun b hb => ⟨(A.go b hb).1, fun hm => ?_⟩, U.le, fun b hb hn => U.get b hb fun hm => hn ?_, fun b hb => ?_⟩
  · simp only [List.mem_cons, n0, n1, false_or]
    exact A.nf hc
  · have := A.go b hb
    simp only [List.mem_cons, not_or]
    exact ⟨by omega, by omega, this.2⟩
  · rcases sub b hb with h5 | h5
    · exact A.gf b h5
    · omega
  · rcases sub b hm with h5 | h5
    · exact (A.go b hb).2 h5
    · have := lo b hb; omega
  · rcases List.mem_cons.1 hm with rfl | hm
    · exact List.mem_append_left _ h0
    · rcases List.mem_cons.1 hm with rfl | hm
      · exact List.mem_append_left _ hw
      · exact List.mem_append_right _ (List.mem_append_left _ hm)
  · rcases List.mem_append.1 hb with hb | hb
    · exact .inl (List.mem_append_left _ hb)
    · rcases List.mem_append.1 hb with hb | hb
      · rcases sub b hb with h5 | h5
        · exact .inl (List.mem_append_right _ (List.mem_append_left _ h5))
        · exact .inr h5
      · exact .inl (List.mem_append_right _ (List.mem_append_right _ hb))
/-- Fixed places changed. -/
theorem BW.fix (A : BW h L fp fo X) {l : List Nat} (hl : ∀ b ∈ l, b ∈ L.fx) (U : Upd h h' l l) :
    (∀ c, c ≤ L.b → c ∉ l → h'.get c = h.get c) ∧ (∀ b ∈ fp ++ fo, h'.get b = h.get b) ∧ Upd h h' (L.fp fp fo) (L.fp fp fo) := by
  have hlt := A.lt
  refine ⟨fun c hc n0 => U.get c (by omega) n0, fun b hb => U.get b (A.live b (List.mem_append_right _ hb)) fun hm => ?_, U.wid fun b hb => List.mem_append_left _ (hl b hb)⟩
  have := (L.mem A.lay (hl b hm)).2
  rcases List.mem_append.1 hb with hb | hb
  · have := A.gf b hb; omega
  · have := (A.go b hb).1; omega
theorem BW.off (A : BW h L fp fo X) {c : Nat} (hc : c ∈ L.fx) (hw : c ≠ L.w) : c ∉ L.w :: fp := by
  simp only [List.mem_cons, hw, false_or]
  exact A.nf (L.mem A.lay hc).2
/-- The wheel alone. -/
theorem BW.wheel (A : BW h L fp fo X) (Q1 : WhA h' L.w S' fp') (U : Upd h h' (L.w :: fp) (L.w :: fp')) : BW h' L fp' fo { X with S := S' } ∧ Upd h h' (L.fp fp fo) (L.fp fp' fo) := by
  have ho := A.lay
  unfold BL.ok at ho
  obtain ⟨hk, hf, g1, g2, UU⟩ := A.dev (c0 := L.w) (by simp [BL.fx]) Q1 ⟨U.le, fun b hb hn => U.get b hb fun hm => hn (List.mem_cons_of_mem _ hm), fun b hb => by
    rcases List.mem_cons.1 hb with rfl | hb
    · exact .inl (by simp)
    · rcases U.sub b hb with h5 | h5
      · exact .inl (List.mem_cons_of_mem _ h5)
      · exact .inr h5⟩ Q1.wh.nw
  have hk : ∀ c, c ≤ L.b → c ≠ L.w → h'.get c = h.get c := fun c h1 h2 => hk c h1 h2 h2
  refine ⟨⟨by rw [hk _ (by omega) (by omega), A.bs], A.ra.keep fun b h1 h2 => hk _ (by omega) (by omega), Q1, ?_, ?_, ?_, A.ua.keep fun b _ hb => ?_, ?_, A.dk.keep (hk _ (by omega) (by omega)) (hk _ (by omega) (by omega)), A.lay, g1, g2⟩, UU⟩
  · have := A.ln; unfold Ln at this ⊢; rw [hk _ (by omega) (by omega), this]
  · have := A.t1; unfold TmC at this ⊢; rw [hk _ (by omega) (by omega), this]
  · have := A.t2; unfold TmC at this ⊢; rw [hk _ (by omega) (by omega), this]
  · rcases hb with hb | hb
    · exact hk _ (by omega) (by omega)
    · exact hf b hb
  · have := A.dm; unfold Dm at this ⊢; rw [hk _ (by omega) (by omega), this]
theorem BW.tim1 {P : TmS} (A : BW h L fp fo X) (T1 : TmC h' L.t1 L.w 1 P) (Q1 : WhA h' L.w S' fp') (U : Upd h h' (L.t1 :: L.w :: fp) (L.t1 :: L.w :: fp')) (N : L.t1 ∉ L.w :: fp') : BW h' L fp' fo { X with S := S', T1 := P } ∧ Upd h h' (L.fp fp fo) (L.fp fp' fo) := by
  have ho := A.lay
  unfold BL.ok at ho
  obtain ⟨hk, hf, g1, g2, UU⟩ := A.dev (c0 := L.t1) (by simp [BL.fx]) Q1 U fun hm => N (List.mem_cons_of_mem _ hm)
  refine ⟨⟨by rw [hk _ (by omega) (by omega) (by omega), A.bs], A.ra.keep fun b h1 h2 => hk _ (by omega) (by omega) (by omega), Q1, ?_, T1, ?_, A.ua.keep fun b _ hb => ?_, ?_, A.dk.keep (hk _ (by omega) (by omega) (by omega)) (hk _ (by omega) (by omega) (by omega)), A.lay, g1, g2⟩, UU⟩
  · have := A.ln; unfold Ln at this ⊢; rw [hk _ (by omega) (by omega) (by omega), this]
  · have := A.t2; unfold TmC at this ⊢; rw [hk _ (by omega) (by omega) (by omega), this]
  · rcases hb with hb | hb
    · exact hk _ (by omega) (by omega) (by omega)
    · exact hf b hb
  · have := A.dm; unfold Dm at this ⊢; rw [hk _ (by omega) (by omega) (by omega), this]
theorem BW.tim2 {P : TmS} (A : BW h L fp fo X) (T1 : TmC h' L.t2 L.w 2 P) (Q1 : WhA h' L.w S' fp') (U : Upd h h' (L.t2 :: L.w :: fp) (L.t2 :: L.w :: fp')) (N : L.t2 ∉ L.w :: fp') : BW h' L fp' fo { X with S := S', T2 := P } ∧ Upd h h' (L.fp fp fo) (L.fp fp' fo) := by
  have ho := A.lay
  unfold BL.ok at ho
  obtain ⟨hk, hf, g1, g2, UU⟩ := A.dev (c0 := L.t2) (by simp [BL.fx]) Q1 U fun hm => N (List.mem_cons_of_mem _ hm)
  refine ⟨⟨by rw [hk _ (by omega) (by omega) (by omega), A.bs], A.ra.keep fun b h1 h2 => hk _ (by omega) (by omega) (by omega), Q1, ?_, ?_, T1, A.ua.keep fun b _ hb => ?_, ?_, A.dk.keep (hk _ (by omega) (by omega) (by omega)) (hk _ (by omega) (by omega) (by omega)), A.lay, g1, g2⟩, UU⟩
  · have := A.ln; unfold Ln at this ⊢; rw [hk _ (by omega) (by omega) (by omega), this]
  · have := A.t1; unfold TmC at this ⊢; rw [hk _ (by omega) (by omega) (by omega), this]
  · rcases hb with hb | hb
    · exact hk _ (by omega) (by omega) (by omega)
    · exact hf b hb
  · have := A.dm; unfold Dm at this ⊢; rw [hk _ (by omega) (by omega) (by omega), this]
theorem BW.dma {P : DmS} (A : BW h L fp fo X) (T1 : Dm h' L.d L.w L.x 4 P) (Q1 : WhA h' L.w S' fp') (U : Upd h h' (L.d :: L.w :: fp) (L.d :: L.w :: fp')) (N : L.d ∉ L.w :: fp') : BW h' L fp' fo { X with S := S', D := P } ∧ Upd h h' (L.fp fp fo) (L.fp fp' fo) := by
  have ho := A.lay
  unfold BL.ok at ho
  obtain ⟨hk, hf, g1, g2, UU⟩ := A.dev (c0 := L.d) (by simp [BL.fx]) Q1 U fun hm => N (List.mem_cons_of_mem _ hm)
  refine ⟨⟨by rw [hk _ (by omega) (by omega) (by omega), A.bs], A.ra.keep fun b h1 h2 => hk _ (by omega) (by omega) (by omega), Q1, ?_, ?_, ?_, A.ua.keep fun b _ hb => ?_, T1, A.dk.keep (hk _ (by omega) (by omega) (by omega)) (hk _ (by omega) (by omega) (by omega)), A.lay, g1, g2⟩, UU⟩
  · have := A.ln; unfold Ln at this ⊢; rw [hk _ (by omega) (by omega) (by omega), this]
  · have := A.t1; unfold TmC at this ⊢; rw [hk _ (by omega) (by omega) (by omega), this]
  · have := A.t2; unfold TmC at this ⊢; rw [hk _ (by omega) (by omega) (by omega), this]
  · rcases hb with hb | hb
    · exact hk _ (by omega) (by omega) (by omega)
    · exact hf b hb
theorem BW.disk {P : DkS} (A : BW h L fp fo X) (T1 : Dk h' L.y L.z L.w L.x 5 X.E P) (Q1 : WhA h' L.w S' fp') (U : Upd h h' (L.y :: L.w :: fp) (L.y :: L.w :: fp')) (N : L.y ∉ L.w :: fp') : BW h' L fp' fo { X with S := S', K := P } ∧ Upd h h' (L.fp fp fo) (L.fp fp' fo) := by
  have ho := A.lay
  unfold BL.ok at ho
  obtain ⟨hk, hf, g1, g2, UU⟩ := A.dev (c0 := L.y) (by simp [BL.fx]) Q1 U fun hm => N (List.mem_cons_of_mem _ hm)
  refine ⟨⟨by rw [hk _ (by omega) (by omega) (by omega), A.bs], A.ra.keep fun b h1 h2 => hk _ (by omega) (by omega) (by omega), Q1, ?_, ?_, ?_, A.ua.keep fun b _ hb => ?_, ?_, T1, A.lay, g1, g2⟩, UU⟩
  · have := A.ln; unfold Ln at this ⊢; rw [hk _ (by omega) (by omega) (by omega), this]
  · have := A.t1; unfold TmC at this ⊢; rw [hk _ (by omega) (by omega) (by omega), this]
  · have := A.t2; unfold TmC at this ⊢; rw [hk _ (by omega) (by omega) (by omega), this]
  · rcases hb with hb | hb
    · exact hk _ (by omega) (by omega) (by omega)
    · exact hf b hb
  · have := A.dm; unfold Dm at this ⊢; rw [hk _ (by omega) (by omega) (by omega), this]
end
end Go.Proofs.Ytpdfdemoflofhaa.Cd

/- The bus: what each function does. -/
set_option maxRecDepth 1000000
set_option maxHeartbeats 8000000
set_option linter.unusedSimpArgs false
set_option linter.unusedVariables false
namespace Go.Proofs.Ytpdfdemoflofhaa.Cd
open Go Go.Dx
section
variable {h h' : Hp} {q : Value → Hp → Prop} {L : BL} {fp fo fp' fo' : List Nat} {X : BS} {S' : WhS} {now : Int} {a v : BitVec 32}
theorem BW.ram {B' : By} {W' : List Bool} (A : BW h L fp fo X) (R : Ra h' L.x B' X.M W') (U : Upd h h' [L.x, L.x + 2] [L.x, L.x + 2]) : BW h' L fp fo { X with B := B', W := W' } ∧ Upd h h' (L.fp fp fo) (L.fp fp fo) := by
  have ho := A.lay
  unfold BL.ok at ho
  obtain ⟨hk0, hf, UU⟩ := A.fix (by simp [BL.fx]) U
  have hk : ∀ c, c ≤ L.b → L.x + 3 < c → h'.get c = h.get c := fun c h1 h2 => hk0 c h1 (by simp; omega)
  refine ⟨⟨by rw [hk _ (by omega) (by omega), A.bs], R, A.wh.keep fun b hb => ?_, ?_, ?_, ?_, A.ua.keep fun b _ hb => ?_, ?_, A.dk.keep (hk _ (by omega) (by omega)) (hk _ (by omega) (by omega)), A.lay, A.gf, A.go⟩, UU⟩
  · rcases List.mem_cons.1 hb with rfl | hb
    · exact hk _ (by omega) (by omega)
    · exact hf b (List.mem_append_left _ hb)
  · have := A.ln; unfold Ln at this ⊢; rw [hk _ (by omega) (by omega), this]
  · have := A.t1; unfold TmC at this ⊢; rw [hk _ (by omega) (by omega), this]
  · have := A.t2; unfold TmC at this ⊢; rw [hk _ (by omega) (by omega), this]
  · rcases hb with hb | hb
    · exact hk _ (by omega) (by omega)
    · exact hf b (List.mem_append_right _ hb)
  · have := A.dm; unfold Dm at this ⊢; rw [hk _ (by omega) (by omega), this]
theorem BW.lin {r m : BitVec 32} (A : BW h L fp fo X) : BW (h.put L.l (some (.cells false [u32 r, u32 m]))) L fp fo { X with r := r, m := m } ∧ Upd h (h.put L.l (some (.cells false [u32 r, u32 m]))) (L.fp fp fo) (L.fp fp fo) := by
  have ho := A.lay
  unfold BL.ok at ho
  have hlt := A.lt
  obtain ⟨hk0, hf, UU⟩ := A.fix (l := [L.l]) (h' := h.put L.l (some (.cells false [u32 r, u32 m]))) (by simp [BL.fx]) ⟨by simp, fun b hb hn => get_put_ne (by simpa using hn), fun b hb => .inl hb⟩
  have hk : ∀ c, c ≤ L.b → c ≠ L.l → (h.put L.l (some (.cells false [u32 r, u32 m]))).get c = h.get c := fun c h1 h2 => hk0 c h1 (by simpa using h2)
  refine ⟨⟨by rw [hk _ (by omega) (by omega), A.bs], A.ra.keep fun b h1 h2 => hk _ (by omega) (by omega), A.wh.keep fun b hb => ?_, ?_, ?_, ?_, A.ua.keep fun b _ hb => ?_, ?_, A.dk.keep (hk _ (by omega) (by omega)) (hk _ (by omega) (by omega)), A.lay, A.gf, A.go⟩, UU⟩
  · rcases List.mem_cons.1 hb with rfl | hb
    · exact hk _ (by omega) (by omega)
    · exact hf b (List.mem_append_left _ hb)
  · unfold Ln; rw [get_put_self (by omega)]
  · have := A.t1; unfold TmC at this ⊢; rw [hk _ (by omega) (by omega), this]
  · have := A.t2; unfold TmC at this ⊢; rw [hk _ (by omega) (by omega), this]
  · rcases hb with hb | hb
    · exact hk _ (by omega) (by omega)
    · exact hf b (List.mem_append_right _ hb)
  · have := A.dm; unfold Dm at this ⊢; rw [hk _ (by omega) (by omega), this]
theorem BW.uar {U' : UaS} {l : List Nat} (A : BW h L fp fo X) (R : Ua h' L.u L.w 3 fo U') (hl : ∀ b ∈ l, b = L.u ∨ b = L.u + 1 ∨ b = L.u + 2) (U : Upd h h' l l) : BW h' L fp fo { X with U := U' } ∧ Upd h h' (L.fp fp fo) (L.fp fp fo) := by
  have ho := A.lay
  unfold BL.ok at ho
  obtain ⟨hk0, hf, UU⟩ := A.fix (l := l) (fun b hb => by rcases hl b hb with rfl | rfl | rfl <;> simp [BL.fx]) U
  have hk : ∀ c, c ≤ L.b → c < L.u ∨ L.u + 2 < c → h'.get c = h.get c := fun c h1 h2 => hk0 c h1 fun hm => by have := hl c hm; omega
  refine ⟨⟨by rw [hk _ (by omega) (by omega), A.bs], A.ra.keep fun b h1 h2 => hk _ (by omega) (by omega), A.wh.keep fun b hb => ?_, ?_, ?_, ?_, R, ?_, A.dk.keep (hk _ (by omega) (by omega)) (hk _ (by omega) (by omega)), A.lay, A.gf, A.go⟩, UU⟩
  · rcases List.mem_cons.1 hb with rfl | hb
    · exact hk _ (by omega) (by omega)
    · exact hf b (List.mem_append_left _ hb)
  · have := A.ln; unfold Ln at this ⊢; rw [hk _ (by omega) (by omega), this]
  · have := A.t1; unfold TmC at this ⊢; rw [hk _ (by omega) (by omega), this]
  · have := A.t2; unfold TmC at this ⊢; rw [hk _ (by omega) (by omega), this]
  · have := A.dm; unfold Dm at this ⊢; rw [hk _ (by omega) (by omega), this]
/-- The line: it and the wheel, and what it put out. -/
theorem BW.uaw {U' : UaS} (A : BW h L fp fo X) (R : Ua h' L.u L.w 3 fo' U') (Q1 : WhA h' L.w S' fp') (U : Upd h h' ((L.u + 1) :: (L.u + 2) :: (fo ++ L.w :: fp)) ((L.u + 1) :: (L.u + 2) :: (fo' ++ L.w :: fp'))) (P : Ap L.u fo' (L.w :: fp')) :
    BW h' L fp' fo' { X with S := S', U := U' } ∧ Upd h h' (L.fp fp fo) (L.fp fp' fo') := by
  have ho := A.lay
  unfold BL.ok at ho
  have hlt := A.lt
  have hk : ∀ c, c ≤ L.b → c < L.u ∨ L.u + 2 < c → c ≠ L.w → h'.get c = h.get c := fun c h1 h2 h3 => U.get c (by omega) (by
    have n1 := A.nf h1
    have n2 := A.no h1
    simp only [List.mem_cons, List.mem_append, n1, n2, h3, false_or, or_false]
    omega)
  have sub : ∀ b, b ∈ fo' ∨ b ∈ fp' → (b ∈ fo ∨ b ∈ fp) ∨ h.next ≤ b := fun b hb => by
    have h6 : b ≠ L.u + 1 ∧ b ≠ L.u + 2 ∧ b ≠ L.w := by
      have hP := P L.w (by simp)
      rcases hb with hb | hb
      · have := R.off b hb
        exact ⟨by omega, by omega, fun e => hP.2 (e ▸ hb)⟩
      · have := (P b (List.mem_cons_of_mem _ hb)).1
        exact ⟨by omega, by omega, fun e => Q1.wh.nw (e ▸ hb)⟩
    rcases U.sub b (by simp only [List.mem_cons, List.mem_append]; rcases hb with hb | hb <;> simp [hb]) with h5 | h5
    · simp only [List.mem_cons, List.mem_append, h6.1, h6.2.1, h6.2.2, false_or] at h5
      exact .inl h5
    · exact .inr h5
  have gt : ∀ b, b ∈ fo' ∨ b ∈ fp' → L.b < b := fun b hb => by
    rcases sub b hb with (h5 | h5) | h5
    · exact (A.go b h5).1
    · exact A.gf b h5
    · omega
  refine ⟨⟨by rw [hk _ (by omega) (by omega) (by omega), A.bs], A.ra.keep fun b h1 h2 => hk _ (by omega) (by omega) (by omega), Q1, ?_, ?_, ?_, R, ?_, A.dk.keep (hk _ (by omega) (by omega) (by omega)) (hk _ (by omega) (by omega) (by omega)), A.lay, fun b hb => gt b (.inr hb), fun b hb => ⟨gt b (.inl hb), fun hm => (P b (List.mem_cons_of_mem _ hm)).2 hb⟩⟩, U.le, fun b hb hn => U.get b hb fun hm => hn ?_, fun b hb => ?_⟩
  · have := A.ln; unfold Ln at this ⊢; rw [hk _ (by omega) (by omega) (by omega), this]
  · have := A.t1; unfold TmC at this ⊢; rw [hk _ (by omega) (by omega) (by omega), this]
  · have := A.t2; unfold TmC at this ⊢; rw [hk _ (by omega) (by omega) (by omega), this]
  · have := A.dm; unfold Dm at this ⊢; rw [hk _ (by omega) (by omega) (by omega), this]
  · simp only [List.mem_cons, List.mem_append] at hm
    simp only [BL.fp, BL.fx, List.mem_cons, List.mem_append]
    rcases hm with rfl | rfl | hm | rfl | hm
    · simp
    · simp
    · simp [hm]
    · simp
    · simp [hm]
  · rcases List.mem_append.1 hb with hb | hb
    · exact .inl (List.mem_append_left _ hb)
    · rcases sub b (by rcases List.mem_append.1 hb with hb | hb <;> simp [hb]) with (h5 | h5) | h5
      · exact .inl (List.mem_append_right _ (List.mem_append_right _ h5))
      · exact .inl (List.mem_append_right _ (List.mem_append_left _ h5))
      · exact .inr h5
theorem BW.dmaf {B' : By} {W' : List Bool} {P : DmS} (A : BW h L fp fo X) (T1 : Dm h' L.d L.w L.x 4 P) (R : Ra h' L.x B' X.M W') (U : Upd h h' [L.d, L.x, L.x + 2] [L.d, L.x, L.x + 2]) : BW h' L fp fo { X with B := B', W := W', D := P } ∧ Upd h h' (L.fp fp fo) (L.fp fp fo) := by
  have ho := A.lay
  unfold BL.ok at ho
  obtain ⟨hk0, hf, UU⟩ := A.fix (by simp [BL.fx]) U
  have hk : ∀ c, c ≤ L.b → L.x + 3 < c → c ≠ L.d → h'.get c = h.get c := fun c h1 h2 h3 => hk0 c h1 (by simp; omega)
  refine ⟨⟨by rw [hk _ (by omega) (by omega) (by omega), A.bs], R, A.wh.keep fun b hb => ?_, ?_, ?_, ?_, A.ua.keep fun b _ hb => ?_, T1, A.dk.keep (hk _ (by omega) (by omega) (by omega)) (hk _ (by omega) (by omega) (by omega)), A.lay, A.gf, A.go⟩, UU⟩
  · rcases List.mem_cons.1 hb with rfl | hb
    · exact hk _ (by omega) (by omega) (by omega)
    · exact hf b (List.mem_append_left _ hb)
  · have := A.ln; unfold Ln at this ⊢; rw [hk _ (by omega) (by omega) (by omega), this]
  · have := A.t1; unfold TmC at this ⊢; rw [hk _ (by omega) (by omega) (by omega), this]
  · have := A.t2; unfold TmC at this ⊢; rw [hk _ (by omega) (by omega) (by omega), this]
  · rcases hb with hb | hb
    · exact hk _ (by omega) (by omega) (by omega)
    · exact hf b (List.mem_append_right _ hb)
theorem BW.diskf {B' E' : By} {W' : List Bool} {P : DkS} (A : BW h L fp fo X) (T1 : Dk h' L.y L.z L.w L.x 5 E' P) (R : Ra h' L.x B' X.M W') (U : Upd h h' [L.y, L.z, L.x, L.x + 2] [L.y, L.z, L.x, L.x + 2]) : BW h' L fp fo { X with B := B', W := W', K := P, E := E' } ∧ Upd h h' (L.fp fp fo) (L.fp fp fo) := by
  have ho := A.lay
  unfold BL.ok at ho
  obtain ⟨hk0, hf, UU⟩ := A.fix (by simp [BL.fx]) U
  have hk : ∀ c, c ≤ L.b → L.x + 3 < c → c ≠ L.y → c ≠ L.z → h'.get c = h.get c := fun c h1 h2 h3 h4 => hk0 c h1 (by simp; omega)
  refine ⟨⟨by rw [hk _ (by omega) (by omega) (by omega) (by omega), A.bs], R, A.wh.keep fun b hb => ?_, ?_, ?_, ?_, A.ua.keep fun b _ hb => ?_, ?_, T1, A.lay, A.gf, A.go⟩, UU⟩
  · rcases List.mem_cons.1 hb with rfl | hb
    · exact hk _ (by omega) (by omega) (by omega) (by omega)
    · exact hf b (List.mem_append_left _ hb)
  · have := A.ln; unfold Ln at this ⊢; rw [hk _ (by omega) (by omega) (by omega) (by omega), this]
  · have := A.t1; unfold TmC at this ⊢; rw [hk _ (by omega) (by omega) (by omega) (by omega), this]
  · have := A.t2; unfold TmC at this ⊢; rw [hk _ (by omega) (by omega) (by omega) (by omega), this]
  · rcases hb with hb | hb
    · exact hk _ (by omega) (by omega) (by omega) (by omega)
    · exact hf b (List.mem_append_right _ hb)
  · have := A.dm; unfold Dm at this ⊢; rw [hk _ (by omega) (by omega) (by omega) (by omega), this]
/-- Does a device ask? -/
def BS.line (X : BS) (d : Int) : Bool := if d = 1 then X.T1.s != 0#32 else if d = 2 then X.T2.s != 0#32 else if d = 3 then X.U.line else if d = 4 then X.D.s &&& 6#32 != 0#32 else X.K.s &&& 6#32 != 0#32
theorem bline {d : Int} (A : BW h L fp fo X) : WC T n_bus_Bus_line [ptr L.b 0, .int .i64 d] h q ↔ q (.bool (X.line d)) h := by
  have g := A.bs
  rw [w_bus_Bus_line]
  by_cases d1 : d = 1
  · subst d1; simp (maxSteps := 1000000) (disch := first | assumption | ((try simp only [push_next, put_next, adv_next, List.length_cons, List.length_nil, List.length_map, List.length_set]); omega) | simp) [g, GC_of (fun q => mline A.t1), BS.line]
  by_cases d2 : d = 2
  · subst d2; simp (maxSteps := 1000000) (disch := first | assumption | ((try simp only [push_next, put_next, adv_next, List.length_cons, List.length_nil, List.length_map, List.length_set]); omega) | simp) [g, GC_of (fun q => mline A.t2), BS.line]
  by_cases d3 : d = 3
  · subst d3; simp (maxSteps := 1000000) (disch := first | assumption | ((try simp only [push_next, put_next, adv_next, List.length_cons, List.length_nil, List.length_map, List.length_set]); omega) | simp) [g, GC_of (fun q => uline A.ua), BS.line]
  by_cases d4 : d = 4
  · subst d4; simp (maxSteps := 1000000) (disch := first | assumption | ((try simp only [push_next, put_next, adv_next, List.length_cons, List.length_nil, List.length_map, List.length_set]); omega) | simp) [g, GC_of (fun q => dline A.dm), BS.line]
  simp (maxSteps := 1000000) (disch := first | assumption | ((try simp only [push_next, put_next, adv_next, List.length_cons, List.length_nil, List.length_map, List.length_set]); omega) | simp) [g, d1, d2, d3, d4, GC_of (fun q => kline A.dk), BS.line]
def BS.up1 (X : BS) : BS := { X with r := lset 1 (X.line 1) X.r }
def BS.up (X : BS) : BitVec 32 := lset 5 (X.line 5) (lset 4 (X.line 4) (lset 3 (X.line 3) (lset 2 (X.line 2) (lset 1 (X.line 1) X.r))))
/-- All lines are the devices'. -/
def BS.gath (X : BS) : BS := { X with r := X.up }
theorem bgather (A : BW h L fp fo X) (hq : ∀ h', BW h' L fp fo X.gath → Upd h h' (L.fp fp fo) (L.fp fp fo) → q (.tuple #[]) h') : WC T n_bus_Bus_gather [ptr L.b 0] h q := by
  rw [w_bus_Bus_gather]
  simp (maxSteps := 1000000) (disch := first | assumption | ((try simp only [push_next, put_next, adv_next, List.length_cons, List.length_nil, List.length_map, List.length_set]); omega) | simp)
  have step : ∀ (d : Int) (r : BitVec 32) (h1 : Hp), 1 ≤ d → d ≤ 5 → BW h1 L fp fo { X with r := r } → ∃ h2, BW h2 L fp fo { X with r := lset d (X.line d) r } ∧ Upd h1 h2 (L.fp fp fo) (L.fp fp fo) ∧ ∀ (up : Bool) q', up = X.line d → (WC T n_lines_Lines_Set [ptr L.l 0, .int .i64 d, .bool up] h1 q' ↔ q' (.tuple #[]) h2) := fun d r h1 d1 d5 A1 => by
    obtain ⟨k1, k2⟩ := A1.lin (r := lset d (X.line d) r) (m := X.m)
    refine ⟨_, k1, k2, fun up q' hu => ?_⟩
    subst hu
    rw [lsets A1.ln, if_neg (by omega)]
  refine G_loop (fun n e h1 => ∃ d : Int, n = (6 - d).toNat ∧ 1 ≤ d ∧ d ≤ 6 ∧ e 0 = ptr L.b 0 ∧ e 2 = .int .i64 d ∧ Upd h h1 (L.fp fp fo) (L.fp fp fo) ∧ ∃ r, BW h1 L fp fo { X with r := r } ∧ (if d = 1 then r = X.r else if d = 2 then r = lset 1 (X.line 1) X.r else if d = 3 then r = lset 2 (X.line 2) (lset 1 (X.line 1) X.r) else if d = 4 then r = lset 3 (X.line 3) (lset 2 (X.line 2) (lset 1 (X.line 1) X.r)) else if d = 5 then r = lset 4 (X.line 4) (lset 3 (X.line 3) (lset 2 (X.line 2) (lset 1 (X.line 1) X.r))) else r = X.up)) ?_ 5 _ _ ⟨1, rfl, by omega, by omega, by simp, by simp, .refl, X.r, A, by simp⟩
  rintro n ih e h1 ⟨d, rfl, d1, d6, e0, e2, U1, r, A1, hr⟩
  by_cases h6 : d = 6
  · subst h6
    simp at hr
    subst hr
    simp (maxSteps := 1000000) (disch := first | assumption | ((try simp only [push_next, put_next, adv_next, List.length_cons, List.length_nil, List.length_map, List.length_set]); omega) | simp) [e2]
    exact hq _ A1 U1
  · obtain ⟨h2, A2, U2, hs⟩ := step d r h1 d1 (by omega) A1
    have g := A1.bs
    have hle : d ≤ 5 := by omega
    have hb := fun q => bline (q := q) (d := d) A1
    have hl : BS.line { X with r := r } d = X.line d := rfl
    simp only [hl] at hb
    have hs' := fun q' => hs _ q' rfl
    simp (maxSteps := 1000000) (disch := first | assumption | ((try simp only [push_next, put_next, adv_next, List.length_cons, List.length_nil, List.length_map, List.length_set]); omega) | simp) [e0, e2, hle, g, GC_of hb, GCI_of hb, GC_of hs', GCI_of hs']
    refine ih (6 - (d + 1)).toNat (by omega) _ _ ⟨d + 1, rfl, by omega, by omega, by simp [e0], by simp, U1.trans U2, _, A2, ?_⟩
    have : d = 1 ∨ d = 2 ∨ d = 3 ∨ d = 4 ∨ d = 5 := by omega
    rcases this with rfl | rfl | rfl | rfl | rfl <;> simp at hr ⊢ <;> simp [hr, BS.up]
end
end Go.Proofs.Ytpdfdemoflofhaa.Cd

/- The bus: words that are read and written. -/
set_option maxRecDepth 1000000
set_option maxHeartbeats 8000000
set_option linter.unusedSimpArgs false
set_option linter.unusedVariables false
namespace Go.Proofs.Ytpdfdemoflofhaa.Cd
open Go Go.Dx
section
variable {h h' : Hp} {q : Value → Hp → Prop} {x : Nat} {B : By} {M W : List Bool}
theorem rtherer {a : BitVec 32} {n : Int} (R : Ra h x B M W) : WC T n_ram_Ram_there [ptr (x + 3) 0, u32 a, .int .i64 n] h q ↔ q (.bool (thB B a n)) h := by
  have hr := R.r
  have hl := R.sz
  have hm := R.ml
  have ha := a.isLt
  rw [w_ram_Ram_there]
  by_cases c1 : 0 ≤ n
  · by_cases c2 : (a.toNat : Int) ≤ B.length
    · simp (maxSteps := 1000000) (disch := first | assumption | ((try simp only [push_next, put_next, adv_next, List.length_cons, List.length_nil, List.length_map, List.length_set]); omega) | simp) [hr, c1, c2, thB]
    · simp (maxSteps := 1000000) (disch := first | assumption | ((try simp only [push_next, put_next, adv_next, List.length_cons, List.length_nil, List.length_map, List.length_set]); omega) | simp) [hr, c1, c2, thB]
  · simp (maxSteps := 1000000) (disch := first | assumption | ((try simp only [push_next, put_next, adv_next, List.length_cons, List.length_nil, List.length_map, List.length_set]); omega) | simp) [hr, c1, thB]
theorem ev_range {B : By} {a : BitVec 32} {n : Int} (hn : ¬ (-2 ^ 62 ≤ n ∧ n ≤ 2 ^ 62)) : evB B a n = false ∧ n ≠ 1 ∧ n ≠ 2 ∧ n ≠ 4 := by
  have h3 : n ≠ 1 ∧ n ≠ 2 ∧ n ≠ 4 := ⟨by omega, by omega, by omega⟩
  exact ⟨by simp [evB, h3], h3⟩
theorem revenr {a : BitVec 32} {n : Int} (R : Ra h x B M W) : WC T n_ram_Ram_even [ptr (x + 3) 0, u32 a, .int .i64 n] h q ↔ q (.bool (evB B a n)) h := by
  by_cases hn : -2 ^ 62 ≤ n ∧ n ≤ 2 ^ 62
  · exact reven R hn
  · obtain ⟨h1, c1, c2, c4⟩ := ev_range (B := B) (a := a) hn
    rw [w_ram_Ram_even, h1]
    simp (maxSteps := 1000000) (disch := first | assumption | ((try simp only [push_next, put_next, adv_next, List.length_cons, List.length_nil, List.length_map, List.length_set]); omega) | simp) [c1, c2, c4]
theorem rloadr {a : BitVec 32} {n : Int} (R : Ra h x B M W) : WC T n_ram_Ram_Load [ptr (x + 3) 0, u32 a, .int .i64 n] h q ↔ q (.tuple #[u32 (if evB B a n = true then ldB B a.toNat n.toNat else 0#32), .bool (evB B a n)]) h := by
  by_cases hn : -2 ^ 62 ≤ n ∧ n ≤ 2 ^ 62
  · exact rload R hn
  · have he := fun q => revenr (q := q) (a := a) (n := n) R
    obtain ⟨h1, _⟩ := ev_range (B := B) (a := a) hn
    rw [h1] at he ⊢
    rw [w_ram_Ram_Load]
    simp (maxSteps := 1000000) (disch := first | assumption | ((try simp only [push_next, put_next, adv_next, List.length_cons, List.length_nil, List.length_map, List.length_set]); omega) | simp) [GC_of he]
theorem rstorer {a v : BitVec 32} {n : Int} (R : Ra h x B M W) (hno : evB B a n = false → q (.bool false) h)
    (hyes : evB B a n = true → ∀ h', Ra h' x (stB B a.toNat n.toNat v) M (tch M W a.toNat n.toNat) → Upd h h' [x, x + 2] [x, x + 2] → q (.bool true) h') : WC T n_ram_Ram_Store [ptr (x + 3) 0, u32 a, .int .i64 n, u32 v] h q := by
  by_cases hn : -2 ^ 62 ≤ n ∧ n ≤ 2 ^ 62
  · exact rstore R hn hno hyes
  · have he := fun q => revenr (q := q) (a := a) (n := n) R
    obtain ⟨h1, _⟩ := ev_range (B := B) (a := a) hn
    rw [h1] at he
    rw [w_ram_Ram_Store]
    simp (maxSteps := 1000000) (disch := first | assumption | ((try simp only [push_next, put_next, adv_next, List.length_cons, List.length_nil, List.length_map, List.length_set]); omega) | simp) [GC_of he]
    exact hno h1
end
section
variable {h h' : Hp} {q : Value → Hp → Prop} {L : BL} {fp fo fp' fo' : List Nat} {X : BS} {S' : WhS} {now : Int} {a v : BitVec 32}
/-- A device's word: which, and where in it. -/
def bwin (a : BitVec 32) (n : Int) : Bool := decide (n = 4 ∧ ¬ a < 520093696#32 ∧ a % 4#32 = 0#32 ∧ (a - 520093696#32) / 64#32 ≤ 5#32)
def bwd (a : BitVec 32) : Int := ((a - 520093696#32) / 64#32).toNat
def bwo (a : BitVec 32) : BitVec 32 := (a - 520093696#32) % 64#32
theorem bwindow {n : Int} (h1 : bwin a n = true → q (.tuple #[.int .i64 (bwd a), u32 (bwo a), .bool true]) h) (h0 : bwin a n = false → ∀ d k, q (.tuple #[d, k, .bool false]) h) : WC T n_bus_window [u32 a, .int .i64 n] h q := by
  rw [w_bus_window]
  by_cases c1 : n = 4
  · subst c1
    by_cases c2 : a < 520093696#32
    · simp (maxSteps := 1000000) (disch := first | assumption | ((try simp only [push_next, put_next, adv_next, List.length_cons, List.length_nil, List.length_map, List.length_set]); omega) | simp) [c2]
      exact h0 (by simp [bwin, c2]) _ _
    · by_cases c3 : a % 4#32 = 0#32
      · have hw : IntKind.i64.wrap (((a - 520093696#32) / 64#32).toNat : Int) = ((a - 520093696#32) / 64#32).toNat := by
          have := ((a - 520093696#32) / 64#32).isLt
          exact wrap_i64 (by omega) (by omega)
        by_cases c4 : (a - 520093696#32) / 64#32 ≤ 5#32
        · have := h1 (by simp [bwin, c2, c3, c4])
          unfold bwd bwo at this
          simp (maxSteps := 1000000) (disch := first | assumption | ((try simp only [push_next, put_next, adv_next, List.length_cons, List.length_nil, List.length_map, List.length_set]); omega) | simp) [c2, c3, c4, hw]
          exact this
        · simp (maxSteps := 1000000) (disch := first | assumption | ((try simp only [push_next, put_next, adv_next, List.length_cons, List.length_nil, List.length_map, List.length_set]); omega) | simp) [c2, c3, c4, hw]
          exact h0 (by simp [bwin, c4]) _ _
      · simp (maxSteps := 1000000) (disch := first | assumption | ((try simp only [push_next, put_next, adv_next, List.length_cons, List.length_nil, List.length_map, List.length_set]); omega) | simp) [c2, c3]
        exact h0 (by simp [bwin, c3]) _ _
  · simp (maxSteps := 1000000) (disch := first | assumption | ((try simp only [push_next, put_next, adv_next, List.length_cons, List.length_nil, List.length_map, List.length_set]); omega) | simp) [c1]
    exact h0 (by simp [bwin, c1]) _ _
def BS.rd (X : BS) (d : Int) (a : BitVec 32) (now : Int) : BitVec 32 := if d = 0 then lrd X.r X.m a now else if d = 1 then X.T1.rd a else if d = 2 then X.T2.rd a else if d = 3 then X.U.rd a else if d = 4 then X.D.rd a else X.K.rd a
def wok (d : Int) (a : BitVec 32) : Bool := if d = 0 then lat a else if d = 1 ∨ d = 2 then mat a else if d = 3 then uat a else if d = 4 then dat a else kat a
def BS.rds (X : BS) (d : Int) (a : BitVec 32) : BS := if d = 3 then { X with U := X.U.rds a } else X
theorem bread {d : Int} (A : BW h L fp fo X) (hq : ∀ h', BW h' L fp fo (X.rds d a) → Upd h h' (L.fp fp fo) (L.fp fp fo) → q (.tuple #[u32 (X.rd d a now), .bool (wok d a)]) h') : WC T n_bus_Bus_read [ptr L.b 0, .int .i64 d, u32 a, .int .i64 now] h q := by
  have g := A.bs
  rw [w_bus_Bus_read]
  by_cases d0 : d = 0
  · subst d0
    have := hq h (by simpa [BS.rds] using A) .refl
    simp (maxSteps := 1000000) (disch := first | assumption | ((try simp only [push_next, put_next, adv_next, List.length_cons, List.length_nil, List.length_map, List.length_set]); omega) | simp) [g, GC_of (fun q => lread (q := q) (at' := a) (now := now) A.ln)]
    simpa [BS.rd, wok] using this
  by_cases d1 : d = 1
  · subst d1
    have := hq h (by simpa [BS.rds] using A) .refl
    simp (maxSteps := 1000000) (disch := first | assumption | ((try simp only [push_next, put_next, adv_next, List.length_cons, List.length_nil, List.length_map, List.length_set]); omega) | simp) [g, GC_of (fun q => mread (q := q) (a := a) A.t1)]
    simpa [BS.rd, wok] using this
  by_cases d2 : d = 2
  · subst d2
    have := hq h (by simpa [BS.rds] using A) .refl
    simp (maxSteps := 1000000) (disch := first | assumption | ((try simp only [push_next, put_next, adv_next, List.length_cons, List.length_nil, List.length_map, List.length_set]); omega) | simp) [g, GC_of (fun q => mread (q := q) (a := a) A.t2)]
    simpa [BS.rd, wok] using this
  by_cases d3 : d = 3
  · subst d3
    simp (maxSteps := 1000000) (disch := first | assumption | ((try simp only [push_next, put_next, adv_next, List.length_cons, List.length_nil, List.length_map, List.length_set]); omega) | simp) [g]
    refine uread A.ua fun h1 A1 U1 => ?_
    obtain ⟨k1, k2⟩ := A.uar A1 (by simp) U1
    have := hq h1 (by simpa [BS.rds] using k1) k2
    simp (maxSteps := 1000000) (disch := first | assumption | ((try simp only [push_next, put_next, adv_next, List.length_cons, List.length_nil, List.length_map, List.length_set]); omega) | simp)
    simpa [BS.rd, wok] using this
  by_cases d4 : d = 4
  · subst d4
    have := hq h (by simpa [BS.rds] using A) .refl
    simp (maxSteps := 1000000) (disch := first | assumption | ((try simp only [push_next, put_next, adv_next, List.length_cons, List.length_nil, List.length_map, List.length_set]); omega) | simp) [g, GC_of (fun q => dread (q := q) (a := a) A.dm)]
    simpa [BS.rd, wok] using this
  have := hq h (by simpa [BS.rds, d3] using A) .refl
  simp (maxSteps := 1000000) (disch := first | assumption | ((try simp only [push_next, put_next, adv_next, List.length_cons, List.length_nil, List.length_map, List.length_set]); omega) | simp) [g, d0, d1, d2, d3, d4, GC_of (fun q => kread (q := q) (a := a) A.dk)]
  simpa [BS.rd, wok, d0, d1, d2, d3, d4] using this
def BS.wr (X : BS) (d : Int) (a v : BitVec 32) (now : Int) : BS :=
  if d = 0 then (if a = 4#32 then { X with m := v &&& 62#32 } else X) else if d = 1 then { X with T1 := X.T1.wr a v, S := X.T1.wrw X.S 1 a v now } else if d = 2 then { X with T2 := X.T2.wr a v, S := X.T2.wrw X.S 2 a v now }
  else if d = 3 then { X with U := X.U.wr a v, S := X.U.wrw X.S 3 a now } else if d = 4 then { X with D := X.D.wr a v, S := X.D.wrw X.S 4 a v now } else { X with K := X.K.wr a v, S := X.K.wrw X.S 5 a now }
theorem BW.ap (A : BW h L fp fo X) : Ap L.u fo (L.w :: fp) := fun b hb => by
  have ho := A.lay
  unfold BL.ok at ho
  rcases List.mem_cons.1 hb with rfl | hb
  · exact ⟨by omega, A.no (by omega)⟩
  · have := A.gf b hb
    exact ⟨by omega, fun hm => (A.go b hm).2 hb⟩
theorem bwrite {d : Int} (A : BW h L fp fo X) (hn : 0 ≤ now ∧ now ≤ 2 ^ 60) (hq : ∀ h' fp', BW h' L fp' fo (X.wr d a v now) → Upd h h' (L.fp fp fo) (L.fp fp' fo) → q (.bool (wok d a)) h') : WC T n_bus_Bus_write [ptr L.b 0, .int .i64 d, u32 a, u32 v, .int .i64 now] h q := by
  have g := A.bs
  have ho := A.lay
  unfold BL.ok at ho
  rw [w_bus_Bus_write]
  by_cases d0 : d = 0
  · subst d0
    simp (maxSteps := 1000000) (disch := first | assumption | ((try simp only [push_next, put_next, adv_next, List.length_cons, List.length_nil, List.length_map, List.length_set]); omega) | simp) [g, GC_of (fun q => lwrite (q := q) (at' := a) (v := v) A.ln)]
    by_cases a4 : a = 4#32
    · obtain ⟨k1, k2⟩ := A.lin (r := X.r) (m := v &&& 62#32)
      have := hq _ fp (by simpa [BS.wr, a4] using k1) k2
      rw [if_pos a4]
      simpa [wok] using this
    · have := hq h fp (by simpa [BS.wr, a4] using A) .refl
      rw [if_neg a4]
      simpa [wok] using this
  by_cases d1 : d = 1
  · subst d1
    simp (maxSteps := 1000000) (disch := first | assumption | ((try simp only [push_next, put_next, adv_next, List.length_cons, List.length_nil, List.length_map, List.length_set]); omega) | simp) [g]
    refine mwrite A.t1 A.wh (A.off (by simp [BL.fx]) (by omega)) hn fun h1 fp1 T1 Q1 U1 N1 => ?_
    obtain ⟨k1, k2⟩ := A.tim1 T1 Q1 U1 N1
    have := hq h1 fp1 (by simpa [BS.wr] using k1) k2
    simp (maxSteps := 1000000) (disch := first | assumption | ((try simp only [push_next, put_next, adv_next, List.length_cons, List.length_nil, List.length_map, List.length_set]); omega) | simp)
    simpa [wok] using this
  by_cases d2 : d = 2
  · subst d2
    simp (maxSteps := 1000000) (disch := first | assumption | ((try simp only [push_next, put_next, adv_next, List.length_cons, List.length_nil, List.length_map, List.length_set]); omega) | simp) [g]
    refine mwrite A.t2 A.wh (A.off (by simp [BL.fx]) (by omega)) hn fun h1 fp1 T1 Q1 U1 N1 => ?_
    obtain ⟨k1, k2⟩ := A.tim2 T1 Q1 U1 N1
    have := hq h1 fp1 (by simpa [BS.wr] using k1) k2
    simp (maxSteps := 1000000) (disch := first | assumption | ((try simp only [push_next, put_next, adv_next, List.length_cons, List.length_nil, List.length_map, List.length_set]); omega) | simp)
    simpa [wok] using this
  by_cases d3 : d = 3
  · subst d3
    simp (maxSteps := 1000000) (disch := first | assumption | ((try simp only [push_next, put_next, adv_next, List.length_cons, List.length_nil, List.length_map, List.length_set]); omega) | simp) [g]
    refine uwrite A.ua A.wh A.ap (by omega) fun h1 fp1 T1 Q1 U1 P1 => ?_
    obtain ⟨k1, k2⟩ := A.uaw T1 Q1 ⟨U1.le, fun b hb hn => U1.get b hb fun hm => hn (by
      simp only [List.mem_cons] at hm
      rcases hm with rfl | rfl | rfl | hm
      · simp
      · simp
      · simp
      · simp [hm]), fun b hb => by
      simp only [List.mem_cons, List.mem_append] at hb
      rcases hb with rfl | rfl | hb | rfl | hb
      · exact .inl (by simp)
      · exact .inl (by simp)
      · exact .inl (by simp [hb])
      · exact .inl (by simp)
      · rcases U1.sub b (by simp [hb]) with h5 | h5
        · refine .inl ?_
          simp only [List.mem_cons] at h5
          rcases h5 with rfl | rfl | rfl | h5
          · simp
          · simp
          · simp
          · simp [h5]
        · exact .inr h5⟩ P1
    have := hq h1 fp1 (by simpa [BS.wr] using k1) k2
    simp (maxSteps := 1000000) (disch := first | assumption | ((try simp only [push_next, put_next, adv_next, List.length_cons, List.length_nil, List.length_map, List.length_set]); omega) | simp)
    simpa [wok] using this
  by_cases d4 : d = 4
  · subst d4
    simp (maxSteps := 1000000) (disch := first | assumption | ((try simp only [push_next, put_next, adv_next, List.length_cons, List.length_nil, List.length_map, List.length_set]); omega) | simp) [g]
    refine dwrite A.dm A.wh (A.off (by simp [BL.fx]) (by omega)) hn fun h1 fp1 T1 Q1 U1 N1 => ?_
    obtain ⟨k1, k2⟩ := A.dma T1 Q1 U1 N1
    have := hq h1 fp1 (by simpa [BS.wr] using k1) k2
    simp (maxSteps := 1000000) (disch := first | assumption | ((try simp only [push_next, put_next, adv_next, List.length_cons, List.length_nil, List.length_map, List.length_set]); omega) | simp)
    simpa [wok] using this
  simp (maxSteps := 1000000) (disch := first | assumption | ((try simp only [push_next, put_next, adv_next, List.length_cons, List.length_nil, List.length_map, List.length_set]); omega) | simp) [g, d0, d1, d2, d3, d4]
  refine kwrite A.dk A.wh ⟨A.off (by simp [BL.fx]) (by omega), A.off (by simp [BL.fx]) (by omega)⟩ (by omega) hn fun h1 fp1 T1 Q1 U1 N1 => ?_
  obtain ⟨k1, k2⟩ := A.disk T1 Q1 U1 N1.1
  have := hq h1 fp1 (by simpa [BS.wr, d0, d1, d2, d3, d4] using k1) k2
  simp (maxSteps := 1000000) (disch := first | assumption | ((try simp only [push_next, put_next, adv_next, List.length_cons, List.length_nil, List.length_map, List.length_set]); omega) | simp)
  simpa [wok, d0, d1, d2, d3, d4] using this
theorem BW.size (A : BW h L fp fo X) : 1024 ≤ X.B.length ∧ X.B.length ≤ 65536 := by
  have := A.ra.sz
  have := A.ra.ml
  omega
/-- What an address has. -/
def BS.ld (X : BS) (a : BitVec 32) (n now : Int) : BitVec 32 := if a.toNat < X.B.length then (if evB X.B a n = true then ldB X.B a.toNat n.toNat else 0#32) else if bwin a n = true then X.rd (bwd a) (bwo a) now else 0#32
def BS.ok (X : BS) (a : BitVec 32) (n : Int) : Bool := if a.toNat < X.B.length then evB X.B a n else bwin a n && wok (bwd a) (bwo a)
def BS.lds (X : BS) (a : BitVec 32) (n : Int) : BS := if a.toNat < X.B.length then X else if bwin a n = true then (X.rds (bwd a) (bwo a)).gath else X
theorem lt_size {a : BitVec 32} {n : Nat} (hn : n ≤ 65536) : a < BitVec.ofNat 32 n ↔ a.toNat < n := by
  rw [BitVec.lt_def, BitVec.toNat_ofNat, Nat.mod_eq_of_lt (by omega)]
theorem bload {n : Int} (A : BW h L fp fo X) (hq : ∀ h', BW h' L fp fo (X.lds a n) → Upd h h' (L.fp fp fo) (L.fp fp fo) → q (.tuple #[u32 (X.ld a n now), .bool (X.ok a n)]) h') : WC T n_bus_Bus_Load [ptr L.b 0, u32 a, .int .i64 n, .int .i64 now] h q := by
  have g := A.bs
  have hs := A.size
  have hc := lt_size (a := a) hs.2
  rw [w_bus_Bus_Load]
  by_cases c1 : a.toNat < X.B.length
  · have := hq h (by simpa [BS.lds, c1] using A) .refl
    simp (maxSteps := 1000000) (disch := first | assumption | ((try simp only [push_next, put_next, adv_next, List.length_cons, List.length_nil, List.length_map, List.length_set]); omega) | simp) [g, GC_of (fun q => rsize (q := q) A.ra), hc, c1, GC_of (fun q => rloadr (q := q) (a := a) (n := n) A.ra)]
    simpa [BS.ld, BS.ok, c1] using this
  · simp (maxSteps := 1000000) (disch := first | assumption | ((try simp only [push_next, put_next, adv_next, List.length_cons, List.length_nil, List.length_map, List.length_set]); omega) | simp) [g, GC_of (fun q => rsize (q := q) A.ra), hc, c1]
    refine bwindow (fun hw => ?_) fun hw d k => ?_
    · simp (maxSteps := 1000000) (disch := first | assumption | ((try simp only [push_next, put_next, adv_next, List.length_cons, List.length_nil, List.length_map, List.length_set]); omega) | simp)
      refine bread A fun h1 A1 U1 => ?_
      simp (maxSteps := 1000000) (disch := first | assumption | ((try simp only [push_next, put_next, adv_next, List.length_cons, List.length_nil, List.length_map, List.length_set]); omega) | simp)
      refine bgather A1 fun h2 A2 U2 => ?_
      have := hq h2 (by simpa [BS.lds, c1, hw] using A2) (U1.trans U2)
      simp (maxSteps := 1000000) (disch := first | assumption | ((try simp only [push_next, put_next, adv_next, List.length_cons, List.length_nil, List.length_map, List.length_set]); omega) | simp)
      simpa [BS.ld, BS.ok, c1, hw] using this
    · have := hq h (by simpa [BS.lds, c1, hw] using A) .refl
      simp (maxSteps := 1000000) (disch := first | assumption | ((try simp only [push_next, put_next, adv_next, List.length_cons, List.length_nil, List.length_map, List.length_set]); omega) | simp)
      simpa [BS.ld, BS.ok, c1, hw] using this
/-- What it has then. -/
def BS.st (X : BS) (a : BitVec 32) (n : Int) (v : BitVec 32) (now : Int) : BS := if a.toNat < X.B.length then (if evB X.B a n = true then { X with B := stB X.B a.toNat n.toNat v, W := tch X.M X.W a.toNat n.toNat } else X) else if bwin a n = true then (X.wr (bwd a) (bwo a) v now).gath else X
theorem bstore {n : Int} (A : BW h L fp fo X) (hn : 0 ≤ now ∧ now ≤ 2 ^ 60) (hq : ∀ h' fp', BW h' L fp' fo (X.st a n v now) → Upd h h' (L.fp fp fo) (L.fp fp' fo) → q (.bool (X.ok a n)) h') : WC T n_bus_Bus_Store [ptr L.b 0, u32 a, .int .i64 n, u32 v, .int .i64 now] h q := by
  have g := A.bs
  have hs := A.size
  have hc := lt_size (a := a) hs.2
  rw [w_bus_Bus_Store]
  by_cases c1 : a.toNat < X.B.length
  · simp (maxSteps := 1000000) (disch := first | assumption | ((try simp only [push_next, put_next, adv_next, List.length_cons, List.length_nil, List.length_map, List.length_set]); omega) | simp) [g, GC_of (fun q => rsize (q := q) A.ra), hc, c1]
    refine rstorer A.ra (fun he => ?_) fun he h1 R1 U1 => ?_
    · have := hq h fp (by simpa [BS.st, c1, he] using A) .refl
      simp (maxSteps := 1000000) (disch := first | assumption | ((try simp only [push_next, put_next, adv_next, List.length_cons, List.length_nil, List.length_map, List.length_set]); omega) | simp)
      simpa [BS.ok, c1, he] using this
    · obtain ⟨k1, k2⟩ := A.ram R1 U1
      have := hq h1 fp (by simpa [BS.st, c1, he] using k1) k2
      simp (maxSteps := 1000000) (disch := first | assumption | ((try simp only [push_next, put_next, adv_next, List.length_cons, List.length_nil, List.length_map, List.length_set]); omega) | simp)
      simpa [BS.ok, c1, he] using this
  · simp (maxSteps := 1000000) (disch := first | assumption | ((try simp only [push_next, put_next, adv_next, List.length_cons, List.length_nil, List.length_map, List.length_set]); omega) | simp) [g, GC_of (fun q => rsize (q := q) A.ra), hc, c1]
    refine bwindow (fun hw => ?_) fun hw d k => ?_
    · simp (maxSteps := 1000000) (disch := first | assumption | ((try simp only [push_next, put_next, adv_next, List.length_cons, List.length_nil, List.length_map, List.length_set]); omega) | simp)
      refine bwrite A hn fun h1 fp1 A1 U1 => ?_
      simp (maxSteps := 1000000) (disch := first | assumption | ((try simp only [push_next, put_next, adv_next, List.length_cons, List.length_nil, List.length_map, List.length_set]); omega) | simp)
      refine bgather A1 fun h2 A2 U2 => ?_
      have := hq h2 fp1 (by simpa [BS.st, c1, hw] using A2) (U1.trans U2)
      simp (maxSteps := 1000000) (disch := first | assumption | ((try simp only [push_next, put_next, adv_next, List.length_cons, List.length_nil, List.length_map, List.length_set]); omega) | simp)
      simpa [BS.ok, c1, hw] using this
    · have := hq h fp (by simpa [BS.st, c1, hw] using A) .refl
      simp (maxSteps := 1000000) (disch := first | assumption | ((try simp only [push_next, put_next, adv_next, List.length_cons, List.length_nil, List.length_map, List.length_set]); omega) | simp)
      simpa [BS.ok, c1, hw] using this
end
end Go.Proofs.Ytpdfdemoflofhaa.Cd

/- The bus: what is due is done; it is made. -/
set_option maxRecDepth 1000000
set_option maxHeartbeats 8000000
set_option linter.unusedSimpArgs false
set_option linter.unusedVariables false
namespace Go.Proofs.Ytpdfdemoflofhaa.Cd
open Go Go.Dx
/-- What a device does when it is due. -/
def BS.fire (X : BS) (d t : Int) : BS :=
  if d = 1 then { X with T1 := X.T1.fire, S := X.T1.firew X.S 1 t } else if d = 2 then { X with T2 := X.T2.fire, S := X.T2.firew X.S 2 t } else if d = 3 then { X with U := X.U.fire, S := X.U.firew X.S 3 t }
  else if d = 4 then { X with D := X.D.fire X.B, B := X.D.mem X.B, W := X.D.wrt X.B X.M X.W } else if d = 5 then { X with K := X.K.fire X.E X.B, B := X.K.mem X.E X.B, W := X.K.wrt X.E X.B X.M X.W, E := X.K.img X.E X.B } else X
def BS.due : Nat → BS → Int → Nat × BS
  | 0, X, _ => (0, X)
  | k + 1, X, now => match X.S.L with
    | [] => (0, X)
    | e :: E => if e.at' ≤ now then ((BS.due k (BS.fire { X with S := ⟨E, X.S.n⟩ } e.dev e.at') now).1 + 1, (BS.due k (BS.fire { X with S := ⟨E, X.S.n⟩ } e.dev e.at') now).2) else (0, X)
section
variable {h h' : Hp} {q : Value → Hp → Prop} {L : BL} {fp fo fp' fo' : List Nat} {X : BS} {S' : WhS} {now : Int} {a v : BitVec 32}
theorem BW.more {p : List Nat} {fp fo : List Nat} {g : Hp} (A : BW h L fp fo X) (K : Kp g h) : Upd g h (L.fp fp fo) (L.fp fp fo) := K.upd _
theorem _root_.Go.Dx.Upd.kp1 {g h h' : Hp} {p p' : List Nat} (K : Kp g h) (U : Upd h h' p p') : Upd g h' p p' := ⟨Nat.le_trans K.le U.le, fun b hb hn => by rw [U.get b (Nat.lt_of_lt_of_le hb K.le) hn, K.get b hb], fun b hb => by
  rcases U.sub b hb with h5 | h5
  · exact .inl h5
  · exact .inr (Nat.le_trans K.le h5)⟩
theorem bfire {e : Ev} (A : BW h L fp fo X) (hn : 0 ≤ e.at' ∧ e.at' ≤ 2 ^ 60) (hq : ∀ h' fp' fo', BW h' L fp' fo' (X.fire e.dev e.at') → Upd h h' (L.fp fp fo) (L.fp fp' fo') → q (.tuple #[]) h') :
    WC T n_bus_Bus_fire [ptr L.b 0, .agg #[.int .i64 e.at', .int .i64 e.dev, .int .i64 e.seq]] h q := by
  have ho := A.lay
  unfold BL.ok at ho
  rw [w_bus_Bus_fire]
  simp (maxSteps := 1000000) (disch := first | assumption | ((try simp only [push_next, put_next, adv_next, List.length_cons, List.length_nil, List.length_map, List.length_set]); omega) | simp) [-g4_bus_Bus_fire]
  have K : Kp h (h.push (.cells false [.int .i64 e.at', .int .i64 e.dev, .int .i64 e.seq])) := (Kp.refl h).push _
  have A1 := A.kp K
  have hq1 : ∀ h' fp' fo', BW h' L fp' fo' (X.fire e.dev e.at') → Upd (h.push (.cells false [.int .i64 e.at', .int .i64 e.dev, .int .i64 e.seq])) h' (L.fp fp fo) (L.fp fp' fo') → q (.tuple #[]) h' := fun h1 f1 f2 k1 k2 => hq h1 f1 f2 k1 (.kp1 K k2)
  have z1 : (h.push (.cells false [.int .i64 e.at', .int .i64 e.dev, .int .i64 e.seq])).get h.next = some (.cells false [.int .i64 e.at', .int .i64 e.dev, .int .i64 e.seq]) := get_push_self
  generalize h.push (.cells false [.int .i64 e.at', .int .i64 e.dev, .int .i64 e.seq]) = h0 at *
  have g := A1.bs
  clear A
  by_cases d1 : e.dev = 1
  · rw [d1] at hq1 z1 ⊢
    simp (maxSteps := 1000000) (disch := first | assumption | ((try simp only [push_next, put_next, adv_next, List.length_cons, List.length_nil, List.length_map, List.length_set]); omega) | simp) [g, z1, d1]
    refine mfire A1.t1 A1.wh (A1.off (by simp [BL.fx]) (by omega)) hn fun h1 fp1 T1 Q1 U1 N1 => ?_
    obtain ⟨k1, k2⟩ := A1.tim1 T1 Q1 U1 N1
    have := hq1 h1 fp1 fo (by simpa [BS.fire] using k1) k2
    simp (maxSteps := 1000000) (disch := first | assumption | ((try simp only [push_next, put_next, adv_next, List.length_cons, List.length_nil, List.length_map, List.length_set]); omega) | simp)
    exact this
  by_cases d2 : e.dev = 2
  · rw [d2] at hq1 z1 ⊢
    simp (maxSteps := 1000000) (disch := first | assumption | ((try simp only [push_next, put_next, adv_next, List.length_cons, List.length_nil, List.length_map, List.length_set]); omega) | simp) [g, z1, d2]
    refine mfire A1.t2 A1.wh (A1.off (by simp [BL.fx]) (by omega)) hn fun h1 fp1 T1 Q1 U1 N1 => ?_
    obtain ⟨k1, k2⟩ := A1.tim2 T1 Q1 U1 N1
    have := hq1 h1 fp1 fo (by simpa [BS.fire] using k1) k2
    simp (maxSteps := 1000000) (disch := first | assumption | ((try simp only [push_next, put_next, adv_next, List.length_cons, List.length_nil, List.length_map, List.length_set]); omega) | simp)
    exact this
  by_cases d3 : e.dev = 3
  · rw [d3] at hq1 z1 ⊢
    simp (maxSteps := 1000000) (disch := first | assumption | ((try simp only [push_next, put_next, adv_next, List.length_cons, List.length_nil, List.length_map, List.length_set]); omega) | simp) [g, z1, d3]
    refine ufire A1.ua A1.wh A1.ap (by omega) fun h1 fp1 fo1 T1 Q1 U1 P1 => ?_
    obtain ⟨k1, k2⟩ := A1.uaw T1 Q1 (by simpa only [List.cons_append] using U1) P1
    have := hq1 h1 fp1 fo1 (by simpa [BS.fire] using k1) k2
    simp (maxSteps := 1000000) (disch := first | assumption | ((try simp only [push_next, put_next, adv_next, List.length_cons, List.length_nil, List.length_map, List.length_set]); omega) | simp)
    exact this
  by_cases d4 : e.dev = 4
  · rw [d4] at hq1 z1 ⊢
    simp (maxSteps := 1000000) (disch := first | assumption | ((try simp only [push_next, put_next, adv_next, List.length_cons, List.length_nil, List.length_map, List.length_set]); omega) | simp) [g, z1, d4]
    refine dfire A1.dm A1.ra (by omega) fun h1 T1 R1 U1 => ?_
    obtain ⟨k1, k2⟩ := A1.dmaf T1 R1 U1
    have := hq1 h1 fp fo (by simpa [BS.fire] using k1) k2
    simp (maxSteps := 1000000) (disch := first | assumption | ((try simp only [push_next, put_next, adv_next, List.length_cons, List.length_nil, List.length_map, List.length_set]); omega) | simp)
    exact this
  by_cases d5 : e.dev = 5
  · rw [d5] at hq1 z1 ⊢
    simp (maxSteps := 1000000) (disch := first | assumption | ((try simp only [push_next, put_next, adv_next, List.length_cons, List.length_nil, List.length_map, List.length_set]); omega) | simp) [g, z1, d5]
    refine kfire A1.dk A1.ra (by omega) (by omega) fun h1 T1 R1 U1 => ?_
    obtain ⟨k1, k2⟩ := A1.diskf T1 R1 U1
    have := hq1 h1 fp fo (by simpa [BS.fire] using k1) k2
    simp (maxSteps := 1000000) (disch := first | assumption | ((try simp only [push_next, put_next, adv_next, List.length_cons, List.length_nil, List.length_map, List.length_set]); omega) | simp)
    exact this
  have := hq1 h0 fp fo (by simpa [BS.fire, d1, d2, d3, d4, d5] using A1) .refl
  simp (maxSteps := 1000000) (disch := first | assumption | ((try simp only [push_next, put_next, adv_next, List.length_cons, List.length_nil, List.length_map, List.length_set]); omega) | simp) [g, z1, d1, d2, d3, d4, d5]
  exact this
end
end Go.Proofs.Ytpdfdemoflofhaa.Cd

/- The bus: all that is due is done. -/
set_option maxRecDepth 1000000
set_option maxHeartbeats 2000000
set_option linter.unusedSimpArgs false
set_option linter.unusedVariables false
namespace Go.Proofs.Ytpdfdemoflofhaa.Cd
open Go Go.Dx
section
variable {h h' : Hp} {q : Value → Hp → Prop} {L : BL} {fp fo fp' fo' : List Nat} {X : BS} {S' : WhS} {now : Int} {a v : BitVec 32}
theorem bFire (A : BW h L fp fo X) (hn : now ≤ 2 ^ 60) (hq : ∀ h' fp' fo', BW h' L fp' fo' (X.due 256 now).2.gath → Upd h h' (L.fp fp fo) (L.fp fp' fo') → q (.int .i64 (X.due 256 now).1) h') :
    WC T n_bus_Bus_Fire [ptr L.b 0, .int .i64 now] h q := by
  rw [w_bus_Bus_Fire]
  simp (maxSteps := 1000000) (disch := first | assumption | ((try simp only [push_next, put_next, adv_next, List.length_cons, List.length_nil, List.length_map, List.length_set]); omega) | simp)
  refine G_loop (fun k e h1 => ∃ (n : Nat) (Y : BS) (fp1 fo1 : List Nat), n + k = 256 ∧ e 0 = ptr L.b 0 ∧ e 1 = .int .i64 now ∧ e 5 = .int .i64 n ∧ BW h1 L fp1 fo1 Y ∧ Upd h h1 (L.fp fp fo) (L.fp fp1 fo1) ∧ X.due 256 now = (n + (Y.due k now).1, (Y.due k now).2)) ?_ 256 _ _ ⟨0, X, fp, fo, rfl, by simp, by simp, by simp, A, .refl, by simp⟩
  rintro k ih e h1 ⟨n, Y, fp1, fo1, hk, e0, e1, e5, A1, U1, hD⟩
  generalize X.due 256 now = D at *
  cases k with
  | zero =>
    have : n = 256 := by omega
    subst this
    simp only [BS.due, Nat.add_zero] at hD
    subst hD
    simp (maxSteps := 1000000) (disch := first | assumption | ((try simp only [push_next, put_next, adv_next, List.length_cons, List.length_nil, List.length_map, List.length_set]); omega) | simp) [e5, e0]
    refine bgather A1 fun h2 A2 U2 => ?_
    simp (maxSteps := 1000000) (disch := first | assumption | ((try simp only [push_next, put_next, adv_next, List.length_cons, List.length_nil, List.length_map, List.length_set]); omega) | simp) [e5]
    exact hq h2 fp1 fo1 A2 (U1.trans U2)
  | succ k =>
    have hlt : (n : Int) < 256 := by omega
    have g := A1.bs
    simp (maxSteps := 1000000) (disch := first | assumption | ((try simp only [push_next, put_next, adv_next, List.length_cons, List.length_nil, List.length_map, List.length_set]); omega) | simp) [e0, e1, e5, hlt, g]
    refine takeS A1.wh (fun hno h2 K2 => ?_) fun x E hL hx h2 fp2 Q2 U2 => ?_
    · have hd : Y.due (k + 1) now = (0, Y) := by
        unfold BS.due
        cases hY : Y.S.L with
        | nil => rfl
        | cons x E =>
          have := hno x (by simp [hY])
          simp only
          rw [if_neg (by omega)]
      rw [hd] at hD
      simp only [Nat.add_zero] at hD
      subst hD
      simp (maxSteps := 1000000) (disch := first | assumption | ((try simp only [push_next, put_next, adv_next, List.length_cons, List.length_nil, List.length_map, List.length_set]); omega) | simp) [e0, e1, e5]
      have K3 : Kp h1 (h2.push (.cells false [.int .i64 0, .int .i64 0, .int .i64 0])) := K2.push _
      refine bgather (A1.kp K3) fun h3 A3 U3 => ?_
      simp (maxSteps := 1000000) (disch := first | assumption | ((try simp only [push_next, put_next, adv_next, List.length_cons, List.length_nil, List.length_map, List.length_set]); omega) | simp) [e5]
      exact hq h3 fp1 fo1 A3 (U1.trans (.kp1 K3 U3))
    · obtain ⟨A2, U2'⟩ := A1.wheel Q2 U2
      have pos : 0 ≤ x.at' := A1.wh.wi.pos x (by rw [hL]; simp)
      have K3 : Kp h2 (h2.push (.cells false [.int .i64 x.at', .int .i64 x.dev, .int .i64 x.seq])) := (Kp.refl h2).push _
      have hd : Y.due (k + 1) now = ((BS.due k (BS.fire { Y with S := ⟨E, Y.S.n⟩ } x.dev x.at') now).1 + 1, (BS.due k (BS.fire { Y with S := ⟨E, Y.S.n⟩ } x.dev x.at') now).2) := by
        conv => lhs; unfold BS.due
        rw [hL]
        simp only
        rw [if_pos hx]
      rw [hd] at hD
      simp (maxSteps := 1000000) (disch := first | assumption | ((try simp only [push_next, put_next, adv_next, List.length_cons, List.length_nil, List.length_map, List.length_set]); omega) | simp) [Hp.rdn]
      simp (maxSteps := 1000000) (disch := first | assumption | ((try simp only [push_next, put_next, adv_next, List.length_cons, List.length_nil, List.length_map, List.length_set]); omega) | simp) [e0, e1, e5]
      refine bfire (A2.kp K3) ⟨pos, by omega⟩ fun h4 fp4 fo4 A4 U4 => ?_
      have hn1 : IntKind.i64.wrap ((n : Int) + 1) = ((n + 1 : Nat) : Int) := by
        rw [wrap_i64 (by omega) (by omega)]
        rfl
      simp (maxSteps := 1000000) (disch := first | assumption | ((try simp only [push_next, put_next, adv_next, List.length_cons, List.length_nil, List.length_map, List.length_set]); omega) | simp) [e0, e1, e5]
      refine ih k (by omega) _ _ ⟨n + 1, _, fp4, fo4, by omega, by simp [e0], by simp [e1], by simp, A4, (U1.trans U2').trans (.kp1 K3 U4), ?_⟩
      rw [hD]
      congr 1
      omega
theorem bnext (A : BW h L fp fo X) : WC T n_bus_Bus_Next [ptr L.b 0] h q ↔ q (.tuple #[.int .i64 (X.S.L.head?.elim 0 (·.at')), .bool (!X.S.L.isEmpty)]) h := by
  have g := A.bs
  rw [w_bus_Bus_Next]
  simp (maxSteps := 1000000) (disch := first | assumption | ((try simp only [push_next, put_next, adv_next, List.length_cons, List.length_nil, List.length_map, List.length_set]); omega) | simp) [g, GC_of (fun q => wnext (q := q) A.wh.wh)]
theorem braised (A : BW h L fp fo X) : WC T n_bus_Bus_Raised [ptr L.b 0] h q ↔ q (.bool (X.r &&& X.m != 0#32)) h := by
  have g := A.bs
  rw [w_bus_Bus_Raised]
  simp (maxSteps := 1000000) (disch := first | assumption | ((try simp only [push_next, put_next, adv_next, List.length_cons, List.length_nil, List.length_map, List.length_set]); omega) | simp) [g, GC_of (fun q => lraised (q := q) A.ln)]
theorem bram (A : BW h L fp fo X) : WC T n_bus_Bus_Ram [ptr L.b 0] h q ↔ q (ptr (L.x + 3) 0) h := by
  have g := A.bs
  rw [w_bus_Bus_Ram]
  simp (maxSteps := 1000000) (disch := first | assumption | ((try simp only [push_next, put_next, adv_next, List.length_cons, List.length_nil, List.length_map, List.length_set]); omega) | simp) [g]
/-- How many pages. -/
def pgs (n : Int) : Nat := (max 1 (min n 64)).toNat
/-- A bus that is made. -/
def BS.mk0 (n : Int) (im se : By) : BS :=
  { B := ovB (List.replicate (1024 * pgs n) 0#8) 0 (im.take (1024 * pgs n)), M := List.replicate (pgs n) false, W := tch (List.replicate (pgs n) false) (List.replicate (pgs n) false) 0 (im.take (1024 * pgs n)).length,
    S := ⟨[], 0⟩, r := 0#32, m := 0#32, T1 := ⟨0#32, 0#32, 0#32⟩, T2 := ⟨0#32, 0#32, 0#32⟩, U := ⟨[], [], false, 0#32, []⟩, D := ⟨0#32, 0#32, 0#32, 0#32⟩, K := ⟨0#32, 0#32, 0#32, 0#32⟩, E := dkE se }
theorem bnew {n : Int} {im se : By} {ai as0 : Option Addr} {ci cs : Nat} (Si : Sees encB h ai im) (Ss : Sees encB h as0 se) (hi : im.length < 2 ^ 40) (hs : se.length < 2 ^ 40) (hci : im.length ≤ ci)
    (hq : ∀ h' L, BW h' L [] [] (BS.mk0 n im se) → h.next ≤ L.x → Kp h h' → q (ptr L.b 0) h') :
    WC T n_bus_New [.int .i64 n, .slice ai im.length ci, .slice as0 se.length cs] h q := by
  rw [w_bus_New]
  simp (maxSteps := 1000000) (disch := first | assumption | ((try simp only [push_next, put_next, adv_next, List.length_cons, List.length_nil, List.length_map, List.length_set]); omega) | simp)
  refine rnew fun h1 R1 K1 n1 => ?_
  have hp : 1 ≤ pgs n ∧ pgs n ≤ 64 := by unfold pgs; omega
  rw [show (max 1 (min n 64)).toNat = pgs n from rfl] at R1
  simp (maxSteps := 1000000) (disch := first | assumption | ((try simp only [push_next, put_next, adv_next, List.length_cons, List.length_nil, List.length_map, List.length_set]); omega) | simp) [GC_of (fun q => wnew)]
  have W1 : WhA (h1.push (.cells false [.slice none 0 0, .int .i64 0])) h1.next ⟨[], 0⟩ [] := ⟨Wh.new (h := h1), .nil⟩
  have K2 : Kp h1 (h1.push (.cells false [.slice none 0 0, .int .i64 0])) := (Kp.refl h1).push _
  have n2 : (h1.push (.cells false [.slice none 0 0, .int .i64 0])).next = h1.next + 1 := rfl
  generalize h1.push (.cells false [.slice none 0 0, .int .i64 0]) = h2 at *
  have R2 := R1.kp K2
  have hB : (List.replicate (1024 * pgs n) 0#8 : By).length = 1024 * pgs n := by simp
  generalize hBB : (List.replicate (1024 * pgs n) 0#8 : By) = B at *
  obtain ⟨hi2, hm⟩ : ∃ m : Nat, m = min im.length (1024 * pgs n) := ⟨_, rfl⟩
  have ht : im.take (1024 * pgs n) = im.take hi2 := by
    rw [hm]
    rcases Nat.le_total im.length (1024 * pgs n) with h5 | h5
    · rw [Nat.min_eq_left h5, List.take_of_length_le h5, List.take_length]
    · rw [Nat.min_eq_right h5]
  obtain ⟨a1, c1, p1, p2, s1⟩ := (Si.kp (K1.trans K2)).part (c := ci) (lo := 0) (hi := hi2) (l := none) (u := some (.int .i64 hi2)) (by omega) (by omega) hci (.inl ⟨rfl, rfl⟩) (.inr ⟨.i64, rfl⟩)
  simp only [Nat.sub_zero, List.drop_zero, encB_sz] at p1 p2 s1
  have hsz : BitVec.toNat (BitVec.ofNat 32 B.length) = 1024 * pgs n := by
    rw [BitVec.toNat_ofNat, hB]
    omega
  have hmin : (if 1024 * (pgs n : Int) < (im.length : Int) then 1024 * (pgs n : Int) else (im.length : Int)) = (hi2 : Int) := by
    rw [hm]
    split <;> omega
  have hil : (im.take hi2).length = hi2 := by rw [List.length_take]; omega
  have hpz : pgs n ≠ 0 := by omega
  simp (maxSteps := 1000000) (disch := first | assumption | ((try simp only [push_next, put_next, adv_next, List.length_cons, List.length_nil, List.length_map, List.length_set]); omega) | simp) [GC_of (fun q => rsize (q := q) R2), hsz, hmin, p1]
  have hp1 := rput (a := 0#32) (c := c1) (q := fun v h' => v = .bool true ∧ Ra h' h.next (ovB B 0 (im.take hi2)) (List.replicate (pgs n) false) (tch (List.replicate (pgs n) false) (List.replicate (pgs n) false) 0 (im.take hi2).length) ∧ Upd h2 h' [h.next, h.next + 2] [h.next, h.next + 2]) R2 s1 (by rw [hil]; omega) (fun hb => by
    exfalso
    rw [hil] at hb
    simp [thB, hB] at hb
    omega) fun _ h3 R3 U3 => ⟨rfl, R3, U3⟩
  rw [hil] at hp1
  refine GC_intro hp1 fun v h3 ⟨hv, R3, U3⟩ => ?_
  subst hv
  have n3 := U3.le
  have W3 : WhA h3 h1.next ⟨[], 0⟩ [] := W1.keep fun b hb => by
    simp at hb
    subst hb
    exact U3.get _ (by omega) (by simp; omega)
  have K3 : Kp h h3 := ⟨by have := K1.le; omega, fun b hb => by rw [U3.get b (by omega) (by simp; omega), K2.get b (by omega), K1.get b hb]⟩
  have R4 := R3
  have hw3 : h1.next < h3.next := by omega
  simp (maxSteps := 1000000) (disch := first | assumption | ((try simp only [push_next, put_next, adv_next, List.length_cons, List.length_nil, List.length_map, List.length_set]); omega) | simp) [GC_of (fun q => lnew)]
  have L4 : Ln (h3.push (.cells false [u32 0#32, u32 0#32])) h3.next 0#32 0#32 := get_push_self
  have K4 : Kp h3 (h3.push (.cells false [u32 0#32, u32 0#32])) := (Kp.refl h3).push _
  have n4 : (h3.push (.cells false [u32 0#32, u32 0#32])).next = h3.next + 1 := rfl
  generalize h3.push (.cells false [u32 0#32, u32 0#32]) = h4 at *
  have hw4 : h1.next < h4.next := by omega
  simp (maxSteps := 1000000) (disch := first | assumption | ((try simp only [push_next, put_next, adv_next, List.length_cons, List.length_nil, List.length_map, List.length_set]); omega) | simp) [GC_of (fun q => mnew (dv := 1) hw4)]
  have T5 : TmC (h4.push (.cells false [.int .i64 1, ptr h1.next 0, u32 0#32, u32 0#32, u32 0#32])) h4.next h1.next 1 ⟨0#32, 0#32, 0#32⟩ := get_push_self
  have K5 : Kp h4 (h4.push (.cells false [.int .i64 1, ptr h1.next 0, u32 0#32, u32 0#32, u32 0#32])) := (Kp.refl h4).push _
  have n5 : (h4.push (.cells false [.int .i64 1, ptr h1.next 0, u32 0#32, u32 0#32, u32 0#32])).next = h4.next + 1 := rfl
  generalize h4.push (.cells false [.int .i64 1, ptr h1.next 0, u32 0#32, u32 0#32, u32 0#32]) = h5 at *
  have hw5 : h1.next < h5.next := by omega
  simp (maxSteps := 1000000) (disch := first | assumption | ((try simp only [push_next, put_next, adv_next, List.length_cons, List.length_nil, List.length_map, List.length_set]); omega) | simp) [GC_of (fun q => mnew (dv := 2) hw5)]
  have T6 : TmC (h5.push (.cells false [.int .i64 2, ptr h1.next 0, u32 0#32, u32 0#32, u32 0#32])) h5.next h1.next 2 ⟨0#32, 0#32, 0#32⟩ := get_push_self
  have K6 : Kp h5 (h5.push (.cells false [.int .i64 2, ptr h1.next 0, u32 0#32, u32 0#32, u32 0#32])) := (Kp.refl h5).push _
  have n6 : (h5.push (.cells false [.int .i64 2, ptr h1.next 0, u32 0#32, u32 0#32, u32 0#32])).next = h5.next + 1 := rfl
  generalize h5.push (.cells false [.int .i64 2, ptr h1.next 0, u32 0#32, u32 0#32, u32 0#32]) = h6 at *
  refine unew (by omega) fun h7 U7 K7 n7 => ?_
  have hw7 : h1.next < h7.next := by omega
  simp (maxSteps := 1000000) (disch := first | assumption | ((try simp only [push_next, put_next, adv_next, List.length_cons, List.length_nil, List.length_map, List.length_set]); omega) | simp) [GC_of (fun q => dnew (dv := 4) (x := h.next) hw7)]
  have D8 : Dm (h7.push (.cells false [.int .i64 4, ptr h1.next 0, ptr (h.next + 3) 0, u32 0#32, u32 0#32, u32 0#32, u32 0#32])) h7.next h1.next h.next 4 ⟨0#32, 0#32, 0#32, 0#32⟩ := get_push_self
  have K8 : Kp h7 (h7.push (.cells false [.int .i64 4, ptr h1.next 0, ptr (h.next + 3) 0, u32 0#32, u32 0#32, u32 0#32, u32 0#32])) := (Kp.refl h7).push _
  have n8 : (h7.push (.cells false [.int .i64 4, ptr h1.next 0, ptr (h.next + 3) 0, u32 0#32, u32 0#32, u32 0#32, u32 0#32])).next = h7.next + 1 := rfl
  generalize h7.push (.cells false [.int .i64 4, ptr h1.next 0, ptr (h.next + 3) 0, u32 0#32, u32 0#32, u32 0#32, u32 0#32]) = h8 at *
  have K38 : Kp h3 h8 := (((K4.trans K5).trans K6).trans K7).trans K8
  refine knew (Ss.kp (K3.trans K38)) hs (by omega) (by omega) fun h9 E9 K9 n9 => ?_
  simp (maxSteps := 1000000) (disch := first | assumption | ((try simp only [push_next, put_next, adv_next, List.length_cons, List.length_nil, List.length_map, List.length_set]); omega) | simp)
  have K10 : Kp h9 (h9.push (.cells false [ptr (h.next + 3) 0, ptr h1.next 0, ptr h3.next 0, ptr h4.next 0, ptr h5.next 0, ptr (h6.next + 2) 0, ptr h7.next 0, ptr (h8.next + 1) 0])) := (Kp.refl h9).push _
  have b10 : (h9.push (.cells false [ptr (h.next + 3) 0, ptr h1.next 0, ptr h3.next 0, ptr h4.next 0, ptr h5.next 0, ptr (h6.next + 2) 0, ptr h7.next 0, ptr (h8.next + 1) 0])).get h9.next = some (.cells false [ptr (h.next + 3) 0, ptr h1.next 0, ptr h3.next 0, ptr h4.next 0, ptr h5.next 0, ptr (h6.next + 2) 0, ptr h7.next 0, ptr (h8.next + 1) 0]) := get_push_self
  generalize h9.push (.cells false [ptr (h.next + 3) 0, ptr h1.next 0, ptr h3.next 0, ptr h4.next 0, ptr h5.next 0, ptr (h6.next + 2) 0, ptr h7.next 0, ptr (h8.next + 1) 0]) = h10 at *
  have K810 := K9.trans K10
  have K710 := K8.trans K810
  have K610 := K7.trans K710
  have K510 := K6.trans K610
  have K410 := K5.trans K510
  have K310 := K4.trans K410
  refine hq h10 ⟨h.next, h1.next, h3.next, h4.next, h5.next, h6.next, h7.next, h8.next, h8.next + 1, h9.next⟩ ⟨b10, ?_, W3.kp K310, ?_, ?_, ?_, U7.kp K710, ?_, E9.keep (K10.get _ (by omega)) (K10.get _ (by omega)), ?_, by simp, by simp⟩ (Nat.le_refl _) (K3.trans K310)
  · have := R3.kp K310
    simpa only [BS.mk0, ht, hBB, hil] using this
  · unfold Ln at L4 ⊢; simp only []; rw [K410.get _ (by omega), L4]; rfl
  · unfold TmC at T5 ⊢; simp only []; rw [K510.get _ (by omega), T5]; rfl
  · unfold TmC at T6 ⊢; simp only []; rw [K610.get _ (by omega), T6]; rfl
  · unfold Dm at D8 ⊢; simp only []; rw [K810.get _ (by omega), D8]; rfl
  · simp only [BL.ok]
    omega
end
end Go.Proofs.Ytpdfdemoflofhaa.Cd

/- BusTimes: two timers that go off again and again. -/
set_option maxRecDepth 1000000
set_option maxHeartbeats 2000000
set_option linter.unusedSimpArgs false
set_option linter.unusedVariables false
namespace Go.Proofs.Ytpdfdemoflofhaa.Cd
open Go Go.Dx
/-- Has it gone off? -/
def gon (m : Int) : BitVec 32 := if m = 0 then 0#32 else 1#32
/-- Two timers: how often each went off. -/
structure Two (X : BS) (x y : BitVec 32) (m1 m2 : Int) : Prop where
  t1 : X.T1 = ⟨3#32, x, gon m1⟩
  t2 : X.T2 = ⟨3#32, y, gon m2⟩
  ev : ∃ n1 n2, (X.S.L = [⟨(m1 + 1) * x.toNat, 1, n1⟩, ⟨(m2 + 1) * y.toNat, 2, n2⟩] ∧ (m1 + 1) * x.toNat ≤ (m2 + 1) * y.toNat) ∨ (X.S.L = [⟨(m2 + 1) * y.toNat, 2, n2⟩, ⟨(m1 + 1) * x.toNat, 1, n1⟩] ∧ (m2 + 1) * y.toNat ≤ (m1 + 1) * x.toNat)
  u : X.U.ctl = 0#32
  d : X.D.s = 0#32
  k : X.K.s = 0#32
theorem insl_one {a b : Ev} : insl (·.at') a [b] = if a.at' < b.at' then [a, b] else [b, a] := by
  have := insl_nil (key := fun e : Ev => e.at') a
  by_cases h : a.at' < b.at'
  · rw [if_pos h]
    have := insl_lt (key := fun e : Ev => e.at') (x := a) (y := b) [] h
    simpa using this
  · rw [if_neg h]
    have := insl_le (key := fun e : Ev => e.at') (x := a) (y := b) [] h
    simpa using this
theorem tper_of {x : BitVec 32} (h : 2 ≤ x.toNat) : tper x = x.toNat := by
  unfold tper
  rw [if_pos (by rw [BitVec.lt_def]; simp; omega)]
section
variable {X : BS} {x y : BitVec 32} {m1 m2 : Int}
theorem Two.one (A : Two X x y m1 m2) (hx : 2 ≤ x.toNat) (h1 : 0 ≤ m1) (h2 : 0 ≤ m2) {n1 n2 n : Int} (hL : X.S.L = [⟨(m1 + 1) * x.toNat, 1, n1⟩, ⟨(m2 + 1) * y.toNat, 2, n2⟩]) :
    Two (BS.fire { X with S := ⟨[⟨(m2 + 1) * y.toNat, 2, n2⟩], n⟩ } 1 ((m1 + 1) * x.toNat)) x y (m1 + 1) m2 := by
  have e1 : (m1 + 1) * (x.toNat : Int) + x.toNat = (m1 + 1 + 1) * x.toNat := by rw [Int.add_mul (m1 + 1)]; omega
  have p1 : 0 ≤ (m1 + 1 + 1) * (x.toNat : Int) := Int.mul_nonneg (by omega) (by omega)
  have g : gon (m1 + 1) = 1#32 := by unfold gon; rw [if_neg (by omega)]
  have hS : (TmS.firew X.T1 ⟨[⟨(m2 + 1) * y.toNat, 2, n2⟩], n⟩ 1 ((m1 + 1) * x.toNat)).L = if (m1 + 1 + 1) * (x.toNat : Int) < (m2 + 1) * y.toNat then [⟨(m1 + 1 + 1) * x.toNat, 1, n⟩, ⟨(m2 + 1) * y.toNat, 2, n2⟩] else [⟨(m2 + 1) * y.toNat, 2, n2⟩, ⟨(m1 + 1 + 1) * x.toNat, 1, n⟩] := by
    rw [A.t1]
    simp only [TmS.firew, show (3#32 &&& 2#32 = 0#32) = False by decide, if_false, tper_of hx, e1, WhS.arm]
    rw [if_neg (by simp only [wbad, Bool.or_eq_true, decide_eq_true_eq]; omega)]
    simp only [wcan, List.eraseP, show decide ((2 : Int) = 1) = false from rfl]
    exact insl_one
  refine ⟨?_, A.t2, ⟨n, n2, ?_⟩, A.u, A.d, A.k⟩
  · simp [BS.fire, A.t1, TmS.fire, g]
  · by_cases c : (m1 + 1 + 1) * (x.toNat : Int) < (m2 + 1) * y.toNat
    · rw [if_pos c] at hS
      exact .inl ⟨by simpa [BS.fire] using hS, by omega⟩
    · rw [if_neg c] at hS
      exact .inr ⟨by simpa [BS.fire] using hS, by omega⟩
theorem Two.two (A : Two X x y m1 m2) (hy : 2 ≤ y.toNat) (h1 : 0 ≤ m1) (h2 : 0 ≤ m2) {n1 n2 n : Int} (hL : X.S.L = [⟨(m2 + 1) * y.toNat, 2, n2⟩, ⟨(m1 + 1) * x.toNat, 1, n1⟩]) :
    Two (BS.fire { X with S := ⟨[⟨(m1 + 1) * x.toNat, 1, n1⟩], n⟩ } 2 ((m2 + 1) * y.toNat)) x y m1 (m2 + 1) := by
  have e1 : (m2 + 1) * (y.toNat : Int) + y.toNat = (m2 + 1 + 1) * y.toNat := by rw [Int.add_mul (m2 + 1)]; omega
  have p1 : 0 ≤ (m2 + 1 + 1) * (y.toNat : Int) := Int.mul_nonneg (by omega) (by omega)
  have g : gon (m2 + 1) = 1#32 := by unfold gon; rw [if_neg (by omega)]
  have hS : (TmS.firew X.T2 ⟨[⟨(m1 + 1) * x.toNat, 1, n1⟩], n⟩ 2 ((m2 + 1) * y.toNat)).L = if (m2 + 1 + 1) * (y.toNat : Int) < (m1 + 1) * x.toNat then [⟨(m2 + 1 + 1) * y.toNat, 2, n⟩, ⟨(m1 + 1) * x.toNat, 1, n1⟩] else [⟨(m1 + 1) * x.toNat, 1, n1⟩, ⟨(m2 + 1 + 1) * y.toNat, 2, n⟩] := by
    rw [A.t2]
    simp only [TmS.firew, show (3#32 &&& 2#32 = 0#32) = False by decide, if_false, tper_of hy, e1, WhS.arm]
    rw [if_neg (by simp only [wbad, Bool.or_eq_true, decide_eq_true_eq]; omega)]
    simp only [wcan, List.eraseP, show decide ((1 : Int) = 2) = false from rfl]
    exact insl_one
  refine ⟨A.t1, ?_, ⟨n1, n, ?_⟩, A.u, A.d, A.k⟩
  · simp [BS.fire, A.t2, TmS.fire, g]
  · by_cases c : (m2 + 1 + 1) * (y.toNat : Int) < (m1 + 1) * x.toNat
    · rw [if_pos c] at hS
      exact .inr ⟨by simpa [BS.fire] using hS, by omega⟩
    · rw [if_neg c] at hS
      exact .inl ⟨by simpa [BS.fire] using hS, by omega⟩
theorem due_cons {k : Nat} {now : Int} {e : Ev} {E : List Ev} (hL : X.S.L = e :: E) (ht : e.at' ≤ now) : X.due (k + 1) now = ((BS.due k (BS.fire { X with S := ⟨E, X.S.n⟩ } e.dev e.at') now).1 + 1, (BS.due k (BS.fire { X with S := ⟨E, X.S.n⟩ } e.dev e.at') now).2) := by
  conv => lhs; unfold BS.due
  rw [hL]
  simp only
  rw [if_pos ht]
theorem due_stop {k : Nat} {now : Int} {e : Ev} {E : List Ev} (hL : X.S.L = e :: E) (ht : ¬ e.at' ≤ now) : X.due k now = (0, X) := by
  cases k with
  | zero => rfl
  | succ k =>
    unfold BS.due
    rw [hL]
    simp only
    rw [if_neg ht]
theorem fire_keep {X : BS} {d t : Int} (hd : d = 1 ∨ d = 2) : (X.fire d t).m = X.m ∧ (X.fire d t).r = X.r := by
  rcases hd with rfl | rfl <;> simp [BS.fire]
theorem Two.due {now : Int} (hx : 2 ≤ x.toNat) (hy : 2 ≤ y.toNat) : ∀ (k : Nat) (X : BS) (m1 m2 : Int), Two X x y m1 m2 → 0 ≤ m1 → 0 ≤ m2 → m1 ≤ now / x.toNat → m2 ≤ now / y.toNat → (now / x.toNat - m1) + (now / y.toNat - m2) ≤ k →
    (((X.due k now).1 : Nat) : Int) = now / x.toNat - m1 + (now / y.toNat - m2) ∧ Two (X.due k now).2 x y (now / x.toNat) (now / y.toNat) ∧ (X.due k now).2.m = X.m ∧ (X.due k now).2.r = X.r := by
  intro k
  have le1 : ∀ m : Int, (m + 1) * x.toNat ≤ now ↔ m + 1 ≤ now / x.toNat := fun m => (Int.le_ediv_iff_mul_le (by omega)).symm
  have le2 : ∀ m : Int, (m + 1) * y.toNat ≤ now ↔ m + 1 ≤ now / y.toNat := fun m => (Int.le_ediv_iff_mul_le (by omega)).symm
  induction k with
  | zero =>
    intro X m1 m2 A p1 p2 l1 l2 hk
    have : now / x.toNat = m1 := by omega
    have : now / y.toNat = m2 := by omega
    simp only [BS.due]
    refine ⟨by omega, ?_, by simp, by simp⟩
    rw [‹now / x.toNat = m1›, ‹now / y.toNat = m2›]
    exact A
  | succ k ih =>
    intro X m1 m2 A p1 p2 l1 l2 hk
    have stop : ∀ e E, X.S.L = e :: E → ¬ e.at' ≤ now → now / x.toNat = m1 → now / y.toNat = m2 → (((X.due (k + 1) now).1 : Nat) : Int) = now / x.toNat - m1 + (now / y.toNat - m2) ∧ Two (X.due (k + 1) now).2 x y (now / x.toNat) (now / y.toNat) ∧ (X.due (k + 1) now).2.m = X.m ∧ (X.due (k + 1) now).2.r = X.r := fun e E hL hn e1 e2 => by
      rw [due_stop hL hn, e1, e2]
      exact ⟨by simp, A, rfl, rfl⟩
    obtain ⟨n1, n2, ⟨hL, hle⟩ | ⟨hL, hle⟩⟩ := A.ev
    · by_cases c : (m1 + 1) * (x.toNat : Int) ≤ now
      · rw [due_cons hL c]
        have A1 := A.one hx p1 p2 (n := X.S.n) hL
        have := (le1 m1).1 c
        obtain ⟨r1, r2, r3, r4⟩ := ih _ _ _ A1 (by omega) p2 this l2 (by omega)
        obtain ⟨f1, f2⟩ := fire_keep (X := { X with S := ⟨[⟨(m2 + 1) * y.toNat, 2, n2⟩], X.S.n⟩ }) (t := (m1 + 1) * x.toNat) (d := 1) (.inl rfl)
        exact ⟨by rw [show ∀ (p : Nat) (z : BS), ((p + 1, z).1 : Nat) = p + 1 from fun _ _ => rfl, Int.natCast_add, r1]; omega, r2, r3.trans f1, r4.trans f2⟩
      · refine stop _ _ hL c ?_ ?_
        · have := mt (le1 m1).2 c; omega
        · have : ¬ (m2 + 1) * (y.toNat : Int) ≤ now := by omega
          have := mt (le2 m2).2 this; omega
    · by_cases c : (m2 + 1) * (y.toNat : Int) ≤ now
      · rw [due_cons hL c]
        have A1 := A.two hy p1 p2 (n := X.S.n) hL
        have := (le2 m2).1 c
        obtain ⟨r1, r2, r3, r4⟩ := ih _ _ _ A1 p1 (by omega) l1 this (by omega)
        obtain ⟨f1, f2⟩ := fire_keep (X := { X with S := ⟨[⟨(m1 + 1) * x.toNat, 1, n1⟩], X.S.n⟩ }) (t := (m2 + 1) * y.toNat) (d := 2) (.inr rfl)
        exact ⟨by rw [show ∀ (p : Nat) (z : BS), ((p + 1, z).1 : Nat) = p + 1 from fun _ _ => rfl, Int.natCast_add, r1]; omega, r2, r3.trans f1, r4.trans f2⟩
      · refine stop _ _ hL c ?_ ?_
        · have : ¬ (m1 + 1) * (x.toNat : Int) ≤ now := by omega
          have := mt (le1 m1).2 this; omega
        · have := mt (le2 m2).2 c; omega
/-- Which lines are up. -/
def bit2 (m1 m2 : Int) : BitVec 32 := (if m1 = 0 then 0#32 else 2#32) ||| (if m2 = 0 then 0#32 else 4#32)
theorem Two.up (A : Two X x y m1 m2) {k1 k2 : Int} (hr : X.r = bit2 k1 k2) : X.up = bit2 m1 m2 := by
  have l1 : X.line 1 = decide (m1 ≠ 0) := by simp only [BS.line, A.t1, gon, if_true]; by_cases h : m1 = 0 <;> simp [h]
  have l2 : X.line 2 = decide (m2 ≠ 0) := by simp only [BS.line, A.t2, gon]; by_cases h : m2 = 0 <;> simp [h]
  have l3 : X.line 3 = false := by simp [BS.line, UaS.line, A.u]
  have l4 : X.line 4 = false := by simp [BS.line, A.d]
  have l5 : X.line 5 = false := by simp [BS.line, A.k]
  rw [BS.up, l1, l2, l3, l4, l5, hr]
  unfold bit2
  by_cases a1 : m1 = 0 <;> by_cases a2 : m2 = 0 <;> by_cases b1 : k1 = 0 <;> by_cases b2 : k2 = 0 <;> simp only [a1, a2, b1, b2, if_true, if_false, ne_eq, not_true_eq_false, not_false_eq_true, decide_true, decide_false] <;> decide
theorem Two.gath (A : Two X x y m1 m2) {k1 k2 : Int} (hr : X.r = bit2 k1 k2) : Two X.gath x y m1 m2 ∧ X.gath.r = bit2 m1 m2 ∧ X.gath.m = X.m :=
  ⟨⟨A.t1, A.t2, A.ev, A.u, A.d, A.k⟩, A.up hr, rfl⟩
end
end Go.Proofs.Ytpdfdemoflofhaa.Cd

/- BusTimes: the runs that are told. -/
set_option maxRecDepth 1000000
set_option maxHeartbeats 2000000
set_option linter.unusedSimpArgs false
set_option linter.unusedVariables false
namespace Go.Proofs.Ytpdfdemoflofhaa.Cd
open Go Go.Dx
section
variable {h h' g : Hp} {q : Value → Hp → Prop}
theorem BS.lds_B {X : BS} {a : BitVec 32} {n : Int} : (X.lds a n).B = X.B ∧ (X.lds a n).m = X.m := by
  have h1 : ∀ d, (X.rds d a).B = X.B ∧ (X.rds d a).m = X.m := fun d => by unfold BS.rds; split <;> simp
  unfold BS.lds BS.gath BS.rds
  split
  · simp
  · split
    · split <;> simp
    · simp
theorem _root_.Go.Dx.Upd.fresh {h0 h h' : Hp} {p p' : List Nat} (U : Upd h h' p p') (K : Kp h0 h) (hp : ∀ b ∈ p, h0.next ≤ b) : Kp h0 h' ∧ ∀ b ∈ p', h0.next ≤ b := ⟨U.kp' K hp, fun b hb => by
  rcases U.sub b hb with h5 | h5
  · exact hp b h5
  · exact Nat.le_trans K.le h5⟩
theorem BW.fresh {L : BL} {fp fo : List Nat} {X : BS} (A : BW h L fp fo X) (hx : g.next ≤ L.x) : ∀ b ∈ L.fp fp fo, g.next ≤ b := fun b hb => by
  have ho := A.lay
  unfold BL.ok at ho
  rcases List.mem_append.1 hb with hb | hb
  · have := (L.mem A.lay hb).1
    omega
  · rcases List.mem_append.1 hb with hb | hb
    · have := A.gf b hb; omega
    · have := (A.go b hb).1; omega
theorem mk_len (n : Int) (im se : By) : (BS.mk0 n im se).B.length = 1024 * pgs n := by
  simp only [BS.mk0]
  rw [ovB_length (by rw [List.length_take, List.length_replicate]; omega), List.length_replicate]
theorem bknown : WC T n_pianolalaw15_known [] g fun v h' => v = .bool true ∧ Kp g h' := by
  rw [w_pianolalaw15_known]
  simp (maxSteps := 1000000) (disch := first | assumption | ((try simp only [push_next, put_next, adv_next, List.length_cons, List.length_nil, List.length_map, List.length_set]); omega) | simp)
  have S0 : Sees encB (g.push (.cells false [u8 1#8, u8 2#8, u8 3#8, u8 4#8])) (some ⟨g.next, 0, none⟩) [1#8, 2#8, 3#8, 4#8] := sees_b get_push_self
  have K0 : Kp g (g.push (.cells false [u8 1#8, u8 2#8, u8 3#8, u8 4#8])) := (Kp.refl g).push _
  generalize g.push (.cells false [u8 1#8, u8 2#8, u8 3#8, u8 4#8]) = h0 at *
  have hb := bnew (n := 1) (ci := 4) (cs := 0) (h := h0) (q := fun v h' => ∃ L, BW h' L [] [] (BS.mk0 1 [1#8, 2#8, 3#8, 4#8] []) ∧ h0.next ≤ L.x ∧ Kp h0 h' ∧ v = ptr L.b 0) S0 .nul (by decide) (by decide) (by decide) fun h' L A hx K => ⟨L, A, hx, K, rfl⟩
  refine GC_intro hb fun v h1 ⟨L, A1, hx, K1, hv⟩ => ?_
  subst hv
  have hx : g.next ≤ L.x := Nat.le_trans K0.le hx
  have K1 := K0.trans K1
  have hlen : (BS.mk0 1 [1#8, 2#8, 3#8, 4#8] []).B.length = 1024 := mk_len ..
  have hld : (BS.mk0 1 [1#8, 2#8, 3#8, 4#8] []).ld 0#32 4 0 = 16909060#32 ∧ (BS.mk0 1 [1#8, 2#8, 3#8, 4#8] []).ok 0#32 4 = true := by
    have he : evB (BS.mk0 1 [1#8, 2#8, 3#8, 4#8] []).B 0#32 4 = true := by simp [evB, hlen]
    refine ⟨?_, by simp [BS.ok, hlen, he]⟩
    simp only [BS.ld, he, hlen]
    simp only [show (0#32).toNat < 1024 by decide, if_true, ldB]
    have : ((BS.mk0 1 [1#8, 2#8, 3#8, 4#8] []).B.drop (0#32).toNat).take (Int.toNat 4) = [1#8, 2#8, 3#8, 4#8] := by
      simp only [BS.mk0, ovB, show pgs 1 = 1 from rfl]
      simp
    rw [this]
    decide
  have hr0 : (BS.mk0 1 [1#8, 2#8, 3#8, 4#8] []).r = 0#32 := rfl
  generalize BS.mk0 1 [1#8, 2#8, 3#8, 4#8] [] = X at *
  simp (maxSteps := 1000000) (disch := first | assumption | ((try simp only [push_next, put_next, adv_next, List.length_cons, List.length_nil, List.length_map, List.length_set]); omega) | simp)
  refine bload A1 fun h2 A2 U2 => ?_
  obtain ⟨K2, F2⟩ := U2.fresh K1 (A1.fresh hx)
  rw [hld.1, hld.2]
  have e2 : X.lds 0#32 4 = X := by simp [BS.lds, hlen]
  rw [e2] at A2
  simp (maxSteps := 1000000) (disch := first | assumption | ((try simp only [push_next, put_next, adv_next, List.length_cons, List.length_nil, List.length_map, List.length_set]); omega) | simp)
  refine bload A2 fun h3 A3 U3 => ?_
  obtain ⟨K3, F3⟩ := U3.fresh K2 F2
  have hl3 : X.ld 520093696#32 4 0 = 0#32 ∧ X.ok 520093696#32 4 = true := by
    constructor
    · simp only [BS.ld, hlen]
      simp [show bwin 520093696#32 4 = true by decide, show bwd 520093696#32 = 0 by decide, show bwo 520093696#32 = 0#32 by decide, BS.rd, lrd, hr0]
    · simp only [BS.ok, hlen]
      simp [show bwin 520093696#32 4 = true by decide, show bwd 520093696#32 = 0 by decide, show bwo 520093696#32 = 0#32 by decide, wok, lat]
  rw [hl3.1, hl3.2]
  simp (maxSteps := 1000000) (disch := first | assumption | ((try simp only [push_next, put_next, adv_next, List.length_cons, List.length_nil, List.length_map, List.length_set]); omega) | simp)
  refine bload A3 fun h4 A4 U4 => ?_
  obtain ⟨K4, F4⟩ := U4.fresh K3 F3
  have hlen3 : (X.lds 520093696#32 4).B.length = 1024 := by rw [BS.lds_B.1, hlen]
  have hl4 : (X.lds 520093696#32 4).ok 520093697#32 1 = false := by
    simp only [BS.ok, hlen3]
    simp [show bwin 520093697#32 1 = false by decide]
  rw [hl4]
  simp (maxSteps := 1000000) (disch := first | assumption | ((try simp only [push_next, put_next, adv_next, List.length_cons, List.length_nil, List.length_map, List.length_set]); omega) | simp)
  refine bstore A4 (by omega) fun h5 fp5 A5 U5 => ?_
  obtain ⟨K5, F5⟩ := U5.fresh K4 F4
  have hlen4 : ((X.lds 520093696#32 4).lds 520093697#32 1).B.length = 1024 := by rw [BS.lds_B.1, hlen3]
  have hl5 : ((X.lds 520093696#32 4).lds 520093697#32 1).ok 4294967292#32 4 = false := by
    simp only [BS.ok, hlen4]
    simp [show bwin 4294967292#32 4 = false by decide]
  have hlen5 : (((X.lds 520093696#32 4).lds 520093697#32 1).st 4294967292#32 4 1#32 0).B.length = 1024 := by
    simp only [BS.st, hlen4]
    simp [show bwin 4294967292#32 4 = false by decide, hlen4]
  rw [hl5]
  have hr5 := A5.ra
  simp (maxSteps := 1000000) (disch := first | assumption | ((try simp only [push_next, put_next, adv_next, List.length_cons, List.length_nil, List.length_map, List.length_set]); omega) | simp) [GC_of (fun q => bram (q := q) A5), GCI_of (fun q => bram (q := q) A5), GC_of (fun q => rsize (q := q) hr5), hlen5]
  exact K5
end
end Go.Proofs.Ytpdfdemoflofhaa.Cd

/- BusTimes: what it answers. -/
set_option maxRecDepth 1000000
set_option maxHeartbeats 4000000
set_option linter.unusedSimpArgs false
set_option linter.unusedVariables false
namespace Go.Proofs.Ytpdfdemoflofhaa.Cd
open Go Go.Dx
/-- What it is while it is set up. -/
structure Set0 (X : BS) (a b : TmS) (m : BitVec 32) (L : List Ev) : Prop where
  t1 : X.T1 = a
  t2 : X.T2 = b
  m : X.m = m
  ev : X.S.L = L
  s1 : a.s = 0#32
  s2 : b.s = 0#32
  u : X.U.ctl = 0#32
  d : X.D.s = 0#32
  k : X.K.s = 0#32
  r : X.r = 0#32
  len : X.B.length = 1024
def encI : Enc Int := ⟨1, fun n => [.int .i64 n], fun _ => rfl, fun _ => rfl, by decide⟩
@[simp] theorem encI_sz : encI.sz = 1 := rfl
section
variable {X : BS} {a b : TmS} {m : BitVec 32} {L : List Ev}
theorem Set0.gath (A : Set0 X a b m L) : Set0 X.gath a b m L := by
  refine ⟨A.t1, A.t2, A.m, A.ev, A.s1, A.s2, A.u, A.d, A.k, ?_, A.len⟩
  have l1 : X.line 1 = false := by simp [BS.line, A.t1, A.s1]
  have l2 : X.line 2 = false := by simp [BS.line, A.t2, A.s2]
  have l3 : X.line 3 = false := by simp [BS.line, UaS.line, A.u]
  have l4 : X.line 4 = false := by simp [BS.line, A.d]
  have l5 : X.line 5 = false := by simp [BS.line, A.k]
  show X.up = 0#32
  rw [BS.up, l1, l2, l3, l4, l5, A.r]
  decide
theorem Set0.made : Set0 (BS.mk0 1 [] []) ⟨0#32, 0#32, 0#32⟩ ⟨0#32, 0#32, 0#32⟩ 0#32 [] := ⟨rfl, rfl, rfl, rfl, rfl, rfl, rfl, rfl, rfl, rfl, mk_len ..⟩
theorem st_win {ad v : BitVec 32} {d : Int} {o : BitVec 32} (hX : X.B.length = 1024) (h0 : 1024 ≤ ad.toNat) (h1 : bwin ad 4 = true) (h2 : bwd ad = d) (h3 : bwo ad = o) : X.st ad 4 v 0 = (X.wr d o v 0).gath ∧ X.ok ad 4 = wok d o := by
  have hc : ¬ ad.toNat < X.B.length := by omega
  simp only [BS.st, BS.ok, hc, h1, h2, h3, if_true, if_false, Bool.true_and, and_self]
theorem Set0.p1 (A : Set0 X a b m L) (v : BitVec 32) : Set0 (X.st 520093764#32 4 v 0) { a with p := v } b m L ∧ X.ok 520093764#32 4 = true := by
  obtain ⟨e1, e2⟩ := st_win (ad := 520093764#32) (v := v) (d := 1) (o := 4#32) A.len (by decide) (by decide) (by decide) (by decide)
  rw [e1, e2]
  refine ⟨Set0.gath ⟨?_, ?_, ?_, ?_, A.s1, A.s2, ?_, ?_, ?_, ?_, ?_⟩, by decide⟩ <;> simp [BS.wr, TmS.wr, TmS.wrw, A.t1, A.t2, A.m, A.ev, A.u, A.d, A.k, A.r, A.len]
theorem Set0.p2 (A : Set0 X a b m L) (v : BitVec 32) : Set0 (X.st 520093828#32 4 v 0) a { b with p := v } m L ∧ X.ok 520093828#32 4 = true := by
  obtain ⟨e1, e2⟩ := st_win (ad := 520093828#32) (v := v) (d := 2) (o := 4#32) A.len (by decide) (by decide) (by decide) (by decide)
  rw [e1, e2]
  refine ⟨Set0.gath ⟨?_, ?_, ?_, ?_, A.s1, A.s2, ?_, ?_, ?_, ?_, ?_⟩, by decide⟩ <;> simp [BS.wr, TmS.wr, TmS.wrw, A.t1, A.t2, A.m, A.ev, A.u, A.d, A.k, A.r, A.len]
theorem Set0.c1 (A : Set0 X a b m []) (hp : 2 ≤ a.p.toNat) : ∃ n, Set0 (X.st 520093760#32 4 3#32 0) { a with c := 3#32 } b m [⟨a.p.toNat, 1, n⟩] ∧ X.ok 520093760#32 4 = true := by
  obtain ⟨e1, e2⟩ := st_win (ad := 520093760#32) (v := 3#32) (d := 1) (o := 0#32) A.len (by decide) (by decide) (by decide) (by decide)
  rw [e1, e2]
  refine ⟨X.S.n, Set0.gath ⟨?_, ?_, ?_, ?_, A.s1, A.s2, ?_, ?_, ?_, ?_, ?_⟩, by decide⟩
  case refine_4 =>
    have hw : wbad 1 (a.p.toNat : Int) = false := by simp [wbad]
    simp [BS.wr, TmS.wrw, A.t1, WhS.arm, hw, A.ev, wcan, tper_of hp]
  all_goals simp [BS.wr, TmS.wr, TmS.wrw, A.t1, A.t2, A.m, A.ev, A.u, A.d, A.k, A.r, A.len]
theorem Set0.c2 {e : Ev} (A : Set0 X a b m [e]) (he : e.dev = 1) (hp : 2 ≤ b.p.toNat) : ∃ n, Set0 (X.st 520093824#32 4 3#32 0) a { b with c := 3#32 } m (if (b.p.toNat : Int) < e.at' then [⟨b.p.toNat, 2, n⟩, e] else [e, ⟨b.p.toNat, 2, n⟩]) ∧ X.ok 520093824#32 4 = true := by
  obtain ⟨e1, e2⟩ := st_win (ad := 520093824#32) (v := 3#32) (d := 2) (o := 0#32) A.len (by decide) (by decide) (by decide) (by decide)
  rw [e1, e2]
  refine ⟨X.S.n, Set0.gath ⟨?_, ?_, ?_, ?_, A.s1, A.s2, ?_, ?_, ?_, ?_, ?_⟩, by decide⟩
  case refine_4 =>
    have hw : wbad 2 (b.p.toNat : Int) = false := by simp [wbad]
    simp [BS.wr, TmS.wrw, A.t2, WhS.arm, hw, A.ev, wcan, tper_of hp, he, insl_one]
  all_goals simp [BS.wr, TmS.wr, TmS.wrw, A.t1, A.t2, A.m, A.ev, A.u, A.d, A.k, A.r, A.len]
theorem Set0.en (A : Set0 X a b m L) : Set0 (X.st 520093700#32 4 6#32 0) a b 6#32 L ∧ X.ok 520093700#32 4 = true := by
  obtain ⟨e1, e2⟩ := st_win (ad := 520093700#32) (v := 6#32) (d := 0) (o := 4#32) A.len (by decide) (by decide) (by decide) (by decide)
  rw [e1, e2]
  refine ⟨Set0.gath ⟨?_, ?_, ?_, ?_, A.s1, A.s2, ?_, ?_, ?_, ?_, ?_⟩, by decide⟩ <;> simp [BS.wr, A.t1, A.t2, A.m, A.ev, A.u, A.d, A.k, A.r, A.len]
end
section
variable {h h' g : Hp} {q : Value → Hp → Prop}
theorem btimes {p q : BitVec 32} {l : List Int} {a : Option Addr} {c : Nat} (S : Sees encI g a l) (hl : l.length ≤ 9223372036854775807) : WC T n_pianolalaw15_BusTimes [u32 p, u32 q, .slice a l.length c] g fun v h' => v = .bool true ∧ Kp g h' := by
  rw [w_pianolalaw15_BusTimes]
  simp (maxSteps := 1000000) (disch := first | assumption | ((try simp only [push_next, put_next, adv_next, List.length_cons, List.length_nil, List.length_map, List.length_set]); omega) | simp)
  have hb := bnew (n := 1) (ci := 0) (cs := 0) (h := g) (q := fun v h' => ∃ L, BW h' L [] [] (BS.mk0 1 [] []) ∧ g.next ≤ L.x ∧ Kp g h' ∧ v = ptr L.b 0) .nul .nul (by decide) (by decide) (by decide) fun h' L A hx K => ⟨L, A, hx, K, rfl⟩
  refine GC_intro hb fun v h1 ⟨L, A1, hx, K1, hv⟩ => ?_
  subst hv
  have Z0 := Set0.made
  generalize BS.mk0 1 [] [] = X0 at *
  obtain ⟨P, hP, hPl⟩ : ∃ P : Nat, (p % 30#32).toNat = P ∧ P < 30 := ⟨_, rfl, by simp; omega⟩
  obtain ⟨Q, hQ, hQl⟩ : ∃ Q : Nat, (q % 30#32).toNat = Q ∧ Q < 30 := ⟨_, rfl, by simp; omega⟩
  simp (maxSteps := 1000000) (disch := first | assumption | ((try simp only [push_next, put_next, adv_next, List.length_cons, List.length_nil, List.length_map, List.length_set]); omega) | simp) [hP, hQ]
  obtain ⟨x, hx20⟩ : ∃ x : BitVec 32, x = BitVec.ofInt 32 ((P : Int) + 20) := ⟨_, rfl⟩
  obtain ⟨y, hy20⟩ : ∃ y : BitVec 32, y = BitVec.ofInt 32 ((Q : Int) + 20) := ⟨_, rfl⟩
  have hxn : x.toNat = P + 20 := by rw [hx20, BitVec.toNat_ofInt]; omega
  have hyn : y.toNat = Q + 20 := by rw [hy20, BitVec.toNat_ofInt]; omega
  simp only [← hx20, ← hy20]
  refine bstore A1 (by omega) fun h2 f2 A2 U2 => ?_
  obtain ⟨K2, F2⟩ := U2.fresh K1 (A1.fresh hx)
  obtain ⟨Z1, o1⟩ := Z0.p1 x
  rw [o1]
  simp (maxSteps := 1000000) (disch := first | assumption | ((try simp only [push_next, put_next, adv_next, List.length_cons, List.length_nil, List.length_map, List.length_set]); omega) | simp) []
  rw [← hy20]
  refine bstore A2 (by omega) fun h3 f3 A3 U3 => ?_
  obtain ⟨K3, F3⟩ := U3.fresh K2 F2
  obtain ⟨Z2, o2⟩ := Z1.p2 y
  rw [o2]
  simp (maxSteps := 1000000) (disch := first | assumption | ((try simp only [push_next, put_next, adv_next, List.length_cons, List.length_nil, List.length_map, List.length_set]); omega) | simp) []
  refine bstore A3 (by omega) fun h4 f4 A4 U4 => ?_
  obtain ⟨K4, F4⟩ := U4.fresh K3 F3
  obtain ⟨n1, Z3, o3⟩ := Z2.c1 (by simp; omega)
  rw [o3]
  simp (maxSteps := 1000000) (disch := first | assumption | ((try simp only [push_next, put_next, adv_next, List.length_cons, List.length_nil, List.length_map, List.length_set]); omega) | simp) []
  refine bstore A4 (by omega) fun h5 f5 A5 U5 => ?_
  obtain ⟨K5, F5⟩ := U5.fresh K4 F4
  obtain ⟨n2, Z4, o4⟩ := Z3.c2 rfl (by simp; omega)
  rw [o4]
  simp (maxSteps := 1000000) (disch := first | assumption | ((try simp only [push_next, put_next, adv_next, List.length_cons, List.length_nil, List.length_map, List.length_set]); omega) | simp) []
  refine bstore A5 (by omega) fun h6 f6 A6 U6 => ?_
  obtain ⟨K6, F6⟩ := U6.fresh K5 F5
  obtain ⟨Z5, o5⟩ := Z4.en
  rw [o5]
  simp (maxSteps := 1000000) (disch := first | assumption | ((try simp only [push_next, put_next, adv_next, List.length_cons, List.length_nil, List.length_map, List.length_set]); omega) | simp) []
  generalize ((((X0.st 520093764#32 4 x 0).st 520093828#32 4 y 0).st 520093760#32 4 3#32 0).st 520093824#32 4 3#32 0).st 520093700#32 4 6#32 0 = X5 at *
  have T5 : Two X5 x y 0 0 := ⟨Z5.t1, Z5.t2, ⟨n1, n2, by
    rw [Z5.ev]
    simp only [Int.zero_add, Int.one_mul]
    by_cases c : (y.toNat : Int) < x.toNat
    · rw [if_pos c]; exact .inr ⟨rfl, by omega⟩
    · rw [if_neg c]; exact .inl ⟨rfl, by omega⟩⟩, Z5.u, Z5.d, Z5.k⟩
  have hr5 : X5.r = bit2 0 0 := by rw [Z5.r]; rfl
  have hm5 := Z5.m
  clear hb hx Z0 Z1 Z2 Z3 Z4 Z5 A1 A2 A3 A4 A5 U2 U3 U4 U5 U6 K1 K2 K3 K4 K5 F2 F3 F4 F5 o1 o2 o3 o4 o5
  have hx2 : (20 : Int) ≤ x.toNat ∧ (x.toNat : Int) < 50 := by omega
  have hy2 : (20 : Int) ≤ y.toNat ∧ (y.toNat : Int) < 50 := by omega
  have hxi : (P : Int) + 20 = x.toNat := by omega
  have hyi : (Q : Int) + 20 = y.toNat := by omega
  rw [hxi, hyi]
  clear hx20 hy20 hP hQ hPl hQl hxi hyi hxn hyn
  refine G_loop (fun k e h' => ∃ (i : Nat) (now : Int) (X : BS) (fp fo : List Nat), k = 20 - i ∧ i ≤ 20 ∧ i ≤ l.length ∧ 0 ≤ now ∧ now ≤ 60 * i ∧ e 2 = .slice a l.length c ∧ e 7 = ptr L.b 0 ∧ e 8 = .int .i64 x.toNat ∧ e 9 = .int .i64 y.toNat ∧ e 11 = .int .i64 now ∧ e 12 = .int .i64 i ∧ BW h' L fp fo X ∧ Kp g h' ∧ (∀ b ∈ L.fp fp fo, g.next ≤ b) ∧ Two X x y (now / x.toNat) (now / y.toNat) ∧ X.r = bit2 (now / x.toNat) (now / y.toNat) ∧ X.m = 6#32) ?_ 20 _ _ ⟨0, 0, X5, f6, [], rfl, by omega, by omega, by omega, by omega, by simp, by simp, by simp, by simp, by simp, by simp, A6, K6, F6, by simpa using T5, by simpa using hr5, hm5⟩
  rintro k ih e h' ⟨i, now, X, fp, fo, rfl, i20, il, n0, n1, e2, e7, e8, e9, e11, e12, A, K, F, W, hr, hm⟩
  by_cases c1 : i < l.length ∧ i < 20
  · obtain ⟨c1, c2⟩ := c1
    have hspl : l = l.take i ++ l[i] :: l.drop (i + 1) := by rw [List.getElem_cons_drop, List.take_append_drop]
    have c1i : (i : Int) < l.length := by omega
    have c2i : (i : Int) < 20 := by omega
    obtain ⟨A0, ro, C, hA, hg, hC⟩ := (show Sees encI h' a (l.take i ++ l[i] :: l.drop (i + 1)) by rw [← hspl]; exact S.kp K).cell (us := l.take i) (x := l[i]) (vs := l.drop (i + 1)) (f := fun n => .int .i64 n) (fun _ => rfl) rfl
    subst hA
    rw [List.length_take, Nat.min_eq_left (by omega)] at hC
    obtain ⟨s, hs⟩ : ∃ s, s = l[i] := ⟨_, rfl⟩
    rw [← hs] at hC
    have t1 := Int.tmod_lt_of_pos s (show (0 : Int) < 60 by decide)
    have t2 := Int.tmod_lt_of_pos (-s) (show (0 : Int) < 60 by decide)
    rw [Int.neg_tmod] at t2
    have hw1 : IntKind.i64.wrap (s.tmod 60 + 60) = s.tmod 60 + 60 := wrap_i64 (by omega) (by omega)
    obtain ⟨t, ht⟩ : ∃ t, t = (s.tmod 60 + 60).tmod 60 := ⟨_, rfl⟩
    have t3 : 0 ≤ t := by rw [ht]; exact Int.tmod_nonneg _ (by omega)
    have t4 : t < 60 := by rw [ht]; exact Int.tmod_lt_of_pos _ (by decide)
    have hw2 : IntKind.i64.wrap (now + t) = now + t := wrap_i64 (by omega) (by omega)
    simp (maxSteps := 1000000) (disch := first | assumption | ((try simp only [push_next, put_next, adv_next, List.length_cons, List.length_nil, List.length_map, List.length_set]); omega) | simp) [e2, e7, e8, e9, e11, e12, c1i, c2i, hg, hC, hw1, ← ht, hw2]
    obtain ⟨now2, hn2⟩ : ∃ z, z = now + t := ⟨_, rfl⟩
    rw [← hn2]
    have b1 : 0 ≤ now / x.toNat := Int.ediv_nonneg n0 (by omega)
    have b2 : 0 ≤ now / y.toNat := Int.ediv_nonneg n0 (by omega)
    have b3 : now / x.toNat ≤ now2 / x.toNat := Int.ediv_le_ediv (by omega) (by omega)
    have b4 : now / y.toNat ≤ now2 / y.toNat := Int.ediv_le_ediv (by omega) (by omega)
    have b5 : now2 / x.toNat < now / x.toNat + 4 := Int.ediv_lt_of_lt_mul (by omega) (by
      have := Int.lt_ediv_add_one_mul_self now (show (0 : Int) < x.toNat by omega)
      rw [Int.add_mul] at this ⊢
      omega)
    have b6 : now2 / y.toNat < now / y.toNat + 4 := Int.ediv_lt_of_lt_mul (by omega) (by
      have := Int.lt_ediv_add_one_mul_self now (show (0 : Int) < y.toNat by omega)
      rw [Int.add_mul] at this ⊢
      omega)
    have b7 : now / x.toNat ≤ now := Int.ediv_le_self _ n0
    have b8 : now / y.toNat ≤ now := Int.ediv_le_self _ n0
    obtain ⟨r1, r2, r3, r4⟩ := Two.due (now := now2) (by omega) (by omega) 256 X _ _ W b1 b2 b3 b4 (by omega)
    have q1 : now2.tdiv x.toNat = now2 / x.toNat := Int.tdiv_eq_ediv_of_nonneg (by omega)
    have q2 : now2.tdiv y.toNat = now2 / y.toNat := Int.tdiv_eq_ediv_of_nonneg (by omega)
    have q3 : now.tdiv x.toNat = now / x.toNat := Int.tdiv_eq_ediv_of_nonneg n0
    have q4 : now.tdiv y.toNat = now / y.toNat := Int.tdiv_eq_ediv_of_nonneg n0
    have z1 : now2 / x.toNat = 0 ↔ now2 < x.toNat := by
      constructor
      · intro h
        have := Int.lt_ediv_add_one_mul_self now2 (show (0 : Int) < x.toNat by omega)
        rw [h] at this
        omega
      · intro h
        exact Int.ediv_eq_zero_of_lt (by omega) h
    have z2 : now2 / y.toNat = 0 ↔ now2 < y.toNat := by
      constructor
      · intro h
        have := Int.lt_ediv_add_one_mul_self now2 (show (0 : Int) < y.toNat by omega)
        rw [h] at this
        omega
      · intro h
        exact Int.ediv_eq_zero_of_lt (by omega) h
    have r4' : (X.due 256 now2).2.r = bit2 (now / x.toNat) (now / y.toNat) := by rw [r4, hr]
    obtain ⟨W2, hr2, hm2⟩ := r2.gath r4'
    refine bFire A (by omega) fun h2 fp2 fo2 A2 U2 => ?_
    obtain ⟨K2, F2⟩ := U2.fresh K F
    rw [r1]
    rw [r3, hm] at hm2
    generalize (X.due 256 now2).2.gath = X2 at *
    clear r1 r2 r3 r4 r4'
    have W3 := W2
    have hr3 := hr2
    obtain ⟨N1, hN1⟩ : ∃ z, z = now2 / (x.toNat : Int) := ⟨_, rfl⟩
    obtain ⟨N2, hN2⟩ : ∃ z, z = now2 / (y.toNat : Int) := ⟨_, rfl⟩
    obtain ⟨M1, hM1⟩ : ∃ z, z = now / (x.toNat : Int) := ⟨_, rfl⟩
    obtain ⟨M2, hM2⟩ : ∃ z, z = now / (y.toNat : Int) := ⟨_, rfl⟩
    rw [← hN1] at q1 z1 b3 b5 W2 hr2
    rw [← hN2] at q2 z2 b4 b6 W2 hr2
    rw [← hM1] at q3 b1 b3 b5 b7
    rw [← hM2] at q4 b2 b4 b6 b8
    rw [← hM1, ← hM2, ← hN1, ← hN2]
    have hx0 : ¬ (x.toNat : Int) = 0 := by omega
    have hy0 : ¬ (y.toNat : Int) = 0 := by omega
    have v1 : IntKind.i64.wrap (N1 - M1) = N1 - M1 := wrap_i64 (by omega) (by omega)
    have v2 : IntKind.i64.wrap (N1 - M1 + N2) = N1 - M1 + N2 := wrap_i64 (by omega) (by omega)
    have v3 : IntKind.i64.wrap (N1 - M1 + N2 - M2) = N1 - M1 + N2 - M2 := wrap_i64 (by omega) (by omega)
    have v4 : (N1 - M1 + (N2 - M2) = N1 - M1 + N2 - M2) = True := by simp; omega
    have hR := fun q => braised (q := q) A2
    rw [hr2, hm2] at hR
    have m1 : 0 ≤ N1 * (x.toNat : Int) ∧ N1 * (x.toNat : Int) ≤ now2 := ⟨Int.mul_nonneg (by omega) (by omega), by rw [hN1]; exact Int.ediv_mul_le _ (by omega)⟩
    have m2 : 0 ≤ N2 * (y.toNat : Int) ∧ N2 * (y.toNat : Int) ≤ now2 := ⟨Int.mul_nonneg (by omega) (by omega), by rw [hN2]; exact Int.ediv_mul_le _ (by omega)⟩
    obtain ⟨E1, hE1⟩ : ∃ z, z = (N1 + 1) * (x.toNat : Int) := ⟨_, rfl⟩
    obtain ⟨E2, hE2⟩ : ∃ z, z = (N2 + 1) * (y.toNat : Int) := ⟨_, rfl⟩
    have me1 : 0 ≤ E1 ∧ E1 < 2 ^ 40 := by rw [hE1, Int.add_mul]; omega
    have me2 : 0 ≤ E2 ∧ E2 < 2 ^ 40 := by rw [hE2, Int.add_mul]; omega
    have v5 : IntKind.i64.wrap E1 = E1 := wrap_i64 (by omega) (by omega)
    have v6 : IntKind.i64.wrap E2 = E2 := wrap_i64 (by omega) (by omega)
    have v7 : IntKind.i64.wrap (N1 + 1) = N1 + 1 := wrap_i64 (by omega) (by omega)
    have v8 : IntKind.i64.wrap (N2 + 1) = N2 + 1 := wrap_i64 (by omega) (by omega)
    have hnx : X2.S.L.head?.elim 0 (·.at') = (if E2 < E1 then E2 else E1) ∧ (!X2.S.L.isEmpty) = true := by
      obtain ⟨k1, k2, ⟨hL, hle⟩ | ⟨hL, hle⟩⟩ := W2.ev
      · rw [← hE1, ← hE2] at hL hle
        rw [hL]
        exact ⟨by simp [show ¬ E2 < E1 by omega], rfl⟩
      · rw [← hE1, ← hE2] at hL hle
        rw [hL]
        refine ⟨?_, rfl⟩
        by_cases h : E2 < E1
        · simp [h]
        · simp [h]; omega
    have hNx := fun q => bnext (q := q) A2
    rw [hnx.1, hnx.2] at hNx
    have hRv : (bit2 N1 N2 &&& 6#32 != 0#32) = decide (¬ (now2 < x.toNat ∧ now2 < y.toNat)) := by
      unfold bit2
      by_cases a1 : N1 = 0 <;> by_cases a2 : N2 = 0
      · have c1 := z1.1 a1
        have c2 := z2.1 a2
        simp only [a1, a2, c1, c2]
        decide
      · have c1 := z1.1 a1
        have c2 := mt z2.2 a2
        simp only [a1, a2, c1, c2]
        decide
      · have c1 := mt z1.2 a1
        have c2 := z2.1 a2
        simp only [a1, a2, c1, c2]
        decide
      · have c1 := mt z1.2 a1
        have c2 := mt z2.2 a2
        simp only [a1, a2, c1, c2]
        decide
    rw [hRv] at hR
    generalize hD : decide (¬ (now2 < x.toNat ∧ now2 < y.toNat)) = D at *
    have again : ∀ e' : Env, e' 2 = .slice (some A0) l.length c → e' 7 = ptr L.b 0 → e' 8 = .int .i64 x.toNat → e' 9 = .int .i64 y.toNat → e' 11 = .int .i64 now2 → e' 12 = .int .i64 ((i : Int) + 1) → _ := fun e' f2 f7 f8 f9 f11 f12 => ih (20 - (i + 1)) (by omega) e' h2 ⟨i + 1, now2, X2, fp2, fo2, rfl, by omega, by omega, by omega, by omega, f2, f7, f8, f9, f11, by simpa using f12, A2, K2, F2, W3, hr3, hm2⟩
    simp (maxSteps := 1000000) (disch := first | assumption | ((try simp only [push_next, put_next, adv_next, List.length_cons, List.length_nil, List.length_map, List.length_set]); omega) | simp) [e2, e7, e8, e9, e11, e12, q1, q2, q3, q4, v1, v2, v3, v4, hx0, hy0, GC_of hR, GCI_of hR]
    refine ⟨by rw [← hD, decide_eq_decide]; split <;> omega, ?_⟩
    simp (maxSteps := 1000000) (disch := first | assumption | ((try simp only [push_next, put_next, adv_next, List.length_cons, List.length_nil, List.length_map, List.length_set]); omega) | simp) [e2, e7, e8, e9, e11, e12, q1, q2, v5, v6, v7, v8, ← hE1, ← hE2, hx0, hy0, GC_of hNx, GCI_of hNx]
    exact again _ (by simp [e2]) (by simp [e7]) (by simp [e8]) (by simp [e9]) (by simp) (by simp)
  · have K9 := K
    by_cases c2 : i < l.length
    · have c2i : (i : Int) < l.length := by omega
      have c3i : ¬ (i : Int) < 20 := by omega
      simp (maxSteps := 1000000) (disch := first | assumption | ((try simp only [push_next, put_next, adv_next, List.length_cons, List.length_nil, List.length_map, List.length_set]); omega) | simp) [e2, e12, c2i, c3i]
      refine bknown.mono fun u g1 hu => ?_
      obtain ⟨rfl, K1⟩ := hu
      simp (maxSteps := 1000000) (disch := first | assumption | ((try simp only [push_next, put_next, adv_next, List.length_cons, List.length_nil, List.length_map, List.length_set]); omega) | simp)
      exact K9.trans K1
    · have c2i : ¬ (i : Int) < l.length := by omega
      simp (maxSteps := 1000000) (disch := first | assumption | ((try simp only [push_next, put_next, adv_next, List.length_cons, List.length_nil, List.length_map, List.length_set]); omega) | simp) [e2, e12, c2i]
      refine bknown.mono fun u g1 hu => ?_
      obtain ⟨rfl, K1⟩ := hu
      simp (maxSteps := 1000000) (disch := first | assumption | ((try simp only [push_next, put_next, adv_next, List.length_cons, List.length_nil, List.length_map, List.length_set]); omega) | simp)
      exact K9.trans K1
theorem btimesR {p q : BitVec 32} {l : List Int} {a : Option Addr} {c : Nat} (S : Sees encI g a l) (hl : l.length ≤ 9223372036854775807) : WC T n_pianolalaw15_BusTimes [u32 p, u32 q, .slice a l.length c] g fun v h' => v = .bool true := (btimes S hl).mono fun _ _ h => h.1
end
end Go.Proofs.Ytpdfdemoflofhaa.Cd
