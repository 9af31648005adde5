/- Texts of one kind, one behind the other. -/
import Derived.Test.YtpdfdemoflofhaaMeUartOrder0
import Derived.Test.YtpdfdemoflofhaaMcz0
/- The wheel, and what is common to all that use one. -/
set_option maxRecDepth 1000000
set_option linter.unusedSimpArgs false
set_option linter.unusedVariables false
namespace Go.Proofs.Ytpdfdemoflofhaa.Cd
open Go Go.Dx
section
variable {h : Hp}
theorem warmI {w : Nat} {L : List Ev} {s d t : Int} {fp : List Nat} {q : Value → Hp → Prop} (W : Wh h w L s fp) (I : WI L)
    (hno : wbad d t = true → q (.bool false) h) (hyes : wbad d t = false → ∀ h' fp', WI (insl (·.at') ⟨t, d, s⟩ (wcan d L)) → Wh h' w (insl (·.at') ⟨t, d, s⟩ (wcan d L)) (IntKind.i64.wrap (s + 1)) fp' → Upd h h' (w :: fp) (w :: fp') → q (.bool true) h') : WC T n_wheel_Wheel_Arm [ptr w 0, .int .i64 d, .int .i64 t] h q := by
  have h1 := I.len
  have h2 := (I.can d).len
  exact warm W (by omega) (by omega) I.srt hno fun hb h' fp' W' U' => hyes hb h' fp' (I.arm hb) W' U'
theorem mod50 (a : Int) : -50 < a.tmod 50 ∧ a.tmod 50 < 50 ∧ 0 ≤ (a.tmod 50 + 50).tmod 50 ∧ (a.tmod 50 + 50).tmod 50 < 50 := by
  have h1 := Int.tmod_lt_of_pos a (show (0 : Int) < 50 by decide)
  have h2 := Int.tmod_lt_of_pos (-a) (show (0 : Int) < 50 by decide)
  rw [Int.neg_tmod] at h2
  exact ⟨by omega, h1, Int.tmod_nonneg _ (by omega), Int.tmod_lt_of_pos _ (by decide)⟩
theorem fpUp {g h h' : Hp} {w : Nat} {fp fp' : List Nat} (hf : ∀ b ∈ w :: fp, g.next ≤ b) (K : Kp g h) (U : Upd h h' (w :: fp) (w :: fp')) : (∀ b ∈ w :: fp', g.next ≤ b) ∧ Kp g h' := ⟨fun b hb => by
  rcases U.sub b hb with h5 | h5
  · exact hf b h5
  · have := K.le; omega, U.kp' K hf⟩
/-- A struct laid anew: what it takes. -/
theorem kp_laid {g h : Hp} (K : Kp g h) (o p : Ob) : Kp g ((h.push o).put h.next (some p)) := (K.push _).put K.le _
theorem Wh.laid {h : Hp} {w : Nat} {L : List Ev} {s : Int} {fp : List Nat} (W : Wh h w L s fp) (o p : Ob) : Wh ((h.push o).put h.next (some p)) w L s fp := W.kp (kp_laid (Kp.refl h) o p)
section
variable {q : Value → Hp → Prop}
theorem within {n lo hi : Int} (h0 : -1000000000000 ≤ lo) (h1 : lo ≤ hi) (h2 : hi ≤ 1000000000000) (hq : ∀ m, lo ≤ m → m ≤ hi → q (.int .i64 m) h) : WC T n_pianolabook_Within [.int .i64 n, .int .i64 lo, .int .i64 hi] h q := by
  rw [w_pianolabook_Within]
  have hne : hi - lo + 1 ≠ 0 := by omega
  have hw : n.tmod (hi - lo + 1) < hi - lo + 1 := Int.tmod_lt_of_pos _ (by omega)
  have hw' : - (hi - lo + 1) < n.tmod (hi - lo + 1) := by
    have := Int.tmod_lt_of_pos (-n) (show 0 < hi - lo + 1 by omega)
    rw [Int.neg_tmod] at this
    omega
  by_cases c1 : lo ≤ n
  · by_cases c2 : n ≤ hi
    · simp (maxSteps := 1000000) (disch := first | assumption | ((try simp only [push_next, put_next, adv_next, List.length_cons, List.length_nil, List.length_map, List.length_set]); omega) | simp) [c1, c2]
      exact hq _ c1 c2
    · by_cases c3 : n.tmod (hi - lo + 1) < 0
      · simp (maxSteps := 1000000) (disch := first | assumption | ((try simp only [push_next, put_next, adv_next, List.length_cons, List.length_nil, List.length_map, List.length_set]); omega) | simp) [c1, c2, c3, hne]
        exact hq _ (by omega) (by omega)
      · simp (maxSteps := 1000000) (disch := first | assumption | ((try simp only [push_next, put_next, adv_next, List.length_cons, List.length_nil, List.length_map, List.length_set]); omega) | simp) [c1, c2, c3, hne]
        exact hq _ (by omega) (by omega)
  · by_cases c3 : n.tmod (hi - lo + 1) < 0
    · simp (maxSteps := 1000000) (disch := first | assumption | ((try simp only [push_next, put_next, adv_next, List.length_cons, List.length_nil, List.length_map, List.length_set]); omega) | simp) [c1, c3, hne]
      exact hq _ (by omega) (by omega)
    · simp (maxSteps := 1000000) (disch := first | assumption | ((try simp only [push_next, put_next, adv_next, List.length_cons, List.length_nil, List.length_map, List.length_set]); omega) | simp) [c1, c3, hne]
      exact hq _ (by omega) (by omega)
theorem within_eq {n lo hi : Int} (h0 : -1000000000000000 ≤ lo) (h1 : lo ≤ hi) (h2 : hi ≤ 4000000000000000000) : WC T n_pianolabook_Within [.int .i64 n, .int .i64 lo, .int .i64 hi] h q ↔ q (.int .i64 (wi n lo hi)) h := by
  rw [w_pianolabook_Within]
  have hne : hi - lo + 1 ≠ 0 := by omega
  have he := tmod_emod (n := n) (m := hi - lo + 1) (by omega)
  have hw : n.tmod (hi - lo + 1) < hi - lo + 1 := Int.tmod_lt_of_pos _ (by omega)
  have hw' : - (hi - lo + 1) < n.tmod (hi - lo + 1) := by
    have := Int.tmod_lt_of_pos (-n) (show 0 < hi - lo + 1 by omega)
    rw [Int.neg_tmod] at this
    omega
  unfold wi
  by_cases c1 : lo ≤ n
  · by_cases c2 : n ≤ hi
    · simp (maxSteps := 1000000) (disch := first | assumption | ((try simp only [push_next, put_next, adv_next, List.length_cons, List.length_nil, List.length_map, List.length_set]); omega) | simp) [c1, c2]
    · by_cases c3 : n.tmod (hi - lo + 1) < 0
      · simp (maxSteps := 1000000) (disch := first | assumption | ((try simp only [push_next, put_next, adv_next, List.length_cons, List.length_nil, List.length_map, List.length_set]); omega) | simp) [c1, c2, c3, hne]
        rw [he, if_pos c3]
        have e : lo + (n.tmod (hi - lo + 1) + hi - lo + 1) = lo + (n.tmod (hi - lo + 1) + (hi - lo + 1)) := by omega
        rw [e]
      · simp (maxSteps := 1000000) (disch := first | assumption | ((try simp only [push_next, put_next, adv_next, List.length_cons, List.length_nil, List.length_map, List.length_set]); omega) | simp) [c1, c2, c3, hne]
        rw [he, if_neg c3]
  · by_cases c3 : n.tmod (hi - lo + 1) < 0
    · simp (maxSteps := 1000000) (disch := first | assumption | ((try simp only [push_next, put_next, adv_next, List.length_cons, List.length_nil, List.length_map, List.length_set]); omega) | simp) [c1, c3, hne]
      rw [he, if_pos c3]
      have e : lo + (n.tmod (hi - lo + 1) + hi - lo + 1) = lo + (n.tmod (hi - lo + 1) + (hi - lo + 1)) := by omega
      rw [e]
    · simp (maxSteps := 1000000) (disch := first | assumption | ((try simp only [push_next, put_next, adv_next, List.length_cons, List.length_nil, List.length_map, List.length_set]); omega) | simp) [c1, c3, hne]
      rw [he, if_neg c3]
end
end
end Go.Proofs.Ytpdfdemoflofhaa.Cd

/- Clone of a row, and whether two rows are the same. -/
set_option maxRecDepth 1000000
set_option linter.unusedSimpArgs false
set_option linter.unusedVariables false
namespace Go.Proofs.Ytpdfdemoflofhaa.Cd
open Go Go.Dx
section
variable {h : Hp} {a a' : Option Addr} {c c' : Nat} {xs ys : List (BitVec 8)}
theorem clone_by {q : Value → Hp → Prop} (hs : Sees encB h a xs) (hb : xs.length < 2 ^ 40) (hq : ∀ a' c' h', Sees encB h' a' xs → Kp h h' → (∀ A, a' = some A → h.next ≤ A.block) → (xs = [] ∨ ∃ fp, Own encB h' (.slice a' xs.length c') xs fp ∧ ∀ b ∈ fp, h.next ≤ b) → q (.slice a' xs.length c') h') : WC T n_slices_Clone_byte_byte [.slice a xs.length c] h q := by
  rw [w_slices_Clone_byte_byte]
  cases a with
  | none =>
    have := hs.nil rfl
    subst this
    simp (maxSteps := 1000000) (disch := first | assumption | ((try simp only [push_next, put_next, adv_next, List.length_cons, List.length_nil, List.length_map, List.length_set]); omega) | simp) [isNil]
    exact hq none 0 h Sees.nul (.refl _) (fun A hA => (by cases hA)) (.inl rfl)
  | some A =>
    simp (maxSteps := 1000000) (disch := first | assumption | ((try simp only [push_next, put_next, adv_next, List.length_cons, List.length_nil, List.length_map, List.length_set]); omega) | simp) [isNil]
    have K1 : Kp h (h.push (.cells false [])) := (Kp.refl h).push _
    have he := (hs.kp K1).elems (c := c)
    by_cases h0 : xs.length = 0
    · have : xs = [] := List.length_eq_zero_iff.1 h0
      subst this
      have e : appendV (h.push (.cells false [])) 1 1 (.slice (some ⟨h.next, 0, none⟩) 0 0) (.slice (some A) 0 c) = some (.slice (some ⟨h.next, 0, none⟩) 0 0, h.push (.cells false [])) := by
        have he' : elems (h.push (.cells false [])) 1 0 (.slice (some A) 0 c) = some [] := he
        simp [appendV, lenV, he']
      simp only [List.length_nil, e]
      simp (maxSteps := 1000000) (disch := first | assumption | ((try simp only [push_next, put_next, adv_next, List.length_cons, List.length_nil, List.length_map, List.length_set]); omega) | simp)
      refine hq _ 0 _ ⟨fun hA => (by cases hA), fun B hB => ?_, fun B hB => (by cases hB; first | exact .inl rfl | exact .inr rfl)⟩ K1 (fun A hA => by cases hA; exact Nat.le_refl _) (.inl rfl)
      cases hB
      simp [Hp.rdn, get_push_self]
    · have e : appendV (h.push (.cells false [])) 1 1 (.slice (some ⟨h.next, 0, none⟩) 0 0) (.slice (some A) xs.length c) = some (.slice (some ⟨h.next + 1, 0, some 1⟩) xs.length xs.length, (h.push (.cells false [])).push (.cells false (encB.all xs))) := by
        have he' : elems (h.push (.cells false [])) 1 xs.length (.slice (some A) xs.length c) = some (encB.all xs) := he
        have hl : (encB.all xs).length = xs.length * 1 := encB.all_length xs
        simp only [appendV, lenV, he', hl, if_true, Nat.zero_add]
        rw [if_neg (by omega), if_pos ⟨by omega, by omega⟩]
        simp [Hp.rdn, get_push_self]
      rw [e]
      simp (maxSteps := 1000000) (disch := first | assumption | ((try simp only [push_next, put_next, adv_next, List.length_cons, List.length_nil, List.length_map, List.length_set]); omega) | simp)
      refine hq _ _ _ ⟨fun hA => (by cases hA), fun B hB => ?_, fun B hB => (by cases hB; first | exact .inl rfl | exact .inr rfl)⟩ (K1.push _) (fun A hA => by cases hA; simp) (.inr ⟨_, .blk (E := encB) (r := []) (by rw [show h.next + 1 = (h.push (.cells false [])).next from rfl, get_push_self]; simp) rfl (Nat.le_refl _) (by omega) (by simp), by simp⟩)
      cases hB
      simp only [Hp.rdn, Hp.cells, show h.next + 1 = (h.push (.cells false [])).next from rfl, get_push_self, Option.bind_some, Nat.zero_add]
      rw [if_pos (by simp), List.drop_zero, List.take_of_length_le (by simp)]
end
end Go.Proofs.Ytpdfdemoflofhaa.Cd

/- The wheel as a state. -/
set_option maxRecDepth 1000000
set_option maxHeartbeats 4000000
set_option linter.unusedSimpArgs false
set_option linter.unusedVariables false
namespace Go.Proofs.Ytpdfdemoflofhaa.Cd
open Go Go.Dx
/-- A wheel, as what it holds. -/
structure WhS where
  L : List Ev
  n : Int
def WhS.arm (w : WhS) (d t : Int) : WhS := if wbad d t = true then w else ⟨insl (·.at') ⟨t, d, w.n⟩ (wcan d w.L), IntKind.i64.wrap (w.n + 1)⟩
def WhS.can (w : WhS) (d : Int) : WhS := ⟨wcan d w.L, w.n⟩
structure WhA (h : Hp) (w : Nat) (S : WhS) (fp : List Nat) : Prop where
  wh : Wh h w S.L S.n fp
  wi : WI S.L
section
variable {h : Hp} {q : Value → Hp → Prop} {w : Nat} {S : WhS} {fp : List Nat} {dv now : Int}
theorem WhA.keep {h' : Hp} (A : WhA h w S fp) (hk : ∀ b ∈ w :: fp, h'.get b = h.get b) : WhA h' w S fp := ⟨A.wh.keep hk, A.wi⟩
theorem WhA.kp {h' : Hp} (A : WhA h w S fp) (K : Kp h h') : WhA h' w S fp := ⟨A.wh.kp K, A.wi⟩
theorem WhA.live (A : WhA h w S fp) : ∀ b ∈ w :: fp, b < h.next := A.wh.live
theorem warmS {t : Int} (A : WhA h w S fp) (hq : ∀ h' fp', WhA h' w (S.arm dv t) fp' → Upd h h' (w :: fp) (w :: fp') → q (.bool (!wbad dv t)) h') : WC T n_wheel_Wheel_Arm [ptr w 0, .int .i64 dv, .int .i64 t] h q := by
  refine warmI A.wh A.wi (fun hb => ?_) fun hb h' fp' I W' U => ?_
  · have := hq h fp (by unfold WhS.arm; rw [if_pos hb]; exact A) .refl
    rw [hb] at this
    exact this
  · have := hq h' fp' (by unfold WhS.arm; rw [if_neg (by simp [hb])]; exact ⟨W', I⟩) U
    rw [hb] at this
    exact this
theorem takeS {t : Int} (A : WhA h w S fp) (hno : (∀ x ∈ S.L.head?, t < x.at') → ∀ h', Kp h h' → q (.tuple #[.agg #[.int .i64 0, .int .i64 0, .int .i64 0], .bool false]) h')
    (hyes : ∀ x B, S.L = x :: B → x.at' ≤ t → ∀ h' fp', WhA h' w ⟨B, S.n⟩ fp' → Upd h h' (w :: fp) (w :: fp') → q (.tuple #[.agg #[.int .i64 x.at', .int .i64 x.dev, .int .i64 x.seq], .bool true]) h') : WC T n_wheel_Wheel_Take [ptr w 0, .int .i64 t] h q := by
  have := A.wi.len
  refine wtake A.wh (by omega) hno fun x B hx ht h' fp' W' U => hyes x B hx ht h' fp' ⟨W', ?_⟩ U
  have := A.wi
  rw [hx] at this
  exact this.tail
end
end Go.Proofs.Ytpdfdemoflofhaa.Cd

/- The line of bytes: what each function does. -/
set_option maxRecDepth 1000000
set_option maxHeartbeats 4000000
set_option linter.unusedSimpArgs false
set_option linter.unusedVariables false
namespace Go.Proofs.Ytpdfdemoflofhaa.Cd
open Go Go.Dx
structure UaS where
  i : By
  o : By
  lost : Bool
  ctl : BitVec 32
  out : By
def uat (a : BitVec 32) : Bool := decide (a = 0#32 ∨ a = 4#32 ∨ a = 8#32)
def ubit (t : Bool) (b : BitVec 32) : BitVec 32 := if t = true then b else 0#32
def UaS.stat (U : UaS) : BitVec 32 := ubit (decide (0 < U.i.length)) 1#32 ||| ubit (decide ((U.o.length : Int) = 16)) 2#32 ||| ubit U.lost 4#32 ||| ubit (decide (U.o = [])) 8#32
def UaS.rd (U : UaS) (a : BitVec 32) : BitVec 32 := if a = 0#32 then (match U.i with | [] => 256#32 | b :: _ => b.setWidth 32) else if a = 4#32 then U.stat else if a = 8#32 then U.ctl else 0#32
def UaS.rds (U : UaS) (a : BitVec 32) : UaS := if a = 0#32 then { U with i := U.i.tail } else U
def UaS.wr (U : UaS) (a v : BitVec 32) : UaS := if a = 0#32 then (if U.o.length < 16 then { U with o := U.o ++ [v.setWidth 8] } else U) else if a = 4#32 then { U with lost := U.lost && decide (v &&& 4#32 = 0#32) } else if a = 8#32 then { U with ctl := v &&& 3#32 } else U
def UaS.wrw (U : UaS) (W : WhS) (d : Int) (a : BitVec 32) (now : Int) : WhS := if a = 0#32 ∧ U.o.length = 0 then W.arm d (now + 8) else W
def UaS.fire (U : UaS) : UaS := match U.o with | [] => U | b :: t => { U with o := t, out := if U.out.length < 65536 then U.out ++ [b] else U.out }
def UaS.firew (U : UaS) (W : WhS) (d now : Int) : WhS := if 1 < U.o.length then W.arm d (now + 8) else W
def UaS.typ (U : UaS) (b : BitVec 8) : UaS := if U.i.length < 16 then { U with i := U.i ++ [b] } else { U with lost := true }
def UaS.line (U : UaS) : Bool := (U.ctl &&& 1#32 != 0#32 && decide (0 < U.i.length)) || (U.ctl &&& 2#32 != 0#32 && decide (U.o = []))
/-- A line as it lies. -/
structure Ua (h : Hp) (x w : Nat) (dv : Int) (fo : List Nat) (U : UaS) : Prop where
  u : ∃ v, h.get (x + 2) = some (.cells false [.int .i64 dv, ptr w 0, .chan (some x), .chan (some (x + 1)), .bool U.lost, u32 U.ctl, v]) ∧ Own encB h v U.out fo
  i : h.get x = some (.chan 16 (U.i.map u8))
  o : h.get (x + 1) = some (.chan 16 (U.o.map u8))
  off : ∀ b ∈ fo, b < x ∨ x + 2 < b
  ni : U.i.length ≤ 16
  no : U.o.length ≤ 16
  nout : U.out.length ≤ 65536
section
variable {h : Hp} {q : Value → Hp → Prop} {x w c : Nat} {dv now : Int} {fo fp : List Nat} {U : UaS} {S : WhS} {a v : BitVec 32} {B : By} {cap : Nat} {b : BitVec 8}
theorem utake (hg : h.get c = some (.chan cap (B.map u8))) : WC T n_uart_take [.chan (some c)] h q ↔ q (.tuple #[u8 (B.headD 0#8), .bool (!B.isEmpty)]) (match B with | [] => h | _ :: t => h.put c (some (.chan cap (t.map u8)))) := by
  rw [WC_spec T_uart_take]
  cases B with
  | nil =>
    simp only [List.map_nil] at hg
    simp only [sTake, hg]
    constructor
    · rintro ⟨r, e, hq⟩
      cases e
      exact hq
    · exact fun hq => ⟨_, rfl, hq⟩
  | cons y B =>
    simp only [List.map_cons] at hg
    have hg' : h.get c = some (.chan cap (.int .u8 (y.toNat : Int) :: B.map u8)) := hg
    simp only [sTake, hg']
    constructor
    · rintro ⟨r, e, hq⟩
      cases e
      exact hq
    · exact fun hq => ⟨_, rfl, hq⟩
theorem uput (hg : h.get c = some (.chan cap (B.map u8))) : WC T n_uart_put [.chan (some c), u8 b] h q ↔ q (.bool (decide (B.length < cap))) (if B.length < cap then h.put c (some (.chan cap ((B ++ [b]).map u8))) else h) := by
  rw [WC_spec T_uart_put]
  simp only [sPut, u8, hg]
  by_cases hl : B.length < cap
  · have hl' : (B.map u8).length < cap := by simpa using hl
    simp only [if_pos hl', if_pos hl]
    constructor
    · rintro ⟨r, e, hq⟩
      cases e
      simpa [hl, u8] using hq
    · exact fun hq => ⟨_, rfl, by simpa [hl, u8] using hq⟩
  · have hl' : ¬ (B.map u8).length < cap := by simpa using hl
    simp only [if_neg hl', if_neg hl]
    constructor
    · rintro ⟨r, e, hq⟩
      cases e
      simpa [hl] using hq
    · exact fun hq => ⟨_, rfl, by simpa [hl] using hq⟩
theorem ubit_ {t : Bool} {v : BitVec 32} : WC T n_uart_bit [.bool t, u32 v] h q ↔ q (u32 (ubit t v)) h := by
  rw [w_uart_bit]
  cases t <;> simp (maxSteps := 1000000) (disch := first | assumption | ((try simp only [push_next, put_next, adv_next, List.length_cons, List.length_nil, List.length_map, List.length_set]); omega) | simp) [ubit]
theorem unew (hw : w < h.next) (hq : ∀ h', Ua h' h.next w dv [] ⟨[], [], false, 0#32, []⟩ → Kp h h' → h'.next = h.next + 3 → q (ptr (h.next + 2) 0) h') : WC T n_uart_New [.int .i64 dv, ptr w 0] h q := by
  rw [w_uart_New]
  simp (maxSteps := 1000000) (disch := first | assumption | ((try simp only [push_next, put_next, adv_next, List.length_cons, List.length_nil, List.length_map, List.length_set]); omega) | simp)
  refine hq _ ⟨⟨.slice none 0 0, ?_, .nul⟩, ?_, ?_, by simp, by simp, by simp, by simp⟩ (((((Kp.refl h).adv 3).put (Nat.le_refl _) _).put (by omega) _).put (by omega) _) (by simp)
  · rw [get_put_self (by simp)]
  · rw [get_put_ne (by omega), get_put_ne (by omega), get_put_self (by simp)]
    rfl
  · rw [get_put_ne (by omega), get_put_self (by simp)]
    rfl
theorem uread (A : Ua h x w dv fo U) (hq : ∀ h', Ua h' x w dv fo (U.rds a) → Upd h h' [x] [x] → q (.tuple #[u32 (U.rd a), .bool (uat a)]) h') : WC T n_uart_Uart_Read [ptr (x + 2) 0, u32 a] h q := by
  obtain ⟨v, g1, ho⟩ := A.u
  have g2 := A.i
  have g3 := A.o
  have n2 := lenC_of g2
  have n3 := lenC_of g3
  have l1 := lt_of_get g1
  rw [w_uart_Uart_Read]
  by_cases a0 : a = 0#32
  · subst a0
    cases hU : U.i with
    | nil =>
      rw [hU] at g2
      have ht := fun q => utake (q := q) g2
      simp only [List.headD_nil, List.isEmpty_nil, Bool.not_true] at ht
      simp (maxSteps := 1000000) (disch := first | assumption | ((try simp only [push_next, put_next, adv_next, List.length_cons, List.length_nil, List.length_map, List.length_set]); omega) | simp) [g1, GC_of ht]
      have e : U.rds 0#32 = U := by cases U; simp at hU; subst hU; rfl
      have := hq h (by rw [e]; exact A) (Kp.upd (Kp.refl h) _)
      simpa [UaS.rd, hU, uat] using this
    | cons y t =>
      rw [hU] at g2
      have ht := fun q => utake (q := q) g2
      simp only [List.headD_cons, List.isEmpty_cons, Bool.not_false] at ht
      simp (maxSteps := 1000000) (disch := first | assumption | ((try simp only [push_next, put_next, adv_next, List.length_cons, List.length_nil, List.length_map, List.length_set]); omega) | simp) [g1, GC_of ht]
      have A1 : Ua (h.put x (some (.chan 16 (t.map u8)))) x w dv fo (U.rds 0#32) :=
        ⟨⟨v, by rw [get_put_ne (by omega), g1]; rfl, ho.keep fun b hb => get_put_ne (by have := A.off b hb; omega)⟩, by rw [get_put_self (by omega)]; simp [UaS.rds, hU], by rw [get_put_ne (by omega), g3]; rfl, A.off, by have := A.ni; rw [hU] at this; simp [UaS.rds, hU] at this ⊢; omega, A.no, A.nout⟩
      have := hq _ A1 ⟨by simp, fun b hb hn => get_put_ne (by simpa using hn), fun b hb => .inl hb⟩
      simpa [UaS.rd, hU, uat] using this
  by_cases a4 : a = 4#32
  · subst a4
    simp (maxSteps := 1000000) (disch := first | assumption | ((try simp only [push_next, put_next, adv_next, List.length_cons, List.length_nil, List.length_map, List.length_set]); omega) | simp) [g1, n2, n3, GC_of (fun q => ubit_ (q := q)), GCI_of (fun q => ubit_ (q := q))]
    refine ⟨by simp [veq, veqF], ?_⟩
    have := hq h A (Kp.upd (Kp.refl h) _)
    simpa [UaS.rd, UaS.stat, uat] using this
  by_cases a8 : a = 8#32
  · subst a8
    simp (maxSteps := 1000000) (disch := first | assumption | ((try simp only [push_next, put_next, adv_next, List.length_cons, List.length_nil, List.length_map, List.length_set]); omega) | simp) [g1]
    have := hq h A (Kp.upd (Kp.refl h) _)
    simpa [UaS.rd, uat] using this
  have h0 := hq h (by simpa [UaS.rds, a0] using A) (Kp.upd (Kp.refl h) _)
  simp only [UaS.rd, uat, a0, a4, a8, if_false, or_false, decide_false] at h0
  simp (maxSteps := 1000000) (disch := first | assumption | ((try simp only [push_next, put_next, adv_next, List.length_cons, List.length_nil, List.length_map, List.length_set]); omega) | simp) [a0, a4, a8]
  exact h0
theorem uline (A : Ua h x w dv fo U) : WC T n_uart_Uart_Line [ptr (x + 2) 0] h q ↔ q (.bool U.line) h := by
  obtain ⟨v, g1, ho⟩ := A.u
  have g2 := A.i
  have g3 := A.o
  have n2 := lenC_of g2
  have n3 := lenC_of g3
  rw [w_uart_Uart_Line]
  by_cases c1 : U.ctl &&& 1#32 = 0#32
  · by_cases c2 : U.ctl &&& 2#32 = 0#32
    · simp (maxSteps := 1000000) (disch := first | assumption | ((try simp only [push_next, put_next, adv_next, List.length_cons, List.length_nil, List.length_map, List.length_set]); omega) | simp) [g1, n2, n3, c1, c2, UaS.line]
    · have b2 : (U.ctl &&& 2#32 != 0#32) = true := by simpa using c2
      simp (maxSteps := 1000000) (disch := first | assumption | ((try simp only [push_next, put_next, adv_next, List.length_cons, List.length_nil, List.length_map, List.length_set]); omega) | simp) [g1, n2, n3, c1, c2, UaS.line, b2]
  · have b1 : (U.ctl &&& 1#32 != 0#32) = true := by simpa using c1
    by_cases c3 : 0 < U.i.length
    · simp (maxSteps := 1000000) (disch := first | assumption | ((try simp only [push_next, put_next, adv_next, List.length_cons, List.length_nil, List.length_map, List.length_set]); omega) | simp) [g1, n2, n3, c1, c3, UaS.line, b1]
    · by_cases c2 : U.ctl &&& 2#32 = 0#32
      · simp (maxSteps := 1000000) (disch := first | assumption | ((try simp only [push_next, put_next, adv_next, List.length_cons, List.length_nil, List.length_map, List.length_set]); omega) | simp) [g1, n2, n3, c1, c2, c3, UaS.line, b1]
      · have b2 : (U.ctl &&& 2#32 != 0#32) = true := by simpa using c2
        simp (maxSteps := 1000000) (disch := first | assumption | ((try simp only [push_next, put_next, adv_next, List.length_cons, List.length_nil, List.length_map, List.length_set]); omega) | simp) [g1, n2, n3, c1, c2, c3, UaS.line, b1, b2]
theorem Ua.lt (A : Ua h x w dv fo U) : x + 2 < h.next := by
  obtain ⟨v, g1, ho⟩ := A.u
  exact lt_of_get g1
theorem Ua.keep {h' : Hp} (A : Ua h x w dv fo U) (hk : ∀ b, b < h.next → (x ≤ b ∧ b ≤ x + 2 ∨ b ∈ fo) → h'.get b = h.get b) : Ua h' x w dv fo U := by
  have hl := A.lt
  obtain ⟨v, g1, ho⟩ := A.u
  exact ⟨⟨v, by rw [hk _ (by omega) (by omega), g1], ho.keep fun b hb => hk _ (ho.live b hb) (.inr hb)⟩, by rw [hk _ (by omega) (by omega), A.i], by rw [hk _ (by omega) (by omega), A.o], A.off, A.ni, A.no, A.nout⟩
theorem Ua.kp {h' : Hp} (A : Ua h x w dv fo U) (K : Kp h h') : Ua h' x w dv fo U := A.keep fun b hb _ => K.get b hb
theorem utype (A : Ua h x w dv fo U) (hq : ∀ h', Ua h' x w dv fo (U.typ b) → Upd h h' [x, x + 2] [x, x + 2] → q (.tuple #[]) h') : WC T n_uart_Uart_Type [ptr (x + 2) 0, u8 b] h q := by
  obtain ⟨v, g1, ho⟩ := A.u
  have g2 := A.i
  have g3 := A.o
  have l1 := lt_of_get g1
  have ht := fun q => uput (q := q) (b := b) g2
  rw [w_uart_Uart_Type]
  by_cases hc : U.i.length < 16
  · simp only [hc, decide_true, if_true] at ht
    simp (maxSteps := 1000000) (disch := first | assumption | ((try simp only [push_next, put_next, adv_next, List.length_cons, List.length_nil, List.length_map, List.length_set]); omega) | simp) [g1, GC_of ht]
    refine hq _ ⟨⟨v, by rw [get_put_ne (by omega), g1]; simp [UaS.typ, hc], by simpa [UaS.typ, hc] using ho.keep fun b hb => get_put_ne (by have := A.off b hb; omega)⟩, by rw [get_put_self (by omega)]; simp [UaS.typ, hc], by rw [get_put_ne (by omega), g3]; simp [UaS.typ, hc], A.off, by simp [UaS.typ, hc]; omega, by simpa [UaS.typ, hc] using A.no, by simpa [UaS.typ, hc] using A.nout⟩ ⟨by simp, fun b hb hn => get_put_ne (by simp at hn; exact hn.1), fun b hb => .inl hb⟩
  · simp only [hc, decide_false, if_false] at ht
    simp (maxSteps := 1000000) (disch := first | assumption | ((try simp only [push_next, put_next, adv_next, List.length_cons, List.length_nil, List.length_map, List.length_set]); omega) | simp) [g1, GC_of ht]
    refine hq _ ⟨⟨v, by rw [get_put_self (by omega)]; simp [UaS.typ, hc], by simpa [UaS.typ, hc] using ho.keep fun b hb => get_put_ne (by have := A.off b hb; omega)⟩, by rw [get_put_ne (by omega), g2]; simp [UaS.typ, hc], by rw [get_put_ne (by omega), g3]; simp [UaS.typ, hc], A.off, by simpa [UaS.typ, hc] using A.ni, by simpa [UaS.typ, hc] using A.no, by simpa [UaS.typ, hc] using A.nout⟩ ⟨by simp, fun b hb hn => get_put_ne (by simp at hn; exact hn.2), fun b hb => .inl hb⟩
theorem uout (A : Ua h x w dv fo U) (hq : ∀ a c h', Sees encB h' a U.out → Kp h h' → q (.slice a U.out.length c) h') : WC T n_uart_Uart_Out [ptr (x + 2) 0] h q := by
  obtain ⟨v, g1, ho⟩ := A.u
  have hno := A.nout
  obtain ⟨a, c, rfl, hs, _, _⟩ := ho.len
  rw [w_uart_Uart_Out]
  simp (maxSteps := 1000000) (disch := first | assumption | ((try simp only [push_next, put_next, adv_next, List.length_cons, List.length_nil, List.length_map, List.length_set]); omega) | simp) [g1]
  refine clone_by hs (by omega) fun a' c' h' hs' K _ _ => ?_
  simp (maxSteps := 1000000) (disch := first | assumption | ((try simp only [push_next, put_next, adv_next, List.length_cons, List.length_nil, List.length_map, List.length_set]); omega) | simp)
  exact hq _ _ _ hs' K
/-- Apart from the line's own blocks. -/
def Ap (x : Nat) (fo l : List Nat) : Prop := ∀ b ∈ l, (b < x ∨ x + 2 < b) ∧ b ∉ fo
/-- It is armed. -/
theorem uarm (A : Ua h x w dv fo U) (Q : WhA h w S fp) (hoff : Ap x fo (w :: fp)) (hn : -2 ^ 62 ≤ now ∧ now ≤ 2 ^ 62)
    (hq : ∀ h' fp', Ua h' x w dv fo U → WhA h' w (S.arm dv (now + 8)) fp' → Upd h h' (w :: fp) (w :: fp') → Ap x fo (w :: fp') → q (.tuple #[]) h') : WC T n_uart_Uart_arm [ptr (x + 2) 0, .int .i64 now] h q := by
  obtain ⟨v, g1, ho⟩ := A.u
  rw [w_uart_Uart_arm]
  simp (maxSteps := 1000000) (disch := first | assumption | ((try simp only [push_next, put_next, adv_next, List.length_cons, List.length_nil, List.length_map, List.length_set]); omega) | simp) [g1]
  refine warmS Q fun h1 fp1 Q1 U1 => ?_
  simp (maxSteps := 1000000) (disch := first | assumption | ((try simp only [push_next, put_next, adv_next, List.length_cons, List.length_nil, List.length_map, List.length_set]); omega) | simp)
  exact hq _ _ (A.keep fun b hb hm => U1.get b hb fun hc => by
    have := hoff b hc
    rcases hm with hm | hm
    · omega
    · exact this.2 hm) Q1 U1 fun b hb => by
      rcases U1.sub b hb with h5 | h5
      · exact hoff b h5
      · have := A.lt
        exact ⟨by omega, fun hf => by have := ho.live b hf; omega⟩
theorem uwrite (A : Ua h x w dv fo U) (Q : WhA h w S fp) (hoff : Ap x fo (w :: fp)) (hn : -2 ^ 62 ≤ now ∧ now ≤ 2 ^ 62)
    (hq : ∀ h' fp', Ua h' x w dv fo (U.wr a v) → WhA h' w (U.wrw S dv a now) fp' → Upd h h' ((x + 1) :: (x + 2) :: w :: fp) ((x + 1) :: (x + 2) :: w :: fp') → Ap x fo (w :: fp') → q (.bool (uat a)) h') :
    WC T n_uart_Uart_Write [ptr (x + 2) 0, u32 a, u32 v, .int .i64 now] h q := by
  have A0 := A
  obtain ⟨vo, g1, ho⟩ := A.u
  have g2 := A.i
  have g3 := A.o
  have n3 := lenC_of g3
  have l1 := lt_of_get g1
  rw [w_uart_Uart_Write]
  by_cases a0 : a = 0#32
  · subst a0
    have t0 : uat 0#32 = true := rfl
    have ht := fun q => uput (q := q) (b := v.setWidth 8) g3
    by_cases hc : U.o.length < 16
    · simp only [hc, decide_true, if_true] at ht
      have A1 : Ua (h.put (x + 1) (some (.chan 16 ((U.o ++ [v.setWidth 8]).map u8)))) x w dv fo (U.wr 0#32 v) :=
        ⟨⟨vo, by rw [get_put_ne (by omega), g1]; simp [UaS.wr, hc], by simpa [UaS.wr, hc] using ho.keep fun b hb => get_put_ne (by have := A.off b hb; omega)⟩, by rw [get_put_ne (by omega), g2]; simp [UaS.wr, hc], by rw [get_put_self (by omega)]; simp [UaS.wr, hc], A.off, by simpa [UaS.wr, hc] using A.ni, by simp [UaS.wr, hc]; omega, by simpa [UaS.wr, hc] using A.nout⟩
      have Q1 : WhA (h.put (x + 1) (some (.chan 16 ((U.o ++ [v.setWidth 8]).map u8)))) w S fp := Q.keep fun b hb => get_put_ne (by have := (hoff b hb).1; omega)
      have U1 : Upd h (h.put (x + 1) (some (.chan 16 ((U.o ++ [v.setWidth 8]).map u8)))) [x + 1] [x + 1] := ⟨by simp, fun b hb hn => get_put_ne (by simpa using hn), fun b hb => .inl hb⟩
      generalize h.put (x + 1) (some (.chan 16 ((U.o ++ [v.setWidth 8]).map u8))) = h1 at *
      by_cases h0 : U.o = []
      · have h0' : U.o.length = 0 := by rw [h0]; rfl
        simp (maxSteps := 1000000) (disch := first | assumption | ((try simp only [push_next, put_next, adv_next, List.length_cons, List.length_nil, List.length_map, List.length_set]); omega) | simp) [g1, n3, h0, GC_of ht]
        refine uarm A1 Q1 hoff hn fun h2 fp2 A2 Q2 U2 P2 => ?_
        simp (maxSteps := 1000000) (disch := first | assumption | ((try simp only [push_next, put_next, adv_next, List.length_cons, List.length_nil, List.length_map, List.length_set]); omega) | simp)
        have := hq h2 fp2 A2 (by simpa [UaS.wrw, h0'] using Q2) ⟨Nat.le_trans U1.le U2.le, fun b hb hn => by
          simp only [List.mem_cons, not_or] at hn
          rw [U2.get b (Nat.lt_of_lt_of_le hb U1.le) (by simp only [List.mem_cons, not_or]; exact hn.2.2), U1.get b hb (by simpa using hn.1)], fun b hb => by
          simp only [List.mem_cons] at hb ⊢
          rcases hb with hb | hb | hb
          · exact .inl (.inl hb)
          · exact .inl (.inr (.inl hb))
          · rcases U2.sub b (by simpa using hb) with h5 | h5
            · exact .inl (.inr (.inr (by simpa using h5)))
            · exact .inr (Nat.le_trans U1.le h5)⟩ P2
        rwa [t0] at this
      · have h0' : ¬ U.o.length = 0 := fun e => h0 (List.length_eq_zero_iff.1 e)
        simp (maxSteps := 1000000) (disch := first | assumption | ((try simp only [push_next, put_next, adv_next, List.length_cons, List.length_nil, List.length_map, List.length_set]); omega) | simp) [g1, n3, h0, h0', GC_of ht]
        have := hq h1 fp A1 (by simpa [UaS.wrw, h0'] using Q1) ⟨U1.le, fun b hb hn => U1.get b hb (by simp only [List.mem_cons, not_or] at hn; simpa using hn.1), fun b hb => .inl hb⟩ hoff
        rwa [t0] at this
    · simp only [hc, decide_false, if_false] at ht
      have h0' : ¬ U.o.length = 0 := by omega
      simp (maxSteps := 1000000) (disch := first | assumption | ((try simp only [push_next, put_next, adv_next, List.length_cons, List.length_nil, List.length_map, List.length_set]); omega) | simp) [g1, n3, GC_of ht]
      have := hq h fp (by simpa [UaS.wr, hc] using A0) (by simpa [UaS.wrw, h0'] using Q) (Kp.upd (Kp.refl h) _) hoff
      rwa [t0] at this
  have key : ∀ U' : UaS, U'.i = U.i → U'.o = U.o → U'.out = U.out → Ua (h.put (x + 2) (some (.cells false [.int .i64 dv, ptr w 0, .chan (some x), .chan (some (x + 1)), .bool U'.lost, u32 U'.ctl, vo]))) x w dv fo U' ∧ WhA (h.put (x + 2) (some (.cells false [.int .i64 dv, ptr w 0, .chan (some x), .chan (some (x + 1)), .bool U'.lost, u32 U'.ctl, vo]))) w S fp ∧ Upd h (h.put (x + 2) (some (.cells false [.int .i64 dv, ptr w 0, .chan (some x), .chan (some (x + 1)), .bool U'.lost, u32 U'.ctl, vo]))) ((x + 1) :: (x + 2) :: w :: fp) ((x + 1) :: (x + 2) :: w :: fp) := fun U' e1 e2 e3 =>
    ⟨⟨⟨vo, get_put_self l1, by rw [e3]; exact ho.keep fun b hb => get_put_ne (by have := A0.off b hb; omega)⟩, by rw [get_put_ne (by omega), g2, e1], by rw [get_put_ne (by omega), g3, e2], A0.off, by rw [e1]; exact A0.ni, by rw [e2]; exact A0.no, by rw [e3]; exact A0.nout⟩, Q.keep fun b hb => get_put_ne (by have := (hoff b hb).1; omega), ⟨by simp, fun b hb hn => get_put_ne (by simp only [List.mem_cons, not_or] at hn; exact hn.2.1), fun b hb => .inl hb⟩⟩
  by_cases a4 : a = 4#32
  · subst a4
    have t4 : uat 4#32 = true := rfl
    cases hlo : U.lost with
    | false =>
      rw [hlo] at g1
      simp (maxSteps := 1000000) (disch := first | assumption | ((try simp only [push_next, put_next, adv_next, List.length_cons, List.length_nil, List.length_map, List.length_set]); omega) | simp) [g1]
      obtain ⟨k1, k2, k3⟩ := key { U with lost := false } rfl rfl rfl
      have e : U.wr 4#32 v = { U with lost := false } := by simp [UaS.wr, hlo]
      have := hq _ fp (by rw [e]; exact k1) (by simpa [UaS.wrw] using k2) k3 hoff
      rwa [t4] at this
    | true =>
      rw [hlo] at g1
      by_cases v4 : v &&& 4#32 = 0#32
      · simp (maxSteps := 1000000) (disch := first | assumption | ((try simp only [push_next, put_next, adv_next, List.length_cons, List.length_nil, List.length_map, List.length_set]); omega) | simp) [g1, v4]
        obtain ⟨k1, k2, k3⟩ := key { U with lost := true } rfl rfl rfl
        have e : U.wr 4#32 v = { U with lost := true } := by simp [UaS.wr, hlo, v4]
        have := hq _ fp (by rw [e]; exact k1) (by simpa [UaS.wrw] using k2) k3 hoff
        rwa [t4] at this
      · have b4 : (v &&& 4#32 == 0#32) = false := by simpa using v4
        simp (maxSteps := 1000000) (disch := first | assumption | ((try simp only [push_next, put_next, adv_next, List.length_cons, List.length_nil, List.length_map, List.length_set]); omega) | simp) [g1, v4, b4]
        obtain ⟨k1, k2, k3⟩ := key { U with lost := false } rfl rfl rfl
        have e : U.wr 4#32 v = { U with lost := false } := by simp [UaS.wr, hlo, v4]
        have := hq _ fp (by rw [e]; exact k1) (by simpa [UaS.wrw] using k2) k3 hoff
        rwa [t4] at this
  by_cases a8 : a = 8#32
  · subst a8
    simp (maxSteps := 1000000) (disch := first | assumption | ((try simp only [push_next, put_next, adv_next, List.length_cons, List.length_nil, List.length_map, List.length_set]); omega) | simp) [g1]
    obtain ⟨k1, k2, k3⟩ := key { U with ctl := v &&& 3#32 } rfl rfl rfl
    have e : U.wr 8#32 v = { U with ctl := v &&& 3#32 } := by simp [UaS.wr]
    have := hq _ fp (by rw [e]; exact k1) (by simpa [UaS.wrw] using k2) k3 hoff
    rwa [show uat 8#32 = true from rfl] at this
  have h9 := hq h fp (by simpa [UaS.wr, a0, a4, a8] using A0) (by simpa [UaS.wrw, a0] using Q) (Kp.upd (Kp.refl h) _) hoff
  simp only [uat, a0, a4, a8, or_false, decide_false] at h9
  simp (maxSteps := 1000000) (disch := first | assumption | ((try simp only [push_next, put_next, adv_next, List.length_cons, List.length_nil, List.length_map, List.length_set]); omega) | simp) [a0, a4, a8]
  exact h9
/-- A byte goes out. -/
theorem ufire (A : Ua h x w dv fo U) (Q : WhA h w S fp) (hoff : Ap x fo (w :: fp)) (hn : -2 ^ 62 ≤ now ∧ now ≤ 2 ^ 62)
    (hq : ∀ h' fp' fo', Ua h' x w dv fo' U.fire → WhA h' w (U.firew S dv now) fp' → Upd h h' ((x + 1) :: (x + 2) :: fo ++ w :: fp) ((x + 1) :: (x + 2) :: fo' ++ w :: fp') → Ap x fo' (w :: fp') → q (.tuple #[]) h') :
    WC T n_uart_Uart_Fire [ptr (x + 2) 0, .int .i64 now] h q := by
  have A0 := A
  obtain ⟨vo, g1, ho⟩ := A.u
  have g2 := A.i
  have g3 := A.o
  have n3 := lenC_of g3
  have l1 := lt_of_get g1
  rw [w_uart_Uart_Fire]
  cases hU : U.o with
  | nil =>
    rw [hU] at g3 n3
    have ht := fun q => utake (q := q) g3
    simp only [List.headD_nil, List.isEmpty_nil, Bool.not_true] at ht
    simp (maxSteps := 1000000) (disch := first | assumption | ((try simp only [push_next, put_next, adv_next, List.length_cons, List.length_nil, List.length_map, List.length_set]); omega) | simp) [g1, GC_of ht, n3]
    refine hq h fp fo (by simpa [UaS.fire, hU] using A0) (by simpa [UaS.firew, hU] using Q) (Kp.upd (Kp.refl h) _) hoff
  | cons y t =>
    rw [hU] at g3 n3
    have ht := fun q => utake (q := q) g3
    simp only [List.headD_cons, List.isEmpty_cons, Bool.not_false] at ht
    obtain ⟨a0, c0, hvo, hs0, _, _⟩ := ho.len
    have hno := A0.nout
    subst hvo
    by_cases hl : U.out.length < 65536
    · have hli : (U.out.length : Int) < 65536 := by omega
      have ho1 : Own encB (h.put (x + 1) (some (.chan 16 (t.map u8)))) (.slice a0 U.out.length c0) U.out fo := ho.keep fun b hb => get_put_ne (by have := A0.off b hb; omega)
      obtain ⟨v', h2, fo2, e2, o2, U2⟩ := ho1.app1 y (bytes := 1) (by omega) (by omega)
      obtain ⟨a2, c2, hv2, _, _, _⟩ := o2.len
      rw [List.length_append, List.length_singleton] at hv2
      subst hv2
      have e2' : appendV ((h.put (x + 1) (some (.chan 16 (t.map u8)))).push (.cells false [u8 y])) 1 1 (.slice a0 U.out.length c0) (.slice (some ⟨h.next, 0, none⟩) 1 1) = some (.slice a2 (U.out.length + 1) c2, h2) := e2
      have hx : x ∉ fo := fun hm => by have := A0.off x hm; omega
      have hx1 : x + 1 ∉ fo := fun hm => by have := A0.off _ hm; omega
      have hx2 : x + 2 ∉ fo := fun hm => by have := A0.off _ hm; omega
      have k1 : h2.get (x + 2) = _ := (U2.get (x + 2) (by simpa using l1) hx2).trans ((get_put_ne (by omega)).trans g1)
      have k2 : h2.get x = some (.chan 16 (U.i.map u8)) := by rw [U2.get x (by simp; omega) hx, get_put_ne (by omega), g2]
      have k3 : h2.get (x + 1) = some (.chan 16 (t.map u8)) := by rw [U2.get (x + 1) (by simp; omega) hx1, get_put_self (by omega)]
      have l2 := lt_of_get k1
      have hle := U2.le
      simp only [put_next] at hle
      have hfo2 : ∀ b ∈ fo2, (b < x ∨ x + 2 < b) ∧ b ∉ w :: fp := fun b hb => by
        rcases U2.sub b hb with h5 | h5
        · exact ⟨A0.off b h5, fun hm => (hoff b hm).2 h5⟩
        · simp only [put_next] at h5
          exact ⟨by omega, fun hm => by have := Q.live b hm; omega⟩
      have A3 : Ua (h2.put (x + 2) (some (.cells false [.int .i64 dv, ptr w 0, .chan (some x), .chan (some (x + 1)), .bool U.lost, u32 U.ctl, .slice a2 (U.out.length + 1) c2]))) x w dv fo2 U.fire :=
        ⟨⟨.slice a2 (U.out.length + 1) c2, by rw [get_put_self l2]; simp [UaS.fire, hU], by
          have : U.fire.out = U.out ++ [y] := by simp [UaS.fire, hU, hl]
          rw [this]
          exact o2.keep fun b hb => get_put_ne (by have := (hfo2 b hb).1; omega)⟩, by rw [get_put_ne (by omega), k2]; simp [UaS.fire, hU], by rw [get_put_ne (by omega), k3]; simp [UaS.fire, hU], fun b hb => (hfo2 b hb).1, by simpa [UaS.fire, hU] using A0.ni, by have := A0.no; simp [UaS.fire, hU] at this ⊢; omega, by simp [UaS.fire, hU, hl]; omega⟩
      have Q3 : WhA (h2.put (x + 2) (some (.cells false [.int .i64 dv, ptr w 0, .chan (some x), .chan (some (x + 1)), .bool U.lost, u32 U.ctl, .slice a2 (U.out.length + 1) c2]))) w S fp := Q.keep fun b hb => by
        have h5 := hoff b hb
        rw [get_put_ne (by omega), U2.get b (by simpa using Q.live b hb) h5.2, get_put_ne (by omega)]
      have P3 : Ap x fo2 (w :: fp) := fun b hb => ⟨(hoff b hb).1, fun hm => (hfo2 b hm).2 hb⟩
      have U3 : Upd h (h2.put (x + 2) (some (.cells false [.int .i64 dv, ptr w 0, .chan (some x), .chan (some (x + 1)), .bool U.lost, u32 U.ctl, .slice a2 (U.out.length + 1) c2]))) ((x + 1) :: (x + 2) :: fo ++ w :: fp) ((x + 1) :: (x + 2) :: fo2 ++ w :: fp) := ⟨by simpa using hle, fun b hb hn => by
        simp only [List.cons_append, List.mem_cons, List.mem_append, not_or] at hn
        rw [get_put_ne hn.2.1, U2.get b (by simpa using hb) hn.2.2.1, get_put_ne hn.1], fun b hb => by
        simp only [List.cons_append, List.mem_cons, List.mem_append] at hb ⊢
        rcases hb with hb | hb | hb | hb
        · exact .inl (.inl hb)
        · exact .inl (.inr (.inl hb))
        · rcases U2.sub b hb with h5 | h5
          · exact .inl (.inr (.inr (.inl h5)))
          · exact .inr h5
        · exact .inl (.inr (.inr (.inr hb)))⟩
      have n4 : lenC (h2.put (x + 2) (some (.cells false [.int .i64 dv, ptr w 0, .chan (some x), .chan (some (x + 1)), .bool U.lost, u32 U.ctl, .slice a2 (U.out.length + 1) c2]))) (.chan (some (x + 1))) = some (.int .i64 t.length) := lenC_of (by rw [get_put_ne (by omega), k3])
      simp (maxSteps := 1000000) (disch := first | assumption | ((try simp only [push_next, put_next, adv_next, List.length_cons, List.length_nil, List.length_map, List.length_set]); omega) | simp) [g1, GC_of ht, n3, hli, e2', k1]
      generalize h2.put (x + 2) (some (.cells false [.int .i64 dv, ptr w 0, .chan (some x), .chan (some (x + 1)), .bool U.lost, u32 U.ctl, .slice a2 (U.out.length + 1) c2])) = h3 at *
      obtain ⟨v3, g5, _⟩ := A3.u
      cases t with
      | nil =>
        simp (maxSteps := 1000000) (disch := first | assumption | ((try simp only [push_next, put_next, adv_next, List.length_cons, List.length_nil, List.length_map, List.length_set]); omega) | simp) [g5, n4]
        exact hq h3 fp fo2 A3 (by simpa [UaS.firew, hU] using Q3) U3 P3
      | cons z t =>
        have hz : (0 : Int) < ((z :: t).length : Nat) := by simp
        simp (maxSteps := 1000000) (disch := first | assumption | ((try simp only [push_next, put_next, adv_next, List.length_cons, List.length_nil, List.length_map, List.length_set]); omega) | simp) [g5, n4]
        refine uarm A3 Q3 P3 hn fun h4 fp4 A4 Q4 U4 P4 => ?_
        simp (maxSteps := 1000000) (disch := first | assumption | ((try simp only [push_next, put_next, adv_next, List.length_cons, List.length_nil, List.length_map, List.length_set]); omega) | simp)
        refine hq h4 fp4 fo2 A4 (by simpa [UaS.firew, hU] using Q4) (U3.trans ⟨U4.le, fun b hb hn => U4.get b hb fun hm => hn (List.mem_append_right _ hm), fun b hb => ?_⟩) P4
        rcases List.mem_append.1 hb with h5 | h5
        · exact .inl (List.mem_append_left _ h5)
        · rcases U4.sub b h5 with h6 | h6
          · exact .inl (List.mem_append_right _ h6)
          · exact .inr h6
    · have hli : ¬ (U.out.length : Int) < 65536 := by omega
      have A3 : Ua (h.put (x + 1) (some (.chan 16 (t.map u8)))) x w dv fo U.fire :=
        ⟨⟨.slice a0 U.out.length c0, by rw [get_put_ne (by omega), g1]; simp [UaS.fire, hU], by
          have : U.fire.out = U.out := by simp [UaS.fire, hU, hl]
          rw [this]
          exact ho.keep fun b hb => get_put_ne (by have := A0.off b hb; omega)⟩, by rw [get_put_ne (by omega), g2]; simp [UaS.fire, hU], by rw [get_put_self (by omega)]; simp [UaS.fire, hU], A0.off, by simpa [UaS.fire, hU] using A0.ni, by have := A0.no; simp [UaS.fire, hU] at this ⊢; omega, by simp [UaS.fire, hU, hl]; omega⟩
      have Q3 : WhA (h.put (x + 1) (some (.chan 16 (t.map u8)))) w S fp := Q.keep fun b hb => get_put_ne (by have := hoff b hb; omega)
      have n4 : lenC (h.put (x + 1) (some (.chan 16 (t.map u8)))) (.chan (some (x + 1))) = some (.int .i64 t.length) := lenC_of (get_put_self (by omega))
      have U3 : Upd h (h.put (x + 1) (some (.chan 16 (t.map u8)))) ((x + 1) :: (x + 2) :: fo ++ w :: fp) ((x + 1) :: (x + 2) :: fo ++ w :: fp) := ⟨by simp, fun b hb hn => get_put_ne (by simp only [List.cons_append, List.mem_cons, not_or] at hn; exact hn.1), fun b hb => .inl hb⟩
      simp (maxSteps := 1000000) (disch := first | assumption | ((try simp only [push_next, put_next, adv_next, List.length_cons, List.length_nil, List.length_map, List.length_set]); omega) | simp) [g1, GC_of ht, n3, hli]
      generalize h.put (x + 1) (some (.chan 16 (t.map u8))) = h3 at *
      cases t with
      | nil =>
        simp (maxSteps := 1000000) (disch := first | assumption | ((try simp only [push_next, put_next, adv_next, List.length_cons, List.length_nil, List.length_map, List.length_set]); omega) | simp) [n4]
        exact hq h3 fp fo A3 (by simpa [UaS.firew, hU] using Q3) U3 hoff
      | cons z t =>
        have hz : (0 : Int) < ((z :: t).length : Nat) := by simp
        simp (maxSteps := 1000000) (disch := first | assumption | ((try simp only [push_next, put_next, adv_next, List.length_cons, List.length_nil, List.length_map, List.length_set]); omega) | simp) [n4]
        refine uarm A3 Q3 hoff hn fun h4 fp4 A4 Q4 U4 P4 => ?_
        simp (maxSteps := 1000000) (disch := first | assumption | ((try simp only [push_next, put_next, adv_next, List.length_cons, List.length_nil, List.length_map, List.length_set]); omega) | simp)
        refine hq h4 fp4 fo A4 (by simpa [UaS.firew, hU] using Q4) (U3.trans ⟨U4.le, fun b hb hn => U4.get b hb fun hm => hn (List.mem_append_right _ hm), fun b hb => ?_⟩) P4
        rcases List.mem_append.1 hb with h5 | h5
        · exact .inl (List.mem_append_left _ h5)
        · rcases U4.sub b h5 with h6 | h6
          · exact .inl (List.mem_append_right _ h6)
          · exact .inr h6
end
end Go.Proofs.Ytpdfdemoflofhaa.Cd

/- UartOrder, UartAsks: what they answer. -/
set_option maxRecDepth 1000000
set_option maxHeartbeats 8000000
set_option linter.unusedSimpArgs false
set_option linter.unusedVariables false
namespace Go.Proofs.Ytpdfdemoflofhaa.Cd
open Go Go.Dx
/-- A line and its wheel. -/
structure UU (g h : Hp) (w x : Nat) (dv : Int) (S : WhS) (fp fo : List Nat) (U : UaS) : Prop where
  ua : Ua h x w dv fo U
  wh : WhA h w S fp
  ap : Ap x fo (w :: fp)
  kp : Kp g h
  gf : ∀ b ∈ w :: fp, g.next ≤ b
  go : ∀ b ∈ fo, g.next ≤ b
  gx : g.next ≤ x
section
variable {g h h' : Hp} {q : Value → Hp → Prop} {w x : Nat} {dv now : Int} {S : WhS} {fp fo : List Nat} {U : UaS} {a v : BitVec 32} {b : BitVec 8}
theorem UU.more (X : UU g h w x dv S fp fo U) (K : Kp h h') : UU g h' w x dv S fp fo U := ⟨X.ua.kp K, X.wh.kp K, X.ap, X.kp.trans K, X.gf, X.go, X.gx⟩
theorem UU.made {h1 : Hp} (A : Ua h1 (g.next + 1) g.next dv [] ⟨[], [], false, 0#32, []⟩) (K : Kp (g.push (.cells false [.slice none 0 0, .int .i64 0])) h1) : UU g h1 g.next (g.next + 1) dv ⟨[], 0⟩ [] [] ⟨[], [], false, 0#32, []⟩ :=
  ⟨A, ⟨(Wh.new (h := g)).kp K, .nil⟩, fun b hb => by simp at hb; subst hb; exact ⟨by omega, by simp⟩, ((Kp.refl g).push _).trans K, fun b hb => by simp at hb; omega, by simp, by omega⟩
theorem uuwrite (X : UU g h w x dv S fp fo U) (hn : -2 ^ 62 ≤ now ∧ now ≤ 2 ^ 62) (hq : ∀ h' fp', UU g h' w x dv (U.wrw S dv a now) fp' fo (U.wr a v) → q (.bool (uat a)) h') :
    WC T n_uart_Uart_Write [ptr (x + 2) 0, u32 a, u32 v, .int .i64 now] h q := by
  have hgx := X.gx
  have hle := X.kp.le
  refine uwrite X.ua X.wh X.ap hn fun h1 fp1 A1 Q1 U1 P1 => hq h1 fp1 ⟨A1, Q1, P1, U1.kp' X.kp fun b hb => ?_, fun b hb => ?_, X.go, X.gx⟩
  · simp only [List.mem_cons] at hb
    rcases hb with hb | hb | hb
    · omega
    · omega
    · exact X.gf b (by simpa using hb)
  · rcases U1.sub b (List.mem_cons_of_mem _ (List.mem_cons_of_mem _ hb)) with h5 | h5
    · simp only [List.mem_cons] at h5
      rcases h5 with h5 | h5 | h5
      · omega
      · omega
      · exact X.gf b (by simpa using h5)
    · omega
theorem uufire (X : UU g h w x dv S fp fo U) (hn : -2 ^ 62 ≤ now ∧ now ≤ 2 ^ 62) (hq : ∀ h' fp' fo', UU g h' w x dv (U.firew S dv now) fp' fo' U.fire → q (.tuple #[]) h') :
    WC T n_uart_Uart_Fire [ptr (x + 2) 0, .int .i64 now] h q := by
  have hgx := X.gx
  have hle := X.kp.le
  have back : ∀ b, b ∈ (x + 1) :: (x + 2) :: fo ++ w :: fp → g.next ≤ b := fun b hb => by
    simp only [List.cons_append, List.mem_cons, List.mem_append] at hb
    rcases hb with hb | hb | hb | hb
    · omega
    · omega
    · exact X.go b hb
    · exact X.gf b (by simpa using hb)
  refine ufire X.ua X.wh X.ap hn fun h1 fp1 fo1 A1 Q1 U1 P1 => hq h1 fp1 fo1 ⟨A1, Q1, P1, U1.kp' X.kp back, fun b hb => ?_, fun b hb => ?_, X.gx⟩
  · rcases U1.sub b (List.mem_append_right _ hb) with h5 | h5
    · exact back b h5
    · omega
  · rcases U1.sub b (List.mem_append_left _ (List.mem_cons_of_mem _ (List.mem_cons_of_mem _ hb))) with h5 | h5
    · exact back b h5
    · omega
theorem UU.own (X : UU g h w x dv S fp fo U) {U' : UaS} {l : List Nat} (A : Ua h' x w dv fo U') (U1 : Upd h h' l l) (hl : ∀ b ∈ l, x ≤ b ∧ b ≤ x + 2) : UU g h' w x dv S fp fo U' :=
  ⟨A, X.wh.keep fun b hb => U1.get b (X.wh.live b hb) fun hm => by have := (X.ap b hb).1; have := hl b hm; omega, X.ap, U1.kp' X.kp fun b hb => by have := hl b hb; have := X.gx; omega, X.gf, X.go, X.gx⟩
theorem uutype (X : UU g h w x dv S fp fo U) (hq : ∀ h', UU g h' w x dv S fp fo (U.typ b) → q (.tuple #[]) h') : WC T n_uart_Uart_Type [ptr (x + 2) 0, u8 b] h q :=
  utype X.ua fun h1 A1 U1 => hq h1 (X.own A1 U1 fun b hb => by simp at hb; omega)
theorem uuread (X : UU g h w x dv S fp fo U) (hq : ∀ h', UU g h' w x dv S fp fo (U.rds a) → q (.tuple #[u32 (U.rd a), .bool (uat a)]) h') : WC T n_uart_Uart_Read [ptr (x + 2) 0, u32 a] h q :=
  uread X.ua fun h1 A1 U1 => hq h1 (X.own A1 U1 fun b hb => by simp at hb; omega)
theorem UU.take {S' : WhS} {fp' : List Nat} (X : UU g h w x dv S fp fo U) (Q1 : WhA h' w S' fp') (U1 : Upd h h' (w :: fp) (w :: fp')) : UU g h' w x dv S' fp' fo U := by
  have hgx := X.gx
  have hle := X.kp.le
  obtain ⟨v, g1, ho⟩ := X.ua.u
  refine ⟨X.ua.keep fun b hb hm => U1.get b hb fun hc => ?_, Q1, fun b hb => ?_, U1.kp' X.kp X.gf, fun b hb => ?_, X.go, X.gx⟩
  · have := X.ap b hc
    rcases hm with hm | hm
    · omega
    · exact this.2 hm
  · rcases U1.sub b hb with h5 | h5
    · exact X.ap b h5
    · have := X.ua.lt
      exact ⟨by omega, fun hf => by have := ho.live b hf; omega⟩
  · rcases U1.sub b hb with h5 | h5
    · exact X.gf b h5
    · omega
theorem uutake {t : Int} {e : Ev} {E : List Ev} (X : UU g h w x dv S fp fo U) (hS : S.L = e :: E) (ht : e.at' ≤ t) (hq : ∀ h' fp', UU g h' w x dv ⟨E, S.n⟩ fp' fo U → q (.tuple #[.agg #[.int .i64 e.at', .int .i64 e.dev, .int .i64 e.seq], .bool true]) h') :
    WC T n_wheel_Wheel_Take [ptr w 0, .int .i64 t] h q := by
  refine takeS X.wh (fun hx => by rw [hS] at hx; simp at hx; omega) fun e' E' he _ h1 fp1 Q1 U1 => ?_
  rw [hS] at he
  cases he
  exact hq _ _ (X.take Q1 U1)
theorem uunone {t : Int} (X : UU g h w x dv S fp fo U) (hS : ∀ e ∈ S.L.head?, t < e.at') (hq : ∀ h', UU g h' w x dv S fp fo U → Kp h h' → q (.tuple #[.agg #[.int .i64 0, .int .i64 0, .int .i64 0], .bool false]) h') :
    WC T n_wheel_Wheel_Take [ptr w 0, .int .i64 t] h q := by
  refine takeS X.wh (fun hx h1 K1 => hq h1 (X.more K1) K1) fun e' E' he ht h1 fp1 Q1 U1 => ?_
  have := hS e' (by rw [he]; rfl)
  omega
theorem uknown : WC T n_pianolalaw12_known [] g fun v h' => v = .bool true ∧ Kp g h' := by
  rw [w_pianolalaw12_known]
  simp (maxSteps := 1000000) (disch := first | assumption | ((try simp only [push_next, put_next, adv_next, List.length_cons, List.length_nil, List.length_map, List.length_set]); omega) | simp) [GC_of (fun q => wnew)]
  refine unew (by simp) fun h1 A1 K1 n1 => ?_
  simp only [push_next] at A1 n1
  have X1 := UU.made A1 K1
  simp (maxSteps := 1000000) (disch := first | assumption | ((try simp only [push_next, put_next, adv_next, List.length_cons, List.length_nil, List.length_map, List.length_set]); omega) | simp)
  refine uuwrite X1 (by omega) fun h2 fp2 X2 => ?_
  simp (maxSteps := 1000000) (disch := first | assumption | ((try simp only [push_next, put_next, adv_next, List.length_cons, List.length_nil, List.length_map, List.length_set]); omega) | simp) [show uat 0#32 = true from rfl]
  have e2 : UaS.wr ⟨[], [], false, 0#32, []⟩ 0#32 65#32 = ⟨[], [65#8], false, 0#32, []⟩ := rfl
  have f2 : UaS.wrw ⟨[], [], false, 0#32, []⟩ ⟨[], 0⟩ 3 0#32 0 = ⟨[⟨8, 3, 0⟩], 1⟩ := rfl
  rw [e2, f2] at X2
  refine uutake X2 rfl (by simp) fun h3 fp3 X3 => ?_
  simp (maxSteps := 1000000) (disch := first | assumption | ((try simp only [push_next, put_next, adv_next, List.length_cons, List.length_nil, List.length_map, List.length_set]); omega) | simp)
  have X4 := X3.more (h' := h3.push (.cells false [.int .i64 8, .int .i64 3, .int .i64 0])) ((Kp.refl h3).push _)
  generalize h3.push (.cells false [.int .i64 8, .int .i64 3, .int .i64 0]) = h4 at *
  refine uufire X4 (by omega) fun h5 fp5 fo5 X5 => ?_
  have e5 : UaS.fire ⟨[], [65#8], false, 0#32, []⟩ = ⟨[], [], false, 0#32, [65#8]⟩ := rfl
  have f5 : UaS.firew ⟨[], [65#8], false, 0#32, []⟩ ⟨[], 1⟩ 3 8 = ⟨[], 1⟩ := rfl
  rw [e5] at X5
  simp (maxSteps := 1000000) (disch := first | assumption | ((try simp only [push_next, put_next, adv_next, List.length_cons, List.length_nil, List.length_map, List.length_set]); omega) | simp)
  refine uutype X5 fun h6 X6 => ?_
  have e6 : UaS.typ ⟨[], [], false, 0#32, [65#8]⟩ 98#8 = ⟨[98#8], [], false, 0#32, [65#8]⟩ := rfl
  rw [e6] at X6
  simp (maxSteps := 1000000) (disch := first | assumption | ((try simp only [push_next, put_next, adv_next, List.length_cons, List.length_nil, List.length_map, List.length_set]); omega) | simp)
  refine uuread X6 fun h7 X7 => ?_
  have e7 : UaS.rds ⟨[98#8], [], false, 0#32, [65#8]⟩ 0#32 = ⟨[], [], false, 0#32, [65#8]⟩ := rfl
  have r7 : UaS.rd ⟨[98#8], [], false, 0#32, [65#8]⟩ 0#32 = 98#32 := rfl
  rw [e7] at X7
  simp (maxSteps := 1000000) (disch := first | assumption | ((try simp only [push_next, put_next, adv_next, List.length_cons, List.length_nil, List.length_map, List.length_set]); omega) | simp) [r7, show uat 0#32 = true from rfl]
  refine uuread X7 fun h8 X8 => ?_
  have e8 : UaS.rds ⟨[], [], false, 0#32, [65#8]⟩ 0#32 = ⟨[], [], false, 0#32, [65#8]⟩ := rfl
  have r8 : UaS.rd ⟨[], [], false, 0#32, [65#8]⟩ 0#32 = 256#32 := rfl
  rw [e8] at X8
  simp (maxSteps := 1000000) (disch := first | assumption | ((try simp only [push_next, put_next, adv_next, List.length_cons, List.length_nil, List.length_map, List.length_set]); omega) | simp) [r8, show uat 0#32 = true from rfl]
  refine uout X8.ua fun a c h9 S9 K9 => ?_
  have hs : b2sV h9 (.slice a 1 c) = some (.string ⟨#[65]⟩) := b2sV_sees (c := c) S9
  simp (maxSteps := 1000000) (disch := first | assumption | ((try simp only [push_next, put_next, adv_next, List.length_cons, List.length_nil, List.length_map, List.length_set]); omega) | simp) [hs]
  exact X8.kp.trans K9
theorem arm_nil {n t : Int} (ht : 0 ≤ t) : (⟨[], n⟩ : WhS).arm 3 t = ⟨[⟨t, 3, n⟩], IntKind.i64.wrap (n + 1)⟩ := by
  have hb : wbad 3 t = false := by simp [wbad]; omega
  unfold WhS.arm
  rw [if_neg (by simp [hb])]
  rfl
theorem uasks2 {ctl : BitVec 32} {e : Env} {j p : Nat} (hj : j ≤ 16) (hp : p ≤ 16) (u1 : U.i.length = j) (u2 : U.o.length = p) (u3 : U.out = []) (u4 : U.ctl = ctl &&& 3#32) (s0 : p = 0 → S.L = []) (s1 : 0 < p → ∃ a, S.L = [a] ∧ 0 ≤ a.at' ∧ a.at' ≤ 8)
    (X4 : UU g h w x 3 S fp fo U) (e0 : e 0 = u32 ctl) (e7 : e 7 = ptr w 0) (e8 : e 8 = ptr (x + 2) 0) (e9 : e 9 = .int .i64 j) (e10 : e 10 = .int .i64 p) (e13 : e 13 = .int .i64 0) :
    G T (fin [RV.t 6] (some []) g.next fun v h' => v = .bool true) (.loop c3_pianolalaw12_UartAsks) [.block 4, .seq (.seq (.seq (.ops [⟨some 14, none, .mov (.c (.int .i64 0))⟩]) (.block 6 (.loop c5_pianolalaw12_UartAsks))) c6_pianolalaw12_UartAsks)] e h := by
  refine G_loop (fun k e h' => ∃ (c : Nat) (U : UaS), k = j - c ∧ c ≤ j ∧ U.i.length = j - c ∧ U.o.length = p ∧ U.out = [] ∧ U.ctl = ctl &&& 3#32 ∧ UU g h' w x 3 S fp fo U ∧ e 0 = u32 ctl ∧ e 7 = ptr w 0 ∧ e 8 = ptr (x + 2) 0 ∧ e 9 = .int .i64 j ∧ e 10 = .int .i64 p ∧ e 13 = .int .i64 c) ?_ j _ _ ⟨0, U, rfl, Nat.zero_le _, u1, u2, u3, u4, X4, e0, e7, e8, e9, e10, e13⟩
  clear X4 u1 u2 u3 u4 e0 e7 e8 e9 e10 e13
  rintro k ih e h4 ⟨c, U, rfl, hc, u1, u2, u3, u4, X4, e0, e7, e8, e9, e10, e13⟩
  by_cases hlt : c < j
  · have hli : (c : Int) < j := by omega
    simp (maxSteps := 1000000) (disch := first | assumption | ((try simp only [push_next, put_next, adv_next, List.length_cons, List.length_nil, List.length_map, List.length_set]); omega) | simp) [e8, e9, e13, hli]
    refine uuread X4 fun h5 X5 => ?_
    simp (maxSteps := 1000000) (disch := first | assumption | ((try simp only [push_next, put_next, adv_next, List.length_cons, List.length_nil, List.length_map, List.length_set]); omega) | simp) [e13]
    apply ih (j - (c + 1)) (by omega)
    have hr : U.rds 0#32 = { U with i := U.i.tail } := rfl
    rw [hr] at X5
    exact ⟨c + 1, { U with i := U.i.tail }, rfl, by omega, by simp only [List.length_tail]; omega, u2, u3, u4, X5, by simp [e0], by simp [e7], by simp [e8], by simp [e9], by simp [e10], by simp⟩
  have hcj : c = j := by omega
  subst hcj
  clear ih
  simp (maxSteps := 1000000) (disch := first | assumption | ((try simp only [push_next, put_next, adv_next, List.length_cons, List.length_nil, List.length_map, List.length_set]); omega) | simp) [e9, e13]
  refine G_loop (fun k e h' => ∃ (d : Nat) (U : UaS) (S : WhS) (fp fo : List Nat), k = p - d ∧ d ≤ p ∧ U.i.length = 0 ∧ U.o.length = p - d ∧ U.out.length = d ∧ U.ctl = ctl &&& 3#32 ∧ (p = d → S.L = []) ∧ (d < p → ∃ a, S.L = [a] ∧ 0 ≤ a.at' ∧ a.at' ≤ 8 * (d + 1)) ∧ UU g h' w x 3 S fp fo U ∧ e 0 = u32 ctl ∧ e 7 = ptr w 0 ∧ e 8 = ptr (x + 2) 0 ∧ e 10 = .int .i64 p ∧ e 14 = .int .i64 d) ?_ p _ _ ⟨0, U, S, fp, fo, rfl, Nat.zero_le _, by omega, u2, by rw [u3]; rfl, u4, s0, fun h => by obtain ⟨a, a1, a2, a3⟩ := s1 h; exact ⟨a, a1, a2, by omega⟩, X4, by simp [e0], by simp [e7], by simp [e8], by simp [e10], by simp⟩
  clear X4 u1 u2 u3 u4 e0 e7 e8 e9 e10 e13 s0 s1
  rintro k ih e h5 ⟨d, U, S, fp, fo, rfl, hd, u1, u2, u3, u4, s0, s1, X5, e0, e7, e8, e10, e14⟩
  by_cases hlt : d < p
  · have hli : (d : Int) < p := by omega
    obtain ⟨a, a1, a2, a3⟩ := s1 hlt
    simp (maxSteps := 1000000) (disch := first | assumption | ((try simp only [push_next, put_next, adv_next, List.length_cons, List.length_nil, List.length_map, List.length_set]); omega) | simp) [e7, e8, e10, e14, hli]
    refine uutake X5 a1 (by omega) fun h6 fp6 X6 => ?_
    simp (maxSteps := 1000000) (disch := first | assumption | ((try simp only [push_next, put_next, adv_next, List.length_cons, List.length_nil, List.length_map, List.length_set]); omega) | simp) [e8]
    have X7 := X6.more (h' := h6.push (.cells false [.int .i64 a.at', .int .i64 a.dev, .int .i64 a.seq])) ((Kp.refl h6).push _)
    generalize h6.push (.cells false [.int .i64 a.at', .int .i64 a.dev, .int .i64 a.seq]) = h7 at *
    refine uufire X7 (by omega) fun h8 fp8 fo8 X8 => ?_
    simp (maxSteps := 1000000) (disch := first | assumption | ((try simp only [push_next, put_next, adv_next, List.length_cons, List.length_nil, List.length_map, List.length_set]); omega) | simp) [e14]
    apply ih (p - (d + 1)) (by omega)
    cases hU : U.o with
    | nil => rw [hU] at u2; simp at u2; omega
    | cons y t =>
      rw [hU] at u2
      simp only [List.length_cons] at u2
      have hout : U.out.length < 65536 := by omega
      have hd2 : d < 65536 := by omega
      have hlen : U.o.length = t.length + 1 := by rw [hU]; rfl
      refine ⟨d + 1, _, _, _, _, rfl, by omega, by simp [UaS.fire, hU, u1], by simp [UaS.fire, hU]; omega, by simp [UaS.fire, hU, hd2, u3], by simp [UaS.fire, hU, u4], fun h => ?_, fun h => ?_, X8, by simp [e0], by simp [e7], by simp [e8], by simp [e10], by simp⟩
      · unfold UaS.firew
        rw [if_neg (by omega)]
      · unfold UaS.firew
        rw [if_pos (by omega), arm_nil (by omega)]
        exact ⟨_, rfl, show 0 ≤ a.at' + 8 by omega, show a.at' + 8 ≤ _ by omega⟩
  have hdp : d = p := by omega
  subst hdp
  clear ih
  have ho : U.o = [] := List.length_eq_zero_iff.1 (by omega)
  have hi : U.i = [] := List.length_eq_zero_iff.1 u1
  have hb2 : (ctl &&& 3#32) &&& 2#32 = ctl &&& 2#32 := by rw [BitVec.and_assoc]; rfl
  have hline : U.line = (ctl &&& 2#32 != 0#32) := by
    unfold UaS.line
    rw [u4, hb2, hi, ho]
    simp
  have hL := fun q => uline (q := q) X5.ua
  rw [hline] at hL
  simp (maxSteps := 1000000) (disch := first | assumption | ((try simp only [push_next, put_next, adv_next, List.length_cons, List.length_nil, List.length_map, List.length_set]); omega) | simp) [e8, e0, e10, e14, GC_of hL]
  refine uout X5.ua fun a c h6 S6 K6 => ?_
  rw [u3]
  simp (maxSteps := 1000000) (disch := first | assumption | ((try simp only [push_next, put_next, adv_next, List.length_cons, List.length_nil, List.length_map, List.length_set]); omega) | simp) [e10]
  refine GC_intro uknown fun v h7 ⟨hv, _⟩ => ?_
  subst hv
  simp (maxSteps := 1000000) (disch := first | assumption | ((try simp only [push_next, put_next, adv_next, List.length_cons, List.length_nil, List.length_map, List.length_set]); omega) | simp)
theorem uasks {ctl : BitVec 32} {n m : Int} : WC T n_pianolalaw12_UartAsks [u32 ctl, .int .i64 n, .int .i64 m] g fun v h' => v = .bool true := by
  rw [w_pianolalaw12_UartAsks]
  simp (maxSteps := 1000000) (disch := first | assumption | ((try simp only [push_next, put_next, adv_next, List.length_cons, List.length_nil, List.length_map, List.length_set]); omega) | simp) [GC_of (fun q => wnew)]
  refine unew (by simp) fun h1 A1 K1 n1 => ?_
  simp only [push_next] at A1 n1
  have X1 := UU.made (dv := 3) A1 K1
  simp (maxSteps := 1000000) (disch := first | assumption | ((try simp only [push_next, put_next, adv_next, List.length_cons, List.length_nil, List.length_map, List.length_set]); omega) | simp)
  refine uuwrite X1 (by omega) fun h2 fp2 X2 => ?_
  have e2 : UaS.wr ⟨[], [], false, 0#32, []⟩ 8#32 ctl = ⟨[], [], false, ctl &&& 3#32, []⟩ := rfl
  have f2 : UaS.wrw ⟨[], [], false, 0#32, []⟩ ⟨[], 0⟩ 3 8#32 0 = ⟨[], 0⟩ := rfl
  rw [e2, f2] at X2
  simp (maxSteps := 1000000) (disch := first | assumption | ((try simp only [push_next, put_next, adv_next, List.length_cons, List.length_nil, List.length_map, List.length_set]); omega) | simp) [show uat 8#32 = true from rfl]
  refine within (by omega) (by omega) (by omega) fun i0 i1 i2 => ?_
  obtain ⟨i, rfl⟩ := Int.eq_ofNat_of_zero_le i1
  simp (maxSteps := 1000000) (disch := first | assumption | ((try simp only [push_next, put_next, adv_next, List.length_cons, List.length_nil, List.length_map, List.length_set]); omega) | simp)
  refine within (by omega) (by omega) (by omega) fun o0 o1 o2 => ?_
  obtain ⟨o, rfl⟩ := Int.eq_ofNat_of_zero_le o1
  simp (maxSteps := 1000000) (disch := first | assumption | ((try simp only [push_next, put_next, adv_next, List.length_cons, List.length_nil, List.length_map, List.length_set]); omega) | simp)
  refine G_loop (fun k e h' => ∃ (j : Nat) (U : UaS), k = i - j ∧ j ≤ i ∧ U.i.length = j ∧ U.o = [] ∧ U.out = [] ∧ U.ctl = ctl &&& 3#32 ∧ UU g h' g.next (g.next + 1) 3 ⟨[], 0⟩ fp2 [] U ∧ e 0 = u32 ctl ∧ e 7 = ptr g.next 0 ∧ e 8 = ptr (g.next + 1 + 2) 0 ∧ e 9 = .int .i64 i ∧ e 10 = .int .i64 o ∧ e 11 = .int .i64 j) ?_ i _ _ ⟨0, _, rfl, Nat.zero_le _, rfl, rfl, rfl, rfl, X2, by simp, by simp, by simp, by simp, by simp, by simp⟩
  rintro k ih e h3 ⟨j, U, rfl, hj, u1, u2, u3, u4, X3, e0, e7, e8, e9, e10, e11⟩
  by_cases hlt : j < i
  · have hli : (j : Int) < i := by omega
    simp (maxSteps := 1000000) (disch := first | assumption | ((try simp only [push_next, put_next, adv_next, List.length_cons, List.length_nil, List.length_map, List.length_set]); omega) | simp) [e8, e9, e11, hli]
    refine uutype X3 fun h4 X4 => ?_
    simp (maxSteps := 1000000) (disch := first | assumption | ((try simp only [push_next, put_next, adv_next, List.length_cons, List.length_nil, List.length_map, List.length_set]); omega) | simp) [e11]
    have hc : U.i.length < 16 := by omega
    have hc2 : j < 16 := by omega
    apply ih (i - (j + 1)) (by omega)
    refine ⟨j + 1, _, rfl, by omega, by simp [UaS.typ, hc2, u1], by simp [UaS.typ, hc, u2], by simp [UaS.typ, hc, u3], by simp [UaS.typ, hc, u4], X4, by simp [e0], by simp [e7], by simp [e8], by simp [e9], by simp [e10], by simp [e11]⟩
  obtain rfl : j = i := by omega
  clear ih
  simp (maxSteps := 1000000) (disch := first | assumption | ((try simp only [push_next, put_next, adv_next, List.length_cons, List.length_nil, List.length_map, List.length_set]); omega) | simp) [e9, e11]
  refine G_loop (fun k e h' => ∃ (p : Nat) (U : UaS) (S : WhS) (fp : List Nat), k = o - p ∧ p ≤ o ∧ U.i.length = j ∧ U.o.length = p ∧ U.out = [] ∧ U.ctl = ctl &&& 3#32 ∧ (p = 0 → S.L = []) ∧ (0 < p → ∃ a, S.L = [a] ∧ 0 ≤ a.at' ∧ a.at' ≤ 8) ∧ UU g h' g.next (g.next + 1) 3 S fp [] U ∧ e 0 = u32 ctl ∧ e 7 = ptr g.next 0 ∧ e 8 = ptr (g.next + 1 + 2) 0 ∧ e 9 = .int .i64 j ∧ e 10 = .int .i64 o ∧ e 12 = .int .i64 p) ?_ o _ _ ⟨0, U, _, _, rfl, Nat.zero_le _, u1, by rw [u2]; rfl, u3, u4, fun _ => rfl, fun h => absurd h (by omega), X3, by simp [e0], by simp [e7], by simp [e8], by simp [e9], by simp [e10], by simp⟩
  rintro k ih e h4 ⟨p, U, S, fp, rfl, hp, u1, u2, u3, u4, s0, s1, X4, e0, e7, e8, e9, e10, e12⟩
  by_cases hlt : p < o
  · have hli : (p : Int) < o := by omega
    simp (maxSteps := 1000000) (disch := first | assumption | ((try simp only [push_next, put_next, adv_next, List.length_cons, List.length_nil, List.length_map, List.length_set]); omega) | simp) [e8, e10, e12, hli]
    refine uuwrite X4 (by omega) fun h5 fp5 X5 => ?_
    simp (maxSteps := 1000000) (disch := first | assumption | ((try simp only [push_next, put_next, adv_next, List.length_cons, List.length_nil, List.length_map, List.length_set]); omega) | simp) [e12]
    have hc : U.o.length < 16 := by omega
    have hc2 : p < 16 := by omega
    apply ih (o - (p + 1)) (by omega)
    refine ⟨p + 1, _, _, _, rfl, by omega, by simp [UaS.wr, hc, u1], by simp [UaS.wr, hc2, u2], by simp [UaS.wr, hc, u3], by simp [UaS.wr, hc, u4], fun h => absurd h (by omega), fun _ => ?_, X5, by simp [e0], by simp [e7], by simp [e8], by simp [e9], by simp [e10], by simp [e12]⟩
    by_cases hp0 : p = 0
    · have hS := s0 hp0
      have : U.wrw S 3 0#32 0 = ⟨[⟨8, 3, S.n⟩], IntKind.i64.wrap (S.n + 1)⟩ := by
        unfold UaS.wrw
        rw [if_pos ⟨rfl, by omega⟩]
        obtain ⟨L, n⟩ := S
        simp only at hS
        subst hS
        exact arm_nil (by omega)
      rw [this]
      exact ⟨_, rfl, by simp, by simp⟩
    · have : U.wrw S 3 0#32 0 = S := by
        unfold UaS.wrw
        rw [if_neg (by omega)]
      rw [this]
      exact s1 (by omega)
  obtain rfl : p = o := by omega
  clear ih
  have hb2 : (ctl &&& 3#32) &&& 2#32 = ctl &&& 2#32 := by rw [BitVec.and_assoc]; rfl
  have hb1 : (ctl &&& 3#32) &&& 1#32 = ctl &&& 1#32 := by rw [BitVec.and_assoc]; rfl
  have hline : U.line = ((ctl &&& 1#32 != 0#32 && decide (0 < j)) || (ctl &&& 2#32 != 0#32 && decide (p = 0))) := by
    unfold UaS.line
    rw [u4, hb1, hb2, u1]
    congr 2
    rw [← u2]
    simp
  have hL := fun q => uline (q := q) X4.ua
  rw [hline] at hL
  have key := fun (e' : Env) => uasks2 (e := e') (j := j) (p := p) (by omega) (by omega) u1 u2 u3 u4 s0 s1 X4
  by_cases c1 : ctl &&& 1#32 = 0#32
  · by_cases c2 : ctl &&& 2#32 = 0#32
    · simp only [c1, c2, bne_self_eq_false, Bool.false_and, Bool.or_false] at hL
      simp (maxSteps := 1000000) (disch := first | assumption | ((try simp only [push_next, put_next, adv_next, List.length_cons, List.length_nil, List.length_map, List.length_set]); omega) | simp) [e10, e12, e8, e9, e0, GC_of hL, c1, c2]
      exact key _ (by simp [e0]) (by simp [e7]) (by simp [e8]) (by simp [e9]) (by simp [e10]) (by simp)
    · have b2 : (ctl &&& 2#32 != 0#32) = true := by simpa using c2
      simp only [c1, b2, bne_self_eq_false, Bool.false_and, Bool.false_or, Bool.true_and] at hL
      simp (maxSteps := 1000000) (disch := first | assumption | ((try simp only [push_next, put_next, adv_next, List.length_cons, List.length_nil, List.length_map, List.length_set]); omega) | simp) [e10, e12, e8, e9, e0, GC_of hL, c1, c2]
      exact key _ (by simp [e0]) (by simp [e7]) (by simp [e8]) (by simp [e9]) (by simp [e10]) (by simp)
  · have b1 : (ctl &&& 1#32 != 0#32) = true := by simpa using c1
    by_cases cj : 0 < j
    · simp only [b1, cj, decide_true, Bool.true_and, Bool.true_or] at hL
      have cji : (0 : Int) < j := by omega
      simp (maxSteps := 1000000) (disch := first | assumption | ((try simp only [push_next, put_next, adv_next, List.length_cons, List.length_nil, List.length_map, List.length_set]); omega) | simp) [e10, e12, e8, e9, e0, GC_of hL, c1, cj]
      exact key _ (by simp [e0]) (by simp [e7]) (by simp [e8]) (by simp [e9]) (by simp [e10]) (by simp)
    · have cji : ¬ (0 : Int) < j := by omega
      by_cases c2 : ctl &&& 2#32 = 0#32
      · simp only [b1, cj, c2, decide_false, Bool.true_and, Bool.false_or, bne_self_eq_false, Bool.false_and] at hL
        simp (maxSteps := 1000000) (disch := first | assumption | ((try simp only [push_next, put_next, adv_next, List.length_cons, List.length_nil, List.length_map, List.length_set]); omega) | simp) [e10, e12, e8, e9, e0, GC_of hL, c1, c2, cj]
        exact key _ (by simp [e0]) (by simp [e7]) (by simp [e8]) (by simp [e9]) (by simp [e10]) (by simp)
      · have b2 : (ctl &&& 2#32 != 0#32) = true := by simpa using c2
        simp only [b1, cj, b2, decide_false, Bool.true_and, Bool.false_or] at hL
        simp (maxSteps := 1000000) (disch := first | assumption | ((try simp only [push_next, put_next, adv_next, List.length_cons, List.length_nil, List.length_map, List.length_set]); omega) | simp) [e10, e12, e8, e9, e0, GC_of hL, c1, c2, cj]
        exact key _ (by simp [e0]) (by simp [e7]) (by simp [e8]) (by simp [e9]) (by simp [e10]) (by simp)
end
end Go.Proofs.Ytpdfdemoflofhaa.Cd

/- UartOrder: what it answers. -/
set_option maxRecDepth 1000000
set_option maxHeartbeats 8000000
set_option linter.unusedSimpArgs false
set_option linter.unusedVariables false
namespace Go.Proofs.Ytpdfdemoflofhaa.Cd
open Go Go.Dx
section
variable {g h h' : Hp} {q : Value → Hp → Prop} {w x : Nat} {dv now : Int} {S : WhS} {fp fo : List Nat} {U : UaS} {v : BitVec 32} {b : BitVec 8}
theorem sees_b_at {a : Option Addr} {B : By} (S : Sees encB h a B) {i : Nat} (hi : i < B.length) : ∃ A ro C, a = some A ∧ h.get A.block = some (.cells ro C) ∧ C[A.off + i]? = some (u8 B[i]) := by
  have e : B = B.take i ++ B[i] :: B.drop (i + 1) := by rw [← List.drop_eq_getElem_cons hi, List.take_append_drop]
  have hl : (B.take i).length = i := by simp; omega
  have S' : Sees encB h a (B.take i ++ B[i] :: B.drop (i + 1)) := by rw [← e]; exact S
  obtain ⟨A, ro, C, h1, h2, h3⟩ := S'.cell (f := u8) (fun _ => rfl) rfl
  rw [hl] at h3
  exact ⟨A, ro, C, h1, h2, h3⟩
theorem stat4 : ∀ b1 b2 b3 b4 : Bool, ((ubit b1 1#32 ||| ubit b2 2#32 ||| ubit b3 4#32 ||| ubit b4 8#32) &&& 4#32 != 0#32) = b3 := by decide
theorem stat1 : ∀ b1 b2 b3 b4 : Bool, ((ubit b1 1#32 ||| ubit b2 2#32 ||| ubit b3 4#32 ||| ubit b4 8#32) &&& 1#32 != 0#32) = b1 := by decide
/-- How many went out ahead of a time. -/
def gone (n : Nat) (t : Nat) : Nat := min n ((t + 7) / 8 - 1)
theorem uorder {a a' : Option Addr} {c c' : Nat} {out inp : By} (hs : Sees encB g a out) (hb : out.length ≤ 9223372036854775807) (hc : out.length ≤ c) (hs' : Sees encB g a' inp) (hb' : inp.length ≤ 9223372036854775807) (hc' : inp.length ≤ c') :
    WC T n_pianolalaw12_UartOrder [.slice a out.length c, .slice a' inp.length c'] g fun v h' => v = .bool true := by
  rw [w_pianolalaw12_UartOrder]
  simp (maxSteps := 1000000) (disch := first | assumption | ((try simp only [push_next, put_next, adv_next, List.length_cons, List.length_nil, List.length_map, List.length_set]); omega) | simp) [GC_of (fun q => wnew)]
  refine unew (by simp) fun h1 A1 K1 n1 => ?_
  simp only [push_next] at A1 n1
  have X1 := UU.made (dv := 3) A1 K1
  obtain ⟨n, hn, hn1, hn2⟩ : ∃ n : Nat, (if (16 : Int) < out.length then 16 else (out.length : Int)) = n ∧ n ≤ out.length ∧ n = min out.length 16 := ⟨min out.length 16, by split <;> omega, by omega, rfl⟩
  simp (maxSteps := 1000000) (disch := first | assumption | ((try simp only [push_next, put_next, adv_next, List.length_cons, List.length_nil, List.length_map, List.length_set]); omega) | simp) [hn]
  refine G_loop (fun k e h' => ∃ (i : Nat) (fp : List Nat), k = n - i ∧ i ≤ n ∧ UU g h' g.next (g.next + 1) 3 ⟨if i = 0 then [] else [⟨8, 3, 0⟩], if i = 0 then 0 else 1⟩ fp [] ⟨[], out.take i, false, 0#32, []⟩ ∧ e 0 = .slice a out.length c ∧ e 1 = .slice a' inp.length c' ∧ e 5 = ptr g.next 0 ∧ e 6 = ptr (g.next + 1 + 2) 0 ∧ e 7 = .int .i64 n ∧ e 8 = .int .i64 i) ?_ n _ _ ⟨0, [], rfl, Nat.zero_le _, X1, by simp, by simp, by simp, by simp, by simp, by simp⟩
  rintro k ih e h2 ⟨i, fp2, rfl, hi, X2, e0, e1, e5, e6, e7, e8⟩
  by_cases hlt : i < n
  · have hli : (i : Int) < n := by omega
    obtain ⟨A, ro, C, hA, hg, hC⟩ := sees_b_at (hs.kp X2.kp) (i := i) (by omega)
    subst hA
    have hio : (i : Int) < out.length := by omega
    simp (maxSteps := 1000000) (disch := first | assumption | ((try simp only [push_next, put_next, adv_next, List.length_cons, List.length_nil, List.length_map, List.length_set]); omega) | simp) [e0, e6, e7, e8, hli, hg, hC]
    refine uuwrite X2 (by omega) fun h3 fp3 X3 => ?_
    simp (maxSteps := 1000000) (disch := first | assumption | ((try simp only [push_next, put_next, adv_next, List.length_cons, List.length_nil, List.length_map, List.length_set]); omega) | simp) [e8, show uat 0#32 = true from rfl]
    apply ih (n - (i + 1)) (by omega)
    have hlen : (out.take i).length = i := by simp; omega
    have hi16 : i < 16 := by omega
    have hU : UaS.wr ⟨[], out.take i, false, 0#32, []⟩ 0#32 ((out[i]'(by omega)).setWidth 32) = ⟨[], out.take (i + 1), false, 0#32, []⟩ := by
      have hw : ((out[i]'(by omega)).setWidth 32).setWidth 8 = out[i]'(by omega) := by simp
      simp only [UaS.wr, hlen, hi16, if_true, hw]
      rw [List.take_succ_eq_append_getElem (by omega)]
    have hS : UaS.wrw ⟨[], out.take i, false, 0#32, []⟩ ⟨if i = 0 then [] else [⟨8, 3, 0⟩], if i = 0 then 0 else 1⟩ 3 0#32 0 = ⟨[⟨8, 3, 0⟩], 1⟩ := by
      unfold UaS.wrw
      by_cases h0 : i = 0
      · subst h0
        rfl
      · rw [if_neg (by simp only [hlen]; omega)]
        simp [h0]
    rw [hU, hS] at X3
    exact ⟨i + 1, fp3, rfl, by omega, by simpa using X3, by simp [e0], by simp [e1], by simp [e5], by simp [e6], by simp [e7], by simp⟩
  have hin : i = n := by omega
  clear ih
  simp (maxSteps := 1000000) (disch := first | assumption | ((try simp only [push_next, put_next, adv_next, List.length_cons, List.length_nil, List.length_map, List.length_set]); omega) | simp) [e7, e8, hin]
  subst hin
  have hto : (out.take i).length = i := by simp; omega
  have hS0 : (⟨if i = 0 then [] else [⟨8, 3, 0⟩], if i = 0 then 0 else 1⟩ : WhS) = ⟨if gone i 0 < i then [⟨8 * ((gone i 0 : Nat) + 1), 3, (gone i 0 : Nat)⟩] else [], (min i (gone i 0 + 1) : Nat)⟩ := by
    have : gone i 0 = 0 := by simp [gone]
    rw [this]
    by_cases h0 : i = 0
    · subst h0; rfl
    · rw [if_neg h0, if_neg h0, if_pos (by omega), show min i (0 + 1) = 1 by omega]
      rfl
  rw [hS0] at X2
  refine G_loop (fun k e h' => ∃ (t : Nat) (fp fo : List Nat), k = 200 - t ∧ t ≤ 200 ∧ UU g h' g.next (g.next + 1) 3 ⟨if gone i t < i then [⟨8 * ((gone i t : Nat) + 1), 3, (gone i t : Nat)⟩] else [], (min i (gone i t + 1) : Nat)⟩ fp fo ⟨[], (out.take i).drop (gone i t), false, 0#32, out.take (gone i t)⟩ ∧ e 0 = .slice a out.length c ∧ e 1 = .slice a' inp.length c' ∧ e 5 = ptr g.next 0 ∧ e 6 = ptr (g.next + 1 + 2) 0 ∧ e 7 = .int .i64 i ∧ e 9 = .int .i64 t) ?_ 200 _ _ ⟨0, fp2, [], rfl, by omega, by simpa [gone] using X2, by simp [e0], by simp [e1], by simp [e5], by simp [e6], by simp [e7], by simp⟩
  clear X2 e0 e1 e5 e6 e7 e8
  rintro k ih e h4 ⟨t, fp4, fo4, rfl, ht, X4, e0, e1, e5, e6, e7, e9⟩
  by_cases hlt : t < 200
  · have hli : (t : Int) < 200 := by omega
    by_cases hdue : gone i t < i ∧ 8 * (gone i t + 1) ≤ t
    · obtain ⟨d1, d2⟩ := hdue
      rw [if_pos d1] at X4
      have hgt : t = 8 * (gone i t + 1) := by unfold gone at d1 d2 ⊢; omega
      have hg1 : gone i (t + 1) = gone i t + 1 := by unfold gone at d1 d2 hgt ⊢; omega
      have hmod : (t : Int).tmod 8 = 0 := by rw [Int.tmod_eq_emod_of_nonneg (by omega)]; omega
      have hmod' : (t : Int) % 8 = 0 := by omega
      have ht0 : ¬ (t : Int) = 0 := by omega
      have ht0' : ¬ t = 0 := by omega
      simp (maxSteps := 1000000) (disch := first | assumption | ((try simp only [push_next, put_next, adv_next, List.length_cons, List.length_nil, List.length_map, List.length_set]); omega) | simp) [e5, e9, hli]
      refine uutake X4 rfl (by simp; omega) fun h5 fp5 X5 => ?_
      simp (maxSteps := 1000000) (disch := first | assumption | ((try simp only [push_next, put_next, adv_next, List.length_cons, List.length_nil, List.length_map, List.length_set]); omega) | simp) [e9, e6, hmod, hmod', ht0, ht0']
      have X6 := X5.more (h' := h5.push (.cells false [.int .i64 (8 * ((gone i t : Nat) + 1)), .int .i64 3, .int .i64 (gone i t : Nat)])) ((Kp.refl h5).push _)
      generalize h5.push (.cells false [.int .i64 (8 * ((gone i t : Nat) + 1)), .int .i64 3, .int .i64 (gone i t : Nat)]) = h6 at *
      refine uufire X6 (by omega) fun h7 fp7 fo7 X7 => ?_
      simp (maxSteps := 1000000) (disch := first | assumption | ((try simp only [push_next, put_next, adv_next, List.length_cons, List.length_nil, List.length_map, List.length_set]); omega) | simp) [e9]
      apply ih (200 - (t + 1)) (by omega)
      have hgi : gone i t < (out.take i).length := by omega
      have hgo : gone i t < out.length := by omega
      have hdr : (out.take i).drop (gone i t) = out[gone i t] :: (out.take i).drop (gone i t + 1) := by
        rw [List.drop_eq_getElem_cons hgi]
        simp
      have hU : UaS.fire ⟨[], (out.take i).drop (gone i t), false, 0#32, out.take (gone i t)⟩ = ⟨[], (out.take i).drop (gone i t + 1), false, 0#32, out.take (gone i t + 1)⟩ := by
        have hl : (out.take (gone i t)).length < 65536 := by simp; omega
        rw [hdr]
        simp only [UaS.fire, hl, if_true]
        rw [List.take_succ_eq_append_getElem hgo]
      have hS : UaS.firew ⟨[], (out.take i).drop (gone i t), false, 0#32, out.take (gone i t)⟩ ⟨[], (min i (gone i t + 1) : Nat)⟩ 3 (8 * ((gone i t : Nat) + 1)) = ⟨if gone i (t + 1) < i then [⟨8 * ((gone i (t + 1) : Nat) + 1), 3, (gone i (t + 1) : Nat)⟩] else [], (min i (gone i (t + 1) + 1) : Nat)⟩ := by
        rw [hg1]
        unfold UaS.firew
        have hl : ((out.take i).drop (gone i t)).length = i - gone i t := by simp; omega
        simp only [hl]
        by_cases h2 : gone i t + 1 < i
        · rw [if_pos (by omega), if_pos h2, arm_nil (by omega), wrap_i64 (by omega) (by omega)]
          have e1 : min i (gone i t + 1) = gone i t + 1 := by omega
          have e2 : min i (gone i t + 1 + 1) = gone i t + 1 + 1 := by omega
          rw [e1, e2]
          have e3 : (8 * ((gone i t : Nat) + 1) + 8 : Int) = 8 * (((gone i t + 1 : Nat) : Int) + 1) := by omega
          rw [e3]
          rfl
        · rw [if_neg (by omega), if_neg h2]
          have e1 : min i (gone i t + 1) = min i (gone i t + 1 + 1) := by omega
          rw [e1]
      rw [hU, hS, ← hg1] at X7
      exact ⟨t + 1, fp7, fo7, rfl, by omega, X7, by simp [e0], by simp [e1], by simp [e5], by simp [e6], by simp [e7], by simp⟩
    · have hg1 : gone i (t + 1) = gone i t := by unfold gone at hdue ⊢; omega
      simp (maxSteps := 1000000) (disch := first | assumption | ((try simp only [push_next, put_next, adv_next, List.length_cons, List.length_nil, List.length_map, List.length_set]); omega) | simp) [e5, e9, hli]
      refine uunone X4 (fun ev hev => ?_) fun h5 X5 K5 => ?_
      · by_cases d1 : gone i t < i
        · rw [if_pos d1] at hev
          simp at hev
          subst hev
          show (t : Int) < 8 * ((gone i t : Nat) + 1)
          omega
        · rw [if_neg d1] at hev
          simp at hev
      · simp (maxSteps := 1000000) (disch := first | assumption | ((try simp only [push_next, put_next, adv_next, List.length_cons, List.length_nil, List.length_map, List.length_set]); omega) | simp) [e9]
        have X6 := X5.more (h' := h5.push (.cells false [.int .i64 0, .int .i64 0, .int .i64 0])) ((Kp.refl h5).push _)
        apply ih (200 - (t + 1)) (by omega)
        rw [← hg1] at X6
        exact ⟨t + 1, fp4, fo4, rfl, by omega, X6, by simp [e0], by simp [e1], by simp [e5], by simp [e6], by simp [e7], by simp⟩
  have ht2 : t = 200 := by omega
  subst ht2
  clear ih
  have hg : gone i 200 = i := by unfold gone; omega
  rw [hg] at X4
  have hd0 : (out.take i).drop i = [] := List.drop_eq_nil_of_le (by omega)
  rw [if_neg (by omega), hd0] at X4
  obtain ⟨a2, c2, hsl, hc2, S2⟩ := (hs.kp X4.kp).part (lo := 0) (hi := i) (by omega) (by omega) hc (l := none) (u := some (.int .i64 i)) (.inl ⟨rfl, rfl⟩) (.inr ⟨.i64, rfl⟩)
  simp only [encB_sz, Nat.sub_zero, List.drop_zero] at hsl S2
  have b1 := b2sV_sees (c := c2) S2
  rw [hto] at b1
  simp (maxSteps := 1000000) (disch := first | assumption | ((try simp only [push_next, put_next, adv_next, List.length_cons, List.length_nil, List.length_map, List.length_set]); omega) | simp) [e0, e6, e7, e9, hsl, b1]
  refine uout X4.ua fun a3 c3 h5 S3 K5 => ?_
  have b2 := b2sV_sees (c := c3) S3
  have b3 := b2sV_sees (c := c2) (S2.kp K5)
  rw [hto] at b2 b3
  simp only [hto]
  obtain ⟨k, hk, hk1, hk2⟩ : ∃ k : Nat, (if (30 : Int) < inp.length then 30 else (inp.length : Int)) = k ∧ k ≤ inp.length ∧ k ≤ 30 := ⟨min inp.length 30, by split <;> omega, by omega, by omega⟩
  simp (maxSteps := 1000000) (disch := first | assumption | ((try simp only [push_next, put_next, adv_next, List.length_cons, List.length_nil, List.length_map, List.length_set]); omega) | simp) [b2, b3, e1, hk]
  refine ⟨by simp [strB, veq, veqF], ?_⟩
  have X5 := X4.more K5
  refine G_loop (fun m e h' => ∃ j : Nat, m = k - j ∧ j ≤ k ∧ UU g h' g.next (g.next + 1) 3 ⟨[], (min i (i + 1) : Nat)⟩ fp4 fo4 ⟨inp.take (min j 16), [], decide (16 < j), 0#32, out.take i⟩ ∧ e 1 = .slice a' inp.length c' ∧ e 6 = ptr (g.next + 1 + 2) 0 ∧ e 12 = .int .i64 k ∧ e 13 = .int .i64 j) ?_ k _ _ ⟨0, rfl, Nat.zero_le _, by simpa using X5, by simp [e1], by simp [e6], by simp, by simp⟩
  clear e0 e1 e5 e6 e7 e9
  rintro m ih e h6 ⟨j, rfl, hj, X6, e1, e6, e12, e13⟩
  by_cases hlt3 : j < k
  · have hli : (j : Int) < k := by omega
    obtain ⟨A, ro, C, hA, hgA, hC⟩ := sees_b_at (hs'.kp X6.kp) (i := j) (by omega)
    subst hA
    have hjo : (j : Int) < inp.length := by omega
    simp (maxSteps := 1000000) (disch := first | assumption | ((try simp only [push_next, put_next, adv_next, List.length_cons, List.length_nil, List.length_map, List.length_set]); omega) | simp) [e1, e6, e12, e13, hli, hgA, hC]
    refine uutype X6 fun h7 X7 => ?_
    simp (maxSteps := 1000000) (disch := first | assumption | ((try simp only [push_next, put_next, adv_next, List.length_cons, List.length_nil, List.length_map, List.length_set]); omega) | simp) [e13]
    apply ih (k - (j + 1)) (by omega)
    have hjl : j < inp.length := by omega
    have hU : UaS.typ ⟨inp.take (min j 16), [], decide (16 < j), 0#32, out.take i⟩ (inp[j]'hjl) = ⟨inp.take (min (j + 1) 16), [], decide (16 < j + 1), 0#32, out.take i⟩ := by
      have hl : (inp.take (min j 16)).length = min j 16 := by simp; omega
      by_cases hj16 : j < 16
      · have m1 : min j 16 = j := by omega
        have m2 : min (j + 1) 16 = j + 1 := by omega
        have d1 : ¬ 16 < j := by omega
        have d2 : ¬ 16 < j + 1 := by omega
        rw [m1] at hl
        simp only [UaS.typ, m1, m2, hl, hj16, if_true, d1, d2, decide_false]
        rw [List.take_succ_eq_append_getElem hjl]
      · have m1 : min j 16 = 16 := by omega
        have m2 : min (j + 1) 16 = 16 := by omega
        have d2 : 16 < j + 1 := by omega
        rw [m1] at hl
        simp only [UaS.typ, m1, m2, hl, Nat.lt_irrefl, if_false, d2, decide_true]
    rw [hU] at X7
    exact ⟨j + 1, rfl, by omega, X7, by simp [e1], by simp [e6], by simp [e12], by simp⟩
  have hjk : j = k := by omega
  subst hjk
  clear ih
  simp (maxSteps := 1000000) (disch := first | assumption | ((try simp only [push_next, put_next, adv_next, List.length_cons, List.length_nil, List.length_map, List.length_set]); omega) | simp) [e12, e13, e6]
  refine uuread X6 fun h7 X7 => ?_
  have s4 : (UaS.rd ⟨inp.take (min j 16), [], decide (16 < j), 0#32, out.take i⟩ 4#32 &&& 4#32 != 0#32) = decide (16 < j) := stat4 ..
  have s1 : (UaS.rd ⟨inp.take (min j 16), [], decide (16 < j), 0#32, out.take i⟩ 4#32 &&& 1#32 != 0#32) = decide (0 < j) := by
    refine (stat1 ..).trans ?_
    have hl : (inp.take (min j 16)).length = min j 16 := by simp; omega
    simp only [hl]
    congr 1
    apply propext
    omega
  have hr : UaS.rds ⟨inp.take (min j 16), [], decide (16 < j), 0#32, out.take i⟩ 4#32 = ⟨inp.take (min j 16), [], decide (16 < j), 0#32, out.take i⟩ := rfl
  rw [hr] at X7
  generalize UaS.rd ⟨inp.take (min j 16), [], decide (16 < j), 0#32, out.take i⟩ 4#32 = st at *
  have i4 : (16 : Int) < j ↔ 16 < j := by omega
  have i1 : (0 : Int) < j ↔ 0 < j := by omega
  simp (maxSteps := 1000000) (disch := first | assumption | ((try simp only [push_next, put_next, adv_next, List.length_cons, List.length_nil, List.length_map, List.length_set]); omega) | simp) [e6, e12, s4, s1, i4, i1, -g10_pianolalaw12_UartOrder]
  obtain ⟨N, hN, hN1⟩ : ∃ N : Nat, (if (16 : Int) < j then 16 else (j : Int)) = N ∧ N = min j 16 := ⟨min j 16, by split <;> omega, rfl⟩
  rw [← hN1] at X7
  have hNl : (inp.take N).length = N := by simp; omega
  refine G_loop (fun m e h' => ∃ p : Nat, m = N - p ∧ p ≤ N ∧ UU g h' g.next (g.next + 1) 3 ⟨[], (min i (i + 1) : Nat)⟩ fp4 fo4 ⟨(inp.take N).drop p, [], decide (16 < j), 0#32, out.take i⟩ ∧ e 1 = .slice a' inp.length c' ∧ e 6 = ptr (g.next + 1 + 2) 0 ∧ e 12 = .int .i64 j ∧ e 16 = .int .i64 p) ?_ N _ _ ⟨0, rfl, Nat.zero_le _, by simpa using X7, by simp [e1], by simp [e6], by simp [e12], by simp⟩
  clear e1 e6 e12 e13 X6 X7
  rintro m ih e h8 ⟨p, rfl, hp, X8, e1, e6, e12, e16⟩
  by_cases hlt4 : p < N
  · have hli : (p : Int) < N := by omega
    obtain ⟨A, ro, C, hA, hgA, hC⟩ := sees_b_at (hs'.kp X8.kp) (i := p) (by omega)
    have hpl : p < inp.length := by omega
    have hdr : (inp.take N).drop p = inp[p]'hpl :: (inp.take N).drop (p + 1) := by
      rw [List.drop_eq_getElem_cons (by omega)]
      simp
    have hrd : UaS.rd ⟨(inp.take N).drop p, [], decide (16 < j), 0#32, out.take i⟩ 0#32 = (inp[p]'hpl).setWidth 32 := by rw [hdr]; rfl
    have hrs : UaS.rds ⟨(inp.take N).drop p, [], decide (16 < j), 0#32, out.take i⟩ 0#32 = ⟨(inp.take N).drop (p + 1), [], decide (16 < j), 0#32, out.take i⟩ := by rw [hdr]; rfl
    subst hA
    have hpo : (p : Int) < inp.length := by omega
    simp (maxSteps := 1000000) (disch := first | assumption | ((try simp only [push_next, put_next, adv_next, List.length_cons, List.length_nil, List.length_map, List.length_set]); omega) | simp) [e6, e12, e16, hN, hli]
    refine uuread X8 fun h9 X9 => ?_
    rw [hrd]
    rw [hrs] at X9
    obtain ⟨A2, ro2, C2, hA2, hgA2, hC2⟩ := sees_b_at (hs'.kp X9.kp) (i := p) (by omega)
    cases hA2
    simp (maxSteps := 1000000) (disch := first | assumption | ((try simp only [push_next, put_next, adv_next, List.length_cons, List.length_nil, List.length_map, List.length_set]); omega) | simp) [e1, e16, show uat 0#32 = true from rfl, hgA2, hC2]
    apply ih (N - (p + 1)) (by omega)
    exact ⟨p + 1, rfl, by omega, X9, by simp [e1], by simp [e6], by simp [e12], by simp⟩
  have hpN : p = N := by omega
  clear ih
  have hnil : (inp.take N).drop p = [] := List.drop_eq_nil_of_le (by omega)
  rw [hnil] at X8
  have hli : ¬ (p : Int) < N := by omega
  simp (maxSteps := 1000000) (disch := first | assumption | ((try simp only [push_next, put_next, adv_next, List.length_cons, List.length_nil, List.length_map, List.length_set]); omega) | simp) [e6, e12, e16, hN, hli]
  refine uuread X8 fun h9 X9 => ?_
  have hrd : UaS.rd ⟨[], [], decide (16 < j), 0#32, out.take i⟩ 0#32 = 256#32 := rfl
  rw [hrd]
  simp (maxSteps := 1000000) (disch := first | assumption | ((try simp only [push_next, put_next, adv_next, List.length_cons, List.length_nil, List.length_map, List.length_set]); omega) | simp)
  refine GC_intro uknown fun v h10 ⟨hv, _⟩ => ?_
  subst hv
  simp (maxSteps := 1000000) (disch := first | assumption | ((try simp only [push_next, put_next, adv_next, List.length_cons, List.length_nil, List.length_map, List.length_set]); omega) | simp)
end
end Go.Proofs.Ytpdfdemoflofhaa.Cd
