/- Texts of one kind, one behind the other. -/
import Derived.Test.YtoiiphcbkejliaaGreatMd3
import Derived.Test.YtoiiphcbkejliaaGreatMcz0
import Derived.Test.YtoiiphcbkejliaaGreatMcy0
/- What many stand on: numbers brought into bounds; new rows; copies of bytes. -/
set_option maxRecDepth 1000000
set_option maxHeartbeats 8000000
set_option linter.unusedSimpArgs false
set_option linter.unusedVariables false
namespace Go.Proofs.YtoiiphcbkejliaaGreat.Cd
open Go Go.Dx
theorem sees_new {α : Type} {E : Enc α} {h : Hp} {b : Nat} {ro : Bool} {xs : List α} {C : List Value} (hg : h.get b = some (.cells ro C)) (hC : C = E.all xs) : Sees E h (some ⟨b, 0, none⟩) xs := by
  subst hC
  exact ⟨fun hA => (by cases hA), fun A hA => by cases hA; exact rdn_all hg (by simp), fun A hA => by cases hA; exact .inl rfl⟩
theorem sees_lt {α : Type} {E : Enc α} {h : Hp} {a : Option Addr} {xs : List α} (x : Sees E h a xs) : ∀ A, a = some A → A.block < h.next := fun A hA => lt_of_rdn (x.get A hA)
section
variable {h : Hp} {q : Value → Hp → Prop}
theorem within_eq {n lo hi : Int} (h0 : -1000000000000000 ≤ lo) (h1 : lo ≤ hi) (h2 : hi ≤ 4000000000000000000) : WC T n_4a [.int .i64 n, .int .i64 lo, .int .i64 hi] h q ↔ q (.int .i64 (wi n lo hi)) h := by
  rw [w_4a]
  have hne : hi - lo + 1 ≠ 0 := by omega
  have he := tmod_emod (n := n) (m := hi - lo + 1) (by omega)
  have hw : n.tmod (hi - lo + 1) < hi - lo + 1 := Int.tmod_lt_of_pos _ (by omega)
  have hw' : - (hi - lo + 1) < n.tmod (hi - lo + 1) := by
    have := Int.tmod_lt_of_pos (-n) (show 0 < hi - lo + 1 by omega)
    rw [Int.neg_tmod] at this
    omega
  unfold wi
  by_cases c1 : lo ≤ n
  · by_cases c2 : n ≤ hi
    · simp (maxSteps:=9^7)(disch:=first|assumption|((try simp only[nX]);omega)|simp) [c1, c2]
    · by_cases c3 : n.tmod (hi - lo + 1) < 0
      · simp (maxSteps:=9^7)(disch:=first|assumption|((try simp only[nX]);omega)|simp) [c1, c2, c3, hne]
        rw [he, if_pos c3]
        have e : lo + (n.tmod (hi - lo + 1) + hi - lo + 1) = lo + (n.tmod (hi - lo + 1) + (hi - lo + 1)) := by omega
        rw [e]
      · simp (maxSteps:=9^7)(disch:=first|assumption|((try simp only[nX]);omega)|simp) [c1, c2, c3, hne]
        rw [he, if_neg c3]
  · by_cases c3 : n.tmod (hi - lo + 1) < 0
    · simp (maxSteps:=9^7)(disch:=first|assumption|((try simp only[nX]);omega)|simp) [c1, c3, hne]
      rw [he, if_pos c3]
      have e : lo + (n.tmod (hi - lo + 1) + hi - lo + 1) = lo + (n.tmod (hi - lo + 1) + (hi - lo + 1)) := by omega
      rw [e]
    · simp (maxSteps:=9^7)(disch:=first|assumption|((try simp only[nX]);omega)|simp) [c1, c3, hne]
      rw [he, if_neg c3]
end
section
variable {h : Hp} {a a' : Option Addr} {c c' : Nat} {xs ys : List (BitVec 8)}
theorem clone_by {q : Value → Hp → Prop} (hs : Sees encB h a xs) (hb : xs.length < 2 ^ 40) (hq : ∀ a' c' h', Sees encB h' a' xs → Kp h h' → (∀ A, a' = some A → h.next ≤ A.block) → (xs = [] ∨ ∃ fp, Own encB h' (.slice a' xs.length c') xs fp ∧ ∀ b ∈ fp, h.next ≤ b) → q (.slice a' xs.length c') h') : WC T n_8e [.slice a xs.length c] h q := by
  rw [w_8e]
  cases a with
  | none =>
    have := hs.nil rfl
    subst this
    simp (maxSteps:=9^7)(disch:=first|assumption|((try simp only[nX]);omega)|simp) [isNil]
    exact hq none 0 h Sees.nul (.refl _) (fun A hA => (by cases hA)) (.inl rfl)
  | some A =>
    simp (maxSteps:=9^7)(disch:=first|assumption|((try simp only[nX]);omega)|simp) [isNil]
    have K1 : Kp h (h.push (.cells false [])) := (Kp.refl h).push _
    have he := (hs.kp K1).elems (c := c)
    by_cases h0 : xs.length = 0
    · have : xs = [] := List.length_eq_zero_iff.1 h0
      subst this
      have e : appendV (h.push (.cells false [])) 1 1 (.slice (some ⟨h.next, 0, none⟩) 0 0) (.slice (some A) 0 c) = some (.slice (some ⟨h.next, 0, none⟩) 0 0, h.push (.cells false [])) := by
        have he' : elems (h.push (.cells false [])) 1 0 (.slice (some A) 0 c) = some [] := he
        simp [appendV, lenV, he']
      simp only [List.length_nil, e]
      simp (maxSteps:=9^7)(disch:=first|assumption|((try simp only[nX]);omega)|simp)
      refine hq _ 0 _ ⟨fun hA => (by cases hA), fun B hB => ?_, fun B hB => (by cases hB; first | exact .inl rfl | exact .inr rfl)⟩ K1 (fun A hA => by cases hA; exact Nat.le_refl _) (.inl rfl)
      cases hB
      simp [Hp.rdn, get_push_self]
    · have e : appendV (h.push (.cells false [])) 1 1 (.slice (some ⟨h.next, 0, none⟩) 0 0) (.slice (some A) xs.length c) = some (.slice (some ⟨h.next + 1, 0, some 1⟩) xs.length xs.length, (h.push (.cells false [])).push (.cells false (encB.all xs))) := by
        have he' : elems (h.push (.cells false [])) 1 xs.length (.slice (some A) xs.length c) = some (encB.all xs) := he
        have hl : (encB.all xs).length = xs.length * 1 := encB.all_length xs
        simp only [appendV, lenV, he', hl, if_true, Nat.zero_add]
        rw [if_neg (by omega), if_pos ⟨by omega, by omega⟩]
        simp [Hp.rdn, get_push_self]
      rw [e]
      simp (maxSteps:=9^7)(disch:=first|assumption|((try simp only[nX]);omega)|simp)
      refine hq _ _ _ ⟨fun hA => (by cases hA), fun B hB => ?_, fun B hB => (by cases hB; first | exact .inl rfl | exact .inr rfl)⟩ (K1.push _) (fun A hA => by cases hA; simp) (.inr ⟨_, .blk (E := encB) (r := []) (by rw [show h.next + 1 = (h.push (.cells false [])).next from rfl, get_push_self]; simp) rfl (Nat.le_refl _) (by omega) (by simp), by simp⟩)
      cases hB
      simp only [Hp.rdn, Hp.cells, show h.next + 1 = (h.push (.cells false [])).next from rfl, get_push_self, Option.bind_some, Nat.zero_add]
      rw [if_pos (by simp), List.drop_zero, List.take_of_length_le (by simp)]
end
end Go.Proofs.YtoiiphcbkejliaaGreat.Cd

/- shell: scripts as bytes, written and read; the document's own. -/
set_option maxRecDepth 1000000
set_option maxHeartbeats 8000000
set_option linter.unusedSimpArgs false
set_option linter.unusedVariables false
namespace Go.Proofs.YtoiiphcbkejliaaGreat.Cd
open Go Go.Dx
section
variable {h h' : Hp} {q : Value → Hp → Prop} {k n : Int}
theorem s_asks : WC T n_88 [.int .i64 k] h q ↔ q (.bool (askk k)) h := by
  rw [w_88]
  unfold askk
  by_cases c1 : k = 1
  · simp (maxSteps:=9^7)(disch:=first|assumption|((try simp only[nX]);omega)|simp) [c1]
  by_cases c2 : k = 2
  · simp (maxSteps:=9^7)(disch:=first|assumption|((try simp only[nX]);omega)|simp) [c1, c2]
  by_cases c5 : k = 5
  · simp (maxSteps:=9^7)(disch:=first|assumption|((try simp only[nX]);omega)|simp) [c1, c2, c5]
  · simp (maxSteps:=9^7)(disch:=first|assumption|((try simp only[nX]);omega)|simp) [c1, c2, c5]
theorem p_asks : WC T n_4r [.int .i64 k] h q ↔ q (.bool (askk k)) h := by
  rw [w_4r]
  unfold askk
  by_cases c1 : k = 1
  · simp (maxSteps:=9^7)(disch:=first|assumption|((try simp only[nX]);omega)|simp) [c1]
  by_cases c2 : k = 2
  · simp (maxSteps:=9^7)(disch:=first|assumption|((try simp only[nX]);omega)|simp) [c1, c2]
  by_cases c5 : k = 5
  · simp (maxSteps:=9^7)(disch:=first|assumption|((try simp only[nX]);omega)|simp) [c1, c2, c5]
  · simp (maxSteps:=9^7)(disch:=first|assumption|((try simp only[nX]);omega)|simp) [c1, c2, c5]
theorem s_is : WC T n_8a [.int .i64 k] h q ↔ q (.bool (isk k)) h := by
  rw [w_8a]
  unfold isk
  by_cases c1 : 1 ≤ k
  · by_cases c2 : k ≤ 5
    · simp (maxSteps:=9^7)(disch:=first|assumption|((try simp only[nX]);omega)|simp) [c1, c2]
    · simp (maxSteps:=9^7)(disch:=first|assumption|((try simp only[nX]);omega)|simp) [c1, c2]
  · simp (maxSteps:=9^7)(disch:=first|assumption|((try simp only[nX]);omega)|simp) [c1]
theorem s_may {x : Itm} : WC T n_8b [.agg #[.int .i64 x.k, .int .i64 x.n]] h q ↔ q (.bool (mayI x)) (h.push (.cells false [.int .i64 x.k, .int .i64 x.n])) := by
  have hi := fun h q => s_is (h := h) (q := q) (k := x.k)
  have ha := fun h q => s_asks (h := h) (q := q) (k := x.k)
  rw [w_8b]
  unfold mayI
  cases hk : isk x.k with
  | false =>
    simp only [hk] at hi
    simp (maxSteps:=9^7)(disch:=first|assumption|((try simp only[nX]);omega)|simp) [GC_of (hi _)]
  | true =>
    simp only [hk] at hi
    cases hk2 : askk x.k with
    | false =>
      simp only [hk2] at ha
      simp (maxSteps:=9^7)(disch:=first|assumption|((try simp only[nX]);omega)|simp) [GC_of (hi _), GC_of (ha _)]
    | true =>
      simp only [hk2] at ha
      by_cases c1 : 0 ≤ x.n
      · by_cases c2 : x.n ≤ 65535
        · simp (maxSteps:=9^7)(disch:=first|assumption|((try simp only[nX]);omega)|simp) [GC_of (hi _), GC_of (ha _), c1, c2]
        · simp (maxSteps:=9^7)(disch:=first|assumption|((try simp only[nX]);omega)|simp) [GC_of (hi _), GC_of (ha _), c1, c2]
      · simp (maxSteps:=9^7)(disch:=first|assumption|((try simp only[nX]);omega)|simp) [GC_of (hi _), GC_of (ha _), c1]
end
/-- Bytes that grow: a literal at first, a row of its own later. -/
def Bw (h : Hp) (v : Value) (xs : By) (fp : List Nat) : Prop :=
  (∃ b, v = .slice (some ⟨b, 0, none⟩) xs.length xs.length ∧ h.get b = some (.cells false (xs.map u8)) ∧ fp = [b]) ∨ Own encB h v xs fp
section
variable {h h' : Hp} {v : Value} {xs ys : By} {fp : List Nat}
theorem Bw.kp (o : Bw h v xs fp) (K : Kp h h') : Bw h' v xs fp := by
  rcases o with ⟨b, h1, h2, h3⟩ | o
  · exact .inl ⟨b, h1, (K.get _ (lt_of_get h2)).trans h2, h3⟩
  · exact .inr (o.kp K)
theorem Bw.live (o : Bw h v xs fp) : ∀ b ∈ fp, b < h.next := by
  rcases o with ⟨b, h1, h2, h3⟩ | o
  · subst h3; simp; exact lt_of_get h2
  · exact o.live
theorem GV_appB {Q : Ex → Env → Hp → Prop} {kf : List Fr} {e : Env} {d : Option Nat} {l : List O} {a : Option Addr} {m c : Nat} (o : Bw h v xs fp) (hy : Sees encB h a ys) (hm : m = ys.length) (h0 : 0 < ys.length) (hs : xs.length + ys.length < 2 ^ 40)
    (H : ∀ v' h' fp', Own encB h' v' (xs ++ ys) fp' → Upd h h' fp fp' → GO T Q l kf (put e d v') h') : GV T Q (appendV h 1 1 v (.slice a m c)) d l kf e := by
  rcases o with ⟨b, rfl, h2, rfl⟩ | o
  · subst hm
    have hr := (sees_b h2).get _ rfl
    have he := hy.elems (c := c)
    simp only [encB_sz, encB_all] at hr he
    have ha : appendV h 1 1 (.slice (some ⟨b, 0, none⟩) xs.length xs.length) (.slice a ys.length c) = some (.slice (some ⟨h.next, 0, some 1⟩) (xs.length + ys.length) (xs.length + ys.length), h.push (.cells false (xs.map u8 ++ ys.map u8))) := by
      simp only [appendV, lenV, he]
      rw [if_pos (by simp), if_neg (by omega), if_pos ⟨by omega, by omega⟩]
      simp only [hr]
    rw [ha]
    refine H _ _ [h.next] (.blk (E := encB) (r := []) (by rw [get_push_self, encB_all]; simp) (by simp) (Nat.le_refl _) (by omega) (by simp)) ⟨by simp, fun c hc _ => get_push_ne (by omega), by simp⟩
  · exact GV_app (E := encB) (bytes := 1) o hy hm (by omega) (by omega) H
theorem s_text {t : By} {a : Option Addr} {c : Nat} (o : Bw h v xs fp) (S : Sees encB h a t) (hl : xs.length < 2 ^ 38) (ht : t.length < 2 ^ 38) (hd : ∀ A, a = some A → A.block ∉ fp) : WC T n_8c [v, .slice a t.length c] h fun v' h' => ∃ fp', Own encB h' v' (xs ++ (by2 t.length ++ t)) fp' ∧ Upd h h' fp fp' := by
  rw [w_8c]
  have hsh : (t.length : Int).fdiv 256 = (t.length : Int) / 256 := Int.fdiv_eq_ediv_of_nonneg _ (by omega)
  simp (maxSteps:=9^7)(disch:=first|assumption|((try simp only[nX]);omega)|simp) [hsh]
  have K := (Kp.refl h).push (.cells false [u8 (BitVec.ofInt 8 ((t.length : Int) / 256)), u8 (BitVec.ofInt 8 t.length)])
  refine GV_appB (o.kp K) (ys := by2 t.length) (sees_b (ro := false) get_push_self) rfl (by simp [by2]) (by simp [by2]; omega) fun v1 h1 fp1 O U => ?_
  have U1 := (K.upd fp).trans U
  have S1 := S.upd U1 hd
  simp (maxSteps:=9^7)(disch:=first|assumption|((try simp only[nX]);omega)|simp)
  refine GV_app (E := encB) (bytes := 1) O S1 rfl (by simp [by2]; omega) (by simp [by2]; omega) fun v2 h2 fp2 O2 U2 => ?_
  simp (maxSteps:=9^7)(disch:=first|assumption|((try simp only[nX]);omega)|simp)
  exact ⟨fp2, by rw [← List.append_assoc]; exact O2, U1.trans U2⟩
end
end Go.Proofs.YtoiiphcbkejliaaGreat.Cd
