/- Rows of things in memory: those that are read, those that are owned. -/
import Derived.Test.YtppgoobhlcdbbaaSx7
set_option linter.unusedSimpArgs false
set_option linter.unusedVariables false
namespace Go.Dx
open Go

/-- How a thing lies in cells. -/
structure Enc (α : Type) where
  sz : Nat
  enc : α → List Value
  len : ∀ x, (enc x).length = sz
  one : ∀ x, (enc x).all one = true
  pos : 0 < sz
section
variable {α : Type} (E : Enc α)
def Enc.all (xs : List α) : List Value := xs.flatMap E.enc
@[simp] theorem Enc.all_nil : E.all [] = [] := rfl
@[simp] theorem Enc.all_cons (x : α) (xs : List α) : E.all (x :: xs) = E.enc x ++ E.all xs := rfl
@[simp] theorem Enc.all_append (xs ys : List α) : E.all (xs ++ ys) = E.all xs ++ E.all ys := by simp [Enc.all]
@[simp] theorem Enc.all_length (xs : List α) : (E.all xs).length = xs.length * E.sz := by
  induction xs with
  | nil => simp
  | cons x xs ih => simp [ih, E.len, Nat.add_mul, Nat.add_comm]
theorem Enc.all_one (xs : List α) : (E.all xs).all Dx.one = true := by
  induction xs with
  | nil => rfl
  | cons x xs ih => simp only [Enc.all_cons, List.all_append, ih, E.one, Bool.and_true]
theorem Enc.take (xs : List α) (r : List Value) (k : Nat) (hk : k ≤ xs.length) : (E.all xs ++ r).take (k * E.sz) = E.all (xs.take k) := by
  have h1 : (E.all (xs.take k)).length = k * E.sz := by simp [Nat.min_eq_left hk]
  have h2 : E.all xs = E.all (xs.take k) ++ E.all (xs.drop k) := by rw [← Enc.all_append, List.take_append_drop]
  rw [h2, List.append_assoc, ← h1, List.take_left]
theorem Enc.drop (xs : List α) (r : List Value) (k : Nat) (hk : k ≤ xs.length) : (E.all xs ++ r).drop (k * E.sz) = E.all (xs.drop k) ++ r := by
  have h1 : (E.all (xs.take k)).length = k * E.sz := by simp [Nat.min_eq_left hk]
  have h2 : E.all xs = E.all (xs.take k) ++ E.all (xs.drop k) := by rw [← Enc.all_append, List.take_append_drop]
  rw [h2, List.append_assoc, ← h1, List.drop_left]
theorem Enc.part (xs : List α) (r : List Value) (k n : Nat) (hk : k + n ≤ xs.length) : ((E.all xs ++ r).drop (k * E.sz)).take (n * E.sz) = E.all ((xs.drop k).take n) := by
  rw [E.drop _ _ _ (by omega), E.take _ _ _ (by simp; omega)]
theorem Enc.at' (xs : List α) (r : List Value) (k : Nat) (hk : k < xs.length) : ((E.all xs ++ r).drop (k * E.sz)).take E.sz = E.enc xs[k] := by
  have := E.part xs r k 1 (by omega)
  rw [Nat.one_mul] at this
  rw [this, List.drop_eq_getElem_cons hk, List.take_succ_cons, List.take_zero]
  simp
theorem Enc.over (xs ys : List α) (r : List Value) (k : Nat) (hk : k + ys.length ≤ xs.length) : over (E.all xs ++ r) (k * E.sz) (E.all ys) = E.all (xs.take k ++ ys ++ xs.drop (k + ys.length)) ++ r := by
  unfold Dx.over
  rw [E.all_length, ← Nat.add_mul, E.take _ _ _ (by omega), E.drop _ _ _ hk]
  simp
theorem Enc.set (xs : List α) (y : α) (r : List Value) (k : Nat) (hk : k < xs.length) : Dx.over (E.all xs ++ r) (k * E.sz) (E.enc y) = E.all (xs.set k y) ++ r := by
  have := E.over xs [y] r k (by simp; omega)
  simp only [Enc.all_cons, Enc.all_nil, List.append_nil, List.length_cons, List.length_nil, Nat.zero_add] at this
  rw [this, List.set_eq_take_append_cons_drop, if_pos hk]
  simp
end

/-- What changed: only these blocks, which became those, and new ones. -/
structure Upd (h h' : Hp) (fp fp' : List Nat) : Prop where
  le : h.next ≤ h'.next
  get : ∀ b, b < h.next → b ∉ fp → h'.get b = h.get b
  sub : ∀ b, b ∈ fp' → b ∈ fp ∨ h.next ≤ b
theorem Upd.refl {h : Hp} {fp : List Nat} : Upd h h fp fp := ⟨Nat.le_refl _, fun _ _ _ => rfl, fun _ hb => .inl hb⟩
theorem Upd.trans {a b c : Hp} {p q r : List Nat} (x : Upd a b p q) (y : Upd b c q r) : Upd a c p r := ⟨Nat.le_trans x.le y.le, fun k hk hn => by
  rw [y.get k (Nat.lt_of_lt_of_le hk x.le), x.get k hk hn]
  intro hq
  rcases x.sub k hq with h1 | h1
  · exact hn h1
  · omega, fun k hk => by
  rcases y.sub k hk with h1 | h1
  · exact x.sub k h1
  · exact .inr (Nat.le_trans x.le h1)⟩
theorem Upd.kp {h h' : Hp} {fp' : List Nat} (x : Upd h h' [] fp') : Kp h h' := ⟨x.le, fun b hb => x.get b hb (by simp)⟩
theorem Upd.kp' {g h h' : Hp} {fp fp' : List Nat} (x : Upd h h' fp fp') (k : Kp g h) (hfp : ∀ b ∈ fp, g.next ≤ b) : Kp g h' := ⟨Nat.le_trans k.le x.le, fun b hb => by
  rw [x.get b (Nat.lt_of_lt_of_le hb k.le) (fun hm => by have := hfp b hm; omega), k.get b hb]⟩

/-- A slice that is read. -/
structure Sees {α : Type} (E : Enc α) (h : Hp) (a : Option Addr) (xs : List α) : Prop where
  nil : a = none → xs = []
  get : ∀ A, a = some A → h.rdn A.block A.off (xs.length * E.sz) = some (E.all xs)
  sp : ∀ A, a = some A → A.spot = none ∨ A.spot = some E.sz
theorem rdn_kp {g h : Hp} {b o n : Nat} {c : List Value} (hr : g.rdn b o n = some c) (hg : h.get b = g.get b) : h.rdn b o n = some c := by
  rw [← hr]
  simp only [Hp.rdn, Hp.cells, hg]
theorem rdn_part {h : Hp} {b o m : Nat} {c : List Value} (hr : h.rdn b o m = some c) {k n : Nat} (hk : k + n ≤ m) : h.rdn b (o + k) n = some ((c.drop k).take n) := by
  simp only [Hp.rdn, Option.bind_eq_some_iff] at hr ⊢
  obtain ⟨l, h1, h2⟩ := hr
  split at h2
  · cases h2
    refine ⟨l, h1, ?_⟩
    rw [if_pos (by omega)]
    congr 1
    rw [List.drop_take, List.drop_drop, List.take_take, Nat.min_eq_left (by omega)]
  · cases h2
theorem Sees.at' {α : Type} {E : Enc α} {h : Hp} {a : Option Addr} {xs : List α} (x : Sees E h a xs) (i : Nat) (hi : i < xs.length) : ∃ A, a = some A ∧ h.rdn A.block (A.off + i * E.sz) E.sz = some (E.enc xs[i]) := by
  cases a with
  | none => rw [x.nil rfl] at hi; cases hi
  | some A =>
    refine ⟨A, rfl, ?_⟩
    have hm : (i + 1) * E.sz ≤ xs.length * E.sz := Nat.mul_le_mul_right _ hi
    rw [Nat.add_mul, Nat.one_mul] at hm
    rw [rdn_part (x.get A rfl) hm]
    have := E.at' xs [] i hi
    rw [List.append_nil] at this
    rw [this]
theorem Sees.kp {α : Type} {E : Enc α} {g h : Hp} {a : Option Addr} {xs : List α} (x : Sees E g a xs) (f : Kp g h) : Sees E h a xs := ⟨x.nil, fun A hA => by
  have hr := x.get A hA
  exact rdn_kp hr (f.get _ (lt_of_rdn hr)), x.sp⟩
theorem Sees.nul {α : Type} {E : Enc α} {h : Hp} : Sees E h none [] := ⟨fun _ => rfl, fun A hA => (by cases hA), fun A hA => (by cases hA)⟩
/-- A part of it. -/
theorem Sees.part {α : Type} {E : Enc α} {h : Hp} {a : Option Addr} {xs : List α} {c : Nat} (x : Sees E h a xs) {lo hi : Nat} (h1 : lo ≤ hi) (h2 : hi ≤ xs.length) (hc : xs.length ≤ c) {l u : Option Value} (hl : (l = none ∧ lo = 0) ∨ ∃ k, l = some (.int k lo)) (hu : (u = none ∧ hi = xs.length) ∨ ∃ k, u = some (.int k hi)) :
    ∃ a' c', sliceV E.sz (.slice a xs.length c) l u none = some (.slice a' (hi - lo) c') ∧ hi - lo ≤ c' ∧ Sees E h a' ((xs.drop lo).take (hi - lo)) := by
  have hb : bounds xs.length c l u none = some (lo, hi, c) := by
    have h3 : hi ≤ c := by omega
    rcases hl with ⟨rfl, rfl⟩ | ⟨k, rfl⟩ <;> rcases hu with ⟨rfl, rfl⟩ | ⟨j, rfl⟩ <;> simp [bounds, asN, h1, h3]
  have hlen : ((xs.drop lo).take (hi - lo)).length = hi - lo := by simp; omega
  cases a with
  | none =>
    have := x.nil rfl
    subst this
    refine ⟨none, c - lo, by simp only [sliceV, hb], by simp at h2; omega, ?_⟩
    simp
    exact .nul
  | some A =>
    have hg := x.get A rfl
    have hm : lo * E.sz + (hi - lo) * E.sz ≤ xs.length * E.sz := by
      rw [← Nat.add_mul]
      exact Nat.mul_le_mul_right _ (by omega)
    have hp : h.rdn A.block (A.off + lo * E.sz) ((hi - lo) * E.sz) = some (E.all ((xs.drop lo).take (hi - lo))) := by
      rw [rdn_part hg hm]
      have := E.part xs [] lo (hi - lo) (by omega)
      rw [List.append_nil] at this
      rw [this]
    obtain ⟨b, o, sp⟩ := A
    rcases x.sp _ rfl with hs | hs
    · simp only at hs
      subst hs
      by_cases hcl : c = lo
      · have h4 : hi - lo = 0 := by omega
        refine ⟨some ⟨b, o, none⟩, c - lo, by simp only [sliceV, hb]; rw [if_pos hcl], by omega, ⟨fun hA => (by cases hA), fun A hA => ?_, fun A hA => ?_⟩⟩
        · cases hA
          rw [hlen, h4]
          have := rdn_part hg (k := 0) (n := 0) (by omega)
          simpa using this
        · cases hA; exact .inl rfl
      · refine ⟨some ⟨b, o + lo * E.sz, none⟩, c - lo, by simp only [sliceV, hb]; rw [if_neg hcl], by omega, ⟨fun hA => (by cases hA), fun A hA => ?_, fun A hA => ?_⟩⟩
        · cases hA; rw [hlen]; exact hp
        · cases hA; exact .inl rfl
    · simp only at hs
      subst hs
      refine ⟨some ⟨b, o + lo * E.sz, some E.sz⟩, c - lo, by simp [sliceV, hb], by omega, ⟨fun hA => (by cases hA), fun A hA => ?_, fun A hA => ?_⟩⟩
      · cases hA; rw [hlen]; exact hp
      · cases hA; exact .inr rfl
theorem Sees.elems {α : Type} {E : Enc α} {h : Hp} {a : Option Addr} {c : Nat} {xs : List α} (x : Sees E h a xs) : elems h E.sz xs.length (.slice a xs.length c) = some (E.all xs) := by
  cases a with
  | none => rw [x.nil rfl]; rfl
  | some A => exact x.get A rfl

/-- A slice that owns its block. -/
inductive Own {α : Type} (E : Enc α) (h : Hp) : Value → List α → List Nat → Prop where
  | nul : Own E h (.slice none 0 0) [] []
  | blk {b n c : Nat} {xs : List α} {r : List Value} (hg : h.get b = some (.cells false (E.all xs ++ r))) (hn : n = xs.length) (hc : n ≤ c) (h0 : 0 < c) (hr : r.length = (c - n) * E.sz) :
      Own E h (.slice (some ⟨b, 0, some E.sz⟩) n c) xs [b]
  | emp {b : Nat} (hg : h.get b = some (.cells false [])) : Own E h (.slice (some ⟨b, 0, none⟩) 0 0) [] [b]
section
variable {α : Type} {E : Enc α} {h h' : Hp} {v : Value} {xs : List α} {fp : List Nat}
theorem Own.live (o : Own E h v xs fp) : ∀ b ∈ fp, b < h.next := by
  cases o with
  | nul => simp
  | blk hg => simp; exact lt_of_get hg
  | emp hg => simp; exact lt_of_get hg
theorem Own.keep (o : Own E h v xs fp) (hk : ∀ b ∈ fp, h'.get b = h.get b) : Own E h' v xs fp := by
  cases o with
  | nul => exact .nul
  | blk hg hn hc h0 hr => exact .blk (by rw [hk _ (by simp), hg]) hn hc h0 hr
  | emp hg => exact .emp (by rw [hk _ (by simp), hg])
theorem Own.kp (o : Own E h v xs fp) (hk : Kp h h') : Own E h' v xs fp := o.keep fun b hb => hk.get b (o.live b hb)
theorem Own.len (o : Own E h v xs fp) : ∃ a c, v = .slice a xs.length c ∧ Sees E h a xs ∧ xs.length ≤ c ∧ ∀ A, a = some A → A.block ∈ fp := by
  cases o with
  | nul => exact ⟨_, _, rfl, .nul, Nat.le_refl _, fun A hA => (by cases hA)⟩
  | blk hg hn hc h0 hr =>
    subst hn
    refine ⟨_, _, rfl, ⟨fun hA => (by cases hA), fun A hA => ?_, fun A hA => (by cases hA; exact .inr rfl)⟩, hc, fun A hA => (by cases hA; simp)⟩
    cases hA
    simp only [Hp.rdn, Hp.cells, hg, Option.bind_some, Nat.zero_add]
    rw [if_pos (by simp), List.drop_zero, E.take _ _ _ (Nat.le_refl _), List.take_length]
  | emp hg =>
    refine ⟨_, _, rfl, ⟨fun hA => (by cases hA), fun A hA => ?_, fun A hA => (by cases hA; exact .inl rfl)⟩, Nat.le_refl _, fun A hA => (by cases hA; simp)⟩
    cases hA
    simp [Hp.rdn, hg]
/-- What is appended. -/
theorem Own.app (o : Own E h v xs fp) {y : Value} {ys : List α} {bytes : Nat} (hl : lenV y = some ys.length) (he : elems h E.sz ys.length y = some (E.all ys)) (hs : (2 * (xs.length + ys.length) + 1000) * bytes ≤ 2 ^ 47)
    (hn : xs.length + ys.length < 2 ^ 62) : ∃ v' h' fp', appendV h E.sz bytes v y = some (v', h') ∧ Own E h' v' (xs ++ ys) fp' ∧ Upd h h' fp fp' := by
  have hlen : (E.all ys).length = ys.length * E.sz := by simp
  cases o with
  | nul =>
    simp only [List.length_nil, Nat.zero_add] at hs hn
    by_cases h0 : ys.length = 0
    · have : ys = [] := List.length_eq_zero_iff.1 h0
      subst this
      simp only [List.length_nil, Enc.all_nil] at he hl
      exact ⟨_, _, [], by simp [appendV, hl, he], .nul, .refl⟩
    · have e : appendV h E.sz bytes (.slice none 0 0) y = some (.slice (some ⟨h.next, 0, some E.sz⟩) ys.length ys.length, h.push (.cells false (E.all ys))) := by
        simp only [appendV, hl, he, hlen, if_true, Nat.zero_add]
        rw [if_neg (by omega), if_pos ⟨hs, hn⟩]
      refine ⟨_, _, [h.next], e, .blk (r := []) (by simp [get_push_self]) rfl (Nat.le_refl _) (by omega) (by simp), ⟨by simp, fun b hb _ => by rw [get_push_ne (by omega)], fun b hb => by simp at hb; omega⟩⟩
  | blk hg hn' hc h0 hr =>
    rename_i b n c r
    subst hn'
    have hlt := lt_of_get hg
    by_cases hfit : xs.length + ys.length ≤ c
    · by_cases hy0 : ys.length = 0
      · have : ys = [] := List.length_eq_zero_iff.1 hy0
        subst this
        have e : appendV h E.sz bytes (.slice (some ⟨b, 0, some E.sz⟩) xs.length c) y = some (.slice (some ⟨b, 0, some E.sz⟩) xs.length c, h) := by
          simp only [appendV, hl, he, hlen, if_true]
          rw [if_pos hfit]
          rfl
        exact ⟨_, _, [b], e, by simpa using Own.blk hg rfl hc h0 hr, .refl⟩
      · have hm : (xs.length + ys.length) * E.sz ≤ c * E.sz := Nat.mul_le_mul_right _ hfit
        rw [Nat.add_mul] at hm
        have hr' : r.length = c * E.sz - xs.length * E.sz := by rw [hr, Nat.sub_mul]
        have hle : xs.length * E.sz ≤ c * E.sz := Nat.mul_le_mul_right _ hc
        have ho : Dx.over (E.all xs ++ r) (xs.length * E.sz) (E.all ys) = E.all (xs ++ ys) ++ r.drop (ys.length * E.sz) := by
          unfold Dx.over
          rw [E.take _ _ _ (Nat.le_refl _), List.take_length, hlen, ← List.drop_drop, E.drop _ _ _ (Nat.le_refl _)]
          simp
        have e : appendV h E.sz bytes (.slice (some ⟨b, 0, some E.sz⟩) xs.length c) y = some (.slice (some ⟨b, 0, some E.sz⟩) (xs.length + ys.length) c, h.put b (some (.cells false (E.all (xs ++ ys) ++ r.drop (ys.length * E.sz))))) := by
          simp only [appendV, hl, he, hlen, if_true]
          rw [if_pos hfit, if_neg hy0, if_pos (by simp), wr_ok hg (by simp; omega) (E.all_one ys)]
          simp only [Option.map_some, Nat.zero_add, ho]
        exact ⟨_, _, [b], e, .blk (r := r.drop (ys.length * E.sz)) (by rw [get_put_self hlt]) (by simp) hfit h0 (by rw [List.length_drop, hr', Nat.sub_mul, Nat.add_mul]; omega),
          ⟨by simp, fun k hk hn => by rw [get_put_ne (by simpa using hn)], fun k hk => .inl hk⟩⟩
    · have hm : xs.length * E.sz ≤ c * E.sz := Nat.mul_le_mul_right _ hc
      have hrd : h.rdn b 0 (xs.length * E.sz) = some (E.all xs) := by
        simp only [Hp.rdn, Hp.cells, hg, Option.bind_some, Nat.zero_add]
        rw [if_pos (by simp), List.drop_zero, E.take _ _ _ (Nat.le_refl _), List.take_length]
      have e : appendV h E.sz bytes (.slice (some ⟨b, 0, some E.sz⟩) xs.length c) y = some (.slice (some ⟨h.next, 0, some E.sz⟩) (xs.length + ys.length) (xs.length + ys.length), (h.put b none).push (.cells false (E.all xs ++ E.all ys))) := by
        simp only [appendV, hl, he, hlen, if_true]
        rw [if_neg hfit, if_pos ⟨hs, hn⟩]
        simp only [hrd, hg, E.all_one, true_and, and_true, h0, if_true]
      exact ⟨_, _, [h.next], e, .blk (r := []) (by rw [show h.next = (h.put b none).next from rfl, get_push_self]; simp) (by simp) (Nat.le_refl _) (by omega) (by simp), ⟨by simp, fun k hk hn => by
        rw [get_push_ne (by simp; omega), get_put_ne (by simpa using hn)], fun k hk => by simp at hk; omega⟩⟩
  | emp hg =>
    rename_i b
    have hlt := lt_of_get hg
    simp only [List.length_nil, Nat.zero_add] at hs hn
    by_cases h0 : ys.length = 0
    · have : ys = [] := List.length_eq_zero_iff.1 h0
      subst this
      simp only [List.length_nil, Enc.all_nil] at he hl
      exact ⟨_, _, [b], by simp [appendV, hl, he], .emp hg, .refl⟩
    · have e : appendV h E.sz bytes (.slice (some ⟨b, 0, none⟩) 0 0) y = some (.slice (some ⟨h.next, 0, some E.sz⟩) ys.length ys.length, h.push (.cells false (E.all ys))) := by
        simp only [appendV, hl, he, hlen, if_true, Nat.zero_add]
        rw [if_neg (by omega), if_pos ⟨hs, hn⟩]
        simp [Hp.rdn, hg]
      refine ⟨_, _, [h.next], e, .blk (r := []) (by simp [get_push_self]) rfl (Nat.le_refl _) (by omega) (by simp), ⟨by simp, fun b hb _ => by rw [get_push_ne (by omega)], fun b hb => by simp at hb; omega⟩⟩
end
/-- What a new row of one thing is as something that is appended. -/
theorem elems_one {α : Type} {E : Enc α} {h : Hp} {b : Nat} {x : α} {s : Option Nat} {ro : Bool} (hg : h.get b = some (.cells ro (E.enc x))) : elems h E.sz 1 (.slice (some ⟨b, 0, s⟩) 1 1) = some (E.all [x]) := by
  simp [elems, Hp.rdn, hg, E.len]
  rw [List.take_of_length_le (by simp [E.len])]
section
variable {sz b o n c : Nat} {k j m : IntKind} {lo hi mx : Int}
/-- Slices of slices. -/
@[simp] theorem sliceV_hi (h0 : 0 ≤ hi) (h1 : hi ≤ c) : sliceV sz (.slice (some ⟨b, o, some sz⟩) n c) none (some (.int k hi)) none = some (.slice (some ⟨b, o, some sz⟩) hi.toNat c) := by
  have : hi.toNat ≤ c := by omega
  simp [sliceV, bounds, asN, h0, this]
@[simp] theorem sliceV_lo (h0 : 0 ≤ lo) (h1 : lo ≤ n) (h2 : n ≤ c) : sliceV sz (.slice (some ⟨b, o, some sz⟩) n c) (some (.int k lo)) none none = some (.slice (some ⟨b, o + lo.toNat * sz, some sz⟩) (n - lo.toNat) (c - lo.toNat)) := by
  have : lo.toNat ≤ n := by omega
  simp [sliceV, bounds, asN, h0, this]
@[simp] theorem sliceV_lohi (h0 : 0 ≤ lo) (h1 : lo ≤ hi) (h2 : hi ≤ c) : sliceV sz (.slice (some ⟨b, o, some sz⟩) n c) (some (.int k lo)) (some (.int j hi)) none = some (.slice (some ⟨b, o + lo.toNat * sz, some sz⟩) (hi.toNat - lo.toNat) (c - lo.toNat)) := by
  have h3 : 0 ≤ hi := by omega
  obtain ⟨l, rfl⟩ := Int.eq_ofNat_of_zero_le h0
  obtain ⟨m, rfl⟩ := Int.eq_ofNat_of_zero_le h3
  have h4 : m ≤ c := by omega
  have h5 : l ≤ m := by omega
  simp [sliceV, bounds, asN, h4, h5]
theorem sliceV_max (h0 : 0 ≤ lo) (h1 : lo ≤ hi) (h2 : hi ≤ mx) (h3 : mx ≤ c) : ∃ v, sliceV sz (.slice (some ⟨b, o, some sz⟩) n c) (some (.int k lo)) (some (.int j hi)) (some (.int m mx)) = some v := by
  have h4 : 0 ≤ hi := by omega
  have h5 : 0 ≤ mx := by omega
  obtain ⟨l, rfl⟩ := Int.eq_ofNat_of_zero_le h0
  obtain ⟨u, rfl⟩ := Int.eq_ofNat_of_zero_le h4
  obtain ⟨w, rfl⟩ := Int.eq_ofNat_of_zero_le h5
  have h6 : w ≤ c := by omega
  have h7 : u ≤ w := by omega
  have h8 : l ≤ u := by omega
  by_cases h9 : w = l <;> simp [sliceV, bounds, asN, h6, h7, h8, h9] <;> (try subst h9) <;> simp [h6, h7, h8]
end
def clrV (zero : List Value) (h : Hp) : Value → Option (Value × Hp)
  | .slice none _ _ => some (.tuple #[], h)
  | .slice (some a) n _ => if n = 0 then some (.tuple #[], h) else (h.wr a.block a.off (List.replicate n zero).flatten).map fun h => (.tuple #[], h)
  | _ => none
@[simp] theorem opV_clr {e : Env} {h : Hp} {z : List Value} {x : X} : opV e h (.clr z x) = clrV z h (x.ev e) := by
  simp only [opV, clrV]
  generalize x.ev e = v
  cases v <;> rfl
@[simp] theorem clrV_slice {z : List Value} {h : Hp} {a : Addr} {n c : Nat} : clrV z h (.slice (some a) n c) = if n = 0 then some (.tuple #[], h) else (h.wr a.block a.off (List.replicate n z).flatten).map fun h => (.tuple #[], h) := rfl
section
variable {α : Type} {E : Enc α} {h : Hp} {b : Nat} {A B : List α} {x y : α} {r : List Value}
theorem rd_mid {ro : Bool} (hg : h.get b = some (.cells ro (E.all (A ++ x :: B) ++ r))) : h.rdn b (A.length * E.sz) E.sz = some (E.enc x) := by
  have hm : (A.length + 1) * E.sz ≤ (A ++ x :: B).length * E.sz := Nat.mul_le_mul_right _ (by simp)
  rw [Nat.add_mul, Nat.one_mul] at hm
  simp only [Hp.rdn, Hp.cells, hg, Option.bind_some]
  rw [if_pos (by rw [List.length_append, E.all_length]; omega), E.at' _ _ _ (by simp)]
  simp
theorem wr_mid (hg : h.get b = some (.cells false (E.all (A ++ x :: B) ++ r))) : h.wr b (A.length * E.sz) (E.enc y) = some (h.put b (some (.cells false (E.all (A ++ y :: B) ++ r)))) := by
  have hm : (A.length + 1) * E.sz ≤ (A ++ x :: B).length * E.sz := Nat.mul_le_mul_right _ (by simp)
  rw [Nat.add_mul, Nat.one_mul] at hm
  rw [wr_ok hg (by rw [List.length_append, E.all_length, E.len]; omega) (E.one y), E.set _ _ _ _ (by simp)]
  simp
theorem rdn_cells {o n : Nat} {c : List Value} (hr : h.rdn b o n = some c) : ∃ ro C, h.get b = some (.cells ro C) ∧ ∀ k, k < n → C[o + k]? = c[k]? := by
  simp only [Hp.rdn, Option.bind_eq_some_iff] at hr
  obtain ⟨l, h1, h2⟩ := hr
  unfold Hp.cells at h1
  split at h1
  · rename_i ro C hg
    cases h1
    split at h2
    · cases h2
      exact ⟨ro, _, hg, fun k hk => by rw [List.getElem?_take_of_lt hk, List.getElem?_drop]⟩
    · cases h2
  · cases h1
/-- An element of a slice that is read, by its place. -/
theorem Sees.mid {a : Option Addr} (hs : Sees E h a (A ++ x :: B)) : ∃ A0, a = some A0 ∧ h.rdn A0.block (A0.off + A.length * E.sz) E.sz = some (E.enc x) := by
  obtain ⟨A0, h1, h2⟩ := hs.at' A.length (by simp)
  refine ⟨A0, h1, ?_⟩
  rw [h2]
  simp
end
section
variable {α : Type} {E : Enc α} {T : Nat → Option Fn} {Q : Ex → Env → Hp → Prop} {k : List Fr} {e : Env} {h : Hp} {d : Option Nat} {l : List O} {v : Value} {xs : List α} {fp : List Nat}
theorem Own.app1 (o : Own E h v xs fp) (x : α) {bytes : Nat} (hs : (2 * (xs.length + 1) + 1000) * bytes ≤ 2 ^ 47) (hn : xs.length + 1 < 2 ^ 62) :
    ∃ v' h' fp', appendV (h.push (.cells false (E.enc x))) E.sz bytes v (.slice (some ⟨h.next, 0, none⟩) 1 1) = some (v', h') ∧ Own E h' v' (xs ++ [x]) fp' ∧ Upd h h' fp fp' := by
  have hk : Kp h (h.push (.cells false (E.enc x))) := (Kp.refl h).push _
  obtain ⟨v', h', fp', ha, ho, hu⟩ := (o.kp hk).app (ys := [x]) (y := .slice (some ⟨h.next, 0, none⟩) 1 1) (bytes := bytes) rfl (elems_one get_push_self) hs hn
  refine ⟨v', h', fp', ha, ho, ⟨Nat.le_trans hk.le hu.le, fun b hb hf => ?_, fun b hb => ?_⟩⟩
  · rw [hu.get b (by simp; omega) hf, get_push_ne (by omega)]
  · rcases hu.sub b hb with h1 | h1
    · exact .inl h1
    · exact .inr (Nat.le_trans hk.le h1)
/-- One thing is appended. -/
theorem GV_app1 (o : Own E h v xs fp) {x : α} {bytes : Nat} (hs : (2 * (xs.length + 1) + 1000) * bytes ≤ 2 ^ 47) (hn : xs.length + 1 < 2 ^ 62)
    (H : ∀ v' h' fp', Own E h' v' (xs ++ [x]) fp' → Upd h h' fp fp' → GO T Q l k (put e d v') h') : GV T Q (appendV (h.push (.cells false (E.enc x))) E.sz bytes v (.slice (some ⟨h.next, 0, none⟩) 1 1)) d l k e := by
  obtain ⟨v', h', fp', ha, ho, hu⟩ := o.app1 x hs hn
  rw [ha]
  exact H _ _ _ ho hu
@[simp] theorem adv_put {o : Ob} : (h.adv 1).put h.next (some o) = h.push o := Hp.ext' rfl fun b => by
  simp only [Hp.put, Hp.adv, Hp.push]
  by_cases hb : b = h.next <;> simp [hb]
theorem GVI_app1 {base : Nat} {li : List It} (o : Own E h v xs fp) {x : α} {bytes : Nat} (hs : (2 * (xs.length + 1) + 1000) * bytes ≤ 2 ^ 47) (hn : xs.length + 1 < 2 ^ 62)
    (H : ∀ v' h' fp', Own E h' v' (xs ++ [x]) fp' → Upd h h' fp fp' → GI T Q base li k (put e d v') h') : GVI T Q (appendV (h.push (.cells false (E.enc x))) E.sz bytes v (.slice (some ⟨h.next, 0, none⟩) 1 1)) d base li k e := by
  obtain ⟨v', h', fp', ha, ho, hu⟩ := o.app1 x hs hn
  rw [ha]
  exact H _ _ _ ho hu
/-- A row that is seen is appended. -/
theorem GV_app (o : Own E h v xs fp) {ys : List α} {a : Option Addr} {n c : Nat} (hy : Sees E h a ys) (hn' : n = ys.length) {bytes : Nat} (hs : (2 * (xs.length + ys.length) + 1000) * bytes ≤ 2 ^ 47) (hn : xs.length + ys.length < 2 ^ 62)
    (H : ∀ v' h' fp', Own E h' v' (xs ++ ys) fp' → Upd h h' fp fp' → GO T Q l k (put e d v') h') : GV T Q (appendV h E.sz bytes v (.slice a n c)) d l k e := by
  subst hn'
  obtain ⟨v', h', fp', ha, ho, hu⟩ := o.app (y := .slice a ys.length c) rfl hy.elems hs hn
  rw [ha]
  exact H _ _ _ ho hu
theorem GVI_app {base : Nat} {li : List It} (o : Own E h v xs fp) {ys : List α} {a : Option Addr} {n c : Nat} (hy : Sees E h a ys) (hn' : n = ys.length) {bytes : Nat} (hs : (2 * (xs.length + ys.length) + 1000) * bytes ≤ 2 ^ 47) (hn : xs.length + ys.length < 2 ^ 62)
    (H : ∀ v' h' fp', Own E h' v' (xs ++ ys) fp' → Upd h h' fp fp' → GI T Q base li k (put e d v') h') : GVI T Q (appendV h E.sz bytes v (.slice a n c)) d base li k e := by
  subst hn'
  obtain ⟨v', h', fp', ha, ho, hu⟩ := o.app (y := .slice a ys.length c) rfl hy.elems hs hn
  rw [ha]
  exact H _ _ _ ho hu
end
end Go.Dx
