/- Texts of one kind, one behind the other. -/
import Derived.Test.YtmgoleiafiffoaaGreatMd1
import Derived.Test.YtmgoleiafiffoaaGreatMc0
/- Insertion sort of a row, as the library does it. -/
set_option maxRecDepth 1000000
set_option linter.unusedSimpArgs false
set_option linter.unusedVariables false
namespace Go.Proofs.YtmgoleiafiffoaaGreat.Cd
open Go Go.Dx
structure Ev where
  at' : Int
  dev : Int
  seq : Int
def encEv : Enc Ev := ⟨3, fun x => [.int .i64 x.at', .int .i64 x.dev, .int .i64 x.seq], fun _ => rfl, fun _ => rfl, by decide⟩
@[simp] theorem encEv_sz : encEv.sz = 3 := rfl
instance (x y : Ev) : Decidable (x = y) :=
  if h : x.at' = y.at' ∧ x.dev = y.dev ∧ x.seq = y.seq then .isTrue (by cases x; cases y; simp_all) else .isFalse (fun e => h (by subst e; simp))
section
variable {h : Hp} {b n c a z : Nat} {sp : Option Nat} {fc : Nat} {key : Ev → Int} {r : List Value}
end
end Go.Proofs.YtmgoleiafiffoaaGreat.Cd

/- Clone of a row, and whether two rows are the same. -/
set_option maxRecDepth 1000000
set_option linter.unusedSimpArgs false
set_option linter.unusedVariables false
namespace Go.Proofs.YtmgoleiafiffoaaGreat.Cd
open Go Go.Dx
section
variable {h : Hp} {a a' : Option Addr} {c c' : Nat} {xs ys : List Ev}
end
end Go.Proofs.YtmgoleiafiffoaaGreat.Cd

/- The wheel: what each function does. -/
set_option maxRecDepth 1000000
set_option linter.unusedSimpArgs false
set_option linter.unusedVariables false
namespace Go.Proofs.YtmgoleiafiffoaaGreat.Cd
open Go Go.Dx
section
variable {h : Hp} {q : Value → Hp → Prop}
/-- The place of the first one that is meant. -/
def place (p : Ev → Bool) (xs : List Ev) : Int := match xs.findIdx? p with | some i => i | none => -1
/-- A wheel in memory. -/
structure Wh (h : Hp) (w : Nat) (L : List Ev) (s : Int) (fp : List Nat) : Prop where
  ex : ∃ sl, h.get w = some (.cells false [sl, .int .i64 s]) ∧ Own encEv h sl L fp
  nw : w ∉ fp
theorem Wh.keep {w : Nat} {L : List Ev} {s : Int} {fp : List Nat} {h' : Hp} (W : Wh h w L s fp) (hk : ∀ b ∈ w :: fp, h'.get b = h.get b) : Wh h' w L s fp := by
  obtain ⟨sl, h1, h2⟩ := W.ex
  exact ⟨⟨sl, by rw [hk w (by simp), h1], h2.keep fun b hb => hk b (by simp [hb])⟩, W.nw⟩
theorem Wh.live {w : Nat} {L : List Ev} {s : Int} {fp : List Nat} (W : Wh h w L s fp) : ∀ b ∈ w :: fp, b < h.next := by
  obtain ⟨sl, h1, h2⟩ := W.ex
  intro b hb
  rcases List.mem_cons.1 hb with rfl | hb
  · exact lt_of_get h1
  · exact h2.live b hb
theorem Wh.kp {w : Nat} {L : List Ev} {s : Int} {fp : List Nat} {h' : Hp} (W : Wh h w L s fp) (hk : Kp h h') : Wh h' w L s fp := W.keep fun b hb => hk.get b (W.live b hb)
theorem Wh.new : Wh (h.push (.cells false [.slice none 0 0, .int .i64 0])) h.next [] 0 [] := ⟨⟨_, get_push_self, .nul⟩, by simp⟩
/-- What is left. -/
def wcan (d : Int) (L : List Ev) : List Ev := L.eraseP fun x => decide (x.dev = d)
theorem nodup_bound : ∀ (n : Nat) (l : List Nat), (∀ x ∈ l, x < n) → l.Nodup → l.length ≤ n := by
  intro n
  induction n with
  | zero =>
    intro l h _
    cases l with
    | nil => simp
    | cons x l => exact absurd (h x (by simp)) (by omega)
  | succ n ih =>
    intro l h hn
    have h1 := ih (l.erase n) (fun x hx => by
      have hx1 := List.mem_of_mem_erase hx
      have hx2 := h x hx1
      have hx3 : x ≠ n := fun e => by subst e; exact (List.Nodup.not_mem_erase hn) hx
      omega) (hn.erase n)
    by_cases hm : n ∈ l
    · rw [List.length_erase_of_mem hm] at h1; omega
    · rw [List.erase_of_not_mem hm] at h1; omega
/-- What holds of a wheel's events. -/
structure WI (L : List Ev) : Prop where
  srt : Srt (·.at') L
  dev : ∀ x ∈ L, 0 ≤ x.dev ∧ x.dev < 16
  one : (L.map (·.dev)).Nodup
  pos : ∀ x ∈ L, 0 ≤ x.at'
theorem WI.nil : WI [] := ⟨by simp [Srt], by simp, by simp, by simp⟩
theorem WI.len {L : List Ev} (W : WI L) : L.length ≤ 16 := by
  have := nodup_bound 16 (L.map fun x => x.dev.toNat) (fun y hy => by
    obtain ⟨x, hx, rfl⟩ := List.mem_map.1 hy
    have := W.dev x hx
    omega) (by
    have h1 := W.one
    unfold List.Nodup at h1 ⊢
    rw [List.pairwise_map] at h1 ⊢
    refine h1.imp_of_mem fun {a b} ha hb hne he => hne ?_
    have := W.dev a ha
    have := W.dev b hb
    omega)
  simpa using this
theorem WI.can {L : List Ev} (W : WI L) (d : Int) : WI (wcan d L) := by
  have hs : (wcan d L).Sublist L := List.eraseP_sublist ..
  exact ⟨W.srt.sublist hs, fun x hx => W.dev x (hs.subset hx), W.one.sublist (hs.map _), fun x hx => W.pos x (hs.subset hx)⟩
theorem WI.tail {x : Ev} {L : List Ev} (W : WI (x :: L)) : WI L := by
  have hs : L.Sublist (x :: L) := List.sublist_cons_self x L
  exact ⟨W.srt.sublist hs, fun y hy => W.dev y (hs.subset hy), W.one.sublist (hs.map _), fun y hy => W.pos y (hs.subset hy)⟩
end
end Go.Proofs.YtmgoleiafiffoaaGreat.Cd
