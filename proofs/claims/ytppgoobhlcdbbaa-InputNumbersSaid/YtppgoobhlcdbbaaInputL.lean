/- The statements about the plan of bytes. -/
import Derived.Test.YtppgoobhlcdbbaaInput
set_option maxRecDepth 1000000
set_option linter.unusedSimpArgs false
set_option linter.unusedVariables false
namespace Go.Proofs.Ytppgoobhlcdbbaa.Cd
open Go Go.Dx
def bstr (xs : List (BitVec 8)) : ByteArray := ⟨(xs.map fun b => UInt8.ofNat b.toNat).toArray⟩
theorem b2s_sees {e : Env} {h : Hp} {x : X} {a : Option Addr} {c : Nat} {xs : List (BitVec 8)} (hx : x.ev e = .slice a xs.length c) (s : Sees encB8 h a xs) : opV e h (.b2s x) = some (.string (bstr xs), h) := by
  have hm : ∀ f : Value → Option UInt8, (∀ y, f (u8 y) = some (UInt8.ofNat y.toNat)) → ∀ l : List (BitVec 8), (encB8.all l).mapM f = some (l.map fun b => UInt8.ofNat b.toNat) := fun f hf l => by
    induction l with
    | nil => rfl
    | cons y l ih =>
      rw [Enc.all_cons, show encB8.enc y = [u8 y] from rfl, List.singleton_append, List.mapM_cons, ih, hf]
      rfl
  unfold opV
  simp only [hx]
  cases a with
  | none =>
    have := s.nil rfl
    subst this
    rfl
  | some A =>
    have hg := s.get A rfl
    rw [encB8_sz, Nat.mul_one] at hg
    have : (if xs.length = 0 then some [] else h.rdn A.block A.off xs.length) = some (encB8.all xs) := by
      split
      · rename_i h0
        have : xs = [] := List.length_eq_zero_iff.1 h0
        subst this
        rfl
      · exact hg
    simp only [this, Option.bind_some]
    rw [hm _ (fun y => by simp [u8]) xs]
    rfl
def b2sV (h : Hp) (v : Value) : Option (Value × Hp) := opV (fun _ => v) h (.b2s (.t 0))
@[simp] theorem opV_b2s {e : Env} {h : Hp} {x : X} : opV e h (.b2s x) = b2sV h (x.ev e) := rfl
theorem b2sV_sees {h : Hp} {a : Option Addr} {n c : Nat} {xs : List (BitVec 8)} (s : Sees encB8 h a xs) (hn : n = xs.length) : b2sV h (.slice a n c) = some (.string (bstr xs), h) := by
  subst hn
  exact b2s_sees rfl s
section
variable {h : Hp} {b n c p : Nat} {a : Option Addr} {L : List Key} {q : Value → Hp → Prop}
theorem iknown (hq : ∀ h', Kp h h' → q (.bool true) h') : WC T n_pianolalaw24_known [] h q := by
  rw [w_pianolalaw24_known]
  simp (disch := first | assumption | ((try simp only [push_next, put_next, adv_next, List.length_cons, List.length_nil]); omega) | simp)
  generalize hg0 : h.push _ = g0
  have K0 : Kp h g0 := by rw [← hg0]; exact (Kp.refl h).push _
  have s0 : Sees encKey g0 (some ⟨h.next, 0, none⟩) [⟨5, 97⟩, ⟨2, 98⟩] := by
    refine ⟨fun hA => (by cases hA), fun B hB => ?_, fun B hB => (by cases hB; exact .inl rfl)⟩
    cases hB
    rw [← hg0]
    simp [Hp.rdn, get_push_self, encKey]
  refine GC_intro (inew (c := 2) (L := [⟨5, 97⟩, ⟨2, 98⟩]) s0 (by simp) (by simp) fun h1 p fp f1 f2 P K1 => ?_) fun v h2 hh => hh
  have hI : isort (·.at') (List.take 256 [(⟨5, 97⟩ : Key), ⟨2, 98⟩]) = [⟨2, 98⟩, ⟨5, 97⟩] := rfl
  rw [hI] at P
  simp (disch := first | assumption | ((try simp only [push_next, put_next, adv_next, List.length_cons, List.length_nil]); omega) | simp)
  refine GC_intro (itake P (by simp) f2 fun v1 h2 fp1 O1 hf1 P2 U2 => ?_) fun v h2 hh => hh
  have T1 : List.takeWhile (fun x : Key => decide (x.at' ≤ 1)) [⟨2, 98⟩, ⟨5, 97⟩] = [] := rfl
  have D1 : List.dropWhile (fun x : Key => decide (x.at' ≤ 1)) [⟨2, 98⟩, ⟨5, 97⟩] = [⟨2, 98⟩, ⟨5, 97⟩] := rfl
  rw [T1] at O1
  rw [D1] at P2
  obtain ⟨a1, c1, rfl, s1, -, -⟩ := O1.len
  have hp : p ∈ fp := by obtain ⟨_, _, _, _, _, hp, _⟩ := P; exact hp
  have K2 := U2.kp' (K0.trans K1) (by simpa using Nat.le_trans K0.le (f1 p hp))
  simp (disch := first | assumption | ((try simp only [push_next, put_next, adv_next, List.length_cons, List.length_nil]); omega) | simp) [GC_of (fun q => inext P2)]
  refine GC_intro (itake P2 (by simp) (fun b hb => Nat.lt_of_lt_of_le (f2 b hb) U2.le) fun v2 h3 fp3 O3 hf3 P3 U3 => ?_) fun v h2 hh => hh
  have T3 : List.takeWhile (fun x : Key => decide (x.at' ≤ 9)) [⟨2, 98⟩, ⟨5, 97⟩] = [⟨2, 98⟩, ⟨5, 97⟩] := rfl
  have D3 : List.dropWhile (fun x : Key => decide (x.at' ≤ 9)) [⟨2, 98⟩, ⟨5, 97⟩] = [] := rfl
  rw [T3] at O3
  rw [D3] at P3
  obtain ⟨a3, c3, rfl, s3, -, -⟩ := O3.len
  have K3 := U3.kp' K2 (by simpa using Nat.le_trans K0.le (f1 p hp))
  have hb3 : b2sV h3 (.slice a3 2 c3) = some (.string (bstr [98, 97]), h3) := b2sV_sees s3 rfl
  have hs3 : binV .eql (.string (bstr [98#8, 97#8])) (.string ⟨#[98, 97]⟩) = some (.bool true) := by
    rw [show bstr [98#8, 97#8] = ⟨#[98, 97]⟩ from rfl]
    simp [binV, binS]
  simp (disch := first | assumption | ((try simp only [push_next, put_next, adv_next, List.length_cons, List.length_nil]); omega) | simp) [GC_of (fun q => inext P3), GC_of (fun q => ileft P3), hb3, hs3]
  exact hq _ K3
end
end Go.Proofs.Ytppgoobhlcdbbaa.Cd
