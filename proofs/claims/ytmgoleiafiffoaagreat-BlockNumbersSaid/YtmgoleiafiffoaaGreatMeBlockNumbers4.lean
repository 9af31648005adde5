/- Texts of one kind, one behind the other. -/
import Derived.Test.YtmgoleiafiffoaaGreatMeBlockNumbers3
import Derived.Test.YtmgoleiafiffoaaGreatMeBlockNumbers2
import Derived.Test.YtmgoleiafiffoaaGreatMcz0
import Derived.Test.YtmgoleiafiffoaaGreatMd1
import Derived.Test.YtmgoleiafiffoaaGreatMdz0
import Derived.Test.YtmgoleiafiffoaaGreatMeBlockNumbers1
/- block: an instruction is put behind the others. -/
set_option maxRecDepth 1000000
set_option maxHeartbeats 8000000
set_option linter.unusedSimpArgs false
set_option linter.unusedVariables false
namespace Go.Proofs.YtmgoleiafiffoaaGreat.Cd
open Go Go.Dx
/-- A slice that lies in a cell. -/
structure Sl where
  a : Option Addr
  n : Nat
  c : Nat
def encSl : Enc Sl := ⟨1, fun x => [.slice x.a x.n x.c], fun _ => rfl, fun _ => rfl, by decide⟩
@[simp] theorem encSl_sz : encSl.sz = 1 := rfl
/-- A block's operations for an instruction. -/
def bop (i : Ins) : List IOp := if oks (lops i) then iopt (lops i) else []
/-- A block as it lies. -/
structure Bk (h : Hp) (p : Nat) (a : BitVec 32) (ws : List (BitVec 32)) (os : List Sl) (vw vi vo : Value) (fw fi fo : List Nat) : Prop where
  g : h.get p = some (.cells false [u32 a, vw, vi, vo])
  w : Own encW h vw ws fw
  i : Own encIns h vi (ws.map dOf) fi
  o : Own encSl h vo os fo
  dw : p ∉ fw
  di : p ∉ fi
  do' : p ∉ fo
  d1 : ∀ b ∈ fw, b ∉ fi ∧ b ∉ fo
  d2 : ∀ b ∈ fi, b ∉ fo
  ol : os.length = ws.length
  oc : ∀ (j : Nat) (s : Sl) (w : BitVec 32), os[j]? = some s → ws[j]? = some w → s.n = (bop (dOf w)).length ∧ Sees encOp h s.a (bop (dOf w)) ∧ ∀ A : Addr, s.a = some A → p < A.block ∧ A.block ∉ fw ∧ A.block ∉ fi ∧ A.block ∉ fo
theorem _root_.Go.Dx.Upd.within {h h' : Hp} {a b A B : List Nat} (U : Upd h h' a b) (hA : ∀ x ∈ a, x ∈ A) (hB : ∀ x ∈ B, x ∈ A ∨ x ∈ b ∨ h.next ≤ x) : Upd h h' A B :=
  ⟨U.le, fun x hx hn => U.get x hx fun hm => hn (hA x hm), fun x hx => by
    rcases hB x hx with h5 | h5 | h5
    · exact .inl h5
    · rcases U.sub x h5 with h6 | h6
      · exact .inl (hA x h6)
      · exact .inr h6
    · exact .inr h5⟩
theorem sees_keep {α : Type} {E : Enc α} {h h' : Hp} {a : Option Addr} {xs : List α} (x : Sees E h a xs) (hk : ∀ A, a = some A → h'.get A.block = h.get A.block) : Sees E h' a xs :=
  ⟨x.nil, fun A hA => rdn_kp (x.get A hA) (hk A hA), x.sp⟩
theorem sees_lt {α : Type} {E : Enc α} {h : Hp} {a : Option Addr} {xs : List α} (x : Sees E h a xs) : ∀ A, a = some A → A.block < h.next := fun A hA => lt_of_rdn (x.get A hA)
section
variable {h h' : Hp} {q : Value → Hp → Prop} {w a : BitVec 32} {p : Nat} {ws : List (BitVec 32)} {os : List Sl} {vw vi vo : Value} {fw fi fo : List Nat}
theorem badd (A : Bk h p a ws os vw vi vo fw fi fo) (hl : ws.length < 2 ^ 30) (hq : ∀ h' os' vw' vi' vo' fw' fi' fo', Bk h' p a (ws ++ [w]) os' vw' vi' vo' fw' fi' fo' → Upd h h' (p :: (fw ++ fi ++ fo)) (p :: (fw' ++ fi' ++ fo')) → q (.tuple #[]) h') :
    WC T n_03 [ptr p 0, u32 w, .agg (encIns.enc (dOf w)).toArray] h q := by
  have ltp := lt_of_get A.g
  have gp := A.g
  obtain ⟨aw, cw, rfl, _⟩ := A.w.len
  obtain ⟨ai, ci, rfl, _⟩ := A.i.len
  obtain ⟨ao, co, rfl, _⟩ := A.o.len
  simp only [List.length_map] at A gp
  rw [w_03]
  simp (maxSteps:=9^7)(disch:=first|assumption|((try simp only[nX]);omega)|simp) [encIns, gp]
  generalize hH : Hp.put _ (h.next + 1) _ = H
  have nH : H.next = h.next + 3 := by rw [← hH]; rfl
  have gB : H.get h.next = some (.cells false (encIns.enc (dOf w))) := by rw [← hH, get_put_ne (by omega), adv_get, get_push_self]; rfl
  have gW : H.get (h.next + 1) = some (.cells false [u32 w]) := by rw [← hH, get_put_self (by simp)]
  have KH : Kp h H := by rw [← hH]; exact (((Kp.refl h).push _).adv 2).put (by omega) _
  clear hH
  have gpH := (KH.get p ltp).trans gp
  have li := fun b hb => A.i.live b hb
  have lw := fun b hb => A.w.live b hb
  have lo := fun b hb => A.o.live b hb
  refine GVI_app (E := encW) (bytes := 4) (ys := [w]) (A.w.kp KH) (sees_new gW rfl) rfl (by simp; omega) (by simp; omega) fun vw' h1 fw' O1 U1 => ?_
  have n1 := U1.le
  have gp1 := (U1.get p (by omega) A.dw).trans gpH
  have gB1 := (U1.get h.next (by omega) (fun hm => by have := lw _ hm; omega)).trans gB
  have rB1 := rdn_all (n := 6) gB1 rfl
  simp only [encIns] at gB1 rB1
  have fw1 : ∀ b ∈ fw', b ∈ fw ∨ H.next ≤ b := U1.sub
  have I1 : Own encIns h1 (.slice ai ws.length ci) (ws.map dOf) fi := (A.i.kp KH).keep fun b hb => U1.get b (by have := li b hb; omega) (fun hm => (A.d1 b hm).1 hb)
  have P1 : Own encSl h1 (.slice ao os.length co) os fo := (A.o.kp KH).keep fun b hb => U1.get b (by have := lo b hb; omega) (fun hm => (A.d1 b hm).2 hb)
  have z1 : ∀ b, b < h.next → b ∉ fw → h1.get b = h.get b := fun b hb hn => (U1.get b (by omega) hn).trans (KH.get b hb)
  simp (maxSteps:=9^7)(disch:=first|assumption|((try simp only[nX]);omega)|simp) [gp1, gB1, rB1]
  generalize hH1 : Hp.put h1 (h.next + 1 + 1) _ = H1
  have nH1 : H1.next = h1.next := by rw [← hH1]; rfl
  have kH1 : ∀ b, b ≠ h.next + 2 → H1.get b = h1.get b := fun b hb => by rw [← hH1, get_put_ne (by omega)]
  have gI : H1.get (h.next + 2) = some (.cells false (encIns.enc (dOf w))) := by rw [← hH1, get_put_self (by omega)]; rfl
  clear hH1
  refine GVI_app (E := encIns) (bytes := 48) (ys := [dOf w]) (I1.keep fun b hb => kH1 b (by have := li b hb; omega)) (sees_new gI (by simp)) rfl (by simp; omega) (by simp; omega) fun vi' h2 fi' O2 U2 => ?_
  have n2 := U2.le
  have fi1 : ∀ b ∈ fi', b ∈ fi ∨ H1.next ≤ b := U2.sub
  have gp2 := (U2.get p (by omega) A.di).trans ((kH1 p (by omega)).trans gp1)
  have gB2 := (U2.get h.next (by omega) (fun hm => by have := li _ hm; omega)).trans ((kH1 h.next (by omega)).trans gB1)
  have rB2 := rdn_all (n := 6) gB2 rfl
  have W2 : Own encW h2 vw' (ws ++ [w]) fw' := (O1.keep fun b hb => kH1 b (by
    rcases fw1 b hb with h5 | h5
    · have := lw b h5; omega
    · omega)).keep fun b hb => U2.get b (by have := O1.live b hb; omega) fun hm => by
      rcases fw1 b hb with h5 | h5
      · exact (A.d1 b h5).1 hm
      · have := li b hm; omega
  have P2 : Own encSl h2 (.slice ao os.length co) os fo := (P1.keep fun b hb => kH1 b (by have := lo b hb; omega)).keep fun b hb => U2.get b (by have := lo b hb; omega) fun hm => A.d2 b hm hb
  have z2 : ∀ b, b < h.next → b ∉ fw → b ∉ fi → h2.get b = h.get b := fun b hb hn hi => (U2.get b (by omega) hi).trans ((kH1 b (by omega)).trans (z1 b hb hn))
  obtain ⟨aw', cw', rfl, _⟩ := W2.len
  obtain ⟨ai', ci', rfl, _⟩ := O2.len
  simp only [List.length_append, List.length_map, List.length_singleton] at W2 O2
  have hlo := fun h => lift_of (h := h) (w := w)
  simp only [encIns] at hlo
  have lp2 := lt_of_get gp2
  simp (maxSteps:=9^7)(disch:=first|assumption|((try simp only[nX]);omega)|simp) [gp2, gB2, rB2]
  generalize hH3 : Hp.put h2 p _ = h3
  have n3 : h3.next = h2.next := by rw [← hH3]; rfl
  have k3 : ∀ b, b ≠ p → h3.get b = h2.get b := fun b hb => by rw [← hH3, get_put_ne (by omega)]
  have gp3 : h3.get p = some (.cells false [u32 a, .slice aw' (ws.length + 1) cw', .slice ai' (ws.length + 1) ci', .slice ao os.length co]) := by rw [← hH3, get_put_self lp2]
  clear hH3
  refine GCI_intro (hlo _) fun v h4 ⟨⟨al, cl, hv, Sl4⟩, K4⟩ => ?_
  subst hv
  have n4 := K4.le
  simp only [adv_next] at n4
  have k4 : ∀ b, b < h3.next → h4.get b = h3.get b := fun b hb => (K4.get b (by simp only [adv_next]; omega)).trans (adv_get ..)
  have gp4 := (k4 p (by omega)).trans gp3
  simp (maxSteps:=9^7)(disch:=first|assumption|((try simp only[nX]);omega)|simp) [gp4]
  refine GCI_intro (opt_Opt Sl4 (by have := lops_len (dOf w); omega)) fun v h5 ⟨O5, K5⟩ => ?_
  obtain ⟨a5, c5, rfl, S5, hc5, hf5⟩ := own_new_sees O5
  have hbop : (if oks (lops (dOf w)) then iopt (lops (dOf w)) else []) = bop (dOf w) := rfl
  rw [hbop] at S5 hc5 ⊢
  clear O5
  have n5 := K5.le
  have k5 : ∀ b, b < h3.next → h5.get b = h3.get b := fun b hb => (K5.get b (by omega)).trans (k4 b hb)
  have gp5 := (k5 p (by omega)).trans gp3
  simp (maxSteps:=9^7)(disch:=first|assumption|((try simp only[nX]);omega)|simp) [gp5]
  generalize hH5 : Hp.put h5 h2.next _ = H5
  have nH5 : H5.next = h5.next := by rw [← hH5]; rfl
  have kH5 : ∀ b, b ≠ h2.next → H5.get b = h5.get b := fun b hb => by rw [← hH5, get_put_ne hb]
  have gS : H5.get h2.next = some (.cells false [.slice a5 (bop (dOf w)).length c5]) := by rw [← hH5, get_put_self (by omega)]
  clear hH5
  have fi2 : ∀ b ∈ fi', b < h2.next := fun b hb => O2.live b hb
  have fw2 : ∀ b ∈ fw', b < h2.next := fun b hb => W2.live b hb
  have fo2 : ∀ b ∈ fo, b < h2.next := fun b hb => P2.live b hb
  have k25 : ∀ b, b < h2.next → b ≠ p → H5.get b = h2.get b := fun b hb hp => (kH5 b (by omega)).trans ((k5 b (by omega)).trans (k3 b hp))
  have pw' : p ∉ fw' := fun hm => by
    rcases fw1 p hm with h5 | h5
    · exact A.dw h5
    · omega
  have pi' : p ∉ fi' := fun hm => by
    rcases fi1 p hm with h5 | h5
    · exact A.di h5
    · omega
  have P5 : Own encSl H5 (.slice ao os.length co) os fo := P2.keep fun b hb => k25 b (fo2 b hb) fun hp => A.do' (hp ▸ hb)
  refine GVI_app (E := encSl) (bytes := 24) (ys := [⟨a5, (bop (dOf w)).length, c5⟩]) P5 (sees_new gS rfl) rfl (by have := A.ol; simp; omega) (by have := A.ol; simp; omega) fun vo' h6 fo' O6 U6 => ?_
  have n6 := U6.le
  have gp6 := (U6.get p (by omega) A.do').trans ((kH5 p (by omega)).trans gp5)
  obtain ⟨ao', co', rfl, _⟩ := O6.len
  have lp6 := lt_of_get gp6
  simp (maxSteps:=9^7)(disch:=first|assumption|((try simp only[nX]);omega)|simp) [gp6]
  have k26 : ∀ b, b < h2.next → b ≠ p → b ∉ fo → h6.get b = h2.get b := fun b hb hp hn => (U6.get b (by omega) hn).trans (k25 b hb hp)
  generalize hH7 : Hp.put h6 p _ = h7
  have n7 : h7.next = h6.next := by rw [← hH7]; rfl
  have k7 : ∀ b, b ≠ p → h7.get b = h6.get b := fun b hb => by rw [← hH7, get_put_ne hb]
  have gp7 : h7.get p = some (.cells false [u32 a, .slice aw' (ws.length + 1) cw', .slice ai' (ws.length + 1) ci', .slice ao' (os ++ [(⟨a5, (bop (dOf w)).length, c5⟩ : Sl)]).length co']) := by rw [← hH7, get_put_self lp6]; simp
  clear hH7
  have fo1 : ∀ b ∈ fo', b ∈ fo ∨ H5.next ≤ b := U6.sub
  have wo : ∀ b ∈ fw', b ∉ fo := fun b hb hm => by
    rcases fw1 b hb with h8 | h8
    · exact (A.d1 b h8).2 hm
    · have := lo b hm; omega
  have io : ∀ b ∈ fi', b ∉ fo := fun b hb hm => by
    rcases fi1 b hb with h8 | h8
    · exact A.d2 b h8 hm
    · have := lo b hm; omega
  have po' : p ∉ fo' := fun hm => by
    rcases fo1 p hm with h8 | h8
    · exact A.do' h8
    · omega
  have z7 : ∀ b, b < h.next → b ≠ p → b ∉ fw → b ∉ fi → b ∉ fo → h7.get b = h.get b := fun b hb h8 h9 h10 h11 =>
    (k7 b h8).trans ((k26 b (by omega) h8 h11).trans (z2 b hb h9 h10))
  refine hq h7 (os ++ [(⟨a5, (bop (dOf w)).length, c5⟩ : Sl)]) _ _ _ fw' fi' fo' ⟨gp7, ?_, ?_, ?_, pw', pi', po', fun b hb => ⟨fun hm => ?_, fun hm => ?_⟩, fun b hb hm => ?_, by simp [A.ol], fun j s w' hs hw => ?_⟩ ⟨by omega, fun b hb hn => ?_, fun b hb => ?_⟩
  · exact W2.keep fun b hb => (k7 b fun hp => pw' (hp ▸ hb)).trans (k26 b (fw2 b hb) (fun hp => pw' (hp ▸ hb)) (wo b hb))
  · have : List.map dOf (ws ++ [w]) = ws.map dOf ++ [dOf w] := by simp
    rw [this]
    exact O2.keep fun b hb => (k7 b fun hp => pi' (hp ▸ hb)).trans (k26 b (fi2 b hb) (fun hp => pi' (hp ▸ hb)) (io b hb))
  · exact O6.keep fun b hb => k7 b fun hp => po' (hp ▸ hb)
  · rcases fi1 b hm with h8 | h8
    · rcases fw1 b hb with h9 | h9
      · exact (A.d1 b h9).1 h8
      · have := li b h8; omega
    · have := O1.live b hb; omega
  · rcases fo1 b hm with h8 | h8
    · exact wo b hb h8
    · have := fw2 b hb; omega
  · rcases fo1 b hm with h8 | h8
    · exact io b hb h8
    · have := fi2 b hb; omega
  · have hol := A.ol
    by_cases hj : j < os.length
    · rw [List.getElem?_append_left hj] at hs
      rw [List.getElem?_append_left (by omega)] at hw
      obtain ⟨c1, c2, c3⟩ := A.oc j s w' hs hw
      have hlt := sees_lt c2
      refine ⟨c1, sees_keep c2 fun B hB => ?_, fun B hB => ?_⟩
      · obtain ⟨e1, e2, e3, e4⟩ := c3 B hB
        exact z7 _ (hlt B hB) (by omega) e2 e3 e4
      · obtain ⟨e1, e2, e3, e4⟩ := c3 B hB
        have hb := hlt B hB
        refine ⟨e1, fun hm => ?_, fun hm => ?_, fun hm => ?_⟩
        · rcases fw1 _ hm with h8 | h8
          · exact e2 h8
          · omega
        · rcases fi1 _ hm with h8 | h8
          · exact e3 h8
          · omega
        · rcases fo1 _ hm with h8 | h8
          · exact e4 h8
          · omega
    · have hj2 : j = os.length := by
        have := (List.getElem?_eq_some_iff.mp hs).1
        simp at this; omega
      subst hj2
      rw [List.getElem?_append_right (Nat.le_refl _), Nat.sub_self] at hs
      rw [hol, List.getElem?_append_right (Nat.le_refl _), Nat.sub_self] at hw
      simp only [List.getElem?_cons_zero, Option.some.injEq] at hs hw
      subst hs hw
      have hlt := sees_lt S5
      refine ⟨rfl, sees_keep S5 fun B hB => ?_, fun B hB => ?_⟩
      · have h8 := hlt B hB
        have h9 := hf5 B hB
        exact (k7 _ (by omega)).trans ((U6.get _ (by omega) fun hm => by have := fo2 _ hm; omega).trans (kH5 _ (by omega)))
      · have h8 := hlt B hB
        have h9 := hf5 B hB
        refine ⟨by omega, fun hm => ?_, fun hm => ?_, fun hm => ?_⟩
        · have := fw2 _ hm; omega
        · have := fi2 _ hm; omega
        · rcases fo1 _ hm with h10 | h10
          · have := fo2 _ h10; omega
          · omega
  · simp only [List.mem_cons, List.mem_append, not_or] at hn
    exact z7 b hb hn.1 hn.2.1.1 hn.2.1.2 hn.2.2
  · simp only [List.mem_cons, List.mem_append] at hb ⊢
    rcases hb with h8 | (h8 | h8) | h8
    · exact .inl (.inl h8)
    · rcases fw1 b h8 with h9 | h9
      · exact .inl (.inr (.inl (.inl h9)))
      · right; omega
    · rcases fi1 b h8 with h9 | h9
      · exact .inl (.inr (.inl (.inr h9)))
      · right; omega
    · rcases fo1 b h8 with h9 | h9
      · exact .inl (.inr (.inr h9))
      · right; omega
end
end Go.Proofs.YtmgoleiafiffoaaGreat.Cd

/- block: the block at a place. -/
set_option maxRecDepth 1000000
set_option maxHeartbeats 8000000
set_option linter.unusedSimpArgs false
set_option linter.unusedVariables false
namespace Go.Proofs.YtmgoleiafiffoaaGreat.Cd
open Go Go.Dx
/-- A block's row of operations. -/
def BO (h : Hp) (ws : List (BitVec 32)) (os : List Sl) (lo : Nat) : Prop := os.length = ws.length ∧ ∀ (j : Nat) (s : Sl) (w : BitVec 32), os[j]? = some s → ws[j]? = some w → s.n = (bop (dOf w)).length ∧ Sees encOp h s.a (bop (dOf w)) ∧ ∀ A : Addr, s.a = some A → lo ≤ A.block
/-- A block that is handed out. -/
def BR (h : Hp) (v : Value) (a : BitVec 32) (ws : List (BitVec 32)) (lo : Nat) : Prop :=
  ∃ (aw ai ao : Option Addr) (cw ci co : Nat) (os : List Sl), v = .tuple #[.agg #[u32 a, .slice aw ws.length cw, .slice ai ws.length ci, .slice ao ws.length co], .bool true] ∧ Sees encW h aw ws ∧ Sees encIns h ai (ws.map dOf) ∧ Sees encSl h ao os ∧ BO h ws os lo ∧ ∀ A : Addr, aw = some A ∨ ai = some A ∨ ao = some A → lo ≤ A.block
section
variable {h h' : Hp} {q : Value → Hp → Prop} {w a : BitVec 32} {x p : Nat} {ws : List (BitVec 32)} {os : List Sl} {vw vi vo : Value} {fw fi fo : List Nat} {B : By} {M W : List Bool}
theorem Bk.br {lo : Nat} (A : Bk h p a ws os vw vi vo fw fi fo) (hlp : lo ≤ p) (hlo : ∀ b, b ∈ fw ∨ b ∈ fi ∨ b ∈ fo → lo ≤ b) : ∃ aw ai ao cw ci co, vw = .slice aw ws.length cw ∧ vi = .slice ai ws.length ci ∧ vo = .slice ao ws.length co ∧ (∀ h' : Hp, (∀ b, b ∈ fw ∨ b ∈ fi ∨ b ∈ fo ∨ p < b → b < h.next → h'.get b = h.get b) → BR h' (.tuple #[.agg #[u32 a, vw, vi, vo], .bool true]) a ws lo) := by
  obtain ⟨aw, cw, rfl, sw, _, bw⟩ := A.w.len
  obtain ⟨ai, ci, rfl, si, _, bi⟩ := A.i.len
  obtain ⟨ao, co, rfl, so, _, bo⟩ := A.o.len
  have hol := A.ol
  refine ⟨aw, ai, ao, cw, ci, co, rfl, by simp, by rw [hol], fun h' hk => ?_⟩
  refine ⟨aw, ai, ao, cw, ci, co, os, by simp [hol], sees_keep sw fun B hB => ?_, sees_keep si fun B hB => ?_, sees_keep so fun B hB => ?_, ⟨hol, fun j s w hs hw => ?_⟩, fun B hB => ?_⟩
  · exact hk _ (.inl (bw B hB)) (sees_lt sw B hB)
  · exact hk _ (.inr (.inl (bi B hB))) (sees_lt si B hB)
  · exact hk _ (.inr (.inr (.inl (bo B hB)))) (sees_lt so B hB)
  · obtain ⟨c1, c2, c3⟩ := A.oc j s w hs hw
    refine ⟨c1, sees_keep c2 fun B hB => ?_, fun B hB => ?_⟩
    · obtain ⟨e1, e2, e3, e4⟩ := c3 B hB
      exact hk _ (.inr (.inr (.inr e1))) (sees_lt c2 B hB)
    · have := (c3 B hB).1
      omega
  · rcases hB with hB | hB | hB
    · exact hlo _ (.inl (bw B hB))
    · exact hlo _ (.inr (.inl (bi B hB)))
    · exact hlo _ (.inr (.inr (bo B hB)))
theorem Bk.kp (A : Bk h p a ws os vw vi vo fw fi fo) (K : Kp h h') : Bk h' p a ws os vw vi vo fw fi fo :=
  ⟨(K.get _ (lt_of_get A.g)).trans A.g, A.w.kp K, A.i.kp K, A.o.kp K, A.dw, A.di, A.do', A.d1, A.d2, A.ol, fun j s w hs hw => by
    obtain ⟨c1, c2, c3⟩ := A.oc j s w hs hw
    exact ⟨c1, c2.kp K, c3⟩⟩
theorem rem4 : (a % 4#32 = 0#32) ↔ a.toNat % 4 = 0 := by
  rw [← BitVec.toNat_inj]
  simp
theorem bfind_no {most : Int} (R : Ra h x B M W) (hc : ¬ (a.toNat % 4 = 0 ∧ a.toNat < B.length)) : WC T n_04 [ptr (x + 3) 0, u32 a, .int .i64 most] h fun v h' => Kp h h' ∧ v = .tuple #[.agg #[u32 0#32, .slice none 0 0, .slice none 0 0, .slice none 0 0], .bool false] := by
  have hsz := R.sz
  have hml := R.ml
  have eL : (BitVec.ofNat 32 B.length ≤ a) ↔ B.length ≤ a.toNat := by
    rw [BitVec.le_def, BitVec.toNat_ofNat, Nat.mod_eq_of_lt (by omega)]
  have hs0 := fun q => rsize (q := q) (R.kp ((Kp.refl h).push (.cells false [u32 0#32, .slice none 0 0, .slice none 0 0, .slice none 0 0])))
  rw [w_04]
  by_cases c1 : a.toNat % 4 = 0
  case neg =>
    have c1' : ¬ a % 4#32 = 0#32 := fun hh => c1 (rem4.mp hh)
    simp (maxSteps:=9^7)(disch:=first|assumption|((try simp only[nX]);omega)|simp) [c1']
  have c1' : a % 4#32 = 0#32 := rem4.mpr c1
  have c2' : BitVec.ofNat 32 B.length ≤ a := eL.mpr (by omega)
  simp (maxSteps:=9^7)(disch:=first|assumption|((try simp only[nX]);omega)|simp) [c1', c2', GC_of hs0]
theorem bfind {most : Int} (R : Ra h x B M W) (c1 : a.toNat % 4 = 0) (c2 : a.toNat < B.length) : WC T n_04 [ptr (x + 3) 0, u32 a, .int .i64 most] h fun v h' => Kp h h' ∧ BR h' v a (bws B (max 1 (min most 32)).toNat true false a) h.next := by
  have hsz := R.sz
  have hml := R.ml
  have hlt := R.lt
  have eL : (BitVec.ofNat 32 B.length ≤ a) ↔ B.length ≤ a.toNat := by
    rw [BitVec.le_def, BitVec.toNat_ofNat, Nat.mod_eq_of_lt (by omega)]
  have hs0 := fun q => rsize (q := q) (R.kp ((Kp.refl h).push (.cells false [u32 0#32, .slice none 0 0, .slice none 0 0, .slice none 0 0])))
  have c1' : a % 4#32 = 0#32 := rem4.mpr c1
  have c2' : ¬ BitVec.ofNat 32 B.length ≤ a := fun hh => by have := eL.mp hh; omega
  obtain ⟨m, hm, h1, h2⟩ : ∃ m : Nat, (if 1 < if 32 < most then 32 else most then if 32 < most then 32 else most else 1) = (m : Int) ∧ 1 ≤ m ∧ m ≤ 32 := ⟨(max 1 (min most 32)).toNat, by omega, by omega, by omega⟩
  have em : (max 1 (min most 32)).toNat = m := by omega
  rw [em]
  rw [w_04]
  simp (maxSteps:=9^7)(disch:=first|assumption|((try simp only[nX]);omega)|simp) [c1', c2', GC_of hs0, hm]
  generalize hP : Hp.push (Hp.push h _) _ = P
  have nP : P.next = h.next + 2 := by rw [← hP]; rfl
  have KP : Kp h P := by rw [← hP]; exact ((Kp.refl h).push _).push _
  have g6 : P.get h.next = some (.cells false [u32 0#32, .slice none 0 0, .slice none 0 0, .slice none 0 0]) := by rw [← hP, get_push_ne (by simp), get_push_self]
  have g8 : P.get (h.next + 1) = some (.cells false [u32 a, .slice none 0 0, .slice none 0 0, .slice none 0 0]) := by rw [← hP]; exact get_push_self
  have A0 : Bk P (h.next + 1) a [] [] (.slice none 0 0) (.slice none 0 0) (.slice none 0 0) [] [] [] := ⟨g8, .nul, .nul, .nul, by simp, by simp, by simp, by simp, by simp, rfl, by simp⟩
  clear g8 hP
  have fini : ∀ (e : Env) (h' : Hp) (ws : List (BitVec 32)) (os : List Sl) (vw vi vo : Value) (fw fi fo : List Nat), bws B m true false a = ws → e 6 = ptr h.next 0 → Bk h' (h.next + 1) a ws os vw vi vo fw fi fo →
      (∀ b, b ∈ fw ∨ b ∈ fi ∨ b ∈ fo → h.next + 1 < b) → Kp h h' → h'.get h.next = some (.cells false [u32 0#32, .slice none 0 0, .slice none 0 0, .slice none 0 0]) →
      GV T (fin [RV.ldn 4 6, RV.t 7] (some []) h.next fun v h' => Kp h h' ∧ BR h' v a (bws B m true false a) h.next) (Option.map (fun c => (Value.agg c.toArray, h')) (h'.rdn (h.next + 1) 0 4)) (some 81) [{ d := none, g := none, o := Op.stn 4 (X.t 6) (X.t 81) }, { d := some 7, g := none, o := Op.mov (X.c (Value.bool true)) }] [Fr.seq C.ret] e := fun e h' ws os vw vi vo fw fi fo hb e6 A hf K g6 => by
    rw [hb]
    obtain ⟨aw, ai, ao, cw, ci, co, rfl, rfl, rfl, hbr⟩ := A.br (lo := h.next) (by omega) (fun b hb => by have := hf b hb; omega)
    have gp := A.g
    have r8 := rdn_all (n := 4) gp rfl
    have l6 := lt_of_get g6
    simp (maxSteps:=9^7)(disch:=first|assumption|((try simp only[nX]);omega)|simp) [e6, r8, g6, l6]
    refine hbr _ fun b hb hl => ?_
    rw [get_put_ne]
    intro h0
    subst h0
    rcases hb with h5 | h5 | h5 | h5
    · have := hf _ (.inl h5); omega
    · have := hf _ (.inr (.inl h5)); omega
    · have := hf _ (.inr (.inr h5)); omega
    · omega
  refine G_loop (fun j e h' => ∃ (k : Nat) (ws : List (BitVec 32)) (os : List Sl) (vw vi vo : Value) (fw fi fo : List Nat) (slot : Bool), j = m - k ∧ k ≤ m ∧ ws.length = k ∧ bws B m true false a = ws ++ bws B (m - k) (decide (k = 0)) slot (a + BitVec.ofNat 32 (4 * k)) ∧ Bk h' (h.next + 1) a ws os vw vi vo fw fi fo ∧
    (∀ b, b ∈ fw ∨ b ∈ fi ∨ b ∈ fo → h.next + 1 < b) ∧ Kp h h' ∧ h'.get h.next = some (.cells false [u32 0#32, .slice none 0 0, .slice none 0 0, .slice none 0 0]) ∧ e 0 = ptr (x + 3) 0 ∧ e 1 = u32 a ∧ e 6 = ptr h.next 0 ∧ e 8 = ptr (h.next + 1) 0 ∧ e 9 = .bool slot ∧ e 35 = .int .i64 m ∧ e 36 = .int .i64 k) ?_ m _ _
    ⟨0, [], [], _, _, _, [], [], [], false, rfl, Nat.zero_le _, rfl, by simp, A0, by simp, KP, g6, by simp, by simp, by simp, by simp, by simp, by simp, by simp⟩
  clear A0 KP nP g6 P
  rintro j ih e h' ⟨k, ws, os, vw, vi, vo, fw, fi, fo, slot, rfl, hk, hwl, hb, A, hf, K, g6, e0, e1, e6, e8, e9, e35, e36⟩
  by_cases hkm : k < m
  case neg =>
    obtain rfl : k = m := by omega
    have hb' : bws B k true false a = ws := by rw [hb]; simp [bws]
    simp (maxSteps:=9^7)(disch:=first|assumption|((try simp only[nX]);omega)|simp) [e35, e36, e8]
    exact fini _ _ _ _ _ _ _ _ _ _ hb' (by simp [e6]) A hf K g6
  have hki : (k : Int) < m := by omega
  have R' := R.kp K
  have hy : BitVec.ofInt 32 (4 * (k : Int)) = BitVec.ofNat 32 (4 * k) := by
    rw [show (4 * (k : Int)) = ((4 * k : Nat) : Int) by omega, BitVec.ofInt_natCast]
  have hmk : m - k = (m - (k + 1)) + 1 := by omega
  generalize hyy : a + BitVec.ofNat 32 (4 * k) = y at hb
  have hy1 : y + 4#32 = a + BitVec.ofNat 32 (4 * (k + 1)) := by
    rw [← hyy, BitVec.add_assoc]
    congr 1
    apply BitVec.eq_of_toNat_eq
    simp
    omega
  have hld := fun q => rload (q := q) (a := y) (n := 4) R' (by omega)
  have hlw : (if evB B y 4 = true then ldB B y.toNat (Int.toNat 4) else 0#32) = ldw B y := rfl
  rw [hlw] at hld
  -- what is done behind the test of the page
  have main : ∀ e2 : Env, e2 0 = ptr (x + 3) 0 → e2 1 = u32 a → e2 6 = ptr h.next 0 → e2 8 = ptr (h.next + 1) 0 → e2 9 = .bool slot → e2 35 = .int .i64 m → e2 36 = .int .i64 k → e2 11 = u32 y → ¬ (decide (k = 0) = false ∧ y % 1024#32 = 0#32) → 
      G T (fin [RV.ldn 4 6, RV.t 7] (some []) h.next fun v h' => Kp h h' ∧ BR h' v a (bws B m true false a) h.next) c3_04 [Fr.block 1, Fr.seq (C.ops [{ d := some 80, g := none, o := Op.bin BinOp.add (X.t 36) (X.c (Value.int IntKind.i64 1)) }, { d := some 36, g := none, o := Op.mov (X.t 80) }]), Fr.loop c6_04, Fr.block 0, Fr.seq ((C.ops [{ d := some 81, g := none, o := Op.ldn 4 (X.t 8) }, { d := none, g := none, o := Op.stn 4 (X.t 6) (X.t 81) }, { d := some 7, g := none, o := Op.mov (X.c (Value.bool true)) }]).seq C.ret)] e2 h' := fun e2 e0 e1 e6 e8 e9 e35 e36 e11 hpg => by
    rw [hmk, bws, if_neg hpg] at hb
    simp (maxSteps:=9^7)(disch:=first|assumption|((try simp only[nX]);omega)|simp) [e0, e11, GC_of hld]
    refine GC_intro (dec_of (w := ldw B y)) fun v h2 ⟨hv, K2⟩ => ?_
    subst hv
    have hkk := (dOf_bd (ldw B y)).1
    have hc := fun h q => dec_class (h := h) (q := q) hkk
    simp only [encIns] at hc
    simp (maxSteps:=9^7)(disch:=first|assumption|((try simp only[nX]);omega)|simp) [encIns, GC_of (hc _), -g1_04]
    generalize hH : Hp.push (Hp.push h2 _) _ = H
    have KH : Kp h2 H := by rw [← hH]; exact ((Kp.refl h2).push _).push _
    have gB : H.get h2.next = some (.cells false (encIns.enc (dOf (ldw B y)))) := by rw [← hH, get_push_ne (by simp), get_push_self]; rfl
    clear hH hc hld
    have KhH : Kp h' H := K2.trans KH
    have A2 := A.kp KhH
    have rB := rdn_all (n := 6) gB rfl
    simp only [encIns] at rB
    have l6 := lt_of_get g6
    have g6' := (KhH.get _ l6).trans g6
    have K' := K.trans KhH
    generalize ldw B y = wd at *
    have lp := lt_of_get A2.g
    have after : ∀ (h3 : Hp) (os3 : List Sl) (vw3 vi3 vo3 : Value) (fw3 fi3 fo3 : List Nat), Bk h3 (h.next + 1) a (ws ++ [wd]) os3 vw3 vi3 vo3 fw3 fi3 fo3 → Upd H h3 ((h.next + 1) :: (fw ++ fi ++ fo)) ((h.next + 1) :: (fw3 ++ fi3 ++ fo3)) →
        (∀ b, b ∈ fw3 ∨ b ∈ fi3 ∨ b ∈ fo3 → h.next + 1 < b) ∧ Kp h h3 ∧ h3.get h.next = some (.cells false [u32 0#32, .slice none 0 0, .slice none 0 0, .slice none 0 0]) := fun h3 os3 vw3 vi3 vo3 fw3 fi3 fo3 A3 U3 => by
      refine ⟨fun b hb => ?_, U3.kp' K' fun b hb => ?_, (U3.get _ (by omega) fun hm => ?_).trans g6'⟩
      · have hne : b ≠ h.next + 1 := fun he => by
          subst he
          rcases hb with h5 | h5 | h5
          · exact A3.dw h5
          · exact A3.di h5
          · exact A3.do' h5
        rcases U3.sub b (by simp only [List.mem_cons, List.mem_append]; rcases hb with h5 | h5 | h5 <;> simp [h5]) with h5 | h5
        · simp only [List.mem_cons, List.mem_append] at h5
          rcases h5 with h5 | (h5 | h5) | h5
          · exact absurd h5 hne
          · exact hf b (.inl h5)
          · exact hf b (.inr (.inl h5))
          · exact hf b (.inr (.inr h5))
        · omega
      · simp only [List.mem_cons, List.mem_append] at hb
        rcases hb with h5 | (h5 | h5) | h5
        · omega
        · have := hf b (.inl h5); omega
        · have := hf b (.inr (.inl h5)); omega
        · have := hf b (.inr (.inr h5)); omega
      · simp only [List.mem_cons, List.mem_append] at hm
        rcases hm with h5 | (h5 | h5) | h5
        · omega
        · have := hf _ (.inl h5); omega
        · have := hf _ (.inr (.inl h5)); omega
        · have := hf _ (.inr (.inr h5)); omega
    cases slot with
    | true =>
      by_cases s6 : dcls (dOf wd).k = 6
      · have hb' : bws B m true false a = ws := by rw [hb, if_pos ⟨rfl, .inr s6⟩, List.append_nil]
        simp (maxSteps:=9^7)(disch:=first|assumption|((try simp only[nX]);omega)|simp) [e9, s6, e8]
        exact fini _ _ _ _ _ _ _ _ _ _ hb' (by simp [e6]) A2 hf K' g6'
      by_cases s3 : dcls (dOf wd).k = 3
      · have hb' : bws B m true false a = ws := by rw [hb, if_pos ⟨rfl, .inl s3⟩, List.append_nil]
        simp (maxSteps:=9^7)(disch:=first|assumption|((try simp only[nX]);omega)|simp) [e9, s3, e8]
        exact fini _ _ _ _ _ _ _ _ _ _ hb' (by simp [e6]) A2 hf K' g6'
      have hb' : bws B m true false a = ws ++ [wd] := by rw [hb, if_neg (by simp [s3, s6]), if_pos (.inl rfl)]
      simp (maxSteps:=9^7)(disch:=first|assumption|((try simp only[nX]);omega)|simp) [e9, s6, s3, e8, rB]
      refine badd A2 (by omega) fun h3 os3 vw3 vi3 vo3 fw3 fi3 fo3 A3 U3 => ?_
      obtain ⟨hf3, K3, g3⟩ := after _ _ _ _ _ _ _ _ A3 U3
      simp (maxSteps:=9^7)(disch:=first|assumption|((try simp only[nX]);omega)|simp) [s6, s3, e9, e8]
      exact fini _ _ _ _ _ _ _ _ _ _ hb' (by simp [e6]) A3 hf3 K3 g3
    | false =>
      by_cases s6 : dcls (dOf wd).k = 6
      · have hb' : bws B m true false a = ws ++ [wd] := by rw [hb, if_neg (by simp), if_pos (.inr s6)]
        simp (maxSteps:=9^7)(disch:=first|assumption|((try simp only[nX]);omega)|simp) [e9, s6, e8, rB]
        refine badd A2 (by omega) fun h3 os3 vw3 vi3 vo3 fw3 fi3 fo3 A3 U3 => ?_
        obtain ⟨hf3, K3, g3⟩ := after _ _ _ _ _ _ _ _ A3 U3
        simp (maxSteps:=9^7)(disch:=first|assumption|((try simp only[nX]);omega)|simp) [s6, e9, e8]
        exact fini _ _ _ _ _ _ _ _ _ _ hb' (by simp [e6]) A3 hf3 K3 g3
      by_cases s3 : dcls (dOf wd).k = 3
      · have hb' : bws B m true false a = ws ++ [wd] ++ bws B (m - (k + 1)) (decide (k + 1 = 0)) true (a + BitVec.ofNat 32 (4 * (k + 1))) := by rw [hb, if_neg (by simp), if_neg (by simp [s6]), hy1]; simp [s3]
        simp (maxSteps:=9^7)(disch:=first|assumption|((try simp only[nX]);omega)|simp) [e9, s3, e8, rB]
        refine badd A2 (by omega) fun h3 os3 vw3 vi3 vo3 fw3 fi3 fo3 A3 U3 => ?_
        obtain ⟨hf3, K3, g3⟩ := after _ _ _ _ _ _ _ _ A3 U3
        simp (maxSteps:=9^7)(disch:=first|assumption|((try simp only[nX]);omega)|simp) [s3, e9, e8, e36]
        exact ih (m - (k + 1)) (by omega) _ _ ⟨k + 1, ws ++ [wd], os3, vw3, vi3, vo3, fw3, fi3, fo3, true, rfl, by omega, by simp [hwl], hb', A3, hf3, K3, g3, by simp [e0], by simp [e1], by simp [e6], by simp [e8], by simp, by simp [e35], by simp⟩
      · have hb' : bws B m true false a = ws ++ [wd] ++ bws B (m - (k + 1)) (decide (k + 1 = 0)) false (a + BitVec.ofNat 32 (4 * (k + 1))) := by rw [hb, if_neg (by simp), if_neg (by simp [s6]), hy1]; simp [s3]
        simp (maxSteps:=9^7)(disch:=first|assumption|((try simp only[nX]);omega)|simp) [e9, s3, s6, e8, rB]
        refine badd A2 (by omega) fun h3 os3 vw3 vi3 vo3 fw3 fi3 fo3 A3 U3 => ?_
        obtain ⟨hf3, K3, g3⟩ := after _ _ _ _ _ _ _ _ A3 U3
        simp (maxSteps:=9^7)(disch:=first|assumption|((try simp only[nX]);omega)|simp) [s3, s6, e9, e8, e36]
        exact ih (m - (k + 1)) (by omega) _ _ ⟨k + 1, ws ++ [wd], os3, vw3, vi3, vo3, fw3, fi3, fo3, false, rfl, by omega, by simp [hwl], hb', A3, hf3, K3, g3, by simp [e0], by simp [e1], by simp [e6], by simp [e8], by simp, by simp [e35], by simp⟩
  by_cases k0 : k = 0
  · have k0' : ¬ 0 < k := by omega
    simp (maxSteps:=9^7)(disch:=first|assumption|((try simp only[nX]);omega)|simp) [e0, e1, e9, e35, e36, hki, hyy, hy, k0', -g3_04]
    exact main _ (by simp [e0]) (by simp [e1]) (by simp [e6]) (by simp [e8]) (by simp [e9]) (by simp [e35]) (by simp [e36]) (by simp [hyy, hy]) (by simp [k0])
  by_cases pg : y % 1024#32 = 0#32
  · have k0' : 0 < k := by omega
    have hb' : bws B m true false a = ws := by rw [hb, hmk, bws, if_pos ⟨by simp [k0], pg⟩, List.append_nil]
    simp (maxSteps:=9^7)(disch:=first|assumption|((try simp only[nX]);omega)|simp) [e0, e1, e8, e35, e36, hki, k0', hyy, hy, pg, -g3_04]
    exact fini _ _ _ _ _ _ _ _ _ _ hb' (by simp [e6]) A hf K g6
  · have k0' : 0 < k := by omega
    simp (maxSteps:=9^7)(disch:=first|assumption|((try simp only[nX]);omega)|simp) [e0, e1, e35, e36, hki, hyy, hy, k0', pg, -g3_04]
    exact main _ (by simp [e0]) (by simp [e1]) (by simp [e6]) (by simp [e8]) (by simp [e9]) (by simp [e35]) (by simp [e36]) (by simp [hyy, hy]) (by simp [pg])
end
end Go.Proofs.YtmgoleiafiffoaaGreat.Cd

/- block: is memory still the same; the known runs; a law's memory. -/
set_option maxRecDepth 1000000
set_option maxHeartbeats 8000000
set_option linter.unusedSimpArgs false
set_option linter.unusedVariables false
namespace Go.Proofs.YtmgoleiafiffoaaGreat.Cd
open Go Go.Dx
section
variable {h h' : Hp} {q : Value → Hp → Prop} {w a : BitVec 32} {x p : Nat} {ws : List (BitVec 32)} {os : List Sl} {B : By} {M W : List Bool} {aw ai ao : Option Addr} {cw ci co : Nat}
theorem bsame (R : Ra h x B M W) (S : Sees encW h aw ws) (hl : ws.length < 2 ^ 30) (vi vo : Value) (hvi : one vi = true) (hvo : one vo = true) :
    WC T n_05 [.agg #[u32 a, .slice aw ws.length cw, vi, vo], ptr (x + 3) 0] h fun v h' => v = .bool (bsm B a 0 ws) ∧ Kp h h' := by
  rw [w_05]
  simp (maxSteps:=9^7)(disch:=first|assumption|((try simp only[nX]);omega)|simp) [hvi, hvo]
  generalize hP : Hp.push h _ = P
  have gP : P.get h.next = some (.cells false [u32 a, .slice aw ws.length cw, vi, vo]) := by rw [← hP]; exact get_push_self
  have KP : Kp h P := by rw [← hP]; exact (Kp.refl h).push _
  have R' := R.kp KP
  have S' := S.kp KP
  refine G_loop (fun j e h' => ∃ us vs, j = vs.length ∧ ws = us ++ vs ∧ bsm B a 0 ws = bsm B a us.length vs ∧ h' = P ∧ e 1 = ptr (x + 3) 0 ∧ e 2 = ptr h.next 0 ∧ e 12 = .slice aw ws.length cw ∧ e 13 = .int .i64 ws.length ∧ e 14 = .int .i64 us.length) ?_ ws.length _ _ ⟨[], ws, rfl, rfl, rfl, rfl, by simp, by simp, by simp, by simp, by simp⟩
  rintro j ih e h' ⟨us, vs, rfl, hx, hb, rfl, e1, e2, e12, e13, e14⟩
  cases vs with
  | nil =>
    have hl : (ws.length : Int) = us.length := by rw [hx]; simp
    simp (maxSteps:=9^7)(disch:=first|assumption|((try simp only[nX]);omega)|simp) [e13, e14, hl]
    rw [hb]
    exact ⟨rfl, KP⟩
  | cons w vs =>
    have hlt : (us.length : Int) < ws.length := by rw [hx]; simp; omega
    have hlt' : us.length < ws.length := by omega
    obtain ⟨A, ro, C, rfl, hg, hC⟩ := Sees.cell (E := encW) (f := u32) (fun _ => rfl) rfl (us := us) (x := w) (vs := vs) (by rw [← hx]; exact S')
    have hy : BitVec.ofInt 32 (4 * (us.length : Int)) = BitVec.ofNat 32 (4 * us.length) := by
      rw [show (4 * (us.length : Int)) = ((4 * us.length : Nat) : Int) by omega, BitVec.ofInt_natCast]
    have hld := fun q => rload (q := q) (a := a + BitVec.ofNat 32 (4 * us.length)) (n := 4) R' (by omega)
    simp only [bsm] at hb
    have i4 : Int.toNat 4 = 4 := rfl
    rw [i4] at hld
    generalize hyy : a + BitVec.ofNat 32 (4 * us.length) = y at *
    by_cases he : evB B y 4 = true
    · rw [if_pos he] at hld
      by_cases hw : ldB B y.toNat 4 = w
      · rw [hw] at hld
        simp (maxSteps:=9^7)(disch:=first|assumption|((try simp only[nX]);omega)|simp) [e1, e2, e12, e13, e14, hlt, hlt', gP, hg, hC, hy, hyy, he, hw, GC_of hld]
        exact ih vs.length (by simp) _ _ ⟨us ++ [w], vs, rfl, by simp [hx], by rw [hb, he, hw]; simp, rfl, by simp [e1], by simp [e2], by simp [e12], by simp [e13], by simp⟩
      · simp (maxSteps:=9^7)(disch:=first|assumption|((try simp only[nX]);omega)|simp) [e1, e2, e12, e13, e14, hlt, hlt', gP, hg, hC, hy, hyy, he, hw, GC_of hld]
        rw [hb, he]
        simp [hw, KP]
    · rw [if_neg he] at hld
      simp (maxSteps:=9^7)(disch:=first|assumption|((try simp only[nX]);omega)|simp) [e1, e2, e12, e13, e14, hlt, hlt', gP, hg, hC, hy, hyy, he, GC_of hld]
      rw [hb]
      simp [he, KP]
theorem bfind_nil {most : Int} : WC T n_04 [.pointer none, u32 a, .int .i64 most] h fun v h' => Kp h h' ∧ v = .tuple #[.agg #[u32 0#32, .slice none 0 0, .slice none 0 0, .slice none 0 0], .bool false] := by
  rw [w_04]
  simp (maxSteps:=9^7)(disch:=first|assumption|((try simp only[nX]);omega)|simp)
theorem bpage (v : Value) (vi vo : Value) (hv : one v = true) (hvi : one vi = true) (hvo : one vo = true) : WC T n_02 [.agg #[u32 a, v, vi, vo]] h fun v h' => v = .int .i64 ((a / 1024#32).toNat : Int) ∧ Kp h h' := by
  rw [w_02]
  simp (maxSteps:=9^7)(disch:=first|assumption|((try simp only[nX]);omega)|simp) [hv, hvi, hvo]
theorem cut_sl {xs : By} {a : Option Addr} {c n : Nat} (S : Sees encB h a xs) (hc : xs.length ≤ c) (hn : n < xs.length) : ∃ a' c', sliceV 1 (.slice a xs.length c) none (some (.int .i64 n)) none = some (.slice a' (xs.take n).length c') ∧ (xs.take n).length ≤ c' ∧ Sees encB h a' (xs.take n) := by
  obtain ⟨a', c', h1, h2, h3⟩ := S.part (c := c) (lo := 0) (hi := n) (l := none) (u := some (.int .i64 n)) (by omega) (by omega) hc (.inl ⟨rfl, rfl⟩) (.inr ⟨.i64, rfl⟩)
  simp only [Nat.sub_zero, List.drop_zero, encB_sz] at h1 h2 h3
  have hl : (xs.take n).length = n := by rw [List.length_take]; omega
  exact ⟨a', c', by rw [hl]; exact h1, by omega, h3⟩
theorem bmem {im : By} {ai : Option Addr} {c : Nat} (S : Sees encB h ai im) (hc : im.length ≤ c) (hl : im.length < 2 ^ 63)
    (hq : ∀ (h' : Hp) (x y : Nat) (B : By) (M W M' W' : List Bool), Ra h' x B M W → Ra h' y B M' W' → h.next ≤ x → x + 3 < y → Kp h h' → B.length = 2048 → q (.tuple #[ptr (x + 3) 0, ptr (y + 3) 0]) h') : WC T n_1s [.slice ai im.length c] h q := by
  rw [w_1s]
  simp (maxSteps:=9^7)(disch:=first|assumption|((try simp only[nX]);omega)|simp)
  refine rnew fun h1 R1 K1 n1 => ?_
  rw [show (max 1 (min (2 : Int) 64)).toNat = 2 from rfl] at R1
  simp (maxSteps:=9^7)(disch:=first|assumption|((try simp only[nX]);omega)|simp)
  refine m2new fun h2 R2 K2 n2 => ?_
  rw [show pgs 2 = 2 from rfl] at R2
  have R1 := R1.kp K2
  have K12 := K1.trans K2
  have hB : (List.replicate (1024 * 2) 0#8 : By).length = 2048 := List.length_replicate
  generalize (List.replicate (1024 * 2) 0#8 : By) = B at *
  generalize List.replicate 2 false = M at *
  rw [n1] at R2 n2
  have S2 := S.kp K12
  obtain ⟨y, hy⟩ : ∃ y, y = h1.next := ⟨_, rfl⟩
  rw [n1] at hy
  rw [← hy] at R2
  have main : ∀ (im : By) (ai : Option Addr) (c : Nat) (e : Env), im.length ≤ 2048 → Sees encB h2 ai im → e 0 = .slice ai im.length c → e 4 = ptr (h.next + 3) 0 → e 5 = ptr (y + 3) 0 → (∀ A, ai = some A → A.block < h.next) → G T (fin [.t 2, .t 3] (some []) h.next q) c0_1s [] e h2 := fun im ai c e hl S e0 e4 e5 hlt => by
    have ht : thB B 0#32 im.length = true := by simp [thB, hB]; omega
    have h00 : (0#32).toNat = 0 := rfl
    simp (maxSteps:=9^7)(disch:=first|assumption|((try simp only[nX]);omega)|simp) [e0, e4]
    refine rput R1 S (by omega) (fun hf => by rw [ht] at hf; cases hf) fun _ h3 R3 U3 => ?_
    have R23 := R2.upd U3 fun b hb => by simp at hb; omega
    have l1 := R1.lt
    have S3 : Sees encB h3 ai im := S.upd U3 fun A hA hm => by have := hlt A hA; simp at hm; omega
    simp (maxSteps:=9^7)(disch:=first|assumption|((try simp only[nX]);omega)|simp) [e0, e5]
    refine zput R23 S3 (by omega) (fun hf => by rw [ht] at hf; cases hf) fun _ h4 R4 U4 => ?_
    have R34 := R3.upd U4 fun b hb => by simp at hb; omega
    simp (maxSteps:=9^7)(disch:=first|assumption|((try simp only[nX]);omega)|simp) [e4, e5]
    refine hq _ _ _ _ _ _ _ _ R34 R4 (Nat.le_refl _) (by omega) ?_ (by rw [ovB_length]; exact hB; rw [h00]; omega)
    exact U4.kp' (U3.kp' K12 (by simp)) (by simp; omega)
  have hlt0 := sees_lt S
  by_cases c1 : 2048 < im.length
  · have ci' : (2048 : Int) < im.length := by omega
    obtain ⟨a', c', h3, h4, h5⟩ := cut_sl S2 hc c1
    have h3' : sliceV 1 (.slice ai im.length c) none (some (.int .i64 2048)) none = some (.slice a' (im.take 2048).length c') := h3
    have hbk := sliceV_block h3
    have hl3 : (im.take 2048).length ≤ 2048 := by rw [List.length_take]; omega
    generalize im.take 2048 = im' at *
    simp (maxSteps:=9^7)(disch:=first|assumption|((try simp only[nX]);omega)|simp) [ci', h3', -g0_1s]
    exact main im' a' c' _ hl3 h5 (by simp) (by simp) (by simp [hy, n1]) fun A hA => by
      obtain ⟨A0, hA0, hAb⟩ := hbk A hA
      rw [hAb]; exact hlt0 A0 hA0
  · have ci' : ¬ (2048 : Int) < im.length := by omega
    simp (maxSteps:=9^7)(disch:=first|assumption|((try simp only[nX]);omega)|simp) [ci', -g0_1s]
    exact main im ai c _ (by omega) S2 (by simp) (by simp) (by simp [hy, n1]) hlt0
theorem bws_zero : bws (List.replicate 1024 0#8) 5 true false 0#32 = [0#32, 0#32, 0#32, 0#32, 0#32] := by decide +kernel
theorem bk21 : WC T n_1r [] h fun v h' => v = .bool true ∧ Kp h h' := by
  rw [w_1r]
  simp (maxSteps:=9^7)(disch:=first|assumption|((try simp only[nX]);omega)|simp)
  refine rnew fun h1 R1 K1 n1 => ?_
  rw [show (max 1 (min (1 : Int) 64)).toNat = 1 from rfl] at R1
  have hz := bws_zero
  have hB : (List.replicate (1024 * 1) 0#8 : By).length = 1024 := List.length_replicate
  have f1 := bfind (a := 0#32) (most := 5) R1 rfl (by rw [hB]; decide)
  rw [show (max 1 (min (5 : Int) 32)).toNat = 5 from rfl, show (List.replicate (1024 * 1) 0#8 : By) = List.replicate 1024 0#8 from rfl, hz] at f1
  have hsm : bsm (List.replicate (1024 * 1) 0#8) 0#32 0 [0#32, 0#32, 0#32, 0#32, 0#32] = true := by decide +kernel
  generalize (List.replicate (1024 * 1) 0#8 : By) = B at *
  simp (maxSteps:=9^7)(disch:=first|assumption|((try simp only[nX]);omega)|simp)
  refine GC_intro f1 fun v h2 ⟨K2, aw, ai, ao, cw, ci, co, os, hv, S1, S2, S3, hbo⟩ => ?_
  subst hv
  have R2 := R1.kp K2
  have K12 := K1.trans K2
  simp only [List.length_cons, List.length_nil] at *
  simp (maxSteps:=9^7)(disch:=first|assumption|((try simp only[nX]);omega)|simp)
  generalize hP : Hp.push h2 _ = P
  have gP : P.get h2.next = some (.cells false [u32 0#32, .slice aw 5 cw, .slice ai 5 ci, .slice ao 5 co]) := by rw [← hP]; exact get_push_self
  have KP : Kp h2 P := by rw [← hP]; exact (Kp.refl h2).push _
  clear hP
  have R3 := R2.kp KP
  refine GC_intro (bfind_no R3 (fun hh => absurd hh.1 (by decide))) fun v h3 ⟨K3, hv⟩ => ?_
  subst hv
  simp (maxSteps:=9^7)(disch:=first|assumption|((try simp only[nX]);omega)|simp)
  generalize hQ : Hp.push h3 _ = Q
  have KQ : Kp h3 Q := by rw [← hQ]; exact (Kp.refl h3).push _
  clear hQ
  refine GC_intro bfind_nil fun v h4 ⟨K4, hv⟩ => ?_
  subst hv
  have KP4 := (K3.trans KQ).trans K4
  have lP := lt_of_get gP
  have g4 := (KP4.get _ lP).trans gP
  simp (maxSteps:=9^7)(disch:=first|assumption|((try simp only[nX]);omega)|simp) [-g0_1r]
  generalize hV : Hp.push h4 _ = V
  have KV : Kp h4 V := by rw [← hV]; exact (Kp.refl h4).push _
  clear hV
  have l4 := lt_of_get g4
  have gV := (KV.get _ l4).trans g4
  have rV := rdn_all (n := 4) gV rfl
  have KPV := KP4.trans KV
  simp (maxSteps:=9^7)(disch:=first|assumption|((try simp only[nX]);omega)|simp) [gV, rV]
  refine GC_intro (bpage _ _ _ rfl rfl rfl) fun v h5 ⟨hv, K5⟩ => ?_
  subst hv
  have rd := rdn_all (n := 4) ((K5.get _ (lt_of_get gV)).trans gV) rfl
  simp (maxSteps:=9^7)(disch:=first|assumption|((try simp only[nX]);omega)|simp) [rd]
  have R5 := (R3.kp KPV).kp K5
  have hs := bsame (a := 0#32) (cw := cw) R5 (((S1.kp KP).kp KPV).kp K5) (by decide) (.slice ai 5 ci) (.slice ao 5 co) rfl rfl
  rw [hsm] at hs
  refine GC_intro hs fun v h6 ⟨hv, K6⟩ => ?_
  subst hv
  simp (maxSteps:=9^7)(disch:=first|assumption|((try simp only[nX]);omega)|simp)
  exact (((K12.trans KP).trans KPV).trans K5).trans K6
end
end Go.Proofs.YtmgoleiafiffoaaGreat.Cd

/- The document's block. -/
set_option maxRecDepth 1000000
set_option maxHeartbeats 8000000
set_option linter.unusedSimpArgs false
set_option linter.unusedVariables false
namespace Go.Proofs.YtmgoleiafiffoaaGreat.Cd
open Go Go.Dx
/-- What is handed out. -/
def P21 (h h' : Hp) (v : Value) (ws : List (BitVec 32)) : Prop := Kp h h' ∧ ∃ (aw ai : Option Addr) (cw ci : Nat), v = .tuple #[.slice aw ws.length cw, .slice ai ws.length ci, .bool true] ∧ Sees encW h' aw ws ∧ Sees encIns h' ai (ws.map dOf)
section
variable {h h' : Hp} {q : Value → Hp → Prop} {w a : BitVec 32} {x : Nat} {B : By} {M W : List Bool}
theorem r21_no {most : Int} (R : Ra h x B M W) (hc : ¬ (a.toNat % 4 = 0 ∧ a.toNat < B.length)) : WC T n_2w [ptr (x + 3) 0, u32 a, .int .i64 most] h fun v h' => v = .tuple #[.slice none 0 0, .slice none 0 0, .bool false] ∧ Kp h h' := by
  have hsz := R.sz
  have hth := fun q => zin (q := q) (a := a) (n := 4) R (by omega)
  rw [w_2w]
  by_cases c1 : a.toNat % 4 = 0
  case neg =>
    have c1' : ¬ a % 4#32 = 0#32 := fun hh => c1 (rem4.mp hh)
    simp (maxSteps:=9^7)(disch:=first|assumption|((try simp only[nX]);omega)|simp) [c1']
  have c1' : a % 4#32 = 0#32 := rem4.mpr c1
  have ht : thB B a 4 = false := by simp [thB]; omega
  rw [ht] at hth
  simp (maxSteps:=9^7)(disch:=first|assumption|((try simp only[nX]);omega)|simp) [c1', GC_of hth]
theorem r21_find {most : Int} (R : Ra h x B M W) (c1 : a.toNat % 4 = 0) (c2 : a.toNat < B.length) : WC T n_2w [ptr (x + 3) 0, u32 a, .int .i64 most] h fun v h' => P21 h h' v (bws B (max 1 (min most 32)).toNat true false a) := by
  have hsz := R.sz
  have hlt := R.lt
  have hth := fun q => zin (q := q) (a := a) (n := 4) R (by omega)
  have c1' : a % 4#32 = 0#32 := rem4.mpr c1
  have ht : thB B a 4 = true := by simp [thB]; omega
  rw [ht] at hth
  obtain ⟨m, hm, h1, h2⟩ : ∃ m : Nat, (if (if 32 < most then 32 else most) < 1 then 1 else (if 32 < most then 32 else most)) = (m : Int) ∧ 1 ≤ m ∧ m ≤ 32 := ⟨(max 1 (min most 32)).toNat, by omega, by omega, by omega⟩
  have em : (max 1 (min most 32)).toNat = m := by omega
  rw [em]
  obtain ⟨WS, hWS⟩ : ∃ WS, WS = bws B m true false a := ⟨_, rfl⟩
  rw [← hWS]
  rw [w_2w]
  simp (maxSteps:=9^7)(disch:=first|assumption|((try simp only[nX]);omega)|simp) [c1', GC_of hth, hm]
  have fini : ∀ (H : Hp) (us : List (BitVec 32)) (vw vi : Value) (fw fi : List Nat), WS = us → Own encW H vw us fw → Own encIns H vi (us.map dOf) fi → Kp h H → P21 h H (.tuple #[vw, vi, .bool true]) WS := fun H us vw vi fw fi hb Ow Oi K => by
    rw [hb]
    obtain ⟨aw, cw, rfl, sw, _, _⟩ := Ow.len
    obtain ⟨ai, ci, rfl, si, _, _⟩ := Oi.len
    exact ⟨K, aw, ai, cw, ci, by simp, sw, si⟩
  refine G_loop (fun j e H => ∃ (k : Nat) (us : List (BitVec 32)) (vw vi : Value) (fw fi : List Nat) (slot : Bool), j = m - k ∧ k ≤ m ∧ us.length = k ∧ WS = us ++ bws B (m - k) (decide (k = 0)) slot (a + BitVec.ofNat 32 (4 * k)) ∧ Own encW H vw us fw ∧ Own encIns H vi (us.map dOf) fi ∧ (∀ b ∈ fw, b ∉ fi) ∧
    (∀ b, b ∈ fw ∨ b ∈ fi → h.next ≤ b) ∧ Kp h H ∧ (k = 0 ∧ slot = false ∨ (∃ us' w, us = us' ++ [w] ∧ slot = decide (dcls (dOf w).k = 3)) ∧ ¬ (a + BitVec.ofNat 32 (4 * k)) % 1024#32 = 0#32) ∧ e 0 = ptr (x + 3) 0 ∧ e 1 = u32 (a + BitVec.ofNat 32 (4 * k)) ∧ e 2 = .int .i64 m ∧ e 9 = vw ∧ e 10 = vi) ?_ m _ _
    ⟨0, [], _, _, [], [], false, rfl, Nat.zero_le _, rfl, by simp [hWS], .nul, .nul, by simp, by simp, .refl h, .inl ⟨rfl, rfl⟩, by simp, by simp, by simp, by simp, by simp⟩
  rintro j ih e H ⟨k, us, vw, vi, fw, fi, slot, rfl, hk, hul, hb, Ow, Oi, hdj, hf, K, hsl, e0, e1, e2, e9, e10⟩
  obtain ⟨aw, cw, rfl, Sw, _, _⟩ := Ow.len
  obtain ⟨ai, ci, rfl, Si, _, bi⟩ := Oi.len
  simp only [List.length_map] at Oi e10
  by_cases hkm : k < m
  case neg =>
    obtain rfl : k = m := by omega
    have hb' : WS = us := by rw [hb]; simp [bws]
    have := fini H us _ _ fw fi hb' Ow Oi K
    simp (maxSteps:=9^7)(disch:=first|assumption|((try simp only[nX]);omega)|simp) [e9, e10, e2, hul]
    rw [hul] at this
    exact this
  have hki : (k : Int) < m := by omega
  have R' := R.kp K
  have hmk : m - k = (m - (k + 1)) + 1 := by omega
  generalize hyy : a + BitVec.ofNat 32 (4 * k) = y at *
  have hy1 : y + 4#32 = a + BitVec.ofNat 32 (4 * (k + 1)) := by
    rw [← hyy, BitVec.add_assoc]
    congr 1
    apply BitVec.eq_of_toNat_eq
    simp
    omega
  have hld := fun q => m2load (q := q) (a := y) (n := 4) R'
  have hlw : (if evB B y 4 = true then ldB B y.toNat (Int.toNat 4) else 0#32) = ldw B y := rfl
  rw [hlw] at hld
  have hpg : ¬ (decide (k = 0) = false ∧ y % 1024#32 = 0#32) := by
    rcases hsl with ⟨h0, _⟩ | ⟨_, h0⟩
    · simp [h0]
    · exact fun hh => h0 hh.2
  rw [hmk, bws, if_neg hpg] at hb
  simp (maxSteps:=9^7)(disch:=first|assumption|((try simp only[nX]);omega)|simp) [e0, e1, e2, e9, hul, hki, GC_of hld]
  refine GC_intro (r3_ofd (w := ldw B y)) fun v h2 ⟨hv, K2⟩ => ?_
  subst hv
  have hkk := (dOf_bd (ldw B y)).1
  have hc := fun h q => r3_class (h := h) (q := q) hkk
  simp only [encIns] at hc
  simp (maxSteps:=9^7)(disch:=first|assumption|((try simp only[nX]);omega)|simp) [encIns, GC_of (hc _), e10, hul, -g3_2w]
  generalize hP : Hp.push (Hp.push h2 _) _ = P
  have KP : Kp h2 P := by rw [← hP]; exact ((Kp.refl h2).push _).push _
  have gB : P.get h2.next = some (.cells false (encIns.enc (dOf (ldw B y)))) := by rw [← hP, get_push_ne (by simp), get_push_self]; rfl
  clear hP
  have K3 := K2.trans KP
  have Ow3 := Ow.kp K3
  have Oi3 := Oi.kp K3
  have Si3 := Si.kp K3
  have rB := rdn_all (n := 6) gB rfl
  simp only [encIns] at rB
  have K0 := K.trans K3
  have hfl := fun b hb => Ow.live b hb
  have hil := fun b hb => Oi.live b hb
  have lH := K3.le
  generalize ldw B y = wd at *
  -- behind the question whether it is a slot
  have main : ∀ (e2 : Env) (H2 : Hp), Kp P H2 → e2 0 = ptr (x + 3) 0 → e2 1 = u32 y → e2 2 = .int .i64 m → e2 9 = .slice aw us.length cw → e2 10 = .slice ai us.length ci → e2 11 = u32 wd → e2 13 = ptr h2.next 0 → e2 14 = .int .i64 (dcls (dOf wd).k) → e2 16 = .bool slot →
      G T (fin [RV.t 6, RV.t 7, RV.t 8] (some []) h.next fun v h' => P21 h h' v WS) c2_2w [Fr.block 1, Fr.loop c6_2w, Fr.block 0, Fr.seq ((C.ops [{ d := some 85, g := none, o := Op.mov (X.t 9) }, { d := some 86, g := none, o := Op.mov (X.t 10) }, { d := some 6, g := none, o := Op.mov (X.t 85) }, { d := some 7, g := none, o := Op.mov (X.t 86) }, { d := some 8, g := none, o := Op.mov (X.c (Value.bool true)) }]).seq C.ret)] e2 H2 := fun e2 H2 KK e0 e1 e2' e9 e10 e11 e13 e14 e16 => by
    have Ow4 := Ow3.kp KK
    have Oi4 := Oi3.kp KK
    have rB4 := rdn_all (n := 6) ((KK.get _ (lt_of_get gB)).trans gB) rfl
    have gB4 := (KK.get _ (lt_of_get gB)).trans gB
    simp only [encIns] at rB4
    have K4 := K0.trans KK
    have lB := lt_of_get gB
    have lK := KK.le
    by_cases hst : slot = true ∧ (dcls (dOf wd).k = 3 ∨ dcls (dOf wd).k = 6)
    · rw [if_pos hst, List.append_nil] at hb
      have := fini H2 us _ _ fw fi hb Ow4 Oi4 K4
      obtain ⟨rfl, hst⟩ := hst
      rcases hst with hst | hst
      · simp (maxSteps:=9^7)(disch:=first|assumption|((try simp only[nX]);omega)|simp) [e16, e14, hst, e9, e10]
        exact this
      · simp (maxSteps:=9^7)(disch:=first|assumption|((try simp only[nX]);omega)|simp) [e16, e14, hst, e9, e10]
        exact this
    rw [if_neg hst] at hb
    have go : ∀ e3 : Env, e3 0 = ptr (x + 3) 0 → e3 1 = u32 y → e3 2 = .int .i64 m → e3 9 = .slice aw us.length cw → e3 10 = .slice ai us.length ci → e3 11 = u32 wd → e3 13 = ptr h2.next 0 → e3 14 = .int .i64 (dcls (dOf wd).k) → e3 16 = .bool slot →
        G T (fin [RV.t 6, RV.t 7, RV.t 8] (some []) h.next fun v h' => P21 h h' v WS) c1_2w [Fr.block 1, Fr.loop c6_2w, Fr.block 0, Fr.seq ((C.ops [{ d := some 85, g := none, o := Op.mov (X.t 9) }, { d := some 86, g := none, o := Op.mov (X.t 10) }, { d := some 6, g := none, o := Op.mov (X.t 85) }, { d := some 7, g := none, o := Op.mov (X.t 86) }, { d := some 8, g := none, o := Op.mov (X.c (Value.bool true)) }]).seq C.ret)] e3 H2 := fun e3 e0 e1 e2' e9 e10 e11 e13 e14 e16 => by
      simp (maxSteps:=9^7)(disch:=first|assumption|((try simp only[nX]);omega)|simp) [e9, e10, e11, e13, rB4, -g0_2w]
      generalize hH : Hp.put _ H2.next _ = H3
      have nH : H3.next = H2.next + 2 := by rw [← hH]; rfl
      have gW : H3.get H2.next = some (.cells false [u32 wd]) := by rw [← hH, get_put_self (by simp)]
      have KH : Kp H2 H3 := by rw [← hH]; exact ((Kp.refl H2).adv 2).put (Nat.le_refl _) _
      clear hH
      have hwl : ∀ b ∈ fw, b < H2.next := fun b hb => Ow4.live b hb
      have hil2 : ∀ b ∈ fi, b < H2.next := fun b hb => Oi4.live b hb
      refine GVI_app (E := encW) (bytes := 4) (ys := [wd]) (Ow4.kp KH) (sees_new gW rfl) rfl (by simp; omega) (by simp; omega) fun vw' h5 fw' O5 U5 => ?_
      have n5 := U5.le
      have lh2 := K2.le
      have gB5 := (U5.get h2.next (by omega) (fun hm => by have := hfl _ hm; omega)).trans ((KH.get _ (by omega)).trans gB4)
      have rB5 := rdn_all (n := 6) gB5 rfl
      simp only [encIns] at rB5
      have fw1 : ∀ b ∈ fw', b ∈ fw ∨ H3.next ≤ b := U5.sub
      have I5 : Own encIns h5 (.slice ai us.length ci) (us.map dOf) fi := (Oi4.kp KH).keep fun b hb => U5.get b (by have := hil2 b hb; omega) (fun hm => hdj b hm hb)
      simp (maxSteps:=9^7)(disch:=first|assumption|((try simp only[nX]);omega)|simp) [rB5, e10, e13, e11, -g0_2w]
      generalize hH1 : Hp.put h5 (H2.next + 1) _ = H6
      have nH1 : H6.next = h5.next := by rw [← hH1]; rfl
      have kH1 : ∀ b, b ≠ H2.next + 1 → H6.get b = h5.get b := fun b hb => by rw [← hH1, get_put_ne hb]
      have gI : H6.get (H2.next + 1) = some (.cells false (encIns.enc (dOf wd))) := by rw [← hH1, get_put_self (by omega)]; rfl
      clear hH1
      refine GVI_app (E := encIns) (bytes := 48) (ys := [dOf wd]) (I5.keep fun b hb => kH1 b (by have := hil2 b hb; omega)) (sees_new gI (by simp)) rfl (by simp; omega) (by simp; omega) fun vi' h7 fi' O7 U7 => ?_
      have n7 := U7.le
      have fi1 : ∀ b ∈ fi', b ∈ fi ∨ H6.next ≤ b := U7.sub
      have W7 : Own encW h7 vw' (us ++ [wd]) fw' := (O5.keep fun b hb => kH1 b (by
        rcases fw1 b hb with h8 | h8
        · have := hwl b h8; omega
        · omega)).keep fun b hb => U7.get b (by have := O5.live b hb; omega) fun hm => by
          rcases fw1 b hb with h8 | h8
          · exact hdj b h8 hm
          · have := hil2 b hm; omega
      have hdj' : ∀ b ∈ fw', b ∉ fi' := fun b hb hm => by
        rcases fi1 b hm with h8 | h8
        · rcases fw1 b hb with h9 | h9
          · exact hdj b h9 h8
          · have := hil2 b h8; omega
        · have := O5.live b hb; omega
      have lh := K4.le
      have hf' : ∀ b, b ∈ fw' ∨ b ∈ fi' → h.next ≤ b := fun b hb => by
        rcases hb with h8 | h8
        · rcases fw1 b h8 with h9 | h9
          · exact hf b (.inl h9)
          · omega
        · rcases fi1 b h8 with h9 | h9
          · exact hf b (.inr h9)
          · omega
      have K7 : Kp h h7 := ⟨by omega, fun b hb => by
        have hb2 := K4.le
        rw [U7.get b (by omega) (fun hm => by have := hf b (.inr hm); omega), kH1 b (by omega), U5.get b (by omega) (fun hm => by have := hf b (.inl hm); omega), KH.get b (by omega), K4.get b hb]⟩
      have hmap : List.map dOf (us ++ [wd]) = us.map dOf ++ [dOf wd] := by simp
      have O7' : Own encIns h7 vi' (List.map dOf (us ++ [wd])) fi' := by rw [hmap]; exact O7
      have stop : bws B (m - (k + 1)) false (decide (dcls (dOf wd).k = 3)) (y + 4#32) = [] ∨ (slot = true ∨ dcls (dOf wd).k = 6) → P21 h h7 (.tuple #[vw', vi', .bool true]) WS := fun hs => by
        refine fini h7 (us ++ [wd]) vw' vi' fw' fi' ?_ W7 O7' K7
        rw [hb]
        by_cases hc6 : slot = true ∨ dcls (dOf wd).k = 6
        · rw [if_pos hc6]
        · rw [if_neg hc6, hs.resolve_right hc6]
      cases slot with
      | true =>
        have := stop (.inr (.inl rfl))
        simp (maxSteps:=9^7)(disch:=first|assumption|((try simp only[nX]);omega)|simp) [e16, e1]
        exact this
      | false =>
        by_cases s6 : dcls (dOf wd).k = 6
        · have := stop (.inr (.inr s6))
          simp (maxSteps:=9^7)(disch:=first|assumption|((try simp only[nX]);omega)|simp) [e16, e14, e1, s6]
          exact this
        by_cases pg : (y + 4#32) % 1024#32 = 0#32
        · have := stop (.inl (by
            cases hmm : m - (k + 1) with
            | zero => rfl
            | succ z => rw [bws, if_pos ⟨rfl, pg⟩]))
          simp (maxSteps:=9^7)(disch:=first|assumption|((try simp only[nX]);omega)|simp) [e16, e14, e1, s6, pg]
          exact this
        simp (maxSteps:=9^7)(disch:=first|assumption|((try simp only[nX]);omega)|simp) [e16, e14, e1, s6, pg]
        rw [if_neg (by simp [s6])] at hb
        refine ih (m - (k + 1)) (by omega) _ _ ⟨k + 1, us ++ [wd], vw', vi', fw', fi', decide (dcls (dOf wd).k = 3), rfl, by omega, by simp [hul], ?_, W7, O7', hdj', hf', K7, .inr ⟨⟨us, wd, rfl, rfl⟩, by rw [← hy1]; exact pg⟩, by simp [e0], by rw [← hy1]; simp, by simp [e2'], by simp, by simp⟩
        rw [hb, ← hy1]
        simp
    cases slot with
    | false =>
      simp (maxSteps:=9^7)(disch:=first|assumption|((try simp only[nX]);omega)|simp) [e16, e14, -g1_2w]
      exact go _ (by simp [e0]) (by simp [e1]) (by simp [e2']) (by simp [e9]) (by simp [e10]) (by simp [e11]) (by simp [e13]) (by simp [e14]) (by simp [e16])
    | true =>
      have s3 : ¬ dcls (dOf wd).k = 3 := fun hh => hst ⟨rfl, .inl hh⟩
      have s6 : ¬ dcls (dOf wd).k = 6 := fun hh => hst ⟨rfl, .inr hh⟩
      simp (maxSteps:=9^7)(disch:=first|assumption|((try simp only[nX]);omega)|simp) [e16, e14, s3, s6, -g1_2w]
      exact go _ (by simp [e0]) (by simp [e1]) (by simp [e2']) (by simp [e9]) (by simp [e10]) (by simp [e11]) (by simp [e13]) (by simp [e14]) (by simp [e16])
  rcases hsl with ⟨k0, s0⟩ | ⟨⟨us', wl, hus, hsl⟩, _⟩
  · subst s0
    have k0' : (k : Int) = 0 := by omega
    simp (maxSteps:=9^7)(disch:=first|assumption|((try simp only[nX]);omega)|simp) [hul, k0, k0', e10, -g2_2w]
    exact main _ _ (.refl P) (by simp [e0]) (by simp [e1]) (by simp [e2]) (by simp [e9]) (by simp [e10]) (by simp) (by simp) (by simp) (by simp)
  · have k0 : 0 < k := by rw [← hul, hus]; simp
    have k0' : (0 : Int) < k := by omega
    obtain ⟨A1, rfl, r1⟩ := Si3.at' (k - 1) (by simp; omega)
    have hel : (us.map dOf)[k - 1]'(by simp; omega) = dOf wl := by
      rw [List.getElem_map]
      congr 1
      have : us[k - 1]? = some wl := by rw [hus]; rw [← hul, hus]; simp
      rw [List.getElem?_eq_getElem (by omega)] at this
      exact Option.some.inj this
    rw [hel] at r1
    have hc2 := fun h q => r3_class (h := h) (q := q) (dOf_bd wl).1
    simp only [encIns, encIns_sz] at hc2 r1
    have hk1 : ((k : Int) - 1).toNat = k - 1 := by omega
    have hk2 : (k : Int) - 1 < us.length := by omega
    have hk3 : (k : Int) - 1 < k := by omega
    simp (maxSteps:=9^7)(disch:=first|assumption|((try simp only[nX]);omega)|simp) [hul, k0, k0', e10, r1, hk1, hk2, hk3, GC_of (hc2 _), -g2_2w]
    exact main _ _ ((Kp.refl P).push _) (by simp [e0]) (by simp [e1]) (by simp [e2]) (by simp [e9]) (by simp [e10]) (by simp) (by simp) (by simp) (by simp [hsl])
end
end Go.Proofs.YtmgoleiafiffoaaGreat.Cd

/- A processor's state as it lies. -/
set_option maxRecDepth 1000000
set_option maxHeartbeats 8000000
set_option linter.unusedSimpArgs false
set_option linter.unusedVariables false
namespace Go.Proofs.YtmgoleiafiffoaaGreat.Cd
open Go Go.Dx
/-- A state lies at a block's beginning. -/
def MW (h : Hp) (b : Nat) (X : CS) (r : List Value) : Prop := h.get b = some (.cells false (X.cs ++ r))
section
variable {h h' : Hp} {X : CS} {r : List Value} {b : Nat}
theorem MW.kp (A : MW h b X r) (K : Kp h h') : MW h' b X r := (K.get _ (lt_of_get A)).trans A
theorem MW.put {Y : CS} (A : MW h b X r) : MW (h.put b (some (.cells false (Y.cs ++ r)))) b Y r := get_put_self (lt_of_get A)
theorem le73 {n m : Nat} (hn : n ≤ 73) : n ≤ 73 + m := by omega
theorem upd_put {o : Option Ob} : Upd h (h.put b o) [b] [b] := (Kp.upd (.refl h) _).put1
theorem upd_push {H : Hp} {o : Ob} (U : Upd h H [b] [b]) : Upd h (H.push o) [b] [b] := U.one ((Kp.refl H).push _)
/-- A state's cells, read and written at once. -/
theorem MW.rd (A : MW h b X r) : h.rdn b 0 73 = some X.cs := by
  unfold MW at A
  simp only [Hp.rdn, Hp.cells, A, Option.bind_some]
  rw [if_pos (by simp), List.drop_zero, List.take_left' (by simp)]
end
end Go.Proofs.YtmgoleiafiffoaaGreat.Cd

/- The document's machine: an instruction of registers alone. -/
set_option maxRecDepth 1000000
set_option maxHeartbeats 8000000
set_option linter.unusedSimpArgs false
set_option linter.unusedVariables false
namespace Go.Proofs.YtmgoleiafiffoaaGreat.Cd
open Go Go.Dx
section
variable {h h' : Hp} {q : Value → Hp → Prop} {v s t hi lo : BitVec 32} {i : Ins} {X : CS} {r : List Value} {b : Nat}
theorem r17_put {n : Int} (A : MW h b X r) (hn : n < 32) (hq : ∀ h', MW h' b (xput X n v) r → Upd h h' [b] [b] → q (.tuple #[]) h') : WC T n_2d [ptr b 0, .int .i64 n, u32 v] h q := by
  have lb := lt_of_get A
  have g := A
  unfold MW at g
  rw [w_2d]
  by_cases c : 0 < n
  · obtain ⟨m, rfl⟩ : ∃ m : Nat, n = m := ⟨n.toNat, by omega⟩
    have hm : m < 32 := by omega
    have c' : 0 < m := by omega
    have e : xput X (m : Int) v = { X with R := setf X.R m v } := by rw [xput, if_pos ⟨c, hn⟩]; simp
    rw [e] at hq
    have hml : m + 1 ≤ 73 + r.length := by omega
    simp (maxSteps:=9^7)(disch:=first|assumption|((try simp only[nX]);omega)|simp) [c, c', hn, g, hm, hml, -over]
    exact hq _ A.put upd_put
  · have e : xput X n v = X := by rw [xput, if_neg (by omega)]
    rw [e] at hq
    simp (maxSteps:=9^7)(disch:=first|assumption|((try simp only[nX]);omega)|simp) [c]
    exact hq _ A .refl
theorem r6_miss (A : MW h b X r) : WC T n_3x [ptr b 0] h q ↔ q (.int .i64 (xmiss X)) h := by
  have g := A
  unfold MW at g
  rw [w_3x]
  unfold xmiss
  generalize hD : X.C 11 - X.C 9 = D
  by_cases c : D = 0#32
  · simp (maxSteps:=9^7)(disch:=first|assumption|((try simp only[nX]);omega)|simp) [g, hD, c]
  · have c' : ¬ D.toNat = 0 := fun hh => c (BitVec.eq_of_toNat_eq hh)
    simp (maxSteps:=9^7)(disch:=first|assumption|((try simp only[nX]);omega)|simp) [g, hD, c, c']
theorem r6_go (A : MW h b X r) (ht : 0 ≤ X.tm ∧ X.tm ≤ 2 ^ 60) (hq : ∀ h', MW h' b (xgo X 1) r → Upd h h' [b] [b] → q (.bool (decide (xmiss X ≤ 1))) h') : WC T n_3u [ptr b 0, .int .i64 1] h q := by
  have g := A
  unfold MW at g
  have lb := lt_of_get A
  have hmi := fun q => r6_miss (q := q) A
  have hw : IntKind.i64.wrap (X.tm + 1) = X.tm + 1 := wrap_i64 (by omega) (by omega)
  have e1 : BitVec.ofInt 32 1 = 1#32 := rfl
  rw [w_3u]
  unfold xgo at hq
  rw [e1] at hq
  by_cases c : xmiss X ≤ 1
  · simp only [if_pos c] at hq
    simp (maxSteps:=9^7)(disch:=first|assumption|((try simp only[nX]);omega)|simp) [GC_of hmi, g, c, hw, le73, -over]
    have := hq _ A.put upd_put
    simpa [c] using this
  · simp only [if_neg c] at hq
    simp (maxSteps:=9^7)(disch:=first|assumption|((try simp only[nX]);omega)|simp) [GC_of hmi, g, c, hw, le73, -over]
    have := hq _ A.put upd_put
    simpa [c] using this
/-- What only reckons is not refused. -/
theorem r17_refused (A : MW h b X r) (hk : 0 ≤ i.k ∧ i.k ≤ 77) (hc : dcls i.k = 1) : WC T n_2e [ptr b 0, .agg (encIns.enc i).toArray, u32 s, u32 t] h fun v h' => v = .int .i64 (-1) ∧ Kp h h' := by
  have g := A
  unfold MW at g
  have lb := lt_of_get A
  have hcl := fun h q => r3_class (h := h) (q := q) hk
  have htr := fun h q => r4_traps1 (h := h) (q := q) (s := s) (t := t) hk hc
  simp only [encIns] at hcl htr
  have ex : ∀ n : Int, dcls n ≠ 1 → ¬ i.k = n := fun n hn hh => hn (hh ▸ hc)
  have n60 := ex 60 (by decide)
  have n61 := ex 61 (by decide)
  have n62 := ex 62 (by decide)
  have n11 := ex 11 (by decide)
  have n12 := ex 12 (by decide)
  have hmid : ¬ (54 ≤ i.k ∧ i.k ≤ 61) := fun hh => by
    rcases (by omega : i.k = 54 ∨ i.k = 55 ∨ i.k = 56 ∨ i.k = 57 ∨ i.k = 58 ∨ i.k = 59 ∨ i.k = 60 ∨ i.k = 61) with e | e | e | e | e | e | e | e <;> rw [e] at hc <;> revert hc <;> decide
  rw [w_2e]
  by_cases h54 : 54 ≤ i.k
  · have h61 : ¬ i.k ≤ 61 := fun hh => hmid ⟨h54, hh⟩
    cases hs : X.slot with
    | true =>
      simp (maxSteps:=9^7)(disch:=first|assumption|((try simp only[nX]);omega)|simp) [encIns, g, hs, GC_of (hcl _), GC_of (htr _), hc, n60, n61, n62, n11, n12, h54, h61]
      exact ((((Kp.refl h).push _).push _).push _).push _
    | false =>
      simp (maxSteps:=9^7)(disch:=first|assumption|((try simp only[nX]);omega)|simp) [encIns, g, hs, GC_of (hcl _), GC_of (htr _), hc, n60, n61, n62, n11, n12, h54, h61]
      exact ((((Kp.refl h).push _).push _).push _).push _
  · cases hs : X.slot with
    | true =>
      simp (maxSteps:=9^7)(disch:=first|assumption|((try simp only[nX]);omega)|simp) [encIns, g, hs, GC_of (hcl _), GC_of (htr _), hc, n60, n61, n62, n11, n12, h54]
      exact ((((Kp.refl h).push _).push _).push _).push _
    | false =>
      simp (maxSteps:=9^7)(disch:=first|assumption|((try simp only[nX]);omega)|simp) [encIns, g, hs, GC_of (hcl _), GC_of (htr _), hc, n60, n61, n62, n11, n12, h54]
      exact ((((Kp.refl h).push _).push _).push _).push _
theorem r17_plain (A : MW h b X r) (hk : 0 ≤ i.k ∧ i.k ≤ 77) (ht : i.t ≤ 31) (hd : i.d ≤ 31) (hsh : 0 ≤ i.sh ∧ i.sh ≤ 31) (hq : ∀ h', MW h' b (xplain X i s t) r → Upd h h' [b] [b] → q (.tuple #[]) h') : WC T n_2c [ptr b 0, .agg (encIns.enc i).toArray, u32 s, u32 t] h q := by
  have lb := lt_of_get A
  have hdo := fun h q => r4_do (h := h) (q := q) (s := s) (t := t) hk hsh
  have hin := fun h q => r4_into (h := h) (q := q) hk
  have hha := fun h q x y => r4_halves (h := h) (q := q) (s := s) (t := t) (hi := x) (lo := y) hk
  have hii : aInto i < 32 := by unfold aInto; split; omega; split <;> omega
  simp only [encIns] at hdo hin hha
  -- behind the number
  have tail : ∀ (X1 : CS) (e : Env) (H : Hp) (xb : Nat), MW H b X1 r → Upd h H [b] [b] → H.get xb = some (.cells false [.int .i64 i.k, .int .i64 i.s, .int .i64 i.t, .int .i64 i.d, .int .i64 i.sh, u32 i.imm]) → xb ≠ b → e 0 = ptr b 0 → e 2 = u32 s → e 3 = u32 t → e 5 = ptr xb 0 →
      (∀ h', MW h' b (let X2 : CS := { X1 with hi := xhi i s t X1.hi, lo := xlo i s t X1.lo }
        if i.k = 9 ∨ i.k = 10 then (if decide (t = 0#32) = decide (i.k = 9) then xput X2 i.d s else X2) else if i.k = 14 then xput X2 i.d X2.hi else if i.k = 16 then xput X2 i.d X2.lo else X2) r → Upd h h' [b] [b] → q (.tuple #[]) h') →
      G T (fin [] (some []) h.next q) c4_2c [] e H := fun X1 e H xb A1 U1 gx hxb e0 e2 e3 e5 hq => by
    have g1 := A1
    unfold MW at g1
    have rx := rdn_all (n := 6) gx rfl
    have lb1 := lt_of_get A1
    have lx1 := lt_of_get gx
    simp (maxSteps:=9^7)(disch:=first|assumption|((try simp only[nX]);omega)|simp) [e0, e2, e3, e5, g1, gx, rx, le73, GC_of (fun q => hha _ q X1.hi X1.lo), -over, -g3_2c]
    generalize hP : Hp.push (Hp.put H b _) _ = P
    have A2 : MW P b { X1 with hi := xhi i s t X1.hi, lo := xlo i s t X1.lo } r := by rw [← hP]; exact A1.put.kp ((Kp.refl _).push _)
    have gx2 : P.get xb = some (.cells false [.int .i64 i.k, .int .i64 i.s, .int .i64 i.t, .int .i64 i.d, .int .i64 i.sh, u32 i.imm]) := by rw [← hP, get_push_ne (by rw [put_next]; omega), get_put_ne hxb]; exact gx
    have U2 : Upd h P [b] [b] := by rw [← hP]; exact U1.put1.one ((Kp.refl _).push _)
    clear hP
    simp only at hq
    generalize hX2 : ({ X1 with hi := xhi i s t X1.hi, lo := xlo i s t X1.lo } : CS) = X2 at *
    have eh : X2.hi = xhi i s t X1.hi := by rw [← hX2]
    have el : X2.lo = xlo i s t X1.lo := by rw [← hX2]
    have g2 := A2
    unfold MW at g2
    by_cases c1 : i.k = 9 ∨ i.k = 10
    · rw [if_pos c1] at hq
      have d9 : decide (i.k = 9) = true ∨ decide (i.k = 9) = false := by cases decide (i.k = 9) <;> simp
      by_cases c9 : i.k = 9
      · by_cases ct : t = 0#32
        · rw [if_pos (by simp [c9, ct])] at hq
          simp (maxSteps:=9^7)(disch:=first|assumption|((try simp only[nX]);omega)|simp) [e0, e2, e3, e5, gx2, c9, ct]
          refine r17_put A2 (by omega) fun h3 A3 U3 => ?_
          simp (maxSteps:=9^7)(disch:=first|assumption|((try simp only[nX]);omega)|simp)
          exact hq _ A3 (U2.trans U3)
        · rw [if_neg (by simp [c9, ct])] at hq
          simp (maxSteps:=9^7)(disch:=first|assumption|((try simp only[nX]);omega)|simp) [e0, e2, e3, e5, gx2, c9, ct]
          exact hq _ A2 U2
      · have c10 : i.k = 10 := by omega
        by_cases ct : t = 0#32
        · rw [if_neg (by simp [c10, ct])] at hq
          simp (maxSteps:=9^7)(disch:=first|assumption|((try simp only[nX]);omega)|simp) [e0, e2, e3, e5, gx2, c10, ct]
          exact hq _ A2 U2
        · rw [if_pos (by simp [c10, ct])] at hq
          simp (maxSteps:=9^7)(disch:=first|assumption|((try simp only[nX]);omega)|simp) [e0, e2, e3, e5, gx2, c10, ct]
          refine r17_put A2 (by omega) fun h3 A3 U3 => ?_
          simp (maxSteps:=9^7)(disch:=first|assumption|((try simp only[nX]);omega)|simp)
          exact hq _ A3 (U2.trans U3)
    · rw [if_neg c1] at hq
      have n9 : ¬ i.k = 9 := fun hh => c1 (.inl hh)
      have n10 : ¬ i.k = 10 := fun hh => c1 (.inr hh)
      by_cases c14 : i.k = 14
      · rw [if_pos c14] at hq
        simp (maxSteps:=9^7)(disch:=first|assumption|((try simp only[nX]);omega)|simp) [e0, e2, e3, e5, gx2, c14, g2]
        refine r17_put A2 (by omega) fun h3 A3 U3 => ?_
        rw [eh] at A3
        simp (maxSteps:=9^7)(disch:=first|assumption|((try simp only[nX]);omega)|simp)
        exact hq _ A3 (U2.trans U3)
      · rw [if_neg c14] at hq
        by_cases c16 : i.k = 16
        · rw [if_pos c16] at hq
          simp (maxSteps:=9^7)(disch:=first|assumption|((try simp only[nX]);omega)|simp) [e0, e2, e3, e5, gx2, c16, g2]
          refine r17_put A2 (by omega) fun h3 A3 U3 => ?_
          rw [el] at A3
          simp (maxSteps:=9^7)(disch:=first|assumption|((try simp only[nX]);omega)|simp)
          exact hq _ A3 (U2.trans U3)
        · rw [if_neg c16] at hq
          simp (maxSteps:=9^7)(disch:=first|assumption|((try simp only[nX]);omega)|simp) [e0, e2, e3, e5, gx2, n9, n10, c14, c16]
          exact hq _ A2 U2
  unfold xplain at hq
  rw [w_2c]
  cases ci : aIs i.k with
  | false =>
    rw [ci] at hq hdo
    simp only [Bool.false_eq_true, if_false] at hq hdo
    simp (maxSteps:=9^7)(disch:=first|assumption|((try simp only[nX]);omega)|simp) [encIns, GC_of (hdo _), -g4_2c]
    exact tail X _ _ h.next (A.kp (((Kp.refl h).push _).push _)) ((Kp.upd (((Kp.refl h).push _).push _) _)) ((get_push_ne (by rw [push_next]; omega)).trans get_push_self) (by omega) (by simp) (by simp) (by simp) (by simp) hq
  | true =>
    rw [ci] at hq hdo
    simp only [if_true] at hq hdo
    simp (maxSteps:=9^7)(disch:=first|assumption|((try simp only[nX]);omega)|simp) [encIns, GC_of (hdo _), GC_of (hin _), -g4_2c]
    refine r17_put (A.kp ((((Kp.refl h).push _).push _).push _)) hii fun h3 A3 U3 => ?_
    simp (maxSteps:=9^7)(disch:=first|assumption|((try simp only[nX]);omega)|simp) [-g4_2c]
    refine tail _ _ _ h.next A3 ((Kp.upd ((((Kp.refl h).push _).push _).push _) _).trans U3) ?_ (by omega) (by simp) (by simp) (by simp) (by simp) hq
    refine (U3.get _ (by simp only [push_next]; omega) (by simp; omega)).trans ?_
    exact (get_push_ne (by simp only [push_next]; omega)).trans ((get_push_ne (by simp only [push_next]; omega)).trans get_push_self)
theorem r17_on (A : MW h b X r) (hk : 0 ≤ i.k ∧ i.k ≤ 77) (hd : i.d ≤ 31) (hq : ∀ h', MW h' b (xon X i s t) r → Upd h h' [b] [b] → q (.tuple #[]) h') : WC T n_2b [ptr b 0, .agg (encIns.enc i).toArray, u32 s, u32 t] h q := by
  have lb := lt_of_get A
  have hcl := fun h q => r3_class (h := h) (q := q) hk
  have hta := fun h q => r4_taken (h := h) (q := q) (s := s) (t := t) hk
  have htg := fun h q => r4_target (h := h) (q := q) (pc := X.pc) (s := s) hk
  have hln := fun h q => r4_links (h := h) (q := q) hk
  have hlk : xlink i < 32 := by unfold xlink; split; omega; split <;> omega
  simp only [encIns] at hcl hta htg hln
  have g := A
  unfold MW at g
  have tail : ∀ (X1 : CS) (e : Env) (H : Hp) (xb : Nat), MW H b X1 r → Upd h H [b] [b] → H.get xb = some (.cells false [.int .i64 i.k, .int .i64 i.s, .int .i64 i.t, .int .i64 i.d, .int .i64 i.sh, u32 i.imm]) → e 0 = ptr b 0 → e 5 = ptr xb 0 → e 8 = u32 X.pc →
      (∀ h', MW h' b (if xlinks i = true then xput X1 (xlink i) (X.pc + 8#32) else X1) r → Upd h h' [b] [b] → q (.tuple #[]) h') →
      G T (fin [] (some []) h.next q) c1_2b [] e H := fun X1 e H xb A1 U1 gx e0 e5 e8 hq => by
    have rx := rdn_all (n := 6) gx rfl
    cases cl : xlinks i with
    | false =>
      rw [cl] at hq hln
      simp only [Bool.false_eq_true, if_false] at hq
      simp (maxSteps:=9^7)(disch:=first|assumption|((try simp only[nX]);omega)|simp) [e0, e5, e8, rx, GC_of (hln _)]
      exact hq _ (A1.kp ((Kp.refl H).push _)) (U1.one ((Kp.refl H).push _))
    | true =>
      rw [cl] at hq hln
      simp only [if_true] at hq
      simp (maxSteps:=9^7)(disch:=first|assumption|((try simp only[nX]);omega)|simp) [e0, e5, e8, rx, GC_of (hln _)]
      refine r17_put (A1.kp ((Kp.refl H).push _)) hlk fun h3 A3 U3 => ?_
      simp (maxSteps:=9^7)(disch:=first|assumption|((try simp only[nX]);omega)|simp)
      exact hq _ A3 ((U1.one ((Kp.refl H).push _)).trans U3)
  unfold xon at hq
  rw [w_2b]
  cases ct : xtaken i s t with
  | false =>
    rw [ct] at hq hta
    simp only [Bool.false_eq_true, if_false] at hq
    simp (maxSteps:=9^7)(disch:=first|assumption|((try simp only[nX]);omega)|simp) [encIns, g, le73, GC_of (hcl _), GC_of (hta _), -over, -g1_2b]
    refine tail _ _ _ h.next ?_ ?_ ?_ (by simp) (by simp) (by simp) hq
    · unfold MW
      simp (maxSteps:=9^7)(disch:=first|assumption|((try simp only[nX]);omega)|simp) []
    · repeat refine upd_push ?_
      exact upd_put
    · simp (maxSteps:=9^7)(disch:=first|assumption|((try simp only[nX]);omega)|simp) []
  | true =>
    rw [ct] at hq hta
    simp only [if_true] at hq
    simp (maxSteps:=9^7)(disch:=first|assumption|((try simp only[nX]);omega)|simp) [encIns, g, le73, GC_of (hcl _), GC_of (hta _), GC_of (htg _), -over, -g1_2b]
    refine tail _ _ _ h.next ?_ ?_ ?_ (by simp) (by simp) (by simp) hq
    · unfold MW
      simp (maxSteps:=9^7)(disch:=first|assumption|((try simp only[nX]);omega)|simp) []
    · repeat refine upd_push ?_
      exact upd_put
    · simp (maxSteps:=9^7)(disch:=first|assumption|((try simp only[nX]);omega)|simp) []
theorem xput_tm {n : Int} : (xput X n v).tm = X.tm := by unfold xput; split <;> rfl
theorem xplain_tm : (xplain X i s t).tm = X.tm := by
  unfold xplain
  simp only
  repeat' split
  all_goals simp only [xput_tm]
theorem xon_tm : (xon X i s t).tm = X.tm := by
  unfold xon
  simp only
  split
  · rw [xput_tm]
  · rfl
theorem and31 {n : Int} (h0 : 0 ≤ n) (h1 : n ≤ 31) : binV .and (.int .i64 n) (.int .i64 31) = some (.int .i64 n) := by
  obtain ⟨m, rfl⟩ : ∃ m : Nat, n = m := ⟨n.toNat, by omega⟩
  rw [and_i64]
  have e : (BitVec.ofInt 64 (m : Int) &&& BitVec.ofInt 64 31).toNat = m := by
    rw [BitVec.toNat_and, BitVec.ofInt_natCast, BitVec.toNat_ofNat, show (BitVec.ofInt 64 31).toNat = 2 ^ 5 - 1 from rfl, Nat.and_two_pow_sub_one_eq_mod]
    omega
  rw [e, wrap_i64 (by omega) (by omega)]
/-- The document's machine does an instruction of registers alone. -/
theorem r17_exec (A : MW h b X r) (hk : 0 ≤ i.k ∧ i.k ≤ 77) (hc : dcls i.k = 1) (hs : 0 ≤ i.s ∧ i.s ≤ 31) (ht : 0 ≤ i.t ∧ i.t ≤ 31) (hd : i.d ≤ 31) (hsh : 0 ≤ i.sh ∧ i.sh ≤ 31) (htm : 0 ≤ X.tm ∧ X.tm ≤ 2 ^ 60)
    (hq : ∀ h', MW h' b (xgo (xon (xplain X i (X.R i.s.toNat) (X.R i.t.toNat)) i (X.R i.s.toNat) (X.R i.t.toNat)) 1) r → Upd h h' [b] [b] → q (.int .i64 (-1)) h') : WC T n_27 [ptr b 0, .agg (encIns.enc i).toArray] h q := by
  have g := A
  unfold MW at g
  have lb := lt_of_get A
  have asx := and31 hs.1 hs.2
  have at' := and31 ht.1 ht.2
  have s32 : i.s.toNat < 32 := by omega
  have t32 : i.t.toNat < 32 := by omega
  have s33 : i.s < 32 := by omega
  have t33 : i.t < 32 := by omega
  have hcl := fun h q => r3_class (h := h) (q := q) hk
  have hrf := fun h (A : MW h b X r) => r17_refused (s := X.R i.s.toNat) (t := X.R i.t.toNat) A hk hc
  simp only [encIns] at hcl hrf
  rw [w_27]
  simp (maxSteps:=9^7)(disch:=first|assumption|((try simp only[nX]);omega)|simp) [encIns, g, asx, at', hs.1, ht.1, s32, t32, s33, t33, le73, -over]
  refine GC_intro (hrf _ (A.kp ((Kp.refl h).push _))) fun v h1 ⟨hv, K1⟩ => ?_
  subst hv
  have K0 : Kp h h1 := ((Kp.refl h).push _).trans K1
  have gB : h1.get h.next = some (.cells false [.int .i64 i.k, .int .i64 i.s, .int .i64 i.t, .int .i64 i.d, .int .i64 i.sh, u32 i.imm]) := (K1.get _ (by simp)).trans get_push_self
  have rB := rdn_all (n := 6) gB rfl
  have lB := lt_of_get gB
  simp (maxSteps:=9^7)(disch:=first|assumption|((try simp only[nX]);omega)|simp) [rB, GC_of (hcl _), hc]
  have A1 := A.kp (K0.push (.cells false [.int .i64 i.k, .int .i64 i.s, .int .i64 i.t, .int .i64 i.d, .int .i64 i.sh, u32 i.imm]))
  have rB1 := rdn_all (n := 6) ((get_push_ne (h := h1) (o := .cells false [.int .i64 i.k, .int .i64 i.s, .int .i64 i.t, .int .i64 i.d, .int .i64 i.sh, u32 i.imm]) (by omega)).trans gB) rfl
  have gB1 := (get_push_ne (h := h1) (o := .cells false [.int .i64 i.k, .int .i64 i.s, .int .i64 i.t, .int .i64 i.d, .int .i64 i.sh, u32 i.imm]) (by omega)).trans gB
  have KP := K0.push (.cells false [.int .i64 i.k, .int .i64 i.s, .int .i64 i.t, .int .i64 i.d, .int .i64 i.sh, u32 i.imm])
  have lB1 := lt_of_get gB1
  refine r17_plain (i := i) A1 hk ht.2 hd hsh fun h2 A2 U2 => ?_
  have gB2 := (U2.get h.next lB1 (by simp; omega)).trans gB1
  have rB2 := rdn_all (n := 6) gB2 rfl
  simp (maxSteps:=9^7)(disch:=first|assumption|((try simp only[nX]);omega)|simp) [rB2]
  refine r17_on (i := i) A2 hk hd fun h3 A3 U3 => ?_
  have lA3 := lt_of_get A3
  simp (maxSteps:=9^7)(disch:=first|assumption|((try simp only[nX]);omega)|simp)
  refine r6_go A3 (by rw [xon_tm, xplain_tm]; exact htm) fun h4 A4 U4 => ?_
  simp (maxSteps:=9^7)(disch:=first|assumption|((try simp only[nX]);omega)|simp)
  exact hq _ A4 ((((KP.upd _).trans U2).trans U3).trans U4)
end
end Go.Proofs.YtmgoleiafiffoaaGreat.Cd

/- The document's machine anew. -/
set_option maxRecDepth 1000000
set_option maxHeartbeats 8000000
set_option linter.unusedSimpArgs false
set_option linter.unusedVariables false
namespace Go.Proofs.YtmgoleiafiffoaaGreat.Cd
open Go Go.Dx
def X0 : CS := ⟨fun _ => 0#32, 0#32, 0#32, 2147484672#32, 2147484676#32, false, false, 0#32, fun n => if n = 15 then 98304#32 else 0#32, fun _ => 0#32, false, 0⟩
section
variable {h h' : Hp} {q : Value → Hp → Prop}
theorem r6_fresh : WC T n_3s [] h fun v h' => v = .agg X0.cs.toArray ∧ Kp h h' := by
  rw [w_3s]
  simp (maxSteps:=9^7)(disch:=first|assumption|((try simp only[nX]);omega)|simp)
  rfl
theorem r15_new : WC T n_24 [.int .i64 1, .slice none 0 0, .slice none 0 0] h fun v h' => (∃ p, v = ptr p 0) ∧ Kp h h' := by
  rw [w_24]
  simp (maxSteps:=9^7)(disch:=first|assumption|((try simp only[nX]);omega)|simp)
  refine m2new fun h1 R1 K1 n1 => ?_
  have hr := R1.r
  have hb := R1.b
  have hc : ∀ (H : Hp) (b n c : Nat), copyV H 1 (.slice (some ⟨b, 0, none⟩) n c) (.slice none 0 0) = some (.int .i64 0, H) := fun H b n c => by simp [copyV, lenV, elems]
  simp (maxSteps:=9^7)(disch:=first|assumption|((try simp only[nX]);omega)|simp) [hr, hb, hc]
  exact ⟨⟨_, rfl⟩, (K1.push _).push _⟩
theorem r17_new : WC T n_2h [.int .i64 1, .slice none 0 0, .slice none 0 0] h fun v h' => (∃ b p, v = ptr b 0 ∧ h.next ≤ b ∧ MW h' b X0 [ptr p 0]) ∧ Kp h h' := by
  rw [w_2h]
  simp (maxSteps:=9^7)(disch:=first|assumption|((try simp only[nX]);omega)|simp)
  refine GC_intro r6_fresh fun v h1 ⟨hv, K1⟩ => ?_
  subst hv
  simp (maxSteps:=9^7)(disch:=first|assumption|((try simp only[nX]);omega)|simp)
  refine GC_intro r15_new fun v h2 ⟨⟨p, hv⟩, K2⟩ => ?_
  subst hv
  have K := K1.trans K2
  have hd : ∀ y : Value, List.drop 74 (X0.cs ++ [y]) = [] := fun y => List.drop_eq_nil_of_le (by simp)
  simp (maxSteps:=9^7)(disch:=first|assumption|((try simp only[nX]);omega)|simp) [hd]
  exact ⟨h2.next, rfl, K.le, p, get_push_self⟩
end
end Go.Proofs.YtmgoleiafiffoaaGreat.Cd

/- Are two rows the same? -/
set_option maxRecDepth 1000000
set_option linter.unusedSimpArgs false
set_option linter.unusedVariables false
namespace Go.Proofs.YtmgoleiafiffoaaGreat.Cd
open Go Go.Dx

theorem same_ins {h : Hp} {q : Value → Hp → Prop} {a a' : Option Addr} {c c' : Nat} {xs ys : List Ins} (hx : Sees encIns h a xs) (hy : Sees encIns h a' ys) (hb : xs.length < 2 ^ 40) (hq : q (.bool (decide (xs = ys))) h) : WC T n_1a [.slice a xs.length c, .slice a' ys.length c'] h q := by
  rw [w_1a]
  by_cases hl : xs.length = ys.length
  case neg =>
    have hne : xs ≠ ys := fun e => hl (by rw [e])
    have hl' : ¬ ((xs.length : Int) = ys.length) := by omega
    simp (maxSteps:=9^7)(disch:=first|assumption|((try simp only[nX]);omega)|simp) [hl']
    simpa [hne] using hq
  simp (maxSteps:=9^7)(disch:=first|assumption|((try simp only[nX]);omega)|simp) [hl]
  refine G_loop (fun n e h' => ∃ us vs ws, n = vs.length ∧ h' = h ∧ xs = us ++ vs ∧ ys = us ++ ws ∧ e 0 = .slice a xs.length c ∧ e 1 = .slice a' ys.length c' ∧ e 5 = .int .i64 us.length) ?_ xs.length _ _ ⟨[], xs, ys, rfl, rfl, rfl, rfl, by simp [hl], by simp, by simp⟩
  rintro n ih e h' ⟨us, vs, ws, rfl, rfl, h1, h2, e0, e1, e5⟩
  cases vs with
  | nil =>
    have hw : ws = [] := by
      have h3 := hl
      rw [h1, h2] at h3
      simpa using h3
    subst hw
    have hxs : xs = us := by simpa using h1
    have hxy : xs = ys := by rw [h1, h2]
    have hll : us.length = xs.length := by rw [hxs]
    simp (maxSteps:=9^7)(disch:=first|assumption|((try simp only[nX]);omega)|simp) [e0, e5, hll]
    simpa [hxy] using hq
  | cons x vs =>
    cases ws with
    | nil =>
      have h3 := hl
      rw [h1, h2] at h3
      simp at h3
    | cons y ws =>
      have hlt : (us.length : Int) < xs.length := by rw [h1]; simp; omega
      have hlt' : (us.length : Int) < ys.length := by omega
      obtain ⟨A, hA, hr⟩ := Sees.mid (A := us) (x := x) (B := vs) (by rw [← h1]; exact hx)
      obtain ⟨A', hA', hr'⟩ := Sees.mid (A := us) (x := y) (B := ws) (by rw [← h2]; exact hy)
      have g1 : h'.rdn A.block (A.off + us.length * 6) 6 = some (encIns.enc x) := hr
      have g2 : h'.rdn A'.block (A'.off + us.length * 6) 6 = some (encIns.enc y) := hr'
      have he := eq_ins x y
      by_cases hxy : x = y
      · simp [hxy] at he
        simp (maxSteps:=9^7)(disch:=first|assumption|((try simp only[nX]);omega)|simp) [e0, e1, e5, hlt, hlt', hA, hA', g1, g2, he, hxy]
        apply ih vs.length (by simp)
        refine ⟨us ++ [x], vs, ws, rfl, rfl, by simp [h1], by simp [h2, hxy], by simp [e0, hA], by simp [e1, hA'], by simp⟩
      · simp [hxy] at he
        have hne : xs ≠ ys := fun e => by rw [h1, h2] at e; simp [hxy] at e
        simp (maxSteps:=9^7)(disch:=first|assumption|((try simp only[nX]);omega)|simp) [e0, e1, e5, hlt, hlt', hA, hA', g1, g2, he]
        simpa [hne] using hq
end Go.Proofs.YtmgoleiafiffoaaGreat.Cd

/- BlockTells: what only reckons. -/
set_option maxRecDepth 1000000
set_option maxHeartbeats 8000000
set_option linter.unusedSimpArgs false
set_option linter.unusedVariables false
namespace Go.Proofs.YtmgoleiafiffoaaGreat.Cd
open Go Go.Dx
section
variable {h : Hp} {q : Value → Hp → Prop} {i : Ins} {a b d sh : Int} {m : BitVec 32}
theorem l21_classN {n : Nat} (hn : n < 78) : WC T n_1q [.agg (encIns.enc ⟨n, a, b, d, sh, m⟩).toArray] h q ↔ q (.int .i64 (if dcls n = 1 then 1 else 0)) (h.push (.cells false (encIns.enc ⟨n, a, b, d, sh, m⟩))) := by
  rw [w_1q]
  rcases (by omega : n = 0 ∨ n = 1 ∨ n = 2 ∨ n = 3 ∨ n = 4 ∨ n = 5 ∨ n = 6 ∨ n = 7 ∨ n = 8 ∨ n = 9 ∨ n = 10 ∨ n = 11 ∨ n = 12 ∨ n = 13 ∨ n = 14 ∨ n = 15 ∨ n = 16 ∨ n = 17 ∨ n = 18 ∨ n = 19 ∨ n = 20 ∨ n = 21 ∨ n = 22 ∨ n = 23 ∨ n = 24 ∨ n = 25 ∨ n = 26 ∨ n = 27 ∨ n = 28 ∨ n = 29 ∨ n = 30 ∨ n = 31 ∨ n = 32 ∨ n = 33 ∨ n = 34 ∨ n = 35 ∨ n = 36 ∨ n = 37 ∨ n = 38 ∨ n = 39 ∨ n = 40 ∨ n = 41 ∨ n = 42 ∨ n = 43 ∨ n = 44 ∨ n = 45 ∨ n = 46 ∨ n = 47 ∨ n = 48 ∨ n = 49 ∨ n = 50 ∨ n = 51 ∨ n = 52 ∨ n = 53 ∨ n = 54 ∨ n = 55 ∨ n = 56 ∨ n = 57 ∨ n = 58 ∨ n = 59 ∨ n = 60 ∨ n = 61 ∨ n = 62 ∨ n = 63 ∨ n = 64 ∨ n = 65 ∨ n = 66 ∨ n = 67 ∨ n = 68 ∨ n = 69 ∨ n = 70 ∨ n = 71 ∨ n = 72 ∨ n = 73 ∨ n = 74 ∨ n = 75 ∨ n = 76 ∨ n = 77) with rfl | rfl | rfl | rfl | rfl | rfl | rfl | rfl | rfl | rfl | rfl | rfl | rfl | rfl | rfl | rfl | rfl | rfl | rfl | rfl | rfl | rfl | rfl | rfl | rfl | rfl | rfl | rfl | rfl | rfl | rfl | rfl | rfl | rfl | rfl | rfl | rfl | rfl | rfl | rfl | rfl | rfl | rfl | rfl | rfl | rfl | rfl | rfl | rfl | rfl | rfl | rfl | rfl | rfl | rfl | rfl | rfl | rfl | rfl | rfl | rfl | rfl | rfl | rfl | rfl | rfl | rfl | rfl | rfl | rfl | rfl | rfl | rfl | rfl | rfl | rfl | rfl | rfl <;> simp (maxSteps:=9^7)(disch:=first|assumption|((try simp only[nX]);omega)|simp) [encIns, dcls, clTab]
theorem l21_class (hk : 0 ≤ i.k ∧ i.k ≤ 77) : WC T n_1q [.agg (encIns.enc i).toArray] h q ↔ q (.int .i64 (if dcls i.k = 1 then 1 else 0)) (h.push (.cells false (encIns.enc i))) := by
  obtain ⟨k, s, t, d, sh, m⟩ := i
  obtain ⟨n, rfl⟩ : ∃ n : Nat, k = n := ⟨k.toNat, by simp at hk; omega⟩
  exact l21_classN (by simp at hk; omega)
end
end Go.Proofs.YtmgoleiafiffoaaGreat.Cd

/- BlockTells: is a block what the document says? -/
set_option maxRecDepth 1000000
set_option maxHeartbeats 8000000
set_option linter.unusedSimpArgs false
set_option linter.unusedVariables false
namespace Go.Proofs.YtmgoleiafiffoaaGreat.Cd
open Go Go.Dx
section
variable {h h' : Hp} {q : Value → Hp → Prop} {a : BitVec 32} {x y : Nat} {B : By} {M W M' W' : List Bool} {l : List (BitVec 32)} {al : Option Addr} {cl : Nat}
theorem l21_same {most : Int} (R : Ra h x B M W) (Q : Ra h y B M' W') (hB : B.length = 2048) (S : Sees encW h al l) (hl : l.length < 2 ^ 63) :
    WC T n_1t [ptr (x + 3) 0, ptr (y + 3) 0, u32 a, .int .i64 most, .slice al l.length cl] h fun v h' => v = .bool true ∧ Kp h h' := by
  rw [w_1t]
  by_cases hc : a.toNat % 4 = 0 ∧ a.toNat < B.length
  case neg =>
    simp (maxSteps:=9^7)(disch:=first|assumption|((try simp only[nX]);omega)|simp)
    refine GC_intro (bfind_no R hc) fun v h1 ⟨K1, hv⟩ => ?_
    subst hv
    simp (maxSteps:=9^7)(disch:=first|assumption|((try simp only[nX]);omega)|simp)
    refine GC_intro (r21_no (Q.kp (K1.push _)) hc) fun v h2 ⟨hv, K2⟩ => ?_
    subst hv
    have g2 : h2.get h1.next = _ := (K2.get _ (by simp)).trans get_push_self
    have s1 := fun q => same_u32 (h := h2) (q := q) (c := 0) (c' := 0) Sees.nul Sees.nul (by decide)
    have s2 := same_ins (h := h2) (q := fun v h' => v = .bool true ∧ h' = h2) (c := 0) (c' := 0) Sees.nul Sees.nul (by decide) (by simp)
    simp only [List.length_nil] at s1 s2
    simp (maxSteps:=9^7)(disch:=first|assumption|((try simp only[nX]);omega)|simp) [g2, GC_of s1]
    refine GC_intro s2 fun v h3 ⟨hv, e3⟩ => ?_
    subst hv e3
    simp (maxSteps:=9^7)(disch:=first|assumption|((try simp only[nX]);omega)|simp) [g2]
    exact (K1.push _).trans K2
  obtain ⟨c1, c2⟩ := hc
  simp (maxSteps:=9^7)(disch:=first|assumption|((try simp only[nX]);omega)|simp)
  refine GC_intro (bfind R c1 c2) fun v h1 ⟨K1, hbr⟩ => ?_
  have hself := bsm_self2 (n := (max 1 (min most 32)).toNat) hB (by omega) c1
  have hlen := bws_len (B := B) (n := (max 1 (min most 32)).toNat) (f := true) (s := false) (a := a)
  have hn32 : (max 1 (min most 32)).toNat ≤ 32 := by omega
  have fi2 := fun P (K : Kp h1 P) => r21_find (most := most) (Q.kp (K1.trans K)) c1 c2
  generalize (max 1 (min most 32)).toNat = n at *
  generalize bws B n true false a = ws at *
  obtain ⟨aw, ai, ao, cw, ci, co, os, hv, Sw, Si, So, ⟨hol, hbo⟩, hfr⟩ := hbr
  subst hv
  simp (maxSteps:=9^7)(disch:=first|assumption|((try simp only[nX]);omega)|simp)
  generalize hP : Hp.push h1 _ = P
  have gA : P.get h1.next = some (.cells false [u32 a, .slice aw ws.length cw, .slice ai ws.length ci, .slice ao ws.length co]) := by rw [← hP]; exact get_push_self
  have KP : Kp h1 P := by rw [← hP]; exact (Kp.refl h1).push _
  clear hP
  refine GC_intro (fi2 P KP) fun v h2 ⟨K2, bw, bi, dw, di, hv, Tw, Ti⟩ => ?_
  subst hv
  have gA := (K2.get _ (lt_of_get gA)).trans gA
  have gA0 := gA
  have KP2 := KP.trans K2
  have R2 := (R.kp K1).kp KP2
  have Sw := Sw.kp KP2
  have Si := Si.kp KP2
  have So := So.kp KP2
  have hbo := fun j s w h1 h2 => And.intro (hbo j s w h1 h2).1 (And.intro ((hbo j s w h1 h2).2.1.kp KP2) (hbo j s w h1 h2).2.2)
  have K := (K1.trans KP2)
  have s1 := fun q => same_u32 (h := h2) (q := q) (c := cw) (c' := dw) Sw Tw (by omega)
  have s2 := same_ins (h := h2) (q := fun v h' => v = .bool true ∧ h' = h2) (c := ci) (c' := di) Si Ti (by simp; omega) (by simp)
  simp only [List.length_map] at s2
  simp (maxSteps:=9^7)(disch:=first|assumption|((try simp only[nX]);omega)|simp) [gA, GC_of s1, hol, -g8_1t]
  refine GC_intro s2 fun v h3 ⟨hv, e3⟩ => ?_
  subst hv e3
  have rA := rdn_all (n := 4) gA rfl
  simp (maxSteps:=9^7)(disch:=first|assumption|((try simp only[nX]);omega)|simp) [gA, hol, rA, -g7_1t]
  refine GC_intro (bpage _ _ _ rfl rfl rfl) fun v h4 ⟨hv, K4⟩ => ?_
  subst hv
  have gA := (K4.get _ (lt_of_get gA)).trans gA
  have rA := rdn_all (n := 4) gA rfl
  have hsm := bsame (a := a) (cw := cw) (R2.kp K4) (Sw.kp K4) (by omega) (.slice ai ws.length ci) (.slice ao ws.length co) rfl rfl
  rw [hself] at hsm
  simp (maxSteps:=9^7)(disch:=first|assumption|((try simp only[nX]);omega)|simp) [rA, -g7_1t]
  refine GC_intro hsm fun v h5 ⟨hv, K5⟩ => ?_
  subst hv
  simp (maxSteps:=9^7)(disch:=first|assumption|((try simp only[nX]);omega)|simp) [-List.reduceReplicate]
  have K5 := K4.trans K5
  obtain ⟨c, hcn⟩ : ∃ c, c = h5.next := ⟨_, rfl⟩
  rw [← hcn]
  generalize hV : Hp.push h5 _ = V
  have gC : V.get c = some (.cells false ((rgsj l 1).map u32)) := by rw [← hV, hcn, rgsj_one, List.map_replicate]; exact get_push_self
  have KV : Kp h3 V := by rw [← hV]; exact K5.push _
  have nV : V.next = c + 1 := by rw [← hV, hcn]; rfl
  clear hV
  refine GC_intro (r17_new (h := V)) fun v h6 ⟨⟨b, p, hv, hb, A⟩, K6⟩ => ?_
  subst hv
  have K6' := KV.trans K6
  have gC := (K6.get _ (by omega)).trans gC
  rw [← XR_one (X := X0) (l := l) fun n => rfl] at A
  have Sw := Sw.kp K6'
  have Si := Si.kp K6'
  have So0 := So
  have So := So.kp K6'
  have Ti0 := Ti
  have Ti := Ti.kp K6'
  have S6 := S.kp (K.trans K6')
  have hbo3 := hbo
  have hbo := fun j s w h1 h2 => And.intro (hbo j s w h1 h2).1 (And.intro ((hbo j s w h1 h2).2.1.kp K6') (hbo j s w h1 h2).2.2)
  have gA := (K6'.get _ (lt_of_get gA0)).trans gA0
  have l3 := K5.le
  have lA : h1.next < c := Nat.lt_of_lt_of_le (lt_of_get gA0) (by omega)
  have lt0 : ∀ {α : Type} {E : Enc α} {A : Option Addr} {xs : List α}, Sees E h3 A xs → ∀ Z, A = some Z → Z.block ≠ c ∧ Z.block ≠ b := fun S Z hZ => by have := sees_lt S Z hZ; omega
  have tail : ∀ (V : Regs) (X : CS) (e : Env) (H : Hp), Cv V X → X.tm = 0 → H.get c = some (.cells false (V.map u32)) → MW H b X [ptr p 0] → Upd h6 H [c, b] [c, b] → e 11 = ptr h1.next 0 → e 14 = .slice bi ws.length di → e 16 = .slice (some ⟨c, 0, none⟩) 40 40 → e 17 = ptr b 0 → e 19 = .int .i64 0 →
      G T (fin [RV.t 10] (some []) h.next fun v h' => v = Value.bool true ∧ Kp h h') c5_1t.loop [Fr.block 2, Fr.seq c6_1t] e H := fun V X e H CV tm gC A U e11 e14 e16 e17 e19 => by
    refine G_loop (fun m e H => ∃ (us vs : List (BitVec 32)) (V : Regs) (X : CS), m = vs.length ∧ ws = us ++ vs ∧ Cv V X ∧ 0 ≤ X.tm ∧ X.tm ≤ us.length ∧ H.get c = some (.cells false (V.map u32)) ∧ MW H b X [ptr p 0] ∧ Upd h6 H [c, b] [c, b] ∧ e 11 = ptr h1.next 0 ∧ e 14 = .slice bi ws.length di ∧ e 16 = .slice (some ⟨c, 0, none⟩) 40 40 ∧ e 17 = ptr b 0 ∧ e 19 = .int .i64 us.length) ?_ ws.length e H
      ⟨[], ws, V, X, rfl, rfl, CV, by omega, by simp [tm], gC, A, U, e11, e14, e16, e17, e19⟩
    clear CV tm gC A U e11 e14 e16 e17 e19 V X e H
    rintro m ih e H ⟨us, vs, V, X, rfl, hx, CV, tm0, tm1, gC, A, U, e11, e14, e16, e17, e19⟩
    cases vs with
    | nil =>
      have hl : ws.length = us.length := by rw [hx]; simp
      have hsl : sliceV 1 (.slice (some ⟨c, 0, none⟩) 40 40) none (some (.int .i64 32)) none = some (.slice (some ⟨c, 0, none⟩) 32 40) := rfl
      have lHC := lt_of_get gC
      have lHB := lt_of_get A
      have g := A
      unfold MW at g
      have S1 : Sees encW H (some ⟨c, 0, none⟩) (V.take 32) := ⟨fun hA => (by cases hA), fun Z hA => (by
        cases hA
        have hV := CV.len
        rw [encW_all]
        simp only [Hp.rdn, Hp.cells, gC, Option.bind_some, Nat.zero_add, encW_sz, Nat.mul_one, List.length_map, List.length_take]
        rw [if_pos (by omega), List.drop_zero, List.map_take]
        congr 1
        rw [show min 32 V.length = 32 by omega]), fun Z hA => (by cases hA; exact .inl rfl)⟩
      have S2 := cs_regs g
      have ss := fun q => same_u32 (q := q) (c := 40) (c' := 32) S1 S2 (by simp; omega)
      rw [CV.take] at ss
      simp only [List.length_map, List.length_range, decide_true] at ss
      obtain ⟨v32, v33⟩ := CV.at'
      have hh5 := K.le
      have K9 := U.kp' (K.trans K6') (by simp; omega)
      have x32 : ∀ hh, X.cs[32]'hh = u32 X.hi := fun hh => by have := CS.cs_at (X := X) (n := 32) (by omega); rw [List.getElem?_eq_getElem hh] at this; exact Option.some.inj this
      have x33 : ∀ hh, X.cs[33]'hh = u32 X.lo := fun hh => by have := CS.cs_at (X := X) (n := 33) (by omega); rw [List.getElem?_eq_getElem hh] at this; exact Option.some.inj this
      simp (maxSteps:=9^7)(disch:=first|assumption|((try simp only[nX]);omega)|simp) [e16, e17, e19, hl, e14, x32, x33, hsl, GC_of ss, gC, g, v32, v33, le73, -over]
      exact K9
    | cons w vs =>
      have hlt : (us.length : Int) < ws.length := by rw [hx]; simp; omega
      have hlt' : us.length < ws.length := by omega
      have hwl : us.length < 32 := by omega
      obtain ⟨B1, rfl, r1⟩ := Sees.mid (A := us.map dOf) (x := dOf w) (B := vs.map dOf) (by rw [← List.map_cons, ← List.map_append, ← hx]; exact Ti)
      rw [List.length_map] at r1
      have hB1 := lt0 Ti0 _ rfl
      have r1 : H.rdn B1.block (B1.off + us.length * 6) 6 = some (encIns.enc (dOf w)) := rdn_kp r1 (U.get _ (lt_of_rdn r1) (by simp; omega))
      simp only [encIns] at r1
      have hkk := (dOf_bd w).1
      have hcl := fun h q => l21_class (h := h) (q := q) hkk
      simp only [encIns] at hcl
      have gAH := (U.get h1.next (lt_of_get gA) (by simp; omega)).trans gA
      have lHA := lt_of_get gAH
      have lHC := lt_of_get gC
      have lHB := lt_of_get A
      obtain ⟨s, hs⟩ : ∃ s, os[us.length]? = some s := ⟨os[us.length]'(by omega), List.getElem?_eq_getElem _⟩
      obtain ⟨b1, b2, b3⟩ := hbo us.length s w hs (by rw [hx]; simp)
      obtain ⟨os1, os2, hos, hol1⟩ : ∃ os1 os2, os = os1 ++ s :: os2 ∧ os1.length = us.length := ⟨os.take us.length, os.drop (us.length + 1), by
        obtain ⟨hh, he⟩ := List.getElem?_eq_some_iff.mp hs
        rw [← he, ← List.drop_eq_getElem_cons hh, List.take_append_drop], by simp; omega⟩
      obtain ⟨B2, ro2, C2, rfl, k1, k2⟩ := Sees.cell (E := encSl) (f := fun s => .slice s.a s.n s.c) (fun _ => rfl) rfl (us := os1) (x := s) (vs := os2) (by rw [← hos]; exact So)
      rw [hol1] at k2
      have hB2 := lt0 So0 _ rfl
      have k1 : H.get B2.block = some (.cells ro2 C2) := (U.get _ (lt_of_get k1) (by simp; omega)).trans k1
      have lk1 := lt_of_get k1
      rw [b1] at k2
      by_cases hd : dcls (dOf w).k = 1
      · simp (maxSteps:=9^7)(disch:=first|assumption|((try simp only[nX]);omega)|simp) [e11, e14, e16, e19, hlt, hlt', r1, GC_of (hcl _), hd, gAH, k1, k2]
        have hob : bop (dOf w) = iopt (lops (dOf w)) := by unfold bop; rw [if_pos (lops_ok (Iw.of w))]
        have hok : oks (bop (dOf w)) := by rw [hob]; exact iopt_oks (lops_ok (Iw.of w))
        have hln : (bop (dOf w)).length ≤ 2 := by rw [hob]; exact Nat.le_trans (iopt_len _) (lops_len _)
        have K0 : Kp H (H.push (.cells false [.int .i64 (dOf w).k, .int .i64 (dOf w).s, .int .i64 (dOf w).t, .int .i64 (dOf w).d, .int .i64 (dOf w).sh, u32 (dOf w).imm])) := (Kp.refl H).push _
        have hsb := lt0 (hbo3 us.length s w hs (by rw [hx]; simp)).2.1
        have SH : Sees encOp H s.a (bop (dOf w)) := b2.upd U fun A hA => by have := hsb A hA; simp; omega
        refine ref_run (R := V) CV.len ((K0.get c lHC).trans gC) (SH.kp K0) (fun A hA => (hsb A hA).1) (by omega) fun h7 g7 U7 => ?_
        rw [if_pos hok, hob] at g7
        have U07 := (U.trans (K0.upd _)).trans (U7.within (A := [c, b]) (B := [c, b]) (by simp) (by simp))
        have lB1 := lt_of_rdn r1
        have r1 : h7.rdn B1.block (B1.off + us.length * 6) 6 = _ := rdn_kp r1 ((U7.get _ (Nat.lt_of_lt_of_le lB1 K0.le) (by simp; omega)).trans (K0.get _ lB1))
        have A7 : MW h7 b X [ptr p 0] := (U7.get b (Nat.lt_of_lt_of_le lHB K0.le) (by simp; omega)).trans (A.kp K0)
        have l7 := lt_of_get A7
        have lc7 := lt_of_get g7
        obtain ⟨d1, d2, d3, d4, d5, _⟩ := dOf_bd w
        simp (maxSteps:=9^7)(disch:=first|assumption|((try simp only[nX]);omega)|simp) [hok, e14, e17, e19, hlt, hlt', r1]
        refine r17_exec (i := dOf w) A7 d1 hd d2 d3 d4.2 d5 ⟨tm0, by omega⟩ fun h8 A8 U8 => ?_
        have Cv8 := cv_step CV (Iw.of w) hd
        have ht8 : (xgo (xon (xplain X (dOf w) (X.R (dOf w).s.toNat) (X.R (dOf w).t.toNat)) (dOf w) (X.R (dOf w).s.toNat) (X.R (dOf w).t.toNat)) 1).tm = X.tm + 1 := by rw [xgo_keep.2.2.2, xon_tm, xplain_tm]
        generalize xgo (xon (xplain X (dOf w) (X.R (dOf w).s.toNat) (X.R (dOf w).t.toNat)) (dOf w) (X.R (dOf w).s.toNat) (X.R (dOf w).t.toNat)) 1 = X8 at *
        simp (maxSteps:=9^7)(disch:=first|assumption|((try simp only[nX]);omega)|simp) [e19]
        exact ih vs.length (by simp) _ _ ⟨us ++ [w], vs, _, X8, rfl, by simp [hx], Cv8, by omega, by simp; omega, (U8.get c lc7 (by simp; omega)).trans g7, A8, U07.trans (U8.within (A := [c, b]) (B := [c, b]) (by simp) (by simp)), by simp [e11], by simp [e14], by simp [e16], by simp [e17], by simp⟩
      · have hbop : bop (dOf w) = [] := by
          have : lops (dOf w) = [] := by unfold lops; rw [if_pos (.inr (.inl hd))]
          unfold bop; rw [this]; exact if_pos (fun o ho => by cases ho)
        rw [hbop] at k2
        simp (maxSteps:=9^7)(disch:=first|assumption|((try simp only[nX]);omega)|simp) [e11, e14, e19, hlt, hlt', r1, GC_of (hcl _), hd, gAH, k1, k2]
        have K0 : Kp H (H.push (.cells false [.int .i64 (dOf w).k, .int .i64 (dOf w).s, .int .i64 (dOf w).t, .int .i64 (dOf w).d, .int .i64 (dOf w).sh, u32 (dOf w).imm])) := (Kp.refl H).push _
        exact ih vs.length (by simp) _ _ ⟨us ++ [w], vs, V, X, rfl, by simp [hx], CV, tm0, by simp; omega, (K0.get c lHC).trans gC, A.kp K0, U.trans (K0.upd _), by simp [e11], by simp [e14], by simp [e16], by simp [e17], by simp⟩
  simp (maxSteps:=9^7)(disch:=first|assumption|((try simp only[nX]);omega)|simp)
  refine G_loop (fun m e H => ∃ j : Nat, m = 32 - j ∧ 1 ≤ j ∧ j ≤ 32 ∧ H.get c = some (.cells false ((rgsj l j).map u32)) ∧ MW H b (XR X0 l j) [ptr p 0] ∧ Upd h6 H [c, b] [c, b] ∧ e 4 = .slice al l.length cl ∧ e 11 = ptr h1.next 0 ∧ e 14 = .slice bi ws.length di ∧ e 16 = .slice (some ⟨c, 0, none⟩) 40 40 ∧ e 17 = ptr b 0 ∧ e 18 = .int .i64 j) ?_ 31 _ _
    ⟨1, rfl, by omega, by omega, gC, A, (Kp.refl h6).upd _, by simp, by simp, by simp, by simp, by simp, by simp⟩
  rintro m ih e H ⟨j, rfl, hj1, hj2, gC, A, U, e4, e11, e14, e16, e17, e18⟩
  have g := A
  unfold MW at g
  by_cases h32 : j = 32
  · subst h32
    simp (maxSteps:=9^7)(disch:=first|assumption|((try simp only[nX]);omega)|simp) [e18]
    exact tail _ _ _ _ (XR_cv rfl rfl (by omega)) rfl gC A U (by simp [e11]) (by simp [e14]) (by simp [e16]) (by simp [e17]) (by simp)
  have j32 : j < 32 := by omega
  have ji : (j : Int) < 32 := by omega
  by_cases hjl : j < l.length
  · have hjl' : (j : Int) < l.length := by omega
    obtain ⟨us, v, vs, hx, hu⟩ : ∃ us v vs, l = us ++ v :: vs ∧ us.length = j := ⟨l.take j, l[j], l.drop (j + 1), by simp, by simp; omega⟩
    obtain ⟨B1, ro, C1, rfl, k1, k2⟩ := Sees.cell (f := u32) (fun _ => rfl) rfl (us := us) (x := v) (vs := vs) (by rw [← hx]; exact S6)
    rw [hu] at k2
    have hB1 := sees_lt S B1 rfl
    have hh5 := K.le
    have k1 : H.get B1.block = some (.cells ro C1) := (U.get _ (lt_of_get k1) (by simp; omega)).trans k1
    have hxj : l[j]? = some v := by rw [hx, ← hu]; simp
    have o1 := over_set (l := (rgsj l j).map u32) (i := j) (v := u32 v) (by simp; omega)
    have j73 : j ≤ 73 := by omega
    have lC := lt_of_get gC
    have lB := lt_of_get A
    have hcb : c ≠ b := by omega
    have hbc : b ≠ c := by omega
    have j39 : j ≤ 39 := by omega
    simp (maxSteps:=9^7)(disch:=first|assumption|((try simp only[nX]);omega)|simp) [e4, e16, e17, e18, ji, j32, j39, j73, hjl, hjl', k1, k2, gC, g, le73, o1, -over]
    have e1 := XR_set (X := X0) hj1 (by omega) hxj
    have e2 : ((rgsj l j).map u32).set j (u32 v) = (rgsj l (j + 1)).map u32 := by rw [← rgsj_set hj1 (by omega) hxj, List.map_set]
    exact ih (32 - (j + 1)) (by omega) _ _ ⟨j + 1, rfl, by omega, by omega, by rw [← e2]; simp [get_put_ne, hcb, lC], by rw [← e1]; exact MW.put (X := XR X0 l j) ((get_put_ne hbc).trans A), ⟨U.le, fun k hk hn => by rw [get_put_ne (fun hh => hn (by simp [hh])), get_put_ne (fun hh => hn (by simp [hh]))]; exact U.get k hk hn, fun k hk => .inl hk⟩, by simp [e4], by simp [e11], by simp [e14], by simp [e16], by simp [e17], by simp⟩
  · have hjl' : ¬ (j : Int) < l.length := by omega
    simp (maxSteps:=9^7)(disch:=first|assumption|((try simp only[nX]);omega)|simp) [e18, e4, ji, j32, hjl, hjl']
    exact tail _ _ _ _ (XR_cv rfl rfl (by omega)) rfl gC A U (by simp [e11]) (by simp [e14]) (by simp [e16]) (by simp [e17]) (by simp)
end
end Go.Proofs.YtmgoleiafiffoaaGreat.Cd

/- The document's words of instructions, as they are drawn: that they come. -/
set_option maxRecDepth 1000000
set_option maxHeartbeats 8000000
set_option linter.unusedSimpArgs false
set_option linter.unusedVariables false
namespace Go.Proofs.YtmgoleiafiffoaaGreat.Cd
open Go Go.Dx
def isT (v : Value) : Prop := ∃ (w : BitVec 32) (t : Bool), v = .tuple #[u32 w, .bool t]
@[simp] theorem isT_t (w : BitVec 32) (t : Bool) : isT (.tuple #[u32 w, .bool t]) := ⟨w, t, rfl⟩
section
variable {h : Hp} {q : Value → Hp → Prop} {i : Ins}
/-- An instruction as it is drawn. -/
structure In7 where
  k : Int
  s : Int
  t : Int
  d : Int
  sh : Int
  imm : BitVec 32
  raw : BitVec 32
def encI7 : Enc In7 := ⟨7, fun x => [.int .i64 x.k, .int .i64 x.s, .int .i64 x.t, .int .i64 x.d, .int .i64 x.sh, u32 x.imm, u32 x.raw], fun _ => rfl, fun _ => rfl, by decide⟩
@[simp] theorem encI7_sz : encI7.sz = 7 := rfl
end
end Go.Proofs.YtmgoleiafiffoaaGreat.Cd

/- The document's words as they are drawn: rows of Kinds. -/
set_option maxRecDepth 1000000
set_option maxHeartbeats 8000000
set_option linter.unusedSimpArgs false
set_option linter.unusedVariables false
namespace Go.Proofs.YtmgoleiafiffoaaGreat.Cd
open Go Go.Dx
section
variable {h : Hp} {q : Value → Hp → Prop} {i : Ins}
end
end Go.Proofs.YtmgoleiafiffoaaGreat.Cd

/- The document's programs: an image comes, whatever is drawn. -/
set_option maxRecDepth 1000000
set_option maxHeartbeats 8000000
set_option linter.unusedSimpArgs false
set_option linter.unusedVariables false
namespace Go.Proofs.YtmgoleiafiffoaaGreat.Cd
open Go Go.Dx
section
variable {h h' : Hp} {q : Value → Hp → Prop}
/-- Bytes in a block. -/
def Bb (h : Hp) (b N : Nat) : Prop := ∃ B : By, B.length = N ∧ h.get b = some (.cells false (B.map u8))
theorem Bb.set {b N i : Nat} (A : Bb h b N) (hi : i < N) (c : BitVec 8) : ∃ h', h.wr b i [u8 c] = some h' ∧ Bb h' b N ∧ Upd h h' [b] [b] := by
  obtain ⟨B, hl, hg⟩ := A
  refine ⟨_, wr_ok hg (by simp; omega) rfl, ⟨B.set i c, by simp [hl], ?_⟩, ?_⟩
  · rw [get_put_self (lt_of_get hg), over_set (by simp; omega), List.map_set]
  · exact (Kp.upd (.refl h) _).put1
theorem Bb.kp {b N : Nat} (A : Bb h b N) (K : Kp h h') : Bb h' b N := by
  obtain ⟨B, hl, hg⟩ := A
  exact ⟨B, hl, (K.get _ (lt_of_get hg)).trans hg⟩
/-- A row of words that grows: a table at first, its own block later; all at or behind lo. -/
def Rz (h : Hp) (lo : Nat) (v : Value) (xs : List (BitVec 32)) : Prop :=
  (∃ b, v = .slice (some ⟨b, 0, none⟩) xs.length xs.length ∧ lo ≤ b ∧ Sees encW h (some ⟨b, 0, none⟩) xs) ∨ (∃ fp, Own encW h v xs fp ∧ ∀ b ∈ fp, lo ≤ b)
/-- What lies ahead of lo is as it was. -/
structure KL (lo : Nat) (h h' : Hp) : Prop where
  le : h.next ≤ h'.next
  get : ∀ b, b < lo → h'.get b = h.get b
theorem KL.trans {lo : Nat} {a b c : Hp} (x : KL lo a b) (y : KL lo b c) : KL lo a c := ⟨Nat.le_trans x.le y.le, fun k hk => (y.get k hk).trans (x.get k hk)⟩
theorem Rz.kp {lo : Nat} {v : Value} {xs : List (BitVec 32)} (R : Rz h lo v xs) (K : Kp h h') : Rz h' lo v xs := by
  rcases R with ⟨b, h1, h2, h3⟩ | ⟨fp, h1, h2⟩
  · exact .inl ⟨b, h1, h2, h3.kp K⟩
  · exact .inr ⟨fp, h1.kp K, h2⟩
theorem Rz.app {Q : Ex → Env → Hp → Prop} {k : List Fr} {e : Env} {d : Option Nat} {l : List O} {lo : Nat} {v : Value} {xs : List (BitVec 32)} {x : BitVec 32} (R : Rz h lo v xs) (hlo : lo ≤ h.next) (hl : xs.length < 2 ^ 30)
    (H : ∀ v' h', Rz h' lo v' (xs ++ [x]) → KL lo h h' → GO T Q l k (put e d v') h') : GV T Q (appendV (h.push (.cells false [u32 x])) 1 4 v (.slice (some ⟨h.next, 0, none⟩) 1 1)) d l k e := by
  rcases R with ⟨b, rfl, h2, h3⟩ | ⟨fp, h1, h2⟩
  · have hr := (h3.kp ((Kp.refl h).push (.cells false [u32 x]))).get _ rfl
    simp only [encW_sz, Nat.mul_one] at hr
    have ha : appendV (h.push (.cells false [u32 x])) 1 4 (.slice (some ⟨b, 0, none⟩) xs.length xs.length) (.slice (some ⟨h.next, 0, none⟩) 1 1) = some (.slice (some ⟨h.next + 1, 0, some 1⟩) (xs.length + 1) (xs.length + 1), (h.push (.cells false [u32 x])).push (.cells false (encW.all xs ++ [u32 x]))) := by
      have e2 : elems (h.push (.cells false [u32 x])) 1 1 (.slice (some ⟨h.next, 0, none⟩) 1 1) = some [u32 x] := elems_one (E := encW) (x := x) get_push_self
      simp only [appendV, lenV, e2]
      rw [if_pos (show [u32 x].length = 1 * 1 from rfl), if_neg (by omega), if_pos ⟨by omega, by omega⟩]
      simp only [Nat.mul_one, hr]
      rfl
    rw [ha]
    refine H _ _ (.inr ⟨[h.next + 1], ?_, by simp; omega⟩) ⟨by simp; omega, fun c hc => by rw [get_push_ne (by rw [push_next]; omega), get_push_ne (by omega)]⟩
    have := Own.blk (E := encW) (h := (h.push (.cells false [u32 x])).push (.cells false (encW.all xs ++ [u32 x]))) (b := h.next + 1) (n := xs.length + 1) (c := xs.length + 1) (xs := xs ++ [x]) (r := []) (by
      have : (h.push (.cells false [u32 x])).next = h.next + 1 := rfl
      rw [← this, get_push_self]
      simp [encW]) (by simp) (Nat.le_refl _) (by omega) (by simp)
    exact this
  · refine GV_app1 (E := encW) (bytes := 4) (x := x) h1 (by omega) (by omega) fun v' h' fp' O U => ?_
    refine H v' h' (.inr ⟨fp', O, fun b hb => ?_⟩) ⟨U.le, fun b hb => U.get b (by omega) fun hm => by have := h2 b hm; omega⟩
    rcases U.sub b hb with h5 | h5
    · exact h2 b h5
    · omega
end
end Go.Proofs.YtmgoleiafiffoaaGreat.Cd

/- BlockEnds: what it answers. -/
set_option maxRecDepth 1000000
set_option maxHeartbeats 8000000
set_option linter.unusedSimpArgs false
set_option linter.unusedVariables false
namespace Go.Proofs.YtmgoleiafiffoaaGreat.Cd
open Go Go.Dx
section
variable {g h h' : Hp} {q : Value → Hp → Prop} {l : List In7} {al : Option Addr} {cl : Nat} {a : BitVec 32} {most less : Int}
end
end Go.Proofs.YtmgoleiafiffoaaGreat.Cd

/- BlockTells: what it answers. -/
set_option maxRecDepth 1000000
set_option maxHeartbeats 8000000
set_option linter.unusedSimpArgs false
set_option linter.unusedVariables false
namespace Go.Proofs.YtmgoleiafiffoaaGreat.Cd
open Go Go.Dx
section
variable {g h h' : Hp} {q : Value → Hp → Prop} {l : List In7} {al ai ar : Option Addr} {cl ci cr : Nat} {a : BitVec 32} {im : By} {rs : List (BitVec 32)} {most : Int}
/-- The memory of a law, told. -/
theorem bmem' {im : By} {ai : Option Addr} {c : Nat} (S : Sees encB h ai im) (hc : im.length ≤ c) (hl : im.length < 2 ^ 63) : WC T n_1s [.slice ai im.length c] h fun v h' => ∃ (x y : Nat) (B : By) (M W M' W' : List Bool), Ra h' x B M W ∧ Ra h' y B M' W' ∧ Kp h h' ∧ B.length = 2048 ∧ v = .tuple #[ptr (x + 3) 0, ptr (y + 3) 0] :=
  bmem S hc hl fun h' x y B M W M' W' a1 a2 a3 a4 a5 a6 => ⟨x, y, B, M, W, M', W', a1, a2, a5, a6, rfl⟩
end
end Go.Proofs.YtmgoleiafiffoaaGreat.Cd
