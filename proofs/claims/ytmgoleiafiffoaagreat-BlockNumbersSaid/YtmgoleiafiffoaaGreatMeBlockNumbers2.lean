/- Texts of one kind, one behind the other. -/
import Derived.Test.YtmgoleiafiffoaaGreatMeBlockNumbers1
import Derived.Test.YtmgoleiafiffoaaGreatMeBlockNumbers0
import Derived.Test.YtmgoleiafiffoaaGreatMcz0
/- Shorter rows: what is known. -/
set_option maxRecDepth 1000000
set_option maxHeartbeats 8000000
set_option linter.unusedSimpArgs false
set_option linter.unusedVariables false
namespace Go.Proofs.YtmgoleiafiffoaaGreat.Cd
open Go Go.Dx
section
variable {h : Hp} {q : Value → Hp → Prop} {b c c' : Nat} {o p : IOp} {R : Regs} {a a' : Option Addr} {L : List IOp} {f : Facts}
def fcells (f : Facts) : List Value := bls f.is ++ f.v.map u32
theorem fcells_is (f : Facts) {z : Int} (h0 : 0 ≤ z) (h1 : z < 40) : (fcells f)[z.toNat]? = some (.bool (f.is z)) := by
  unfold fcells
  rw [List.getElem?_append_left (by simp; omega), bls_at _ h0 h1]
theorem fcells_v (f : Facts) (hv : f.v.length = 40) {z : Int} (h0 : 0 ≤ z) (h1 : z < 40) : (fcells f)[40 + z.toNat]? = some (u32 (rg f.v z)) := by
  unfold fcells
  rw [List.getElem?_append_right (by simp), bls_length, Nat.add_sub_cancel_left, List.getElem?_map, rg_at h0 (by omega)]; rfl
theorem fcells_len (f : Facts) (hv : f.v.length = 40) : (fcells f).length = 80 := by simp [fcells, hv]
theorem fcells_set (f : Facts) {z : Int} (t : Bool) (h0 : 0 ≤ z) (h1 : z < 40) : (fcells f).set z.toNat (.bool t) = fcells ⟨fun c => if c = z then t else f.is c, f.v⟩ := by
  unfold fcells
  rw [List.set_append_left _ _ (by simp; omega), bls_set _ _ h0 h1]
theorem fcells_congr {f g : Facts} (hi : ∀ c, 0 ≤ c → c < 40 → f.is c = g.is c) (hv : f.v = g.v) : fcells f = fcells g := by
  unfold fcells
  rw [bls_congr hi, hv]
theorem opt_knows {l : List Int} (hg : h.get b = some (.cells false (fcells f))) (hv : f.v.length = 40) (hs : Sees encZ h a l) (hl : ∀ n ∈ l, 0 ≤ n ∧ n < 40) (hb : l.length < 2 ^ 63) : WC T n_17 [ptr b 0, .slice a l.length c] h q ↔ q (.bool (knows f l)) h := by
  refine WC_iff ?_ q
  rw [w_17]
  simp (maxSteps:=9^7)(disch:=first|assumption|((try simp only[nX]);omega)|simp)
  refine G_loop (fun n e h' => ∃ us vs, n = vs.length ∧ l = us ++ vs ∧ (∀ z ∈ us, f.is z = true) ∧ h' = h ∧ e 0 = ptr b 0 ∧ e 7 = .slice a l.length c ∧ e 8 = .int .i64 l.length ∧ e 9 = .int .i64 us.length) ?_ l.length _ _ ⟨[], l, rfl, rfl, by simp, rfl, by simp, by simp, by simp, by simp⟩
  rintro n ih e h' ⟨us, vs, rfl, hx, hu, rfl, e0, e7, e8, e9⟩
  cases vs with
  | nil =>
    have hL : l = us := by simpa using hx
    have hll : (l.length : Int) = us.length := by rw [hL]
    have hk : knows f l = true := by rw [hL, knows_iff]; exact hu
    simp (maxSteps:=9^7)(disch:=first|assumption|((try simp only[nX]);omega)|simp) [e0, e7, e8, e9, hll, hk]
  | cons z vs =>
    obtain ⟨z0, z1⟩ := hl z (by rw [hx]; simp)
    have hll : (us.length : Int) < l.length := by rw [hx]; simp; omega
    obtain ⟨B, ro, C, rfl, k1, k2⟩ := Sees.cell (f := fun n => Value.int .i64 n) (fun _ => rfl) rfl (us := us) (x := z) (vs := vs) (by rw [← hx]; exact hs)
    have fz := fcells_is f z0 z1
    by_cases hz : f.is z = true
    · simp only [hz] at fz
      simp (maxSteps:=9^7)(disch:=first|assumption|((try simp only[nX]);omega)|simp) [e0, e7, e8, e9, hll, k1, k2, hg, fz]
      refine ih vs.length (by simp) _ _ ⟨us ++ [z], vs, rfl, by simp [hx], fun y hy => ?_, rfl, by simp [e0], by simp [e7], by simp [e8], by simp⟩
      rcases List.mem_append.1 hy with h1 | h1
      · exact hu y h1
      · simp at h1; subst h1; exact hz
    · have hz' : f.is z = false := by simpa using hz
      simp only [hz'] at fz
      have hk : knows f l = false := by
        rw [Bool.eq_false_iff]
        intro hh
        exact hz (knows_iff.1 hh z (by rw [hx]; simp))
      simp (maxSteps:=9^7)(disch:=first|assumption|((try simp only[nX]);omega)|simp) [e0, e7, e8, e9, hll, k1, k2, hg, fz, hk]
theorem sees_o1 {ro : Bool} (hg : h.get b = some (.cells ro (encOp.enc o))) : Sees encOp h (some ⟨b, 0, none⟩) [o] := ⟨fun hA => (by cases hA), fun A hA => by
  cases hA
  exact rdn_all hg (by simp [encOp]), fun A hA => (by cases hA; exact .inl rfl)⟩
theorem done_loop {Q : Ex → Env → Hp → Prop} {k : List Fr} {e : Env} {w : Regs} {aw : Option Addr} {cw : Nat} {kn : Bool} (hwl : w.length = 40) (sw : Sees encZ h aw (iwrites o)) (g3 : h.get b = some (.cells false (fcells ⟨f.is, w⟩)))
    (e0 : e 0 = ptr b 0) (e4 : e 4 = .bool kn) (e19 : e 19 = .slice aw (iwrites o).length cw) (e20 : e 20 = .int .i64 (iwrites o).length) (e21 : e 21 = .int .i64 0)
    (hout : ∀ e' h4, h4.get b = some (.cells false (fcells ⟨fun c => if c ∈ iwrites o then kn else f.is c, w⟩)) → Upd h h4 [b] [b] → GR T Q k (.x 0) e' h4) : G T Q (.loop c2_15) k e h := by
  have hwb : ∀ n ∈ iwrites o, 0 ≤ n ∧ n < 40 := fun n hn => ⟨by have := iwrites_ne hn; omega, (iwrites_ne hn).2⟩
  have hll0 := iwrites_len o
  refine G_loop (fun n e' h4 => ∃ us vs, n = vs.length ∧ iwrites o = us ++ vs ∧ Upd h h4 [b] [b] ∧ h4.get b = some (.cells false (fcells ⟨fun c => if c ∈ us then kn else f.is c, w⟩)) ∧ e' 0 = ptr b 0 ∧ e' 4 = .bool kn ∧ e' 19 = .slice aw (iwrites o).length cw ∧ e' 20 = .int .i64 (iwrites o).length ∧ e' 21 = .int .i64 us.length) ?_ (iwrites o).length _ _ ⟨[], iwrites o, rfl, rfl, .refl, by simpa using g3, e0, e4, e19, e20, e21⟩
  rintro n ih e' h4 ⟨us, vs, rfl, hx, U4, g4, f0, f4, f19, f20, f21⟩
  have lt4 := lt_of_get g4
  cases vs with
  | nil =>
    have hL : iwrites o = us := by simpa using hx
    have hll : ((iwrites o).length : Int) = us.length := by rw [hL]
    simp (maxSteps:=9^7)(disch:=first|assumption|((try simp only[nX]);omega)|simp) [f19, f20, f21, hll]
    exact hout _ _ (by rw [g4, hL]) U4
  | cons z vs =>
    obtain ⟨z0, z1⟩ := hwb z (by rw [hx]; simp)
    have z2 : z ≤ 39 := by omega
    have hll : (us.length : Int) < (iwrites o).length := by rw [hx]; simp; omega
    obtain ⟨B, ro, C, rfl, k1, k2⟩ := Sees.cell (f := fun n => Value.int .i64 n) (fun _ => rfl) rfl (us := us) (x := z) (vs := vs) (by rw [← hx]; exact sw)
    have hB : B.block ≠ b := fun hh => by
      rw [hh, g3] at k1
      cases k1
      have hlen := fcells_len ⟨f.is, w⟩ hwl
      by_cases h40 : B.off + us.length < 40
      · have := fcells_is ⟨f.is, w⟩ (z := ((B.off + us.length : Nat) : Int)) (by omega) (by omega)
        simp only [Int.toNat_natCast] at this
        rw [this] at k2
        cases k2
      · by_cases h80 : B.off + us.length < 80
        · have := fcells_v ⟨f.is, w⟩ hwl (z := ((B.off + us.length - 40 : Nat) : Int)) (by omega) (by omega)
          simp only [Int.toNat_natCast] at this
          rw [show 40 + (B.off + us.length - 40) = B.off + us.length by omega] at this
          rw [this] at k2
          simp [u32] at k2
        · rw [List.getElem?_eq_none (by omega)] at k2
          cases k2
    have k1' : h4.get B.block = some (.cells ro C) := by rw [U4.get _ (lt_of_get k1) (by simpa using hB), k1]
    have hset := fcells_set ⟨fun c => if c ∈ us then kn else f.is c, w⟩ (z := z) kn z0 z1
    have hlen := fcells_len ⟨fun c => if c ∈ us then kn else f.is c, w⟩ hwl
    have o1 := fun (l : List Value) n v => over_set (l := l) (i := n) (v := v)
    have hcon : fcells ⟨fun c => if c = z then kn else if c ∈ us then kn else f.is c, w⟩ = fcells ⟨fun c => if c ∈ us ++ [z] then kn else f.is c, w⟩ := fcells_congr (fun c h0 h1 => by
      by_cases hc : c = z
      · subst hc; simp
      · simp [hc]) rfl
    have z5 : z ≤ 79 := by omega
    simp (maxSteps:=9^7)(disch:=first|assumption|((try simp only[nX]);omega)|simp) [f0, f4, f19, f20, f21, hll, k1', k2, g4, z2, z5, hlen, -over, o1]
    refine ih vs.length (by simp) _ _ ⟨us ++ [z], vs, rfl, by simp [hx], U4.put1, ?_, by simp [f0], by simp [f4], by simp [f19], by simp [f20], by simp⟩
    rw [get_put_self lt4, hset, hcon]
theorem opt_done (ho : o.ok) (hg : h.get b = some (.cells false (fcells f))) (hv : f.v.length = 40) (hz : rg f.v 0 = 0#32)
    (hq : ∀ h', h'.get b = some (.cells false (fcells (fdone f o))) → Upd h h' [b] [b] → q (.tuple #[]) h') : WC T n_15 [ptr b 0, .agg (encOp.enc o).toArray] h q := by
  have hlt := lt_of_get hg
  rw [w_15]
  simp (maxSteps:=9^7)(disch:=first|assumption|((try simp only[nX]);omega)|simp) [encOp, Hp.rdn]
  generalize hM : h.push (.cells false [.int .i64 o.k, .int .i64 o.d, .int .i64 o.a, .int .i64 o.b, u32 o.imm]) = M
  have KM : Kp h M := by rw [← hM]; exact (Kp.refl h).push _
  have gM : M.get h.next = some (.cells false (encOp.enc o)) := by rw [← hM, get_push_self]; rfl
  refine GC_intro (ir_reads (o := o)) fun v h1 ⟨hz1, K1⟩ => ?_
  obtain ⟨ar, cr, rfl, sr⟩ := hz1
  have g1 := ((KM.trans K1).get _ hlt).trans hg
  have go1 := (K1.get _ (lt_of_get gM)).trans gM
  have ro1 := rdn_all (n := 5) go1 rfl
  simp only [encOp] at ro1
  have ro1a := rdn_all (h := h1.adv 1) (n := 5) go1 rfl
  simp only [encOp] at ro1a
  have hrb : ∀ n ∈ ireads o, 0 ≤ n ∧ n < 40 := fun n hn => ireads_in hn
  have hbo : b ≠ h.next := by omega
  by_cases hk : knows f (ireads o) = true
  · have n1 := (KM.trans K1).le
    have lo1 := lt_of_get go1
    simp (maxSteps:=9^7)(disch:=first|assumption|((try simp only[nX]);omega)|simp) [GC_of (fun q => opt_knows (q := q) g1 hv sr hrb (ireads_len o)), hk, ro1, ro1a]
    have K4 := (Kp.refl h1).push (.cells false (encOp.enc o))
    have g1' : (h1.push (.cells false (encOp.enc o))).get b = some (.cells false (bls f.is ++ f.v.map u32)) := (K4.get _ (lt_of_get g1)).trans g1
    have okx : oks [o] := fun x hx => by simp at hx; subst hx; exact ho
    refine GCI_intro (ir_runK (c := b) (cp := 1) (L := [o]) (P := bls f.is) (k := 40) (q := fun v h2 => h2.get b = some (.cells false (bls f.is ++ (ido f.v o).map u32)) ∧ Upd (h1.push (.cells false (encOp.enc o))) h2 [b] [b]) (by simp) hv g1' (sees_o1 (ro := false) get_push_self) (fun A hh => by cases hh; simp; omega) (by simp) fun h2 g2 u2 => ⟨by rw [g2, if_pos okx, set_zero hz]; rfl, u2⟩) fun v h2 ⟨g2, u2⟩ => ?_
    have go2 : h2.get h.next = some (.cells false (encOp.enc o)) := by rw [u2.get _ (by simp; omega) (by simpa using hbo.symm), K4.get _ lo1, go1]
    have ro2 := rdn_all (n := 5) go2 rfl
    simp only [encOp] at ro2
    simp (maxSteps:=9^7)(disch:=first|assumption|((try simp only[nX]);omega)|simp) [ro2]
    refine GC_intro (ir_writes (o := o)) fun v h3 ⟨hz3, K3⟩ => ?_
    obtain ⟨aw, cw, rfl, sw⟩ := hz3
    have g3 := (K3.get _ (lt_of_get g2)).trans g2
    simp (maxSteps:=9^7)(disch:=first|assumption|((try simp only[nX]);omega)|simp) []
    refine done_loop (f := f) (o := o) (w := ido f.v o) (kn := true) (cw := cw) (by simp [hv]) sw g3 (by simp) (by simp) (by simp) (by simp) (by simp) fun e' h4 g4 u4 => ?_
    simp (maxSteps:=9^7)(disch:=first|assumption|((try simp only[nX]);omega)|simp) []
    refine hq _ ?_ ((((((KM.trans K1).trans K4).upd _).trans u2).one K3).trans u4)
    rw [g4]
    congr 2
    exact fcells_congr (fun c _ _ => by simp [fdone, hk]) (by simp [fdone, hk])
  · have hk' : knows f (ireads o) = false := by simpa using hk
    simp (maxSteps:=9^7)(disch:=first|assumption|((try simp only[nX]);omega)|simp) [GC_of (fun q => opt_knows (q := q) g1 hv sr hrb (ireads_len o)), hk', ro1]
    refine GC_intro (ir_writes (o := o)) fun v h3 ⟨hz3, K3⟩ => ?_
    obtain ⟨aw, cw, rfl, sw⟩ := hz3
    have g3 := (K3.get _ (lt_of_get g1)).trans g1
    simp (maxSteps:=9^7)(disch:=first|assumption|((try simp only[nX]);omega)|simp) []
    refine done_loop (f := f) (o := o) (w := f.v) (kn := false) (cw := cw) hv sw g3 (by simp) (by simp) (by simp) (by simp) (by simp) fun e' h4 g4 u4 => ?_
    simp (maxSteps:=9^7)(disch:=first|assumption|((try simp only[nX]);omega)|simp) []
    refine hq _ ?_ ((((KM.trans K1).trans K3).upd _).trans u4)
    rw [g4]
    congr 2
    exact fcells_congr (fun c _ _ => by simp [fdone, hk']) (by simp [fdone, hk'])
end
end Go.Proofs.YtmgoleiafiffoaaGreat.Cd

/- Shorter rows: operations whose cells are known. -/
set_option maxRecDepth 1000000
set_option maxHeartbeats 8000000
set_option linter.unusedSimpArgs false
set_option linter.unusedVariables false
namespace Go.Proofs.YtmgoleiafiffoaaGreat.Cd
open Go Go.Dx
section
variable {h : Hp} {q : Value → Hp → Prop} {b c c' : Nat} {o p : IOp} {R : Regs} {a a' : Option Addr} {L : List IOp} {f : Facts}
theorem at_of {X : List Value} {i : Nat} {v : Value} (h : X[i]? = some v) (hh : i < X.length) : X[i]'hh = v := by
  rw [List.getElem?_eq_getElem hh] at h
  simpa using h
theorem rdn_off {h : Hp} {b k n : Nat} {ro : Bool} {P C : List Value} (hg : h.get b = some (.cells ro (P ++ C))) (hk : P.length = k) (hn : C.length = n) : h.rdn b k n = some C := by
  subst hk
  subst hn
  simp [Hp.rdn, hg]
def FoldR (f : Facts) (o : IOp) (v : Value) : Prop := ∃ (x : IOp) (t : Bool), v = .tuple #[.agg (encOp.enc x).toArray, .bool t] ∧ ((t = true ∧ fold1 f o = some x) ∨ (t = false ∧ fold1 f o = none))
theorem opt_fold (ho : o.ok) (hg : h.get b = some (.cells false (fcells f))) (hv : f.v.length = 40) (hz : rg f.v 0 = 0#32) : WC T n_16 [ptr b 0, .agg (encOp.enc o).toArray] h fun v h' => FoldR f o v ∧ Kp h h' := by
  have hlt := lt_of_get hg
  obtain ⟨⟨d0, d1⟩, ⟨a0, a1⟩, ⟨b0, b1⟩, k0, k1⟩ := id ho
  rw [w_16]
  simp (maxSteps:=9^7)(disch:=first|assumption|((try simp only[nX]);omega)|simp) [encOp, Hp.rdn]
  generalize hM : (h.push (.cells false [.int .i64 o.k, .int .i64 o.d, .int .i64 o.a, .int .i64 o.b, u32 o.imm])).push (.cells false [.int .i64 0, .int .i64 0, .int .i64 0, .int .i64 0, u32 0#32]) = M
  have KM : Kp h M := by rw [← hM]; exact ((Kp.refl h).push _).push _
  have gM : M.get h.next = some (.cells false (encOp.enc o)) := by rw [← hM, get_push_ne (by simp), get_push_self]; rfl
  have gX : M.get (h.next + 1) = some (.cells false [.int .i64 0, .int .i64 0, .int .i64 0, .int .i64 0, u32 0#32]) := by rw [← hM]; exact get_push_self (h := h.push _)
  refine GC_intro (ir_writes (o := o)) fun v h1 ⟨hz1, K1⟩ => ?_
  obtain ⟨aw, cw, rfl, sw⟩ := hz1
  have g1 := ((KM.trans K1).get _ hlt).trans hg
  have go1 := (K1.get _ (lt_of_get gM)).trans gM
  have gx1 := (K1.get _ (lt_of_get gX)).trans gX
  have KH1 := KM.trans K1
  have ro1 := rdn_all (n := 5) go1 rfl
  simp only [encOp] at ro1 go1
  have n1 : h.next + 1 < h1.next := lt_of_get gx1
  have sure' := fun (h : Hp) (q : Value → Hp → Prop) => opt_sure (h := h) (q := q) (o := o)
  simp only [encOp] at sure'
  have KS := (Kp.refl h1).push (.cells false [.int .i64 o.k, .int .i64 o.d, .int .i64 o.a, .int .i64 o.b, u32 o.imm])
  have fib := fcells_is f b0 b1
  have hfl := fcells_len f hv
  have bl : o.b ≤ 39 := by omega
  have bl79 : o.b ≤ 79 := by omega
  have fvb := fcells_v f hv b0 b1
  have wx : ∀ (g : Hp) (vs : List Value), g.get (h.next + 1) = h1.get (h.next + 1) → vs.length = 5 → vs.all one = true → g.wr (h.next + 1) 0 vs = some (g.put (h.next + 1) (some (.cells false vs))) := fun g vs hgg hl hone => wr_all (by rw [hgg, gx1]) (by simp [hl]) hone
  generalize hX : fcells f = X at g1 fib fvb hfl
  by_cases hs : isure o = true
  case neg =>
    have hs' : isure o = false := by simpa using hs
    have hk : o.k = 21 ∨ o.k = 22 := by
      unfold isure at hs'
      by_cases h1 : o.k = 21
      · exact .inl h1
      · by_cases h2 : o.k = 22
        · exact .inr h2
        · simp [h1, h2] at hs'
    by_cases hb : f.is o.b = true
    · simp only [hb] at fib
      have hb2 : (fcells f)[40 + o.b.toNat]? = some (u32 (rg f.v o.b)) := by rw [hX]; exact fvb
      have e : fold1 f o = if ((rg f.v o.b = 0#32) ↔ (o.k = 21)) then some ⟨2, o.d, o.a, 0, 0#32⟩ else none := by unfold fold1; rw [if_pos ⟨hs', hb⟩]
      have w1 := wx (h1.push (.cells false [.int .i64 o.k, .int .i64 o.d, .int .i64 o.a, .int .i64 o.b, u32 o.imm])) [.int .i64 2, .int .i64 o.d, .int .i64 o.a, .int .i64 0, u32 0#32] (get_push_ne (by omega)) rfl rfl
      have r1 : ((h1.push (.cells false [.int .i64 o.k, .int .i64 o.d, .int .i64 o.a, .int .i64 o.b, u32 o.imm])).put (h.next + 1) (some (.cells false [.int .i64 2, .int .i64 o.d, .int .i64 o.a, .int .i64 0, u32 0#32]))).rdn (h.next + 1) 0 5 = some [.int .i64 2, .int .i64 o.d, .int .i64 o.a, .int .i64 0, u32 0#32] := rdn_all (ro := false) (get_put_self (by simp; omega)) rfl
      have KE : Kp h ((h1.push (.cells false [.int .i64 o.k, .int .i64 o.d, .int .i64 o.a, .int .i64 o.b, u32 o.imm])).put (h.next + 1) (some (.cells false [.int .i64 2, .int .i64 o.d, .int .i64 o.a, .int .i64 0, u32 0#32]))) := (KH1.trans KS).put (by omega) _
      by_cases hv0 : rg f.v o.b = 0#32
      · rw [hv0] at fvb
        rcases hk with hk | hk <;>
        · simp only [hk] at ro1 go1 sure' KS w1 r1 KE
          simp (maxSteps:=9^7)(disch:=first|assumption|((try simp only[nX]);omega)|simp) [GC_of (fun q => sure' _ q), GCI_of (fun q => sure' _ q), hs', ro1, go1, g1, fib, fvb, at_of fib, at_of fvb, bl, bl79, hfl, w1, r1, -Hp.wr, hk, GRe, hv0]
          refine ⟨⟨⟨2, o.d, o.a, 0, 0#32⟩, _, rfl, ?_⟩, KE⟩
          rw [e]; simp [hv0, hk]
      · rcases hk with hk | hk <;>
        · simp only [hk] at ro1 go1 sure' KS w1 r1 KE
          simp (maxSteps:=9^7)(disch:=first|assumption|((try simp only[nX]);omega)|simp) [GC_of (fun q => sure' _ q), GCI_of (fun q => sure' _ q), hs', ro1, go1, g1, fib, fvb, at_of fib, at_of fvb, bl, bl79, hfl, w1, r1, -Hp.wr, hk, GRe, hv0]
          refine ⟨⟨⟨2, o.d, o.a, 0, 0#32⟩, _, rfl, ?_⟩, KE⟩
          rw [e]; simp [hv0, hk]
    · have hb' : f.is o.b = false := by simpa using hb
      simp only [hb'] at fib
      have e : fold1 f o = some o := by
        unfold fold1
        rw [if_neg (fun hh => hb hh.2), if_pos (.inl hs')]
      have w1 := wx ((h1.push (.cells false [.int .i64 o.k, .int .i64 o.d, .int .i64 o.a, .int .i64 o.b, u32 o.imm])).push (.cells false [.int .i64 o.k, .int .i64 o.d, .int .i64 o.a, .int .i64 o.b, u32 o.imm])) [.int .i64 o.k, .int .i64 o.d, .int .i64 o.a, .int .i64 o.b, u32 o.imm] (by rw [get_push_ne (by simp; omega), get_push_ne (by omega)]) rfl rfl
      have r1 : (((h1.push (.cells false [.int .i64 o.k, .int .i64 o.d, .int .i64 o.a, .int .i64 o.b, u32 o.imm])).push (.cells false [.int .i64 o.k, .int .i64 o.d, .int .i64 o.a, .int .i64 o.b, u32 o.imm])).put (h.next + 1) (some (.cells false [.int .i64 o.k, .int .i64 o.d, .int .i64 o.a, .int .i64 o.b, u32 o.imm]))).rdn (h.next + 1) 0 5 = some [.int .i64 o.k, .int .i64 o.d, .int .i64 o.a, .int .i64 o.b, u32 o.imm] := rdn_all (ro := false) (get_put_self (by simp; omega)) rfl
      have KE : Kp h (((h1.push (.cells false [.int .i64 o.k, .int .i64 o.d, .int .i64 o.a, .int .i64 o.b, u32 o.imm])).push (.cells false [.int .i64 o.k, .int .i64 o.d, .int .i64 o.a, .int .i64 o.b, u32 o.imm])).put (h.next + 1) (some (.cells false [.int .i64 o.k, .int .i64 o.d, .int .i64 o.a, .int .i64 o.b, u32 o.imm]))) := ((KH1.trans KS).push _).put (by omega) _
      have ro2 : (h1.push (.cells false [.int .i64 o.k, .int .i64 o.d, .int .i64 o.a, .int .i64 o.b, u32 o.imm])).rdn h.next 0 5 = some [.int .i64 o.k, .int .i64 o.d, .int .i64 o.a, .int .i64 o.b, u32 o.imm] := rdn_all ((get_push_ne (by omega)).trans go1) rfl
      have ro3 : ((h1.push (.cells false [.int .i64 o.k, .int .i64 o.d, .int .i64 o.a, .int .i64 o.b, u32 o.imm])).push (.cells false [.int .i64 o.k, .int .i64 o.d, .int .i64 o.a, .int .i64 o.b, u32 o.imm])).rdn h.next 0 5 = some [.int .i64 o.k, .int .i64 o.d, .int .i64 o.a, .int .i64 o.b, u32 o.imm] := rdn_all ((get_push_ne (by simp; omega)).trans ((get_push_ne (by omega)).trans go1)) rfl
      simp (maxSteps:=9^7)(disch:=first|assumption|((try simp only[nX]);omega)|simp) [GC_of (fun q => sure' _ q), GCI_of (fun q => sure' _ q), hs', ro1, ro2, ro3, go1, g1, fib, at_of fib, bl, bl79, hfl, w1, r1, -Hp.wr]
      exact ⟨⟨o, true, rfl, .inl ⟨rfl, e⟩⟩, KE⟩
  have w1 := wx ((h1.push (.cells false [.int .i64 o.k, .int .i64 o.d, .int .i64 o.a, .int .i64 o.b, u32 o.imm])).push (.cells false [.int .i64 o.k, .int .i64 o.d, .int .i64 o.a, .int .i64 o.b, u32 o.imm])) [.int .i64 o.k, .int .i64 o.d, .int .i64 o.a, .int .i64 o.b, u32 o.imm] (by rw [get_push_ne (by simp; omega), get_push_ne (by omega)]) rfl rfl
  have r1 : (((h1.push (.cells false [.int .i64 o.k, .int .i64 o.d, .int .i64 o.a, .int .i64 o.b, u32 o.imm])).push (.cells false [.int .i64 o.k, .int .i64 o.d, .int .i64 o.a, .int .i64 o.b, u32 o.imm])).put (h.next + 1) (some (.cells false [.int .i64 o.k, .int .i64 o.d, .int .i64 o.a, .int .i64 o.b, u32 o.imm]))).rdn (h.next + 1) 0 5 = some [.int .i64 o.k, .int .i64 o.d, .int .i64 o.a, .int .i64 o.b, u32 o.imm] := rdn_all (ro := false) (get_put_self (by simp; omega)) rfl
  have KE : Kp h (((h1.push (.cells false [.int .i64 o.k, .int .i64 o.d, .int .i64 o.a, .int .i64 o.b, u32 o.imm])).push (.cells false [.int .i64 o.k, .int .i64 o.d, .int .i64 o.a, .int .i64 o.b, u32 o.imm])).put (h.next + 1) (some (.cells false [.int .i64 o.k, .int .i64 o.d, .int .i64 o.a, .int .i64 o.b, u32 o.imm]))) := ((KH1.trans KS).push _).put (by omega) _
  have ro2 : (h1.push (.cells false [.int .i64 o.k, .int .i64 o.d, .int .i64 o.a, .int .i64 o.b, u32 o.imm])).rdn h.next 0 5 = some [.int .i64 o.k, .int .i64 o.d, .int .i64 o.a, .int .i64 o.b, u32 o.imm] := rdn_all ((get_push_ne (by omega)).trans go1) rfl
  generalize hS : (h1.push (.cells false [.int .i64 o.k, .int .i64 o.d, .int .i64 o.a, .int .i64 o.b, u32 o.imm])).push (.cells false [.int .i64 o.k, .int .i64 o.d, .int .i64 o.a, .int .i64 o.b, u32 o.imm]) = S at w1 r1 KE
  have KS2 : Kp h1 S := by rw [← hS]; exact KS.push _
  have ro3 : S.rdn h.next 0 5 = some [.int .i64 o.k, .int .i64 o.d, .int .i64 o.a, .int .i64 o.b, u32 o.imm] := rdn_all ((KS2.get _ (by omega)).trans go1) rfl
  have ns : ¬ (isure o = false ∧ f.is o.b = true) := fun hh => by rw [hs] at hh; cases hh.1
  by_cases hl : (iwrites o).length = 1
  case neg =>
    have hl' : ¬ ((iwrites o).length : Int) = 1 := by omega
    have e : fold1 f o = some o := by
      unfold fold1
      rw [if_neg ns, if_pos (.inr (.inl hl))]
    simp (maxSteps:=9^7)(disch:=first|assumption|((try simp only[nX]);omega)|simp) [GC_of (fun q => sure' _ q), GCI_of (fun q => sure' _ q), hs, ro1, ro2, ro3, hS, hl, hl', w1, r1, -Hp.wr]
    exact ⟨⟨o, true, rfl, .inl ⟨rfl, e⟩⟩, KE⟩
  have hl' : ((iwrites o).length : Int) = 1 := by omega
  simp (maxSteps:=9^7)(disch:=first|assumption|((try simp only[nX]);omega)|simp) [GC_of (fun q => sure' _ q), GCI_of (fun q => sure' _ q), hs, ro1, ro2, ro3, hS, hl, hl', -Hp.wr]
  refine GC_intro (ir_reads (o := o)) fun v h5 ⟨hz5, K5⟩ => ?_
  obtain ⟨ar, cr, rfl, sr⟩ := hz5
  have K15 := KS2.trans K5
  have g5 : h5.get b = some (.cells false (fcells f)) := by rw [K15.get _ (lt_of_get g1), g1, hX]
  have go5 := (K15.get _ (lt_of_get go1)).trans go1
  have gx5 := (K15.get _ (lt_of_get gx1)).trans gx1
  have ro5 := rdn_all (n := 5) go5 rfl
  have n5 := K15.le
  have wx5 : ∀ (g : Hp) (vs : List Value), g.get (h.next + 1) = h5.get (h.next + 1) → vs.length = 5 → vs.all one = true → g.wr (h.next + 1) 0 vs = some (g.put (h.next + 1) (some (.cells false vs))) := fun g vs hgg hl hone => wr_all (by rw [hgg, gx5]) (by simp [hl]) hone
  have kn := fun q => opt_knows (q := q) (c := cr) g5 hv sr (fun n hn => ireads_in hn) (ireads_len o)
  by_cases hk : knows f (ireads o) = true
  case neg =>
    have hk' : knows f (ireads o) = false := by simpa using hk
    have e : fold1 f o = some o := by
      unfold fold1
      rw [if_neg ns, if_pos (.inr (.inr hk'))]
    have w2 := wx5 h5 [.int .i64 o.k, .int .i64 o.d, .int .i64 o.a, .int .i64 o.b, u32 o.imm] rfl rfl rfl
    have r2 : (h5.put (h.next + 1) (some (.cells false [.int .i64 o.k, .int .i64 o.d, .int .i64 o.a, .int .i64 o.b, u32 o.imm]))).rdn (h.next + 1) 0 5 = some [.int .i64 o.k, .int .i64 o.d, .int .i64 o.a, .int .i64 o.b, u32 o.imm] := rdn_all (ro := false) (get_put_self (by omega)) rfl
    simp (maxSteps:=9^7)(disch:=first|assumption|((try simp only[nX]);omega)|simp) [GC_of kn, hk', ro5, w2, r2, -Hp.wr]
    exact ⟨⟨o, true, rfl, .inl ⟨rfl, e⟩⟩, (KH1.trans K15).put (by omega) _⟩
  obtain ⟨w1', w2', w3', w4', w5'⟩ := writes_one ho hs hl
  have e : fold1 f o = some ⟨1, o.d, 0, 0, rg (ido f.v o) o.d⟩ := by
    unfold fold1
    rw [if_neg ns, if_neg (by simp [hs, hl, hk])]
  have rv := rdn_off (k := 40) (n := 40) (h := h5) (b := b) (ro := false) (P := bls f.is) (C := f.v.map u32) g5 (by simp) (by simp [hv])
  have wN : (h5.push (.cells false (List.replicate 40 (u32 0#32)))).wr h5.next 0 (f.v.map u32) = some (h5.push (.cells false (f.v.map u32))) := wr_new (by simp [hv]) (all_u32 _)
  simp (maxSteps:=9^7)(disch:=first|assumption|((try simp only[nX]);omega)|simp) [GC_of kn, hk, ro5, rv, wN, -Hp.wr, -List.reduceReplicate, hv, all_u32]
  generalize hN : h5.push (.cells false (f.v.map u32)) = N
  have KN : Kp h5 N := by rw [← hN]; exact (Kp.refl h5).push _
  have gN : N.get h5.next = some (.cells false (f.v.map u32)) := by rw [← hN, get_push_self]
  have goN := (KN.get _ (lt_of_get go5)).trans go5
  have gxN := (KN.get _ (lt_of_get gx5)).trans gx5
  have roN := rdn_all (n := 5) goN rfl
  have lN := lt_of_get gN
  simp (maxSteps:=9^7)(disch:=first|assumption|((try simp only[nX]);omega)|simp) [roN, -Hp.wr]
  have K6 := (Kp.refl N).push (.cells false (encOp.enc o))
  have okx : oks [o] := fun x hx => by simp at hx; subst hx; exact ho
  refine GC_intro (ir_run (c := h5.next) (cp := 1) (L := [o]) (q := fun v h2 => h2.get h5.next = some (.cells false ((ido f.v o).map u32)) ∧ Upd (N.push (.cells false (encOp.enc o))) h2 [h5.next] [h5.next]) hv ((K6.get _ lN).trans gN) (sees_o1 (ro := false) get_push_self) (fun A hh => by cases hh; simp; omega) (by simp) fun h2 g2 u2 => ⟨by rw [g2, if_pos okx, set_zero hz]; rfl, u2⟩) fun v h7 ⟨g7, u7⟩ => ?_
  have lgo := lt_of_get goN
  have lgx := lt_of_get gxN
  have go7 := (u7.get h.next (by simp; omega) (by simp; omega)).trans ((K6.get _ lgo).trans goN)
  have gx7 := (u7.get (h.next + 1) (by simp; omega) (by simp; omega)).trans ((K6.get _ lgx).trans gxN)
  have ro7 := rdn_all (n := 5) go7 rfl
  have dl : o.d ≤ 39 := by omega
  have rd := rg_at (R := ido f.v o) d0 (by simp; omega)
  have ml : ((ido f.v o).map u32).length = 40 := by simp [hv]
  have rd2 : ((ido f.v o).map u32)[o.d.toNat]? = some (u32 (rg (ido f.v o) o.d)) := by rw [List.getElem?_map, rd]; rfl
  generalize hY : (ido f.v o).map u32 = Y at g7 ml rd2
  have w2 : h7.wr (h.next + 1) 0 [.int .i64 1, .int .i64 o.d, .int .i64 0, .int .i64 0, u32 (rg (ido f.v o) o.d)] = some (h7.put (h.next + 1) (some (.cells false [.int .i64 1, .int .i64 o.d, .int .i64 0, .int .i64 0, u32 (rg (ido f.v o) o.d)]))) := wr_all gx7 rfl rfl
  have r2 : (h7.put (h.next + 1) (some (.cells false [.int .i64 1, .int .i64 o.d, .int .i64 0, .int .i64 0, u32 (rg (ido f.v o) o.d)]))).rdn (h.next + 1) 0 5 = some [.int .i64 1, .int .i64 o.d, .int .i64 0, .int .i64 0, u32 (rg (ido f.v o) o.d)] := rdn_all (ro := false) (get_put_self (lt_of_get gx7)) rfl
  simp (maxSteps:=9^7)(disch:=first|assumption|((try simp only[nX]);omega)|simp) [go7, g7, rd2, at_of rd2, dl, ml, w2, r2, -Hp.wr]
  refine ⟨⟨⟨1, o.d, 0, 0, rg (ido f.v o) o.d⟩, true, rfl, .inl ⟨rfl, e⟩⟩, ?_⟩
  refine Kp.put ?_ (by omega) _
  exact u7.kp' ((((KH1.trans K15).trans KN).trans K6)) (by simp; omega)
end
end Go.Proofs.YtmgoleiafiffoaaGreat.Cd

/- Shorter rows: folded, and without what nobody asks. -/
set_option maxRecDepth 1000000
set_option maxHeartbeats 8000000
set_option linter.unusedSimpArgs false
set_option linter.unusedVariables false
namespace Go.Proofs.YtmgoleiafiffoaaGreat.Cd
open Go Go.Dx
section
variable {h : Hp} {q : Value → Hp → Prop} {b c c' : Nat} {o p : IOp} {R : Regs} {a a' : Option Addr} {L : List IOp} {f : Facts}
theorem fdone_v {f : Facts} {x : IOp} (hx : x.ok) (hv : f.v.length = 40) (hz : rg f.v 0 = 0#32) : (fdone f x).v.length = 40 ∧ rg (fdone f x).v 0 = 0#32 := by
  unfold fdone
  simp only
  split
  · exact ⟨by simp [hv], ido_zero hx hv hz⟩
  · exact ⟨hv, hz⟩
theorem facts0_cells : fcells facts0 = Value.bool true :: (List.replicate 39 (.bool false) ++ List.replicate 40 (u32 0#32)) := by
  unfold fcells facts0
  simp only [List.map_replicate]
  have : bls (fun c => decide (c = 0)) = Value.bool true :: List.replicate 39 (.bool false) := by
    apply List.ext_getElem?
    intro n
    by_cases hn : n < 40
    · rw [bls_nat _ hn]
      cases n with
      | zero => rfl
      | succ n =>
        rw [List.getElem?_cons_succ, List.getElem?_replicate, if_pos (by omega)]
        have : ¬ (((n + 1 : Nat) : Int) = 0) := by omega
        simp only [this, decide_false]
    · rw [List.getElem?_eq_none (by simp; omega), List.getElem?_eq_none (by simp; omega)]
  rw [this]
  rfl
theorem opt_Fold (hs : Sees encOp h a L) (hb : L.length < 2 ^ 40) : WC T n_13 [.slice a L.length c] h fun v h' => OwnNew h h' v (if oks L then ifold L else []) ∧ Kp h h' := by
  rw [w_13]
  simp (maxSteps:=9^7)(disch:=first|assumption|((try simp only[nX]);omega)|simp)
  refine GC_intro (opt_right hs (by omega)) fun v h1 ⟨hv, K1⟩ => ?_
  subst hv
  by_cases hok : oks L
  case neg =>
    simp (maxSteps:=9^7)(disch:=first|assumption|((try simp only[nX]);omega)|simp) [hok]
    exact ⟨⟨[], .nul, by simp⟩, K1⟩
  rw [if_pos hok]
  simp (maxSteps:=9^7)(disch:=first|assumption|((try simp only[nX]);omega)|simp) [hok]
  have n1 := K1.le
  generalize hM : h1.push _ = M
  have gM : M.get h1.next = some (.cells false (fcells facts0)) := by
    rw [← hM, get_push_self, facts0_cells]; rfl
  have KM : Kp h M := by rw [← hM]; exact K1.push _
  refine G_loop (fun n e h' => ∃ us vs f D fp, n = vs.length ∧ L = us ++ vs ∧ ifold L = D ++ ffold f vs ∧ D.length ≤ us.length ∧ f.v.length = 40 ∧ rg f.v 0 = 0#32 ∧ h'.get h1.next = some (.cells false (fcells f)) ∧ Own encOp h' (e 4) D fp ∧ (∀ b ∈ fp, h1.next < b) ∧ Kp h h' ∧ e 3 = ptr h1.next 0 ∧ e 18 = .slice a L.length c ∧ e 19 = .int .i64 L.length ∧ e 20 = .int .i64 us.length) ?_ L.length _ _ ⟨[], L, facts0, [], [], rfl, rfl, rfl, by simp, by simp [facts0], rfl, gM, by simp; exact .nul, by simp, KM, by simp, by simp, by simp, by simp⟩
  clear gM KM hM M
  rintro n ih e h' ⟨us, vs, f, D, fp, rfl, hx, hF, hD, hv, hz, g, O, hfp, K, e3, e18, e19, e20⟩
  have lt := lt_of_get g
  have hxl : L.length = us.length + vs.length := by rw [hx]; simp
  cases vs with
  | nil =>
    have hll : (L.length : Int) = us.length := by simp at hxl; omega
    simp (maxSteps:=9^7)(disch:=first|assumption|((try simp only[nX]);omega)|simp) [e3, e18, e19, e20, hll]
    refine ⟨⟨fp, ?_, fun b hb => by have := hfp b hb; omega⟩, K⟩
    rw [hF]
    simpa [ffold] using O
  | cons o vs =>
    simp only [List.length_cons] at hxl
    have hlen : us.length < L.length := by omega
    have hlen' : (us.length : Int) < L.length := by omega
    have hoo : o.ok := hok o (by rw [hx]; simp)
    obtain ⟨A, rfl, hr⟩ := Sees.mid (A := us) (x := o) (B := vs) (by rw [← hx]; exact hs.kp K)
    have hr' : h'.rdn A.block (A.off + us.length * 5) 5 = some [.int .i64 o.k, .int .i64 o.d, .int .i64 o.a, .int .i64 o.b, u32 o.imm] := hr
    have rP : (h'.push (.cells false [.int .i64 o.k, .int .i64 o.d, .int .i64 o.a, .int .i64 o.b, u32 o.imm])).rdn h'.next 0 5 = some [.int .i64 o.k, .int .i64 o.d, .int .i64 o.a, .int .i64 o.b, u32 o.imm] := rdn_all get_push_self rfl
    simp (maxSteps:=9^7)(disch:=first|assumption|((try simp only[nX]);omega)|simp) [e3, e18, e19, e20, hlen, hlen', hr', rP]
    generalize hP : h'.push (.cells false [.int .i64 o.k, .int .i64 o.d, .int .i64 o.a, .int .i64 o.b, u32 o.imm]) = P
    have KP : Kp h' P := by rw [← hP]; exact (Kp.refl h').push _
    have gP := (KP.get _ lt).trans g
    refine GC_intro (opt_fold (o := o) hoo gP hv hz) fun v h2 ⟨⟨x, t, hv2, hx2⟩, K2⟩ => ?_
    subst hv2
    have K'2 := KP.trans K2
    have g2 := (K'2.get _ lt).trans g
    rcases hx2 with ⟨rfl, hf1⟩ | ⟨rfl, hf1⟩
    · have hFs : ffold f (o :: vs) = x :: ffold (fdone f x) vs := by simp only [ffold, hf1]
      have hxo := fold1_ok hoo hf1
      have rQ : (h2.push (.cells false [.int .i64 x.k, .int .i64 x.d, .int .i64 x.a, .int .i64 x.b, u32 x.imm])).rdn h2.next 0 5 = some [.int .i64 x.k, .int .i64 x.d, .int .i64 x.a, .int .i64 x.b, u32 x.imm] := rdn_all get_push_self rfl
      simp (maxSteps:=9^7)(disch:=first|assumption|((try simp only[nX]);omega)|simp) [encOp, rQ]
      generalize hQ : h2.push (.cells false [.int .i64 x.k, .int .i64 x.d, .int .i64 x.a, .int .i64 x.b, u32 x.imm]) = Q
      have KQ : Kp h2 Q := by rw [← hQ]; exact (Kp.refl h2).push _
      have gx : Q.get h2.next = some (.cells false (encOp.enc x)) := by rw [← hQ, get_push_self]; rfl
      have nQ : h2.next + 1 = Q.next := by rw [← hQ]; rfl
      rw [nQ]
      have O2 := O.kp (K'2.trans KQ)
      have gQ := (KQ.get _ (lt_of_get g2)).trans g2
      refine GV_app1 (E := encOp) (bytes := 40) (x := x) O2 (by omega) (by omega) fun v' h3 fp' O3 U3 => ?_
      have n2 := (K'2.trans KQ).le
      have hfl : ∀ b ∈ fp, b < h'.next := fun b hb => O.live b hb
      have g3 : h3.get h1.next = some (.cells false (fcells f)) := by rw [U3.get _ (lt_of_get gQ) (fun hh => by have := hfp _ hh; omega), gQ]
      have gx3 : h3.get h2.next = some (.cells false (encOp.enc x)) := by rw [U3.get _ (lt_of_get gx) (fun hh => by have := hfl _ hh; have := K'2.le; omega), gx]
      have rx3 := rdn_all (n := 5) gx3 rfl
      simp only [encOp] at rx3
      simp (maxSteps:=9^7)(disch:=first|assumption|((try simp only[nX]);omega)|simp) [rx3, e3]
      refine GC_intro (opt_done (o := x) (q := fun v h4 => h4.get h1.next = some (.cells false (fcells (fdone f x))) ∧ Upd h3 h4 [h1.next] [h1.next]) hxo g3 hv hz (fun h4 g4 u4 => ⟨g4, u4⟩)) fun v h4 ⟨g4, u4⟩ => ?_
      have hfp' : ∀ b ∈ fp', h1.next < b := fun b hb => by
        rcases U3.sub b hb with h5 | h5
        · exact hfp b h5
        · omega
      obtain ⟨hv', hz'⟩ := fdone_v (f := f) hxo hv hz
      simp (maxSteps:=9^7)(disch:=first|assumption|((try simp only[nX]);omega)|simp) [e20]
      refine ih vs.length (by simp) _ _ ⟨us ++ [o], vs, fdone f x, D ++ [x], fp', rfl, by simp [hx], by rw [hF, hFs]; simp, by simp; omega, hv', hz', g4, ?_, hfp', ?_, by simp [e3], by simp [e18], by simp [e19], by simp⟩
      · have := O3.keep (h' := h4) fun b hb => u4.get b (O3.live b hb) (by have := hfp' b hb; simp; omega)
        simpa using this
      · exact u4.kp' (U3.kp' (K.trans (K'2.trans KQ)) (fun b hb => by have := hfp b hb; omega)) (by simp; omega)
    · have hFs : ffold f (o :: vs) = ffold f vs := by simp only [ffold, hf1]
      simp (maxSteps:=9^7)(disch:=first|assumption|((try simp only[nX]);omega)|simp) [encOp, e20]
      refine ih vs.length (by simp) _ _ ⟨us ++ [o], vs, f, D, fp, rfl, by simp [hx], by rw [hF, hFs], by simp; omega, hv, hz, ?_, ?_, hfp, (K.trans K'2).push _, by simp [e3], by simp [e18], by simp [e19], by simp⟩
      · exact (((Kp.refl h2).push _).get _ (lt_of_get g2)).trans g2
      · have := O.kp (K'2.push (.cells false [.int .i64 x.k, .int .i64 x.d, .int .i64 x.a, .int .i64 x.b, u32 x.imm]))
        simpa using this
theorem own_new_sees {h h' : Hp} {v : Value} {X : List IOp} (O : OwnNew h h' v X) : ∃ a c, v = .slice a X.length c ∧ Sees encOp h' a X ∧ X.length ≤ c ∧ ∀ A, a = some A → h.next ≤ A.block := by
  obtain ⟨fp, O, hfp⟩ := O
  obtain ⟨a, c, rfl, s, hc, ha⟩ := O.len
  exact ⟨a, c, rfl, s, hc, fun A hA => hfp _ (ha A hA)⟩
theorem opt_Opt (hs : Sees encOp h a L) (hb : L.length < 2 ^ 40) : WC T n_14 [.slice a L.length c] h fun v h' => OwnNew h h' v (if oks L then iopt L else []) ∧ Kp h h' := by
  rw [w_14]
  simp (maxSteps:=9^7)(disch:=first|assumption|((try simp only[nX]);omega)|simp)
  refine GC_intro (opt_Fold hs hb) fun v h1 ⟨O1, K1⟩ => ?_
  obtain ⟨a1, c1, rfl, s1, _, _⟩ := own_new_sees O1
  have hl : (if oks L then ifold L else []).length < 2 ^ 40 := by
    split
    · have := ffold_len facts0 L
      unfold ifold; omega
    · simp
  simp (maxSteps:=9^7)(disch:=first|assumption|((try simp only[nX]);omega)|simp)
  refine GC_intro (opt_dead s1 hl) fun v h2 ⟨O2, K2⟩ => ?_
  simp (maxSteps:=9^7)(disch:=first|assumption|((try simp only[nX]);omega)|simp)
  obtain ⟨fp, O2, hfp⟩ := O2
  refine ⟨⟨fp, ?_, fun b hb => by have := hfp b hb; have := K1.le; omega⟩, K1.trans K2⟩
  by_cases hok : oks L
  · rw [if_pos hok] at O2 ⊢
    rw [if_pos (ifold_oks hok)] at O2
    exact O2
  · rw [if_neg hok] at O2 ⊢
    have ok0 : oks [] := fun o ho => (by cases ho)
    rw [if_pos ok0] at O2
    exact O2
end
end Go.Proofs.YtmgoleiafiffoaaGreat.Cd

/- The wheel, and what is common to all that use one. -/
set_option maxRecDepth 1000000
set_option linter.unusedSimpArgs false
set_option linter.unusedVariables false
namespace Go.Proofs.YtmgoleiafiffoaaGreat.Cd
open Go Go.Dx
section
variable {h : Hp}
/-- A struct laid anew: what it takes. -/
theorem kp_laid {g h : Hp} (K : Kp g h) (o p : Ob) : Kp g ((h.push o).put h.next (some p)) := (K.push _).put K.le _
theorem Wh.laid {h : Hp} {w : Nat} {L : List Ev} {s : Int} {fp : List Nat} (W : Wh h w L s fp) (o p : Ob) : Wh ((h.push o).put h.next (some p)) w L s fp := W.kp (kp_laid (Kp.refl h) o p)
section
variable {q : Value → Hp → Prop}
theorem within {n lo hi : Int} (h0 : -1000000000000 ≤ lo) (h1 : lo ≤ hi) (h2 : hi ≤ 1000000000000) (hq : ∀ m, lo ≤ m → m ≤ hi → q (.int .i64 m) h) : WC T n_1c [.int .i64 n, .int .i64 lo, .int .i64 hi] h q := by
  rw [w_1c]
  have hne : hi - lo + 1 ≠ 0 := by omega
  have hw : n.tmod (hi - lo + 1) < hi - lo + 1 := Int.tmod_lt_of_pos _ (by omega)
  have hw' : - (hi - lo + 1) < n.tmod (hi - lo + 1) := by
    have := Int.tmod_lt_of_pos (-n) (show 0 < hi - lo + 1 by omega)
    rw [Int.neg_tmod] at this
    omega
  by_cases c1 : lo ≤ n
  · by_cases c2 : n ≤ hi
    · simp (maxSteps:=9^7)(disch:=first|assumption|((try simp only[nX]);omega)|simp) [c1, c2]
      exact hq _ c1 c2
    · by_cases c3 : n.tmod (hi - lo + 1) < 0
      · simp (maxSteps:=9^7)(disch:=first|assumption|((try simp only[nX]);omega)|simp) [c1, c2, c3, hne]
        exact hq _ (by omega) (by omega)
      · simp (maxSteps:=9^7)(disch:=first|assumption|((try simp only[nX]);omega)|simp) [c1, c2, c3, hne]
        exact hq _ (by omega) (by omega)
  · by_cases c3 : n.tmod (hi - lo + 1) < 0
    · simp (maxSteps:=9^7)(disch:=first|assumption|((try simp only[nX]);omega)|simp) [c1, c3, hne]
      exact hq _ (by omega) (by omega)
    · simp (maxSteps:=9^7)(disch:=first|assumption|((try simp only[nX]);omega)|simp) [c1, c3, hne]
      exact hq _ (by omega) (by omega)
end
end
end Go.Proofs.YtmgoleiafiffoaaGreat.Cd

/- Clone of a row, and whether two rows are the same. -/
set_option maxRecDepth 1000000
set_option linter.unusedSimpArgs false
set_option linter.unusedVariables false
namespace Go.Proofs.YtmgoleiafiffoaaGreat.Cd
open Go Go.Dx
section
variable {h : Hp} {a a' : Option Addr} {c c' : Nat} {xs ys : List (BitVec 8)}
end
end Go.Proofs.YtmgoleiafiffoaaGreat.Cd

/- Memory: what each function does. -/
set_option maxRecDepth 1000000
set_option maxHeartbeats 4000000
set_option linter.unusedSimpArgs false
set_option linter.unusedVariables false
namespace Go.Proofs.YtmgoleiafiffoaaGreat.Cd
open Go Go.Dx
/-- Memory as it lies: bytes, marks, what was written. -/
structure Ra (h : Hp) (x : Nat) (B : By) (M W : List Bool) : Prop where
  r : h.get (x + 3) = some (.cells false [.slice (some ⟨x, 0, none⟩) B.length B.length, .slice (some ⟨x + 1, 0, none⟩) M.length M.length, .slice (some ⟨x + 2, 0, none⟩) M.length M.length])
  b : h.get x = some (.cells false (B.map u8))
  m : h.get (x + 1) = some (.cells false (M.map Value.bool))
  w : h.get (x + 2) = some (.cells false (W.map Value.bool))
  sz : B.length = 1024 * M.length
  wl : W.length = M.length
  ml : 1 ≤ M.length ∧ M.length ≤ 64
section
variable {h : Hp} {q : Value → Hp → Prop} {x : Nat} {B : By} {M W : List Bool}
theorem Ra.keep {h' : Hp} (R : Ra h x B M W) (hk : ∀ b, x ≤ b → b ≤ x + 3 → h'.get b = h.get b) : Ra h' x B M W :=
  ⟨by rw [hk _ (by omega) (by omega), R.r], by rw [hk _ (by omega) (by omega), R.b], by rw [hk _ (by omega) (by omega), R.m], by rw [hk _ (by omega) (by omega), R.w], R.sz, R.wl, R.ml⟩
theorem Ra.lt (R : Ra h x B M W) : x + 3 < h.next := lt_of_get R.r
theorem Ra.kp {h' : Hp} (R : Ra h x B M W) (K : Kp h h') : Ra h' x B M W := R.keep fun b h1 h2 => K.get b (by have := R.lt; omega)
theorem Ra.upd {h' : Hp} {fp fp' : List Nat} (R : Ra h x B M W) (U : Upd h h' fp fp') (hn : ∀ b ∈ fp, b < x ∨ x + 3 < b) : Ra h' x B M W := R.keep fun b h1 h2 => U.get b (by have := R.lt; omega) fun hm => by have := hn b hm; omega
theorem rnew {n : Int} (hq : ∀ h', Ra h' h.next (List.replicate (1024 * (max 1 (min n 64)).toNat) 0#8) (List.replicate (max 1 (min n 64)).toNat false) (List.replicate (max 1 (min n 64)).toNat false) → Kp h h' → h'.next = h.next + 4 → q (ptr (h.next + 3) 0) h') :
    WC T n_47 [.int .i64 n] h q := by
  obtain ⟨m, hm, h1, h2⟩ : ∃ m : Nat, (if 1 < if 64 < n then 64 else n then if 64 < n then 64 else n else 1) = (m : Int) ∧ 1 ≤ m ∧ m ≤ 64 := ⟨(max 1 (min n 64)).toNat, by omega, by omega, by omega⟩
  have e : (max 1 (min n 64)).toNat = m := by omega
  rw [e] at hq
  have e2 : ((m : Int) * 1024).toNat = 1024 * m := by omega
  rw [w_47]
  simp (maxSteps:=9^7)(disch:=first|assumption|((try simp only[nX]);omega)|simp) [hm, e2]
  refine hq _ ⟨?_, ?_, ?_, ?_, ?_, ?_, ?_⟩ ((((((Kp.refl h).adv 4).put (Nat.le_refl _) _).put (by omega) _).put (by omega) _).put (by omega) _) (by simp)
  · rw [get_put_self (by simp)]
    simp
  · rw [get_put_ne (by omega), get_put_ne (by omega), get_put_ne (by omega), get_put_self (by simp)]
    simp
  · rw [get_put_ne (by omega), get_put_ne (by omega), get_put_self (by simp)]
    simp
  · rw [get_put_ne (by omega), get_put_self (by simp)]
    simp
  · simp
  · simp
  · simpa using ⟨h1, h2⟩
theorem rsize (R : Ra h x B M W) : WC T n_4a [ptr (x + 3) 0] h q ↔ q (u32 (BitVec.ofNat 32 B.length)) h := by
  have hr := R.r
  rw [w_4a]
  simp (maxSteps:=9^7)(disch:=first|assumption|((try simp only[nX]);omega)|simp) [hr]
theorem rthere {a : BitVec 32} {n : Int} (R : Ra h x B M W) (hn : -2 ^ 62 ≤ n ∧ n ≤ 2 ^ 62) : WC T n_4d [ptr (x + 3) 0, u32 a, .int .i64 n] h q ↔ q (.bool (thB B a n)) h := by
  have hr := R.r
  have hl := R.sz
  have hm := R.ml
  have ha := a.isLt
  rw [w_4d]
  by_cases c1 : 0 ≤ n
  · by_cases c2 : (a.toNat : Int) ≤ B.length
    · simp (maxSteps:=9^7)(disch:=first|assumption|((try simp only[nX]);omega)|simp) [hr, c1, c2, thB]
    · simp (maxSteps:=9^7)(disch:=first|assumption|((try simp only[nX]);omega)|simp) [hr, c1, c2, thB]
  · simp (maxSteps:=9^7)(disch:=first|assumption|((try simp only[nX]);omega)|simp) [hr, c1, thB]
theorem ev_th {a : BitVec 32} {n : Int} (hn : n = 1 ∨ n = 2 ∨ n = 4) : evB B a n = (decide ((a.toNat : Int) % n = 0) && thB B a n) := by
  unfold evB thB
  rw [← Bool.decide_and]
  congr 1
  apply propext
  constructor
  · rintro ⟨_, h1, h2⟩; exact ⟨h1, by omega⟩
  · rintro ⟨h1, h2⟩; exact ⟨hn, h1, by omega⟩
theorem reven {a : BitVec 32} {n : Int} (R : Ra h x B M W) (hn : -2 ^ 62 ≤ n ∧ n ≤ 2 ^ 62) : WC T n_4c [ptr (x + 3) 0, u32 a, .int .i64 n] h q ↔ q (.bool (evB B a n)) h := by
  rw [w_4c]
  have ht := fun q => rthere (q := q) (a := a) R hn
  by_cases c1 : n = 1
  · subst c1
    rw [ev_th (by omega)]
    simp (maxSteps:=9^7)(disch:=first|assumption|((try simp only[nX]);omega)|simp) [GC_of ht]
  by_cases c2 : n = 2
  · subst c2
    rw [ev_th (by omega)]
    have e : ((a.toNat : Int) % 2 = 0) ↔ a % 2#32 = 0#32 := by
      rw [← BitVec.toNat_inj]
      simp
      omega
    simp only [e]
    by_cases c3 : a % 2#32 = 0#32
    · simp (maxSteps:=9^7)(disch:=first|assumption|((try simp only[nX]);omega)|simp) [GC_of ht, c3]
    · simp (maxSteps:=9^7)(disch:=first|assumption|((try simp only[nX]);omega)|simp) [c3]
  by_cases c4 : n = 4
  · subst c4
    rw [ev_th (by omega)]
    have e : ((a.toNat : Int) % 4 = 0) ↔ a % 4#32 = 0#32 := by
      rw [← BitVec.toNat_inj]
      simp
      omega
    simp only [e]
    by_cases c3 : a % 4#32 = 0#32
    · simp (maxSteps:=9^7)(disch:=first|assumption|((try simp only[nX]);omega)|simp) [GC_of ht, c3]
    · simp (maxSteps:=9^7)(disch:=first|assumption|((try simp only[nX]);omega)|simp) [c3]
  simp (maxSteps:=9^7)(disch:=first|assumption|((try simp only[nX]);omega)|simp) [c1, c2, c4, evB]
/-- What is loaded. -/
theorem rload {a : BitVec 32} {n : Int} (R : Ra h x B M W) (hn : -2 ^ 62 ≤ n ∧ n ≤ 2 ^ 62) : WC T n_48 [ptr (x + 3) 0, u32 a, .int .i64 n] h q ↔ q (.tuple #[u32 (if evB B a n = true then ldB B a.toNat n.toNat else 0#32), .bool (evB B a n)]) h := by
  have he := fun q => reven (q := q) (a := a) R hn
  have hr := R.r
  have hl := R.sz
  have hm := R.ml
  refine WC_iff ?_ q
  rw [w_48]
  cases hc : evB B a n with
  | false =>
    rw [hc] at he
    simp (maxSteps:=9^7)(disch:=first|assumption|((try simp only[nX]);omega)|simp) [GC_of he]
  | true =>
    rw [hc] at he
    simp only [evB, decide_eq_true_eq] at hc
    obtain ⟨m, rfl⟩ := Int.eq_ofNat_of_zero_le (show 0 ≤ n by omega)
    obtain ⟨a', c', hs, hc', S⟩ := (sees_b R.b).parte (a := a) (m := m) (by omega) (Nat.le_refl _)
    simp only [encB_sz] at hs
    simp (maxSteps:=9^7)(disch:=first|assumption|((try simp only[nX]);omega)|simp) [GC_of he, hr, hs]
    have hL : ((B.drop a.toNat).take m).length = m := by simp; omega
    unfold ldB
    generalize (B.drop a.toNat).take m = L at *
    refine G_loop (fun n e h' => ∃ us bs, n = bs.length ∧ L = us ++ bs ∧ e 8 = u32 (ldL us) ∧ e 25 = .slice a' m c' ∧ e 26 = .int .i64 m ∧ e 27 = .int .i64 us.length ∧ h' = h) ?_ m _ _ ⟨[], L, hL.symm, rfl, by simp [ldL], by simp, by simp, by simp, rfl⟩
    rintro n ih e h' ⟨us, bs, rfl, hx, e8, e25, e26, e27, rfl⟩
    cases bs with
    | nil =>
      have h9 : us.length = m := by rw [← hL, hx]; simp
      rw [List.append_nil] at hx
      subst hx
      simp (maxSteps:=9^7)(disch:=first|assumption|((try simp only[nX]);omega)|simp) [e27, e26, h9, e8]
    | cons c bs =>
      rw [hx] at hL
      have hlt : (us.length : Int) < m := by rw [← hL]; simp; omega
      rw [hx] at S
      obtain ⟨A, ro, C, hA, hg, hC⟩ := S.cell (f := u8) (fun _ => rfl) rfl
      subst hA
      simp (maxSteps:=9^7)(disch:=first|assumption|((try simp only[nX]);omega)|simp) [e27, e26, hlt, e25, hg, hC, e8]
      exact ih bs.length (by simp) _ _ ⟨us ++ [c], bs, rfl, by simp [hx], by simp [ldL_snoc], by simp [e25], by simp [e26], by simp, rfl⟩
/-- Which pages were written. -/
theorem rtouch {a : BitVec 32} {n : Nat} (R : Ra h x B M W) (hn : a.toNat + n ≤ B.length) (hq : ∀ h', Ra h' x B M (tch M W a.toNat n) → Upd h h' [x + 2] [x + 2] → q (.tuple #[]) h') : WC T n_4e [ptr (x + 3) 0, u32 a, .int .i64 n] h q := by
  have hr := R.r
  have hl := R.sz
  have hm := R.ml
  have hwl := R.wl
  have ha := a.isLt
  rw [w_4e]
  by_cases h0 : n = 0
  · subst h0
    simp (maxSteps:=9^7)(disch:=first|assumption|((try simp only[nX]);omega)|simp)
    have := hq h (by simpa [tch] using R) (Kp.upd (Kp.refl h) _)
    simpa using this
  have h1 : ¬ (n : Int) < 1 := by omega
  rw [tch_tpg _ _ h0] at hq
  have hlast : (a.toNat + n - 1) / 1024 < W.length := by omega
  have hi1 : (((a.toNat + n - 1) / 1024 : Nat) : Int) = ((a.toNat : Int) + n - 1) / 1024 := by omega
  have hi2 : ((a.toNat : Int) + n - 1).tdiv 1024 = ((a.toNat : Int) + n - 1) / 1024 := Int.tdiv_eq_ediv_of_nonneg (by omega)
  have hlo : a.toNat / 1024 ≤ (a.toNat + n - 1) / 1024 := Nat.div_le_div_right (by omega)
  simp (maxSteps:=9^7)(disch:=first|assumption|((try simp only[nX]);omega)|simp) [h1]
  refine G_loop (fun k e h' => ∃ p : Nat, k = (a.toNat + n - 1) / 1024 + 1 - p ∧ a.toNat / 1024 ≤ p ∧ p ≤ (a.toNat + n - 1) / 1024 + 1 ∧ e 0 = ptr (x + 3) 0 ∧ e 1 = u32 a ∧ e 2 = .int .i64 n ∧ e 6 = .int .i64 p ∧ Ra h' x B M (tpg M W (a.toNat / 1024) p) ∧ Upd h h' [x + 2] [x + 2]) ?_ ((a.toNat + n - 1) / 1024 + 1 - a.toNat / 1024) _ _ ⟨a.toNat / 1024, rfl, Nat.le_refl _, by omega, by simp, by simp, by simp, by simp, by rw [tpg_self]; exact R, Kp.upd (Kp.refl h) _⟩
  rintro k ih e h' ⟨p, rfl, p1, p2, e0, e1, e2, e6, R', U'⟩
  generalize hlastv : (a.toNat + n - 1) / 1024 = last at *
  by_cases hp : p ≤ last
  · have hpi : (p : Int) ≤ ((a.toNat : Int) + n - 1) / 1024 := by omega
    have hr' := R'.r
    have hw' := R'.w
    have hm' := R'.m
    have hlt := R'.lt
    have hW : ((tpg M W (a.toNat / 1024) p).map Value.bool)[p]? = some (.bool (W.getD p false)) := by
      rw [List.getElem?_map, tpg_at (by omega)]
      have : ¬ (a.toNat / 1024 ≤ p ∧ p < p) := by omega
      simp [this]
    have hM : (M.map Value.bool)[p]? = some (.bool (M.getD p false)) := by
      rw [List.getElem?_map, List.getElem?_eq_getElem (by omega)]
      simp [show p < M.length by omega]
    have hset : ((tpg M W (a.toNat / 1024) p).map Value.bool).set p (.bool (W.getD p false || M.getD p false)) = (tpg M W (a.toNat / 1024) (p + 1)).map Value.bool := by
      rw [← tpg_set p1 (by omega), List.map_set]
    have hWn : ((tpg M W (a.toNat / 1024) p).map Value.bool).length = M.length := by simp [hwl]
    have hMn : (M.map Value.bool).length = M.length := by simp
    have hpM : p < M.length := by omega
    have hp1 : p + 1 ≤ M.length := by omega
    have hfin : Ra (h'.put (x + 2) (some (.cells false ((tpg M W (a.toNat / 1024) (p + 1)).map Value.bool)))) x B M (tpg M W (a.toNat / 1024) (p + 1)) :=
      ⟨by rw [get_put_ne (by omega), R'.r], by rw [get_put_ne (by omega), R'.b], by rw [get_put_ne (by omega), R'.m], by rw [get_put_self (by omega)], R'.sz, by simp [hwl], R'.ml⟩
    have hst : ∀ v, over ((tpg M W (a.toNat / 1024) p).map Value.bool) p [v] = ((tpg M W (a.toNat / 1024) p).map Value.bool).set p v := fun v => over_set (by rw [hWn]; exact hpM)
    generalize (tpg M W (a.toNat / 1024) p).map Value.bool = WL at *
    generalize (tpg M W (a.toNat / 1024) (p + 1)).map Value.bool = WL2 at *
    generalize M.map Value.bool = ML at *
    generalize W.getD p false = w0 at *
    generalize M.getD p false = m0 at *
    have fin : ∀ e', e' 0 = ptr (x + 3) 0 → e' 1 = u32 a → e' 2 = .int .i64 n → e' 6 = .int .i64 ((p : Int) + 1) → G T (fin [] (some []) h.next q) c1_4e.loop [Fr.block 0] e' (h'.put (x + 2) (some (.cells false WL2))) := fun e' f0 f1 f2 f6 =>
      ih (last + 1 - (p + 1)) (by omega) _ _ ⟨p + 1, rfl, by omega, by omega, f0, f1, f2, by simpa using f6, hfin, U'.put1⟩
    have hW2 : ∀ hh : p < WL.length, WL[p]'hh = .bool w0 := fun hh => by rw [List.getElem?_eq_getElem hh] at hW; exact Option.some.inj hW
    have hM2 : ∀ hh : p < ML.length, ML[p]'hh = .bool m0 := fun hh => by rw [List.getElem?_eq_getElem hh] at hM; exact Option.some.inj hM
    cases w0
    · simp only [Bool.false_or] at hset
      simp (maxSteps:=9^7)(disch:=first|assumption|((try simp only[nX]);omega)|simp) [e0, e1, e2, e6, hi2, hpi, hr', hw', hm', hW, hM, hW2, hM2, hst, hset, hWn, hMn, hp1, -over]
      exact fin _ (by simp [e0]) (by simp [e1]) (by simp [e2]) (by simp)
    · simp only [Bool.true_or] at hset
      simp (maxSteps:=9^7)(disch:=first|assumption|((try simp only[nX]);omega)|simp) [e0, e1, e2, e6, hi2, hpi, hr', hw', hm', hW, hM, hW2, hM2, hst, hset, hWn, hMn, hp1, -over]
      exact fin _ (by simp [e0]) (by simp [e1]) (by simp [e2]) (by simp)
  · have : p = last + 1 := by omega
    subst this
    have hpi : ¬ (last : Int) + 1 ≤ ((a.toNat : Int) + n - 1) / 1024 := by omega
    simp (maxSteps:=9^7)(disch:=first|assumption|((try simp only[nX]);omega)|simp) [e1, e2, e6, hi2, hpi]
    exact hq _ R' U'
/-- Bytes that are put there. -/
theorem rput {a : BitVec 32} {l : By} {s : Option Addr} {c : Nat} (R : Ra h x B M W) (S : Sees encB h s l) (hb : l.length < 2 ^ 40) (hno : thB B a l.length = false → q (.bool false) h)
    (hyes : thB B a l.length = true → ∀ h', Ra h' x (ovB B a.toNat l) M (tch M W a.toNat l.length) → Upd h h' [x, x + 2] [x, x + 2] → q (.bool true) h') : WC T n_49 [ptr (x + 3) 0, u32 a, .slice s l.length c] h q := by
  have ht := fun q => rthere (q := q) (a := a) (n := l.length) R (by omega)
  have hr := R.r
  have hl := R.sz
  have hm := R.ml
  have hlt := R.lt
  rw [w_49]
  cases hc : thB B a l.length with
  | false =>
    rw [hc] at ht
    simp (maxSteps:=9^7)(disch:=first|assumption|((try simp only[nX]);omega)|simp) [GC_of ht]
    exact hno hc
  | true =>
    rw [hc] at ht
    have hc' := hc
    simp only [thB, decide_eq_true_eq] at hc
    have hs := sliceV_lo' (sz := 1) (b := x) (o := 0) (n := B.length) (k := .u32) (lo := a.toNat) (by omega) (by omega)
    have hs' : sliceV 1 (.slice (some ⟨x, 0, none⟩) B.length B.length) (some (u32 a)) none none = some (.slice (some (if B.length = a.toNat then ⟨x, 0, none⟩ else ⟨x, a.toNat, none⟩)) (B.length - a.toNat) (B.length - a.toNat)) := by
      have e : u32 a = .int .u32 (a.toNat : Int) := rfl
      rw [e, hs]
      simp
    have hcp := cpy_in (c := B.length - a.toNat) (c' := c) R.b S (show a.toNat + l.length ≤ B.length by omega)
    have hR : Ra (h.put x (some (.cells false ((ovB B a.toNat l).map u8)))) x (ovB B a.toNat l) M W :=
      ⟨by rw [get_put_ne (by omega), R.r, ovB_length (by omega)], by rw [get_put_self (by omega)], by rw [get_put_ne (by omega), R.m], by rw [get_put_ne (by omega), R.w], by rw [ovB_length (by omega), R.sz], R.wl, R.ml⟩
    simp (maxSteps:=9^7)(disch:=first|assumption|((try simp only[nX]);omega)|simp) [GC_of ht, hr, hs', hcp]
    refine GC_intro (rtouch (q := fun v h' => v = .tuple #[] ∧ Ra h' x (ovB B a.toNat l) M (tch M W a.toNat l.length) ∧ Upd h h' [x, x + 2] [x, x + 2]) hR (by rw [ovB_length (by omega)]; omega) fun h2 R2 U2 => ⟨rfl, R2, ?_⟩) fun v h2 ⟨hv, R2, U2⟩ => ?_
    · refine ⟨?_, fun k hk hn => ?_, fun k hk => .inl hk⟩
      · have := U2.le; simpa using this
      · rw [U2.get k (by simpa using hk) (by simp at hn ⊢; exact hn.2), get_put_ne (by simp at hn; exact hn.1)]
    · subst hv
      simp (maxSteps:=9^7)(disch:=first|assumption|((try simp only[nX]);omega)|simp)
      exact hyes hc' _ R2 U2
end
end Go.Proofs.YtmgoleiafiffoaaGreat.Cd

/- The wheel as a state. -/
set_option maxRecDepth 1000000
set_option maxHeartbeats 4000000
set_option linter.unusedSimpArgs false
set_option linter.unusedVariables false
namespace Go.Proofs.YtmgoleiafiffoaaGreat.Cd
open Go Go.Dx
/-- A wheel, as what it holds. -/
structure WhS where
  L : List Ev
  n : Int
def WhS.can (w : WhS) (d : Int) : WhS := ⟨wcan d w.L, w.n⟩
structure WhA (h : Hp) (w : Nat) (S : WhS) (fp : List Nat) : Prop where
  wh : Wh h w S.L S.n fp
  wi : WI S.L
section
variable {h : Hp} {q : Value → Hp → Prop} {w : Nat} {S : WhS} {fp : List Nat} {dv now : Int}
theorem WhA.keep {h' : Hp} (A : WhA h w S fp) (hk : ∀ b ∈ w :: fp, h'.get b = h.get b) : WhA h' w S fp := ⟨A.wh.keep hk, A.wi⟩
theorem WhA.kp {h' : Hp} (A : WhA h w S fp) (K : Kp h h') : WhA h' w S fp := ⟨A.wh.kp K, A.wi⟩
theorem WhA.live (A : WhA h w S fp) : ∀ b ∈ w :: fp, b < h.next := A.wh.live
end
end Go.Proofs.YtmgoleiafiffoaaGreat.Cd

/- Are two rows the same? -/
set_option maxRecDepth 1000000
set_option linter.unusedSimpArgs false
set_option linter.unusedVariables false
namespace Go.Proofs.YtmgoleiafiffoaaGreat.Cd
open Go Go.Dx
end Go.Proofs.YtmgoleiafiffoaaGreat.Cd

/- The document's wheel within a larger struct: what each function does. -/
set_option maxRecDepth 1000000
set_option maxHeartbeats 8000000
set_option linter.unusedSimpArgs false
set_option linter.unusedVariables false
namespace Go.Proofs.YtmgoleiafiffoaaGreat.Cd
open Go Go.Dx
/-- A slice that is read, its block one of these. -/
def Se {α : Type} (E : Enc α) (h : Hp) (fr : List Nat) (v : Value) (xs : List α) : Prop := ∃ a c, v = .slice a xs.length c ∧ Sees E h a xs ∧ xs.length ≤ c ∧ ∀ A, a = some A → A.block ∈ fr
theorem Se.own {α : Type} {E : Enc α} {h : Hp} {fp fr : List Nat} {v : Value} {xs : List α} (o : Own E h v xs fp) (hs : ∀ b ∈ fp, b ∈ fr) : Se E h fr v xs := by
  obtain ⟨a, c, h1, h2, h3, h4⟩ := o.len
  exact ⟨a, c, h1, h2, h3, fun A hA => hs _ (h4 A hA)⟩
theorem Se.nul {α : Type} {E : Enc α} {h : Hp} {fr : List Nat} : Se E h fr (.slice none 0 0) [] := ⟨none, 0, rfl, .nul, Nat.le_refl _, fun A hA => (by cases hA)⟩
theorem Se.keep {α : Type} {E : Enc α} {h h' : Hp} {fr fr' : List Nat} {v : Value} {xs : List α} (s : Se E h fr v xs) (hk : ∀ b ∈ fr, h'.get b = h.get b) (hs : ∀ b ∈ fr, b ∈ fr') : Se E h' fr' v xs := by
  obtain ⟨a, c, h1, h2, h3, h4⟩ := s
  exact ⟨a, c, h1, ⟨h2.nil, fun A hA => rdn_kp (h2.get A hA) (hk _ (h4 A hA)), h2.sp⟩, h3, fun A hA => hs _ (h4 A hA)⟩
/-- A wheel at place 1 of a struct. -/
structure Wz (h : Hp) (w : Nat) (c0 : Value) (rest : List Value) (L : List Ev) (s : Int) (fr : List Nat) : Prop where
  ex : ∃ sl, h.get w = some (.cells false (c0 :: sl :: .int .i64 s :: rest)) ∧ Se encEv h fr sl L
  nw : w ∉ fr
section
variable {h : Hp} {q : Value → Hp → Prop} {c0 : Value} {rest : List Value}
end
end Go.Proofs.YtmgoleiafiffoaaGreat.Cd

/- The document's memory: what each function does. -/
set_option maxRecDepth 1000000
set_option maxHeartbeats 4000000
set_option linter.unusedSimpArgs false
set_option linter.unusedVariables false
namespace Go.Proofs.YtmgoleiafiffoaaGreat.Cd
open Go Go.Dx
section
variable {h : Hp} {q : Value → Hp → Prop} {x : Nat} {B : By} {M W : List Bool}
theorem zin {a : BitVec 32} {n : Int} (R : Ra h x B M W) (hn : n < 2 ^ 63) : WC T n_2y [ptr (x + 3) 0, u32 a, .int .i64 n] h q ↔ q (.bool (thB B a n)) h := by
  have hr := R.r
  have hl := R.sz
  have hm := R.ml
  have ha := a.isLt
  rw [w_2y]
  by_cases c1 : 0 ≤ n
  · obtain ⟨m, rfl⟩ := Int.eq_ofNat_of_zero_le c1
    have e1 : BitVec.setWidth 64 a + BitVec.ofNat 64 m ≤ BitVec.ofNat 64 B.length ↔ ((a.toNat : Int) ≤ B.length ∧ (m : Int) ≤ B.length - a.toNat) := by
      rw [BitVec.le_def, BitVec.toNat_add, BitVec.toNat_setWidth, BitVec.toNat_ofNat, BitVec.toNat_ofNat]
      omega
    have e2 : decide (BitVec.setWidth 64 a + BitVec.ofNat 64 m ≤ BitVec.ofNat 64 B.length) = thB B a m := by
      unfold thB
      rw [decide_eq_decide, e1]
      omega
    simp (maxSteps:=9^7)(disch:=first|assumption|((try simp only[nX]);omega)|simp) [hr, e2]
  · have e2 : thB B a n = false := by simp [thB, c1]
    simp (maxSteps:=9^7)(disch:=first|assumption|((try simp only[nX]);omega)|simp) [c1, e2]
theorem tch_step {M W : List Bool} {a n : Nat} (h : (a + n) / 1024 < W.length) : tch M W a (n + 1) = if M.getD ((a + n) / 1024) false = true then (tch M W a n).set ((a + n) / 1024) true else tch M W a n := by
  rw [tch_tpg _ _ (by omega)]
  have e : a + (n + 1) - 1 = a + n := by omega
  rw [e]
  have hW : tch M W a n = tpg M W (a / 1024) (if n = 0 then a / 1024 else (a + n - 1) / 1024 + 1) := by
    by_cases h0 : n = 0
    · rw [if_pos h0, tpg_self, h0]; simp [tch]
    · rw [if_neg h0, tch_tpg _ _ h0]
  rw [hW]
  by_cases hs : (if n = 0 then a / 1024 else (a + n - 1) / 1024 + 1) = (a + n) / 1024
  · rw [hs, ← tpg_set (by omega) h]
    by_cases hM : M.getD ((a + n) / 1024) false = true
    · rw [if_pos hM, hM, Bool.or_true]
    · rw [if_neg hM]
      have : M.getD ((a + n) / 1024) false = false := by simpa using hM
      rw [this, Bool.or_false]
      apply List.ext_getElem?
      intro i
      by_cases hi : i = (a + n) / 1024
      · subst hi
        rw [List.getElem?_set_self (by simpa using h), tpg_at h]
        simp
      · rw [List.getElem?_set_ne (by omega)]
  · have hn0 : n ≠ 0 := fun h0 => hs (by rw [if_pos h0, h0]; rfl)
    rw [if_neg hn0] at hs ⊢
    have e3 : (a + n - 1) / 1024 = (a + n) / 1024 := by omega
    rw [e3]
    by_cases hM : M.getD ((a + n) / 1024) false = true
    · rw [if_pos hM]
      apply List.ext_getElem?
      intro i
      by_cases hi : i = (a + n) / 1024
      · subst hi
        rw [List.getElem?_set_self (by simpa using h), tpg_at h, hM]
        have : a / 1024 ≤ (a + n) / 1024 := Nat.div_le_div_right (by omega)
        simp [this]
      · rw [List.getElem?_set_ne (by omega)]
    · rw [if_neg hM]
theorem ztouch {a : BitVec 32} {n : Nat} (R : Ra h x B M W) (hn : a.toNat + n ≤ B.length) (hq : ∀ h', Ra h' x B M (tch M W a.toNat n) → Upd h h' [x + 2] [x + 2] → q (.tuple #[]) h') : WC T n_32 [ptr (x + 3) 0, u32 a, .int .i64 n] h q := by
  have hl := R.sz
  have hm := R.ml
  have hwl := R.wl
  have ha := a.isLt
  rw [w_32]
  simp (maxSteps:=9^7)(disch:=first|assumption|((try simp only[nX]);omega)|simp)
  refine G_loop (fun k e h' => ∃ p : Nat, k = n - p ∧ p ≤ n ∧ e 0 = ptr (x + 3) 0 ∧ e 1 = u32 a ∧ e 2 = .int .i64 n ∧ e 6 = .int .i64 p ∧ Ra h' x B M (tch M W a.toNat p) ∧ Upd h h' [x + 2] [x + 2]) ?_ n _ _ ⟨0, rfl, Nat.zero_le _, by simp, by simp, by simp, by simp, by simpa [tch] using R, Kp.upd (Kp.refl h) _⟩
  rintro k ih e h' ⟨p, rfl, p1, e0, e1, e2, e6, R', U'⟩
  by_cases hp : p < n
  · have hpi : (p : Int) < n := by omega
    have hr' := R'.r
    have hw' := R'.w
    have hm' := R'.m
    have hlt := R'.lt
    obtain ⟨k, hk⟩ : ∃ k, k = (a.toNat + p) / 1024 := ⟨_, rfl⟩
    have hkM : k < M.length := by omega
    have hd : ((a.toNat : Int) + p).tdiv 1024 = (k : Int) := by rw [Int.tdiv_eq_ediv_of_nonneg (by omega)]; omega
    have hst := tch_step (M := M) (W := W) (a := a.toNat) (n := p) (by omega)
    rw [← hk] at hst
    have hM : (M.map Value.bool)[k]? = some (.bool (M.getD k false)) := by
      rw [List.getElem?_map, List.getElem?_eq_getElem (by omega)]
      simp [show k < M.length by omega]
    have hMn : (M.map Value.bool).length = M.length := by simp
    have hM2 : ∀ hh : k < (M.map Value.bool).length, (M.map Value.bool)[k]'hh = .bool (M.getD k false) := fun hh => by rw [List.getElem?_eq_getElem hh] at hM; exact Option.some.inj hM
    have hlw : (tch M W a.toNat p).length = M.length := by simp [hwl]
    generalize M.getD k false = m0 at *
    generalize hML : M.map Value.bool = ML at *
    cases m0 with
    | false =>
      simp only [Bool.false_eq_true, if_false] at hst
      simp (maxSteps:=9^7)(disch:=first|assumption|((try simp only[nX]);omega)|simp) [e0, e1, e2, e6, hpi, hr', hm', hd, hM, hM2, hMn, hkM]
      exact ih (n - (p + 1)) (by omega) _ _ ⟨p + 1, rfl, by omega, by simp [e0], by simp [e1], by simp [e2], by simp, by rw [hst]; exact R', U'⟩
    | true =>
      simp only [if_true] at hst
      have hov : over ((tch M W a.toNat p).map Value.bool) k [.bool true] = (tch M W a.toNat (p + 1)).map Value.bool := by
        rw [over_set (by simp [hwl]; omega), hst, List.map_set]
      have hwr := wr_ok hw' (o := k) (vs := [.bool true]) (by simp [hwl]; omega) rfl
      rw [hov] at hwr
      simp (maxSteps:=9^7)(disch:=first|assumption|((try simp only[nX]);omega)|simp) [e0, e1, e2, e6, hpi, hr', hm', hd, hM, hM2, hMn, hkM, hlw, hwr, -over, -Hp.wr]
      refine ih (n - (p + 1)) (by omega) _ _ ⟨p + 1, rfl, by omega, by simp [e0], by simp [e1], by simp [e2], by simp, ?_, U'.put1⟩
      exact ⟨by rw [get_put_ne (by omega), R'.r], by rw [get_put_ne (by omega), R'.b], by rw [get_put_ne (by omega), R'.m], by rw [get_put_self (by omega)], R'.sz, by simp [hwl], R'.ml⟩
  · have : p = n := by omega
    subst this
    simp (maxSteps:=9^7)(disch:=first|assumption|((try simp only[nX]);omega)|simp) [e2, e6]
    exact hq _ R' U'
theorem zput {a : BitVec 32} {l : By} {s : Option Addr} {c : Nat} (R : Ra h x B M W) (S : Sees encB h s l) (hb : l.length < 2 ^ 40) (hno : thB B a l.length = false → q (.bool false) h)
    (hyes : thB B a l.length = true → ∀ h', Ra h' x (ovB B a.toNat l) M (tch M W a.toNat l.length) → Upd h h' [x, x + 2] [x, x + 2] → q (.bool true) h') : WC T n_30 [ptr (x + 3) 0, u32 a, .slice s l.length c] h q := by
  have ht := fun q => zin (q := q) (a := a) (n := l.length) R (by omega)
  have hr := R.r
  have hl := R.sz
  have hm := R.ml
  have hlt := R.lt
  rw [w_30]
  cases hc : thB B a l.length with
  | false =>
    rw [hc] at ht
    simp (maxSteps:=9^7)(disch:=first|assumption|((try simp only[nX]);omega)|simp) [GC_of ht]
    exact hno hc
  | true =>
    rw [hc] at ht
    have hc' := hc
    simp only [thB, decide_eq_true_eq] at hc
    have hs := sliceV_lo' (sz := 1) (b := x) (o := 0) (n := B.length) (k := .u32) (lo := a.toNat) (by omega) (by omega)
    have hs' : sliceV 1 (.slice (some ⟨x, 0, none⟩) B.length B.length) (some (u32 a)) none none = some (.slice (some (if B.length = a.toNat then ⟨x, 0, none⟩ else ⟨x, a.toNat, none⟩)) (B.length - a.toNat) (B.length - a.toNat)) := by
      have e : u32 a = .int .u32 (a.toNat : Int) := rfl
      rw [e, hs]
      simp
    have hcp := cpy_in (c := B.length - a.toNat) (c' := c) R.b S (show a.toNat + l.length ≤ B.length by omega)
    have hR : Ra (h.put x (some (.cells false ((ovB B a.toNat l).map u8)))) x (ovB B a.toNat l) M W :=
      ⟨by rw [get_put_ne (by omega), R.r, ovB_length (by omega)], by rw [get_put_self (by omega)], by rw [get_put_ne (by omega), R.m], by rw [get_put_ne (by omega), R.w], by rw [ovB_length (by omega), R.sz], R.wl, R.ml⟩
    simp (maxSteps:=9^7)(disch:=first|assumption|((try simp only[nX]);omega)|simp) [GC_of ht, hr, hs', hcp]
    refine GC_intro (ztouch (q := fun v h' => v = .tuple #[] ∧ Ra h' x (ovB B a.toNat l) M (tch M W a.toNat l.length) ∧ Upd h h' [x, x + 2] [x, x + 2]) hR (by rw [ovB_length (by omega)]; omega) fun h2 R2 U2 => ⟨rfl, R2, ?_⟩) fun v h2 ⟨hv, R2, U2⟩ => ?_
    · refine ⟨?_, fun k hk hn => ?_, fun k hk => .inl hk⟩
      · have := U2.le; simpa using this
      · rw [U2.get k (by simpa using hk) (by simp at hn ⊢; exact hn.2), get_put_ne (by simp at hn; exact hn.1)]
    · subst hv
      simp (maxSteps:=9^7)(disch:=first|assumption|((try simp only[nX]);omega)|simp)
      exact hyes hc' _ R2 U2
end
end Go.Proofs.YtmgoleiafiffoaaGreat.Cd

/- The document's memory: a new one, what is loaded. -/
set_option maxRecDepth 1000000
set_option maxHeartbeats 8000000
set_option linter.unusedSimpArgs false
set_option linter.unusedVariables false
namespace Go.Proofs.YtmgoleiafiffoaaGreat.Cd
open Go Go.Dx
def pgs (n : Int) : Nat := (max 1 (min n 64)).toNat
section
variable {h : Hp} {q : Value → Hp → Prop} {x : Nat} {B : By} {M W : List Bool}
theorem m2new {n : Int} (hq : ∀ h', Ra h' h.next (List.replicate (1024 * pgs n) 0#8) (List.replicate (pgs n) false) (List.replicate (pgs n) false) → Kp h h' → h'.next = h.next + 4 → q (ptr (h.next + 3) 0) h') :
    WC T n_2x [.int .i64 n] h q := by
  obtain ⟨m, hm, h1, h2⟩ : ∃ m : Nat, m = pgs n ∧ 1 ≤ m ∧ m ≤ 64 := ⟨_, rfl, by unfold pgs; omega, by unfold pgs; omega⟩
  rw [← hm] at hq
  have hm2 : (if (if 64 < n then 64 else n) < 1 then 1 else (if 64 < n then 64 else n)) = (m : Int) := by
    rw [hm]; unfold pgs
    split <;> split <;> omega
  have e2 : ((m : Int) * 1024).toNat = 1024 * m := by omega
  rw [w_2x]
  simp (maxSteps:=9^7)(disch:=first|assumption|((try simp only[nX]);omega)|simp) [hm2, e2]
  refine hq _ ⟨?_, ?_, ?_, ?_, ?_, ?_, ?_⟩ ((((((Kp.refl h).adv 4).put (Nat.le_refl _) _).put (by omega) _).put (by omega) _).put (by omega) _) (by simp)
  · rw [get_put_self (by simp)]
    simp
  · rw [get_put_ne (by omega), get_put_ne (by omega), get_put_ne (by omega), get_put_self (by simp)]
    simp
  · rw [get_put_ne (by omega), get_put_ne (by omega), get_put_self (by simp)]
    simp
  · rw [get_put_ne (by omega), get_put_self (by simp)]
    simp
  · simp
  · simp
  · simpa using ⟨h1, h2⟩
theorem m2load {a : BitVec 32} {n : Int} (R : Ra h x B M W) : WC T n_2z [ptr (x + 3) 0, u32 a, .int .i64 n] h q ↔ q (.tuple #[u32 (if evB B a n = true then ldB B a.toNat n.toNat else 0#32), .bool (evB B a n)]) h := by
  have hr := R.r
  have hl := R.sz
  have hm := R.ml
  have hb := R.b
  have ha := a.isLt
  refine WC_iff ?_ q
  rw [w_2z]
  by_cases hn : n = 1 ∨ n = 2 ∨ n = 4
  case neg =>
    have c1 : n ≠ 1 := fun h => hn (.inl h)
    have c2 : n ≠ 2 := fun h => hn (.inr (.inl h))
    have c4 : n ≠ 4 := fun h => hn (.inr (.inr h))
    have he : evB B a n = false := by simp [evB, c1, c2, c4]
    simp (maxSteps:=9^7)(disch:=first|assumption|((try simp only[nX]);omega)|simp) [c1, c2, c4, he]
  obtain ⟨m, hnm⟩ := Int.eq_ofNat_of_zero_le (show 0 ≤ n by omega)
  have ht := fun q => zin (q := q) (a := a) (n := n) R (by omega)
  have e : ((a.toNat : Int) % n = 0) ↔ a % BitVec.ofInt 32 n = 0#32 := by
    rw [← BitVec.toNat_inj, BitVec.toNat_umod, BitVec.toNat_ofInt]
    rcases hn with rfl | rfl | rfl <;> simp <;> omega
  have hev : evB B a n = (decide (a % BitVec.ofInt 32 n = 0#32) && thB B a n) := by
    rw [ev_th hn]
    congr 1
    rw [decide_eq_decide]
    exact e
  cases hc : evB B a n with
  | false =>
    rw [hev] at hc
    clear e hev
    by_cases c3 : a % BitVec.ofInt 32 n = 0#32
    · have c4 : thB B a n = false := by simpa only [c3, decide_true, Bool.true_and] using hc
      rw [c4] at ht
      rcases hn with rfl | rfl | rfl
      · simp (maxSteps:=9^7)(disch:=first|assumption|((try simp only[nX]);omega)|simp) [GC_of ht]
      · have c3 : a % 2#32 = 0#32 := c3
        simp (maxSteps:=9^7)(disch:=first|assumption|((try simp only[nX]);omega)|simp) [GC_of ht, c3]
      · have c3 : a % 4#32 = 0#32 := c3
        simp (maxSteps:=9^7)(disch:=first|assumption|((try simp only[nX]);omega)|simp) [GC_of ht, c3]
    · rcases hn with rfl | rfl | rfl
      · exact absurd (by simp) c3
      · have c3 : ¬ a % 2#32 = 0#32 := c3
        simp (maxSteps:=9^7)(disch:=first|assumption|((try simp only[nX]);omega)|simp) [c3]
      · have c3 : ¬ a % 4#32 = 0#32 := c3
        simp (maxSteps:=9^7)(disch:=first|assumption|((try simp only[nX]);omega)|simp) [c3]
  | true =>
    rw [hev] at hc
    simp only [Bool.and_eq_true, decide_eq_true_eq] at hc
    obtain ⟨c3, c4⟩ := hc
    have c5 : a.toNat + m ≤ B.length := by simp only [thB, decide_eq_true_eq] at c4; omega
    rw [c4] at ht
    have hm1 : n.toNat = m := by omega
    rw [hm1]
    have body : ∀ e0 : Env, e0 0 = ptr (x + 3) 0 → e0 1 = u32 a → e0 2 = .int .i64 n → e0 8 = u32 0#32 → e0 9 = .int .i64 0 → G T (fin [.t 6, .t 7] (some []) h.next fun v h' => v = .tuple #[u32 (ldB B a.toNat m), .bool true] ∧ h' = h) (.loop c1_2z) [Fr.block 0, Fr.seq (.seq (.ops [⟨some 53, none, .mov (.t 8)⟩, ⟨some 6, none, .mov (.t 53)⟩, ⟨some 7, none, .mov (.c (.bool true))⟩]) .ret)] e0 h := fun e0 f0 f1 f2 f8 f9 => by
      refine G_loop (fun j e h' => ∃ k : Nat, j = m - k ∧ k ≤ m ∧ e 0 = ptr (x + 3) 0 ∧ e 1 = u32 a ∧ e 2 = .int .i64 n ∧ e 8 = u32 (ldL ((B.drop a.toNat).take k)) ∧ e 9 = .int .i64 k ∧ h' = h) ?_ m _ _ ⟨0, rfl, Nat.zero_le _, f0, f1, f2, by rw [f8]; rfl, f9, rfl⟩
      rintro j ih e h' ⟨k, rfl, hk, e0, e1, e2, e8, e9, rfl⟩
      by_cases hkm : k < m
      · have hki : (k : Int) < n := by omega
        have hix : ((a.toNat : Int) + k).toNat = a.toNat + k := by omega
        have hlt : a.toNat + k < B.length := by omega
        have hsn : ldL ((B.drop a.toNat).take (k + 1)) = (ldL ((B.drop a.toNat).take k) <<< 8) ||| (B[a.toNat + k]).setWidth 32 := by
          rw [List.take_succ_eq_append_getElem (by simp; omega), ldL_snoc]
          simp
        have hC : (B.map u8)[a.toNat + k]? = some (u8 B[a.toNat + k]) := by
          rw [List.getElem?_map, List.getElem?_eq_getElem hlt]; rfl
        have hlB : (B.map u8).length = B.length := by simp
        have hC' : ∀ hh : a.toNat + k < (B.map u8).length, (B.map u8)[a.toNat + k]'hh = u8 B[a.toNat + k] := fun hh => by simp
        obtain ⟨bb, hbb⟩ : ∃ bb, bb = B[a.toNat + k] := ⟨_, rfl⟩
        rw [← hbb] at hsn hC
        clear hC'
        simp (maxSteps:=9^7)(disch:=first|assumption|((try simp only[nX]);omega)|simp) [e0, e1, e2, e8, e9, hki, hr, hb, hix, hC, hlt]
        exact ih (m - (k + 1)) (by omega) _ _ ⟨k + 1, rfl, by omega, by simp [e0], by simp [e1], by simp [e2], by simp [hsn, ← hbb], by simp, rfl⟩
      · have : k = m := by omega
        subst this
        have hlt9 : ¬ (k : Int) < n := by omega
        simp (maxSteps:=9^7)(disch:=first|assumption|((try simp only[nX]);omega)|simp) [e9, e2, e8, hlt9]
        simp [ldB]
    clear e hev
    rcases hn with rfl | rfl | rfl
    · simp (maxSteps:=9^7)(disch:=first|assumption|((try simp only[nX]);omega)|simp) [GC_of ht]
      exact body _ (by simp) (by simp) (by simp) (by simp) (by simp)
    · have c3 : a % 2#32 = 0#32 := c3
      simp (maxSteps:=9^7)(disch:=first|assumption|((try simp only[nX]);omega)|simp) [GC_of ht, c3]
      exact body _ (by simp) (by simp) (by simp) (by simp) (by simp)
    · have c3 : a % 4#32 = 0#32 := c3
      simp (maxSteps:=9^7)(disch:=first|assumption|((try simp only[nX]);omega)|simp) [GC_of ht, c3]
      exact body _ (by simp) (by simp) (by simp) (by simp) (by simp)
end
end Go.Proofs.YtmgoleiafiffoaaGreat.Cd
