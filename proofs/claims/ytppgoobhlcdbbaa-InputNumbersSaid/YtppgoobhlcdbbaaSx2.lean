/- Rules by which simp runs code. -/
import Derived.Test.YtppgoobhlcdbbaaSx1
set_option linter.unusedSimpArgs false
set_option linter.unusedVariables false
namespace Go.Dx
open Go

/-- Go on by a bool. -/
def brn (v : Value) (p q : Prop) : Prop :=
  match v with
  | .bool t => if t = true then p else q
  | _ => False
/-- Go on by a guard. -/
def gdn (v : Value) (want : Bool) (p q : Prop) : Prop :=
  match v with
  | .bool t => if t = want then p else q
  | .tuple _ => q
  | _ => False
section
variable {T : Nat → Option Fn} {e : Env} {h : Hp} {Q : Ex → Env → Hp → Prop} {K : Env → Hp → Prop}
@[simp] theorem brn_bool {t : Bool} {p q : Prop} : brn (.bool t) p q ↔ if t = true then p else q := Iff.rfl
@[simp] theorem gdn_bool {t w : Bool} {p q : Prop} : gdn (.bool t) w p q ↔ if t = w then p else q := Iff.rfl
theorem W_brn {c : X} {a b : C} : W T (.cond c a b) e h Q ↔ brn (c.ev e) (W T a e h Q) (W T b e h Q) := by
  cases hc : c.ev e with
  | bool t => rw [W_cond hc]; rfl
  | _ =>
    refine ⟨fun ⟨m, n, x, e', h', h1, h2⟩ => ?_, fun hf => hf.elim⟩
    cases n <;> simp [runC, hc] at h1
theorem WO_gdn {d : Option Nat} {t : Nat} {want : Bool} {op : Op} {l : List O} :
    WO T (⟨d, some (t, want), op⟩ :: l) e h K ↔ gdn (e t) want (WO T (⟨d, none, op⟩ :: l) e h K) (WO T l (put e d undef) h K) := by
  cases ht : e t with
  | bool b => rw [WO_gd ht]; rfl
  | tuple a =>
    rw [WO_cons]
    simp only [runO, gd, ht]
    exact ⟨fun ⟨n, e', h', h1, h2⟩ => by cases h1; exact h2, fun hk => ⟨0, _, _, rfl, hk⟩⟩
  | _ =>
    rw [WO_cons]
    simp only [runO, gd, ht, gdn]
    exact ⟨fun ⟨n, e', h', h1, h2⟩ => (by cases h1), fun hf => hf.elim⟩
theorem WI_nil {base : Nat} : WI T base [] e h K ↔ K e h := ⟨fun ⟨n, e', h', h1, h2⟩ => by cases h1; exact h2, fun hk => ⟨0, _, _, rfl, hk⟩⟩
theorem WI_cons {base : Nat} {o : It} {l : List It} : WI T base (o :: l) e h K ↔ ∃ n e' h', runIt (callN T n) base e h o = some (e', h') ∧ WI T base l e' h' K := by
  constructor
  · rintro ⟨n, e', h', h1, h2⟩
    obtain ⟨q, h3, h4⟩ := Option.bind_eq_some_iff.1 h1
    exact ⟨n, _, _, h3, n, e', h', h4, h2⟩
  · rintro ⟨n, e1, h1, h3, m, e', h', h4, h5⟩
    exact ⟨max n m, e', h', Option.bind_eq_some_iff.2 ⟨(e1, h1), runIt_mono (callN_mono (Nat.le_max_left _ _)) h3, runIts_mono (callN_mono (Nat.le_max_right _ _)) h4⟩, h5⟩
theorem WI_op {base i : Nat} {o : O} {l : List It} : WI T base (.op i o :: l) e h K ↔ WO T [o] e h fun e h => WI T base l e h K := by
  rw [WI_cons, WO_cons]
  simp only [WO_nil, runIt]
theorem WI_al {base i j : Nat} {d : Option Nat} {op : Op} {l : List It} : WI T base (.al i j ⟨d, none, op⟩ :: l) e h K ↔ ∃ v ob, opA (base + j) e op = some (v, ob) ∧ WI T base l (put e d v) (h.put (base + j) (some ob)) K := by
  rw [WI_cons]
  simp only [runIt, gd]
  constructor
  · rintro ⟨n, e', h', h1, h2⟩
    obtain ⟨r, h3, h4⟩ := Option.map_eq_some_iff.1 h1
    cases h4
    exact ⟨_, _, h3, h2⟩
  · rintro ⟨v, ob, h1, h2⟩
    exact ⟨0, _, _, by rw [h1]; rfl, h2⟩
theorem WI_re {base i t : Nat} {op : Op} {l : List It} : WI T base (.re i ⟨some t, none, op⟩ :: l) e h K ↔ ∃ v h', opV e h op = some (v, h') ∧ veq v (e t) = true ∧ WI T base l e h K := by
  rw [WI_cons]
  simp only [runIt, gd]
  constructor
  · rintro ⟨n, e', h', h1, h2⟩
    cases hv : opV e h op with
    | none => rw [hv] at h1; cases h1
    | some r =>
      rw [hv] at h1
      simp only [] at h1
      split at h1
      · rename_i hq; cases h1; exact ⟨_, _, rfl, hq, h2⟩
      · cases h1
  · rintro ⟨v, h', h1, h2, h3⟩
    exact ⟨0, _, _, by simp only [h1, h2, if_true], h3⟩
@[simp] theorem adv_zero (h : Hp) : h.adv 0 = h := rfl
@[simp] theorem adv_get (h : Hp) (k b : Nat) : (h.adv k).get b = h.get b := rfl
@[simp] theorem adv_next (h : Hp) (k : Nat) : (h.adv k).next = h.next + k := rfl
@[simp] theorem put_next (h : Hp) (b : Nat) (o : Option Ob) : (h.put b o).next = h.next := rfl
@[simp] theorem push_next (h : Hp) (o : Ob) : (h.push o).next = h.next + 1 := rfl
theorem get_put_self {b : Nat} {o : Option Ob} (hb : b < h.next) : (h.put b o).get b = o := by simp [Hp.put, hb]
theorem get_put_ne {b c : Nat} {o : Option Ob} (hb : c ≠ b) : (h.put b o).get c = h.get c := by simp [Hp.put, hb]
@[simp] theorem put_put {b : Nat} {o p : Option Ob} : (h.put b o).put b p = h.put b p := Hp.ext' rfl fun k => by
  simp only [Hp.put]
  split <;> rfl
theorem get_push_self {o : Ob} : (h.push o).get h.next = some o := by simp [Hp.push]
theorem get_push_ne {b : Nat} {o : Ob} (hb : b ≠ h.next) : (h.push o).get b = h.get b := by simp [Hp.push, hb]
theorem lt_of_get {b : Nat} {o : Ob} (hg : h.get b = some o) : b < h.next := by
  rcases Nat.lt_or_ge b h.next with hl | hl
  · exact hl
  · rw [h.wf b hl] at hg; cases hg
@[simp] theorem at_ptr (b o : Nat) : at? (ptr b o) = some (b, o) := rfl
@[simp] theorem one_u8 (x : BitVec 8) : one (u8 x) = true := rfl
@[simp] theorem one_u16 (x : BitVec 16) : one (u16 x) = true := rfl
@[simp] theorem one_u32 (x : BitVec 32) : one (u32 x) = true := rfl
@[simp] theorem one_u64 (x : BitVec 64) : one (u64 x) = true := rfl
@[simp] theorem one_int (k : IntKind) (n : Int) : one (.int k n) = true := rfl
@[simp] theorem one_bool (b : Bool) : one (.bool b) = true := rfl
@[simp] theorem one_ptr (b o : Nat) : one (ptr b o) = true := rfl
theorem wr_ok {b o : Nat} {c vs : List Value} (hg : h.get b = some (.cells false c)) (hle : o + vs.length ≤ c.length) (h1 : vs.all one = true) : h.wr b o vs = some (h.put b (some (.cells false (over c o vs)))) := by
  simp only [Hp.wr, hg, hle, h1, true_and, if_true]
theorem nilc_ptr {x : X} {b o : Nat} (hx : x.ev e = ptr b o) : opV e h (.nilc x) = some (ptr b o, h) := by simp only [opV, hx, ptr]
theorem upd_self (d : Nat) (v : Value) : upd e d v d = v := by simp [upd]
theorem upd_ne {d t : Nat} (v : Value) (hd : t ≠ d) : upd e d v t = e t := by simp [upd, hd]
end
/-- Go on with what an operation tells. -/
def runK (o : Option (Value × Hp)) (k : Value → Hp → Prop) : Prop :=
  match o with
  | some r => k r.1 r.2
  | none => False
theorem runK_iff {o : Option (Value × Hp)} {k : Value → Hp → Prop} : runK o k ↔ ∃ u g, o = some (u, g) ∧ k u g := by
  cases o with
  | none => exact ⟨fun hf => hf.elim, fun ⟨_, _, h, _⟩ => by cases h⟩
  | some r => exact ⟨fun hk => ⟨r.1, r.2, rfl, hk⟩, fun ⟨_, _, h, hk⟩ => by cases h; exact hk⟩
@[simp] theorem runK_some {v : Value} {h : Hp} {k : Value → Hp → Prop} : runK (some (v, h)) k ↔ k v h := Iff.rfl
@[congr] theorem runK_congr {o o' : Option (Value × Hp)} {k : Value → Hp → Prop} (h : o = o') : runK o k = runK o' k := by rw [h]
@[congr] theorem brn_congr {v v' : Value} {p q : Prop} (h : v = v') : brn v p q = brn v' p q := by rw [h]
@[congr] theorem gdn_congr {v v' : Value} {w : Bool} {p q : Prop} (h : v = v') : gdn v w p q = gdn v' w p q := by rw [h]
@[congr] theorem WC_congr {T : Nat → Option Fn} {f : Nat} {args args' : List Value} {h : Hp} {q : Value → Hp → Prop} (ha : args = args') : WC T f args h q = WC T f args' h q := by rw [ha]
@[congr] theorem W_congr {T : Nat → Option Fn} {c : C} {e : Env} {h : Hp} {Q : Ex → Env → Hp → Prop} : W T c e h Q = W T c e h Q := rfl
@[congr] theorem WO_congr {T : Nat → Option Fn} {l : List O} {e : Env} {h : Hp} {K : Env → Hp → Prop} : WO T l e h K = WO T l e h K := rfl
@[congr] theorem WI_congr {T : Nat → Option Fn} {base : Nat} {l : List It} {e : Env} {h : Hp} {K : Env → Hp → Prop} : WI T base l e h K = WI T base l e h K := rfl
section
variable {T : Nat → Option Fn} {e : Env} {h : Hp} {K : Env → Hp → Prop} {dd : Option Nat} {ll : List O}
theorem WO_mov {x : X} : WO T (⟨dd, none, .mov x⟩ :: ll) e h K ↔ runK (opV e h (.mov x)) fun u g => WO T ll (put e dd u) g K := (WO_op rfl).trans runK_iff.symm
theorem WO_pick {c a b : X} : WO T (⟨dd, none, .pick c a b⟩ :: ll) e h K ↔ runK (opV e h (.pick c a b)) fun u g => WO T ll (put e dd u) g K := (WO_op rfl).trans runK_iff.symm
theorem WO_new {zero : List Value} : WO T (⟨dd, none, .new zero⟩ :: ll) e h K ↔ runK (opV e h (.new zero)) fun u g => WO T ll (put e dd u) g K := (WO_op rfl).trans runK_iff.symm
theorem WO_box {x : X} : WO T (⟨dd, none, .box x⟩ :: ll) e h K ↔ runK (opV e h (.box x)) fun u g => WO T ll (put e dd u) g K := (WO_op rfl).trans runK_iff.symm
theorem WO_build {zero : List Value} {parts : List (Nat × Nat × X)} : WO T (⟨dd, none, .build zero parts⟩ :: ll) e h K ↔ runK (opV e h (.build zero parts)) fun u g => WO T ll (put e dd u) g K := (WO_op rfl).trans runK_iff.symm
theorem WO_bsl {len : Nat} {zero : List Value} {parts : List (Nat × Nat × X)} : WO T (⟨dd, none, .bsl len zero parts⟩ :: ll) e h K ↔ runK (opV e h (.bsl len zero parts)) fun u g => WO T ll (put e dd u) g K := (WO_op rfl).trans runK_iff.symm
theorem WO_ld {x : X} : WO T (⟨dd, none, .ld x⟩ :: ll) e h K ↔ runK (opV e h (.ld x)) fun u g => WO T ll (put e dd u) g K := (WO_op rfl).trans runK_iff.symm
theorem WO_ldn {n : Nat} {x : X} : WO T (⟨dd, none, .ldn n x⟩ :: ll) e h K ↔ runK (opV e h (.ldn n x)) fun u g => WO T ll (put e dd u) g K := (WO_op rfl).trans runK_iff.symm
theorem WO_st {a x : X} : WO T (⟨dd, none, .st a x⟩ :: ll) e h K ↔ runK (opV e h (.st a x)) fun u g => WO T ll (put e dd u) g K := (WO_op rfl).trans runK_iff.symm
theorem WO_stn {n : Nat} {a x : X} : WO T (⟨dd, none, .stn n a x⟩ :: ll) e h K ↔ runK (opV e h (.stn n a x)) fun u g => WO T ll (put e dd u) g K := (WO_op rfl).trans runK_iff.symm
theorem WO_nilc {x : X} : WO T (⟨dd, none, .nilc x⟩ :: ll) e h K ↔ runK (opV e h (.nilc x)) fun u g => WO T ll (put e dd u) g K := (WO_op rfl).trans runK_iff.symm
theorem WO_bin {op : BinOp} {x y : X} : WO T (⟨dd, none, .bin op x y⟩ :: ll) e h K ↔ runK (opV e h (.bin op x y)) fun u g => WO T ll (put e dd u) g K := (WO_op rfl).trans runK_iff.symm
theorem WO_eqb {neg : Bool} {x y : X} : WO T (⟨dd, none, .eqb neg x y⟩ :: ll) e h K ↔ runK (opV e h (.eqb neg x y)) fun u g => WO T ll (put e dd u) g K := (WO_op rfl).trans runK_iff.symm
theorem WO_eqn {kd : Nat} {neg : Bool} {x : X} : WO T (⟨dd, none, .eqn kd neg x⟩ :: ll) e h K ↔ runK (opV e h (.eqn kd neg x)) fun u g => WO T ll (put e dd u) g K := (WO_op rfl).trans runK_iff.symm
theorem WO_eqt {neg : Bool} {ty : Ty} {x y : X} : WO T (⟨dd, none, .eqt neg ty x y⟩ :: ll) e h K ↔ runK (opV e h (.eqt neg ty x y)) fun u g => WO T ll (put e dd u) g K := (WO_op rfl).trans runK_iff.symm
theorem WO_un {op : UnOp} {x : X} : WO T (⟨dd, none, .un op x⟩ :: ll) e h K ↔ runK (opV e h (.un op x)) fun u g => WO T ll (put e dd u) g K := (WO_op rfl).trans runK_iff.symm
theorem WO_conv {k : IntKind} {x : X} : WO T (⟨dd, none, .conv k x⟩ :: ll) e h K ↔ runK (opV e h (.conv k x)) fun u g => WO T ll (put e dd u) g K := (WO_op rfl).trans runK_iff.symm
theorem WO_b2s {x : X} : WO T (⟨dd, none, .b2s x⟩ :: ll) e h K ↔ runK (opV e h (.b2s x)) fun u g => WO T ll (put e dd u) g K := (WO_op rfl).trans runK_iff.symm
theorem WO_s2b {x : X} : WO T (⟨dd, none, .s2b x⟩ :: ll) e h K ↔ runK (opV e h (.s2b x)) fun u g => WO T ll (put e dd u) g K := (WO_op rfl).trans runK_iff.symm
theorem WO_ms {x : X} : WO T (⟨dd, none, .ms x⟩ :: ll) e h K ↔ runK (opV e h (.ms x)) fun u g => WO T ll (put e dd u) g K := (WO_op rfl).trans runK_iff.symm
theorem WO_mkf {id : Nat} {caps : List X} : WO T (⟨dd, none, .mkf id caps⟩ :: ll) e h K ↔ runK (opV e h (.mkf id caps)) fun u g => WO T ll (put e dd u) g K := (WO_op rfl).trans runK_iff.symm
theorem WO_mkm : WO T (⟨dd, none, .mkm ⟩ :: ll) e h K ↔ runK (opV e h (.mkm )) fun u g => WO T ll (put e dd u) g K := (WO_op rfl).trans runK_iff.symm
theorem WO_mkc {bytes : Nat} {x : X} : WO T (⟨dd, none, .mkc bytes x⟩ :: ll) e h K ↔ runK (opV e h (.mkc bytes x)) fun u g => WO T ll (put e dd u) g K := (WO_op rfl).trans runK_iff.symm
theorem WO_mks {zero : List Value} {bytes : Nat} {l c : X} : WO T (⟨dd, none, .mks zero bytes l c⟩ :: ll) e h K ↔ runK (opV e h (.mks zero bytes l c)) fun u g => WO T ll (put e dd u) g K := (WO_op rfl).trans runK_iff.symm
theorem WO_sls {x : X} {lo hi : Option X} : WO T (⟨dd, none, .sls x lo hi⟩ :: ll) e h K ↔ runK (opV e h (.sls x lo hi)) fun u g => WO T ll (put e dd u) g K := (WO_op rfl).trans runK_iff.symm
theorem WO_sl {sz : Nat} {x : X} {lo hi mx : Option X} : WO T (⟨dd, none, .sl sz x lo hi mx⟩ :: ll) e h K ↔ runK (opV e h (.sl sz x lo hi mx)) fun u g => WO T ll (put e dd u) g K := (WO_op rfl).trans runK_iff.symm
theorem WO_sla {n sz : Nat} {x : X} {lo hi mx : Option X} : WO T (⟨dd, none, .sla n sz x lo hi mx⟩ :: ll) e h K ↔ runK (opV e h (.sla n sz x lo hi mx)) fun u g => WO T ll (put e dd u) g K := (WO_op rfl).trans runK_iff.symm
theorem WO_fa {off : Nat} {x : X} : WO T (⟨dd, none, .fa off x⟩ :: ll) e h K ↔ runK (opV e h (.fa off x)) fun u g => WO T ll (put e dd u) g K := (WO_op rfl).trans runK_iff.symm
theorem WO_fld {off : Nat} {x : X} : WO T (⟨dd, none, .fld off x⟩ :: ll) e h K ↔ runK (opV e h (.fld off x)) fun u g => WO T ll (put e dd u) g K := (WO_op rfl).trans runK_iff.symm
theorem WO_fldn {off n : Nat} {x : X} : WO T (⟨dd, none, .fldn off n x⟩ :: ll) e h K ↔ runK (opV e h (.fldn off n x)) fun u g => WO T ll (put e dd u) g K := (WO_op rfl).trans runK_iff.symm
theorem WO_ia {sz : Nat} {x i : X} : WO T (⟨dd, none, .ia sz x i⟩ :: ll) e h K ↔ runK (opV e h (.ia sz x i)) fun u g => WO T ll (put e dd u) g K := (WO_op rfl).trans runK_iff.symm
theorem WO_iaa {n sz : Nat} {x i : X} : WO T (⟨dd, none, .iaa n sz x i⟩ :: ll) e h K ↔ runK (opV e h (.iaa n sz x i)) fun u g => WO T ll (put e dd u) g K := (WO_op rfl).trans runK_iff.symm
theorem WO_ixs {x i : X} : WO T (⟨dd, none, .ixs x i⟩ :: ll) e h K ↔ runK (opV e h (.ixs x i)) fun u g => WO T ll (put e dd u) g K := (WO_op rfl).trans runK_iff.symm
theorem WO_ixa {n : Nat} {x i : X} : WO T (⟨dd, none, .ixa n x i⟩ :: ll) e h K ↔ runK (opV e h (.ixa n x i)) fun u g => WO T ll (put e dd u) g K := (WO_op rfl).trans runK_iff.symm
theorem WO_ixan {n sz : Nat} {x i : X} : WO T (⟨dd, none, .ixan n sz x i⟩ :: ll) e h K ↔ runK (opV e h (.ixan n sz x i)) fun u g => WO T ll (put e dd u) g K := (WO_op rfl).trans runK_iff.symm
theorem WO_look {ty : Ty} {zero : Value} {ok : Bool} {m k : X} : WO T (⟨dd, none, .look ty zero ok m k⟩ :: ll) e h K ↔ runK (opV e h (.look ty zero ok m k)) fun u g => WO T ll (put e dd u) g K := (WO_op rfl).trans runK_iff.symm
theorem WO_mset {ty : Ty} {m k v : X} : WO T (⟨dd, none, .mset ty m k v⟩ :: ll) e h K ↔ runK (opV e h (.mset ty m k v)) fun u g => WO T ll (put e dd u) g K := (WO_op rfl).trans runK_iff.symm
theorem WO_ext {x : X} {i : Nat} : WO T (⟨dd, none, .ext x i⟩ :: ll) e h K ↔ runK (opV e h (.ext x i)) fun u g => WO T ll (put e dd u) g K := (WO_op rfl).trans runK_iff.symm
theorem WO_len {kd : Nat} {x : X} : WO T (⟨dd, none, .len kd x⟩ :: ll) e h K ↔ runK (opV e h (.len kd x)) fun u g => WO T ll (put e dd u) g K := (WO_op rfl).trans runK_iff.symm
theorem WO_lenk {n : Nat} : WO T (⟨dd, none, .lenk n⟩ :: ll) e h K ↔ runK (opV e h (.lenk n)) fun u g => WO T ll (put e dd u) g K := (WO_op rfl).trans runK_iff.symm
theorem WO_app {sz bytes : Nat} {x y : X} : WO T (⟨dd, none, .app sz bytes x y⟩ :: ll) e h K ↔ runK (opV e h (.app sz bytes x y)) fun u g => WO T ll (put e dd u) g K := (WO_op rfl).trans runK_iff.symm
theorem WO_cpy {sz : Nat} {x y : X} : WO T (⟨dd, none, .cpy sz x y⟩ :: ll) e h K ↔ runK (opV e h (.cpy sz x y)) fun u g => WO T ll (put e dd u) g K := (WO_op rfl).trans runK_iff.symm
theorem WO_del {ty : Ty} {m k : X} : WO T (⟨dd, none, .del ty m k⟩ :: ll) e h K ↔ runK (opV e h (.del ty m k)) fun u g => WO T ll (put e dd u) g K := (WO_op rfl).trans runK_iff.symm
theorem WO_clr {zero : List Value} {x : X} : WO T (⟨dd, none, .clr zero x⟩ :: ll) e h K ↔ runK (opV e h (.clr zero x)) fun u g => WO T ll (put e dd u) g K := (WO_op rfl).trans runK_iff.symm
theorem WO_clrm {x : X} : WO T (⟨dd, none, .clrm x⟩ :: ll) e h K ↔ runK (opV e h (.clrm x)) fun u g => WO T ll (put e dd u) g K := (WO_op rfl).trans runK_iff.symm
theorem WO_mx {x y : X} : WO T (⟨dd, none, .mx x y⟩ :: ll) e h K ↔ runK (opV e h (.mx x y)) fun u g => WO T ll (put e dd u) g K := (WO_op rfl).trans runK_iff.symm
theorem WO_mn {x y : X} : WO T (⟨dd, none, .mn x y⟩ :: ll) e h K ↔ runK (opV e h (.mn x y)) fun u g => WO T ll (put e dd u) g K := (WO_op rfl).trans runK_iff.symm
end
end Go.Dx
