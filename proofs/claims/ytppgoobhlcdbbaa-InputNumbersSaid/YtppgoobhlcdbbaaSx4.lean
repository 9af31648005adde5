/- Runs of code with what is left to do as data: simp has nothing to do but the next step. -/
import Derived.Test.YtppgoobhlcdbbaaSx3
set_option linter.unusedSimpArgs false
set_option linter.unusedVariables false
namespace Go.Dx
open Go

/-- What is left. -/
inductive Fr where
  | seq (b : C)
  | block (id : Nat)
  | loop (a : C)

section
variable (T : Nat → Option Fn)
/-- Behind a piece of code. -/
def GR (Q : Ex → Env → Hp → Prop) : List Fr → Ex → Env → Hp → Prop
  | [], x, e, h => Q x e h
  | .seq b :: k, .n, e, h => W T b e h (GR Q k)
  | .seq _ :: k, x, e, h => GR Q k x e h
  | .block id :: k, .x j, e, h => if j = id then GR Q k .n e h else GR Q k (.x j) e h
  | .block _ :: k, x, e, h => GR Q k x e h
  | .loop a :: k, .n, e, h => W T (.loop a) e h (GR Q k)
  | .loop _ :: k, x, e, h => GR Q k x e h
def G (Q : Ex → Env → Hp → Prop) (c : C) (k : List Fr) (e : Env) (h : Hp) : Prop := W T c e h (GR T Q k)
def GO (Q : Ex → Env → Hp → Prop) (l : List O) (k : List Fr) (e : Env) (h : Hp) : Prop := WO T l e h (GR T Q k .n)
def GI (Q : Ex → Env → Hp → Prop) (base : Nat) (l : List It) (k : List Fr) (e : Env) (h : Hp) : Prop := WI T base l e h (GR T Q k .n)
/-- Behind an operation: its value and memory. -/
def GV (Q : Ex → Env → Hp → Prop) (o : Option (Value × Hp)) (d : Option Nat) (l : List O) (k : List Fr) (e : Env) : Prop :=
  match o with
  | some r => GO T Q l k (put e d r.1) r.2
  | none => False
def GVI (Q : Ex → Env → Hp → Prop) (o : Option (Value × Hp)) (d : Option Nat) (base : Nat) (l : List It) (k : List Fr) (e : Env) : Prop :=
  match o with
  | some r => GI T Q base l k (put e d r.1) r.2
  | none => False
def GB (Q : Ex → Env → Hp → Prop) (v : Value) (a b : C) (k : List Fr) (e : Env) (h : Hp) : Prop :=
  match v with
  | .bool t => if t = true then G T Q a k e h else G T Q b k e h
  | _ => False
def GG (Q : Ex → Env → Hp → Prop) (v : Value) (w : Bool) (d : Option Nat) (op : Op) (l : List O) (k : List Fr) (e : Env) (h : Hp) : Prop :=
  match v with
  | .bool t => if t = w then GO T Q (⟨d, none, op⟩ :: l) k e h else GO T Q l k (put e d undef) h
  | .tuple _ => GO T Q l k (put e d undef) h
  | _ => False
def GC (Q : Ex → Env → Hp → Prop) (f : Nat) (args : List Value) (d : Option Nat) (l : List O) (k : List Fr) (e : Env) (h : Hp) : Prop :=
  WC T f args h fun v h => GO T Q l k (put e d v) h
end

section
variable {T : Nat → Option Fn} {Q : Ex → Env → Hp → Prop} {k : List Fr} {e : Env} {h : Hp} {d : Option Nat} {l : List O}

theorem Ex.go_eq {b : C} : Ex.go (GR T Q k) (fun e h => W T b e h (GR T Q k)) = GR T Q (.seq b :: k) := by
  funext x e h; cases x <;> rfl
theorem Ex.out_eq {id : Nat} : Ex.out id (GR T Q k) = GR T Q (.block id :: k) := by
  funext x e h; cases x <;> rfl
@[simp] theorem G_seq {a b : C} : G T Q (.seq a b) k e h ↔ G T Q a (.seq b :: k) e h := by
  unfold G; rw [W_seq, Ex.go_eq]
@[simp] theorem G_block {id : Nat} {a : C} : G T Q (.block id a) k e h ↔ G T Q a (.block id :: k) e h := by
  unfold G; rw [W_block, Ex.out_eq]
@[simp] theorem G_skip : G T Q .skip k e h ↔ GR T Q k .n e h := W_skip
@[simp] theorem G_ret : G T Q .ret k e h ↔ GR T Q k .r e h := W_ret
@[simp] theorem G_exit {id : Nat} : G T Q (.exit id) k e h ↔ GR T Q k (.x id) e h := W_exit
@[simp] theorem G_ops : G T Q (.ops l) k e h ↔ GO T Q l k e h := W_ops
theorem G_any {m : Nat} {l : List It} : G T Q (.any m l) k e h ↔ GI T Q h.next l k e (h.adv m) := W_any
@[simp] theorem G_cond {c : X} {a b : C} : G T Q (.cond c a b) k e h ↔ GB T Q (c.ev e) a b k e h := by
  unfold G; rw [W_brn]; cases c.ev e <;> rfl
@[simp] theorem GB_bool {t : Bool} {a b : C} : GB T Q (.bool t) a b k e h ↔ if t = true then G T Q a k e h else G T Q b k e h := Iff.rfl
@[simp] theorem GR_nil {x : Ex} : GR T Q [] x e h ↔ Q x e h := by cases x <;> exact Iff.rfl
@[simp] theorem GR_seq_n {b : C} : GR T Q (.seq b :: k) .n e h ↔ G T Q b k e h := Iff.rfl
@[simp] theorem GR_seq_x {b : C} {j : Nat} : GR T Q (.seq b :: k) (.x j) e h ↔ GR T Q k (.x j) e h := Iff.rfl
@[simp] theorem GR_seq_r {b : C} : GR T Q (.seq b :: k) .r e h ↔ GR T Q k .r e h := Iff.rfl
@[simp] theorem GR_block_n {id : Nat} : GR T Q (.block id :: k) .n e h ↔ GR T Q k .n e h := Iff.rfl
@[simp] theorem GR_block_x {id j : Nat} : GR T Q (.block id :: k) (.x j) e h ↔ if j = id then GR T Q k .n e h else GR T Q k (.x j) e h := Iff.rfl
@[simp] theorem GR_block_r {id : Nat} : GR T Q (.block id :: k) .r e h ↔ GR T Q k .r e h := Iff.rfl
@[simp] theorem GO_nil : GO T Q [] k e h ↔ GR T Q k .n e h := WO_nil
theorem GO_op {op : Op} (hop : isC op = false) : GO T Q (⟨d, none, op⟩ :: l) k e h ↔ GV T Q (opV e h op) d l k e := by
  unfold GO GV
  rw [WO_op hop]
  cases opV e h op with
  | none => exact ⟨fun ⟨_, _, hh, _⟩ => (by cases hh), fun hf => hf.elim⟩
  | some r => exact ⟨fun ⟨_, _, hh, hk⟩ => by cases hh; exact hk, fun hk => ⟨r.1, r.2, rfl, hk⟩⟩
@[simp] theorem GO_gd {t : Nat} {w : Bool} {op : Op} : GO T Q (⟨d, some (t, w), op⟩ :: l) k e h ↔ GG T Q (e t) w d op l k e h := by
  unfold GO; rw [WO_gdn]; cases e t <;> rfl
@[simp] theorem GG_bool {t w : Bool} {op : Op} : GG T Q (.bool t) w d op l k e h ↔ if t = w then GO T Q (⟨d, none, op⟩ :: l) k e h else GO T Q l k (put e d undef) h := Iff.rfl
@[simp] theorem GO_call {f : Nat} {xs : List X} : GO T Q (⟨d, none, .call f xs⟩ :: l) k e h ↔ GC T Q f (evs e xs) d l k e h := WO_call
@[simp] theorem GV_some {v : Value} : GV T Q (some (v, h)) d l k e ↔ GO T Q l k (put e d v) h := Iff.rfl
theorem GC_of {f : Nat} {args : List Value} {v : Value} {h' : Hp} (H : ∀ q : Value → Hp → Prop, WC T f args h q ↔ q v h') : GC T Q f args d l k e h ↔ GO T Q l k (put e d v) h' := H _
@[simp] theorem GI_nil {base : Nat} : GI T Q base [] k e h ↔ GR T Q k .n e h := WI_nil
theorem GI_op {base i : Nat} {op : Op} {l : List It} (hop : isC op = false) : GI T Q base (.op i ⟨d, none, op⟩ :: l) k e h ↔ GVI T Q (opV e h op) d base l k e := by
  unfold GI GVI
  rw [WI_op, WO_op hop]
  cases opV e h op with
  | none => exact ⟨fun ⟨_, _, hh, _⟩ => (by cases hh), fun hf => hf.elim⟩
  | some r => exact ⟨fun ⟨_, _, hh, hk⟩ => by cases hh; exact WO_nil.1 hk, fun hk => ⟨r.1, r.2, rfl, WO_nil.2 hk⟩⟩
@[simp] theorem GVI_some {v : Value} {base : Nat} {l : List It} : GVI T Q (some (v, h)) d base l k e ↔ GI T Q base l k (put e d v) h := Iff.rfl
/-- How a function ends. -/
def fin (res : List RV) (drop : Option (List Nat)) (n : Nat) (q : Value → Hp → Prop) : Ex → Env → Hp → Prop
  | .x _, _, _ => False
  | _, e, h' => ∃ v, resV e h' res = some v ∧ q v (dropB n e h' drop)
theorem WC_G {f : Nat} {F : F} {args : List Value} {q : Value → Hp → Prop} (hf : T f = some (.code F)) : WC T f args h q ↔ G T (fin F.res F.drop h.next q) F.body [] (envOf args) h := by
  rw [WC_code hf]
  unfold G
  constructor
  · exact fun hw => hw.mono fun x e h hq => by cases x <;> exact hq
  · exact fun hw => hw.mono fun x e h hq => by cases x <;> exact hq
end
section
variable {T : Nat → Option Fn} {Q : Ex → Env → Hp → Prop} {kk : List Fr} {e : Env} {h : Hp} {dd : Option Nat} {ll : List O} {base ii : Nat} {li : List It}
@[simp] theorem GO_mov {x : X} : GO T Q (⟨dd, none, .mov x⟩ :: ll) kk e h ↔ GV T Q (opV e h (.mov x)) dd ll kk e := GO_op rfl
@[simp] theorem GI_mov {x : X} : GI T Q base (.op ii ⟨dd, none, .mov x⟩ :: li) kk e h ↔ GVI T Q (opV e h (.mov x)) dd base li kk e := GI_op rfl
@[simp] theorem GO_pick {c a b : X} : GO T Q (⟨dd, none, .pick c a b⟩ :: ll) kk e h ↔ GV T Q (opV e h (.pick c a b)) dd ll kk e := GO_op rfl
@[simp] theorem GI_pick {c a b : X} : GI T Q base (.op ii ⟨dd, none, .pick c a b⟩ :: li) kk e h ↔ GVI T Q (opV e h (.pick c a b)) dd base li kk e := GI_op rfl
@[simp] theorem GO_new {zero : List Value} : GO T Q (⟨dd, none, .new zero⟩ :: ll) kk e h ↔ GV T Q (opV e h (.new zero)) dd ll kk e := GO_op rfl
@[simp] theorem GI_new {zero : List Value} : GI T Q base (.op ii ⟨dd, none, .new zero⟩ :: li) kk e h ↔ GVI T Q (opV e h (.new zero)) dd base li kk e := GI_op rfl
@[simp] theorem GO_box {x : X} : GO T Q (⟨dd, none, .box x⟩ :: ll) kk e h ↔ GV T Q (opV e h (.box x)) dd ll kk e := GO_op rfl
@[simp] theorem GI_box {x : X} : GI T Q base (.op ii ⟨dd, none, .box x⟩ :: li) kk e h ↔ GVI T Q (opV e h (.box x)) dd base li kk e := GI_op rfl
@[simp] theorem GO_build {zero : List Value} {parts : List (Nat × Nat × X)} : GO T Q (⟨dd, none, .build zero parts⟩ :: ll) kk e h ↔ GV T Q (opV e h (.build zero parts)) dd ll kk e := GO_op rfl
@[simp] theorem GI_build {zero : List Value} {parts : List (Nat × Nat × X)} : GI T Q base (.op ii ⟨dd, none, .build zero parts⟩ :: li) kk e h ↔ GVI T Q (opV e h (.build zero parts)) dd base li kk e := GI_op rfl
@[simp] theorem GO_bsl {len : Nat} {zero : List Value} {parts : List (Nat × Nat × X)} : GO T Q (⟨dd, none, .bsl len zero parts⟩ :: ll) kk e h ↔ GV T Q (opV e h (.bsl len zero parts)) dd ll kk e := GO_op rfl
@[simp] theorem GI_bsl {len : Nat} {zero : List Value} {parts : List (Nat × Nat × X)} : GI T Q base (.op ii ⟨dd, none, .bsl len zero parts⟩ :: li) kk e h ↔ GVI T Q (opV e h (.bsl len zero parts)) dd base li kk e := GI_op rfl
@[simp] theorem GO_ld {x : X} : GO T Q (⟨dd, none, .ld x⟩ :: ll) kk e h ↔ GV T Q (opV e h (.ld x)) dd ll kk e := GO_op rfl
@[simp] theorem GI_ld {x : X} : GI T Q base (.op ii ⟨dd, none, .ld x⟩ :: li) kk e h ↔ GVI T Q (opV e h (.ld x)) dd base li kk e := GI_op rfl
@[simp] theorem GO_ldn {n : Nat} {x : X} : GO T Q (⟨dd, none, .ldn n x⟩ :: ll) kk e h ↔ GV T Q (opV e h (.ldn n x)) dd ll kk e := GO_op rfl
@[simp] theorem GI_ldn {n : Nat} {x : X} : GI T Q base (.op ii ⟨dd, none, .ldn n x⟩ :: li) kk e h ↔ GVI T Q (opV e h (.ldn n x)) dd base li kk e := GI_op rfl
@[simp] theorem GO_st {a x : X} : GO T Q (⟨dd, none, .st a x⟩ :: ll) kk e h ↔ GV T Q (opV e h (.st a x)) dd ll kk e := GO_op rfl
@[simp] theorem GI_st {a x : X} : GI T Q base (.op ii ⟨dd, none, .st a x⟩ :: li) kk e h ↔ GVI T Q (opV e h (.st a x)) dd base li kk e := GI_op rfl
@[simp] theorem GO_stn {n : Nat} {a x : X} : GO T Q (⟨dd, none, .stn n a x⟩ :: ll) kk e h ↔ GV T Q (opV e h (.stn n a x)) dd ll kk e := GO_op rfl
@[simp] theorem GI_stn {n : Nat} {a x : X} : GI T Q base (.op ii ⟨dd, none, .stn n a x⟩ :: li) kk e h ↔ GVI T Q (opV e h (.stn n a x)) dd base li kk e := GI_op rfl
@[simp] theorem GO_nilc {x : X} : GO T Q (⟨dd, none, .nilc x⟩ :: ll) kk e h ↔ GV T Q (opV e h (.nilc x)) dd ll kk e := GO_op rfl
@[simp] theorem GI_nilc {x : X} : GI T Q base (.op ii ⟨dd, none, .nilc x⟩ :: li) kk e h ↔ GVI T Q (opV e h (.nilc x)) dd base li kk e := GI_op rfl
@[simp] theorem GO_bin {op : BinOp} {x y : X} : GO T Q (⟨dd, none, .bin op x y⟩ :: ll) kk e h ↔ GV T Q (opV e h (.bin op x y)) dd ll kk e := GO_op rfl
@[simp] theorem GI_bin {op : BinOp} {x y : X} : GI T Q base (.op ii ⟨dd, none, .bin op x y⟩ :: li) kk e h ↔ GVI T Q (opV e h (.bin op x y)) dd base li kk e := GI_op rfl
@[simp] theorem GO_eqb {neg : Bool} {x y : X} : GO T Q (⟨dd, none, .eqb neg x y⟩ :: ll) kk e h ↔ GV T Q (opV e h (.eqb neg x y)) dd ll kk e := GO_op rfl
@[simp] theorem GI_eqb {neg : Bool} {x y : X} : GI T Q base (.op ii ⟨dd, none, .eqb neg x y⟩ :: li) kk e h ↔ GVI T Q (opV e h (.eqb neg x y)) dd base li kk e := GI_op rfl
@[simp] theorem GO_eqn {kd : Nat} {neg : Bool} {x : X} : GO T Q (⟨dd, none, .eqn kd neg x⟩ :: ll) kk e h ↔ GV T Q (opV e h (.eqn kd neg x)) dd ll kk e := GO_op rfl
@[simp] theorem GI_eqn {kd : Nat} {neg : Bool} {x : X} : GI T Q base (.op ii ⟨dd, none, .eqn kd neg x⟩ :: li) kk e h ↔ GVI T Q (opV e h (.eqn kd neg x)) dd base li kk e := GI_op rfl
@[simp] theorem GO_eqt {neg : Bool} {ty : Ty} {x y : X} : GO T Q (⟨dd, none, .eqt neg ty x y⟩ :: ll) kk e h ↔ GV T Q (opV e h (.eqt neg ty x y)) dd ll kk e := GO_op rfl
@[simp] theorem GI_eqt {neg : Bool} {ty : Ty} {x y : X} : GI T Q base (.op ii ⟨dd, none, .eqt neg ty x y⟩ :: li) kk e h ↔ GVI T Q (opV e h (.eqt neg ty x y)) dd base li kk e := GI_op rfl
@[simp] theorem GO_un {op : UnOp} {x : X} : GO T Q (⟨dd, none, .un op x⟩ :: ll) kk e h ↔ GV T Q (opV e h (.un op x)) dd ll kk e := GO_op rfl
@[simp] theorem GI_un {op : UnOp} {x : X} : GI T Q base (.op ii ⟨dd, none, .un op x⟩ :: li) kk e h ↔ GVI T Q (opV e h (.un op x)) dd base li kk e := GI_op rfl
@[simp] theorem GO_conv {k : IntKind} {x : X} : GO T Q (⟨dd, none, .conv k x⟩ :: ll) kk e h ↔ GV T Q (opV e h (.conv k x)) dd ll kk e := GO_op rfl
@[simp] theorem GI_conv {k : IntKind} {x : X} : GI T Q base (.op ii ⟨dd, none, .conv k x⟩ :: li) kk e h ↔ GVI T Q (opV e h (.conv k x)) dd base li kk e := GI_op rfl
@[simp] theorem GO_b2s {x : X} : GO T Q (⟨dd, none, .b2s x⟩ :: ll) kk e h ↔ GV T Q (opV e h (.b2s x)) dd ll kk e := GO_op rfl
@[simp] theorem GI_b2s {x : X} : GI T Q base (.op ii ⟨dd, none, .b2s x⟩ :: li) kk e h ↔ GVI T Q (opV e h (.b2s x)) dd base li kk e := GI_op rfl
@[simp] theorem GO_s2b {x : X} : GO T Q (⟨dd, none, .s2b x⟩ :: ll) kk e h ↔ GV T Q (opV e h (.s2b x)) dd ll kk e := GO_op rfl
@[simp] theorem GI_s2b {x : X} : GI T Q base (.op ii ⟨dd, none, .s2b x⟩ :: li) kk e h ↔ GVI T Q (opV e h (.s2b x)) dd base li kk e := GI_op rfl
@[simp] theorem GO_ms {x : X} : GO T Q (⟨dd, none, .ms x⟩ :: ll) kk e h ↔ GV T Q (opV e h (.ms x)) dd ll kk e := GO_op rfl
@[simp] theorem GI_ms {x : X} : GI T Q base (.op ii ⟨dd, none, .ms x⟩ :: li) kk e h ↔ GVI T Q (opV e h (.ms x)) dd base li kk e := GI_op rfl
@[simp] theorem GO_mkf {id : Nat} {caps : List X} : GO T Q (⟨dd, none, .mkf id caps⟩ :: ll) kk e h ↔ GV T Q (opV e h (.mkf id caps)) dd ll kk e := GO_op rfl
@[simp] theorem GI_mkf {id : Nat} {caps : List X} : GI T Q base (.op ii ⟨dd, none, .mkf id caps⟩ :: li) kk e h ↔ GVI T Q (opV e h (.mkf id caps)) dd base li kk e := GI_op rfl
@[simp] theorem GO_mkm : GO T Q (⟨dd, none, .mkm ⟩ :: ll) kk e h ↔ GV T Q (opV e h (.mkm )) dd ll kk e := GO_op rfl
@[simp] theorem GI_mkm : GI T Q base (.op ii ⟨dd, none, .mkm ⟩ :: li) kk e h ↔ GVI T Q (opV e h (.mkm )) dd base li kk e := GI_op rfl
@[simp] theorem GO_mkc {bytes : Nat} {x : X} : GO T Q (⟨dd, none, .mkc bytes x⟩ :: ll) kk e h ↔ GV T Q (opV e h (.mkc bytes x)) dd ll kk e := GO_op rfl
@[simp] theorem GI_mkc {bytes : Nat} {x : X} : GI T Q base (.op ii ⟨dd, none, .mkc bytes x⟩ :: li) kk e h ↔ GVI T Q (opV e h (.mkc bytes x)) dd base li kk e := GI_op rfl
@[simp] theorem GO_mks {zero : List Value} {bytes : Nat} {l c : X} : GO T Q (⟨dd, none, .mks zero bytes l c⟩ :: ll) kk e h ↔ GV T Q (opV e h (.mks zero bytes l c)) dd ll kk e := GO_op rfl
@[simp] theorem GI_mks {zero : List Value} {bytes : Nat} {l c : X} : GI T Q base (.op ii ⟨dd, none, .mks zero bytes l c⟩ :: li) kk e h ↔ GVI T Q (opV e h (.mks zero bytes l c)) dd base li kk e := GI_op rfl
@[simp] theorem GO_sls {x : X} {lo hi : Option X} : GO T Q (⟨dd, none, .sls x lo hi⟩ :: ll) kk e h ↔ GV T Q (opV e h (.sls x lo hi)) dd ll kk e := GO_op rfl
@[simp] theorem GI_sls {x : X} {lo hi : Option X} : GI T Q base (.op ii ⟨dd, none, .sls x lo hi⟩ :: li) kk e h ↔ GVI T Q (opV e h (.sls x lo hi)) dd base li kk e := GI_op rfl
@[simp] theorem GO_sl {sz : Nat} {x : X} {lo hi mx : Option X} : GO T Q (⟨dd, none, .sl sz x lo hi mx⟩ :: ll) kk e h ↔ GV T Q (opV e h (.sl sz x lo hi mx)) dd ll kk e := GO_op rfl
@[simp] theorem GI_sl {sz : Nat} {x : X} {lo hi mx : Option X} : GI T Q base (.op ii ⟨dd, none, .sl sz x lo hi mx⟩ :: li) kk e h ↔ GVI T Q (opV e h (.sl sz x lo hi mx)) dd base li kk e := GI_op rfl
@[simp] theorem GO_sla {n sz : Nat} {x : X} {lo hi mx : Option X} : GO T Q (⟨dd, none, .sla n sz x lo hi mx⟩ :: ll) kk e h ↔ GV T Q (opV e h (.sla n sz x lo hi mx)) dd ll kk e := GO_op rfl
@[simp] theorem GI_sla {n sz : Nat} {x : X} {lo hi mx : Option X} : GI T Q base (.op ii ⟨dd, none, .sla n sz x lo hi mx⟩ :: li) kk e h ↔ GVI T Q (opV e h (.sla n sz x lo hi mx)) dd base li kk e := GI_op rfl
@[simp] theorem GO_fa {off : Nat} {x : X} : GO T Q (⟨dd, none, .fa off x⟩ :: ll) kk e h ↔ GV T Q (opV e h (.fa off x)) dd ll kk e := GO_op rfl
@[simp] theorem GI_fa {off : Nat} {x : X} : GI T Q base (.op ii ⟨dd, none, .fa off x⟩ :: li) kk e h ↔ GVI T Q (opV e h (.fa off x)) dd base li kk e := GI_op rfl
@[simp] theorem GO_fld {off : Nat} {x : X} : GO T Q (⟨dd, none, .fld off x⟩ :: ll) kk e h ↔ GV T Q (opV e h (.fld off x)) dd ll kk e := GO_op rfl
@[simp] theorem GI_fld {off : Nat} {x : X} : GI T Q base (.op ii ⟨dd, none, .fld off x⟩ :: li) kk e h ↔ GVI T Q (opV e h (.fld off x)) dd base li kk e := GI_op rfl
@[simp] theorem GO_fldn {off n : Nat} {x : X} : GO T Q (⟨dd, none, .fldn off n x⟩ :: ll) kk e h ↔ GV T Q (opV e h (.fldn off n x)) dd ll kk e := GO_op rfl
@[simp] theorem GI_fldn {off n : Nat} {x : X} : GI T Q base (.op ii ⟨dd, none, .fldn off n x⟩ :: li) kk e h ↔ GVI T Q (opV e h (.fldn off n x)) dd base li kk e := GI_op rfl
@[simp] theorem GO_ia {sz : Nat} {x i : X} : GO T Q (⟨dd, none, .ia sz x i⟩ :: ll) kk e h ↔ GV T Q (opV e h (.ia sz x i)) dd ll kk e := GO_op rfl
@[simp] theorem GI_ia {sz : Nat} {x i : X} : GI T Q base (.op ii ⟨dd, none, .ia sz x i⟩ :: li) kk e h ↔ GVI T Q (opV e h (.ia sz x i)) dd base li kk e := GI_op rfl
@[simp] theorem GO_iaa {n sz : Nat} {x i : X} : GO T Q (⟨dd, none, .iaa n sz x i⟩ :: ll) kk e h ↔ GV T Q (opV e h (.iaa n sz x i)) dd ll kk e := GO_op rfl
@[simp] theorem GI_iaa {n sz : Nat} {x i : X} : GI T Q base (.op ii ⟨dd, none, .iaa n sz x i⟩ :: li) kk e h ↔ GVI T Q (opV e h (.iaa n sz x i)) dd base li kk e := GI_op rfl
@[simp] theorem GO_ixs {x i : X} : GO T Q (⟨dd, none, .ixs x i⟩ :: ll) kk e h ↔ GV T Q (opV e h (.ixs x i)) dd ll kk e := GO_op rfl
@[simp] theorem GI_ixs {x i : X} : GI T Q base (.op ii ⟨dd, none, .ixs x i⟩ :: li) kk e h ↔ GVI T Q (opV e h (.ixs x i)) dd base li kk e := GI_op rfl
@[simp] theorem GO_ixa {n : Nat} {x i : X} : GO T Q (⟨dd, none, .ixa n x i⟩ :: ll) kk e h ↔ GV T Q (opV e h (.ixa n x i)) dd ll kk e := GO_op rfl
@[simp] theorem GI_ixa {n : Nat} {x i : X} : GI T Q base (.op ii ⟨dd, none, .ixa n x i⟩ :: li) kk e h ↔ GVI T Q (opV e h (.ixa n x i)) dd base li kk e := GI_op rfl
@[simp] theorem GO_ixan {n sz : Nat} {x i : X} : GO T Q (⟨dd, none, .ixan n sz x i⟩ :: ll) kk e h ↔ GV T Q (opV e h (.ixan n sz x i)) dd ll kk e := GO_op rfl
@[simp] theorem GI_ixan {n sz : Nat} {x i : X} : GI T Q base (.op ii ⟨dd, none, .ixan n sz x i⟩ :: li) kk e h ↔ GVI T Q (opV e h (.ixan n sz x i)) dd base li kk e := GI_op rfl
@[simp] theorem GO_look {ty : Ty} {zero : Value} {ok : Bool} {m k : X} : GO T Q (⟨dd, none, .look ty zero ok m k⟩ :: ll) kk e h ↔ GV T Q (opV e h (.look ty zero ok m k)) dd ll kk e := GO_op rfl
@[simp] theorem GI_look {ty : Ty} {zero : Value} {ok : Bool} {m k : X} : GI T Q base (.op ii ⟨dd, none, .look ty zero ok m k⟩ :: li) kk e h ↔ GVI T Q (opV e h (.look ty zero ok m k)) dd base li kk e := GI_op rfl
@[simp] theorem GO_mset {ty : Ty} {m k v : X} : GO T Q (⟨dd, none, .mset ty m k v⟩ :: ll) kk e h ↔ GV T Q (opV e h (.mset ty m k v)) dd ll kk e := GO_op rfl
@[simp] theorem GI_mset {ty : Ty} {m k v : X} : GI T Q base (.op ii ⟨dd, none, .mset ty m k v⟩ :: li) kk e h ↔ GVI T Q (opV e h (.mset ty m k v)) dd base li kk e := GI_op rfl
@[simp] theorem GO_ext {x : X} {i : Nat} : GO T Q (⟨dd, none, .ext x i⟩ :: ll) kk e h ↔ GV T Q (opV e h (.ext x i)) dd ll kk e := GO_op rfl
@[simp] theorem GI_ext {x : X} {i : Nat} : GI T Q base (.op ii ⟨dd, none, .ext x i⟩ :: li) kk e h ↔ GVI T Q (opV e h (.ext x i)) dd base li kk e := GI_op rfl
@[simp] theorem GO_len {kd : Nat} {x : X} : GO T Q (⟨dd, none, .len kd x⟩ :: ll) kk e h ↔ GV T Q (opV e h (.len kd x)) dd ll kk e := GO_op rfl
@[simp] theorem GI_len {kd : Nat} {x : X} : GI T Q base (.op ii ⟨dd, none, .len kd x⟩ :: li) kk e h ↔ GVI T Q (opV e h (.len kd x)) dd base li kk e := GI_op rfl
@[simp] theorem GO_lenk {n : Nat} : GO T Q (⟨dd, none, .lenk n⟩ :: ll) kk e h ↔ GV T Q (opV e h (.lenk n)) dd ll kk e := GO_op rfl
@[simp] theorem GI_lenk {n : Nat} : GI T Q base (.op ii ⟨dd, none, .lenk n⟩ :: li) kk e h ↔ GVI T Q (opV e h (.lenk n)) dd base li kk e := GI_op rfl
@[simp] theorem GO_app {sz bytes : Nat} {x y : X} : GO T Q (⟨dd, none, .app sz bytes x y⟩ :: ll) kk e h ↔ GV T Q (opV e h (.app sz bytes x y)) dd ll kk e := GO_op rfl
@[simp] theorem GI_app {sz bytes : Nat} {x y : X} : GI T Q base (.op ii ⟨dd, none, .app sz bytes x y⟩ :: li) kk e h ↔ GVI T Q (opV e h (.app sz bytes x y)) dd base li kk e := GI_op rfl
@[simp] theorem GO_cpy {sz : Nat} {x y : X} : GO T Q (⟨dd, none, .cpy sz x y⟩ :: ll) kk e h ↔ GV T Q (opV e h (.cpy sz x y)) dd ll kk e := GO_op rfl
@[simp] theorem GI_cpy {sz : Nat} {x y : X} : GI T Q base (.op ii ⟨dd, none, .cpy sz x y⟩ :: li) kk e h ↔ GVI T Q (opV e h (.cpy sz x y)) dd base li kk e := GI_op rfl
@[simp] theorem GO_del {ty : Ty} {m k : X} : GO T Q (⟨dd, none, .del ty m k⟩ :: ll) kk e h ↔ GV T Q (opV e h (.del ty m k)) dd ll kk e := GO_op rfl
@[simp] theorem GI_del {ty : Ty} {m k : X} : GI T Q base (.op ii ⟨dd, none, .del ty m k⟩ :: li) kk e h ↔ GVI T Q (opV e h (.del ty m k)) dd base li kk e := GI_op rfl
@[simp] theorem GO_clr {zero : List Value} {x : X} : GO T Q (⟨dd, none, .clr zero x⟩ :: ll) kk e h ↔ GV T Q (opV e h (.clr zero x)) dd ll kk e := GO_op rfl
@[simp] theorem GI_clr {zero : List Value} {x : X} : GI T Q base (.op ii ⟨dd, none, .clr zero x⟩ :: li) kk e h ↔ GVI T Q (opV e h (.clr zero x)) dd base li kk e := GI_op rfl
@[simp] theorem GO_clrm {x : X} : GO T Q (⟨dd, none, .clrm x⟩ :: ll) kk e h ↔ GV T Q (opV e h (.clrm x)) dd ll kk e := GO_op rfl
@[simp] theorem GI_clrm {x : X} : GI T Q base (.op ii ⟨dd, none, .clrm x⟩ :: li) kk e h ↔ GVI T Q (opV e h (.clrm x)) dd base li kk e := GI_op rfl
@[simp] theorem GO_mx {x y : X} : GO T Q (⟨dd, none, .mx x y⟩ :: ll) kk e h ↔ GV T Q (opV e h (.mx x y)) dd ll kk e := GO_op rfl
@[simp] theorem GI_mx {x y : X} : GI T Q base (.op ii ⟨dd, none, .mx x y⟩ :: li) kk e h ↔ GVI T Q (opV e h (.mx x y)) dd base li kk e := GI_op rfl
@[simp] theorem GO_mn {x y : X} : GO T Q (⟨dd, none, .mn x y⟩ :: ll) kk e h ↔ GV T Q (opV e h (.mn x y)) dd ll kk e := GO_op rfl
@[simp] theorem GI_mn {x y : X} : GI T Q base (.op ii ⟨dd, none, .mn x y⟩ :: li) kk e h ↔ GVI T Q (opV e h (.mn x y)) dd base li kk e := GI_op rfl
end
/-- An end where nothing is let go. -/
@[simp] theorem fin_n {res : List RV} {n : Nat} {q : Value → Hp → Prop} {e : Env} {h : Hp} : fin res (some []) n q .n e h ↔ ∃ v, resV e h res = some v ∧ q v h := Iff.rfl
@[simp] theorem fin_r {res : List RV} {n : Nat} {q : Value → Hp → Prop} {e : Env} {h : Hp} : fin res (some []) n q .r e h ↔ ∃ v, resV e h res = some v ∧ q v h := Iff.rfl
@[simp] theorem resV_none {e : Env} {h : Hp} : resV e h [] = some (.tuple #[]) := rfl
@[simp] theorem resV_t {e : Env} {h : Hp} {n : Nat} : resV e h [.t n] = some (e n) := rfl
@[simp] theorem resV_tt {e : Env} {h : Hp} {n m : Nat} : resV e h [.t n, .t m] = some (.tuple #[e n, e m]) := rfl
@[simp] theorem evs_nil {e : Env} : evs e [] = [] := rfl
@[simp] theorem evs_cons {e : Env} {x : X} {l : List X} : evs e (x :: l) = x.ev e :: evs e l := rfl
@[simp] theorem envOf_at {l : List Value} {t : Nat} : envOf l t = (l[t]?).getD undef := rfl
end Go.Dx
