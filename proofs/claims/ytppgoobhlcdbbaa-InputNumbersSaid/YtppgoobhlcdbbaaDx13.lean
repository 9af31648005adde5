/- Regions whose order is left open: what an operation looks at. -/
import Derived.Test.YtppgoobhlcdbbaaDx12
set_option linter.unusedSimpArgs false
set_option linter.unusedVariables false
namespace Go.Dx
open Classical

def X.ts : X → List Nat
  | .t n => [n]
  | _ => []
def xts (l : List X) : List Nat := l.flatMap X.ts
def pts (l : List (Nat × Nat × X)) : List Nat := l.flatMap fun p => p.2.2.ts
def ots : Option X → List Nat
  | some x => x.ts
  | none => []

section
variable {e e' : Env} {h : Hp} {id : Nat}
theorem X.congr {x : X} (hg : ∀ t ∈ x.ts, e t = e' t) : x.ev e = x.ev e' := by
  cases x with
  | t n => exact hg n (by simp [X.ts])
  | c v => rfl
  | f id => rfl
theorem xts_congr {l : List X} (hg : ∀ t ∈ xts l, e t = e' t) : evs e l = evs e' l := by
  refine List.map_congr_left fun x hx => X.congr fun t ht => hg t ?_
  exact List.mem_flatMap.2 ⟨x, hx, ht⟩
theorem pts_congr {l : List (Nat × Nat × X)} (hg : ∀ t ∈ pts l, e t = e' t) : evp e l = evp e' l := by
  refine List.map_congr_left fun x hx => ?_
  rw [X.congr (x := x.2.2) fun t ht => hg t (List.mem_flatMap.2 ⟨x, hx, ht⟩)]
theorem ots_congr {o : Option X} (hg : ∀ t ∈ ots o, e t = e' t) : o.map (·.ev e) = o.map (·.ev e') := by
  cases o with
  | none => rfl
  | some x => simp only [Option.map_some]; rw [X.congr (x := x) hg]
def Op.ts : Op → List Nat
  | .mov x => x.ts
  | .pick c a b => c.ts ++ a.ts ++ b.ts
  | .new _ => []
  | .box x => x.ts
  | .build _ parts => pts parts
  | .bsl _ _ parts => pts parts
  | .ld x => x.ts
  | .ldn _ x => x.ts
  | .st a x => a.ts ++ x.ts
  | .stn _ a x => a.ts ++ x.ts
  | .nilc x => x.ts
  | .bin _ x y => x.ts ++ y.ts
  | .eqb _ x y => x.ts ++ y.ts
  | .eqn _ _ x => x.ts
  | .eqt _ _ x y => x.ts ++ y.ts
  | .un _ x => x.ts
  | .conv _ x => x.ts
  | .b2s x => x.ts
  | .s2b x => x.ts
  | .ms x => x.ts
  | .mkf _ caps => xts caps
  | .mkm => []
  | .mkc _ x => x.ts
  | .mks _ _ l c => l.ts ++ c.ts
  | .sls x lo hi => x.ts ++ ots lo ++ ots hi
  | .sl _ x lo hi mxx => x.ts ++ ots lo ++ ots hi ++ ots mxx
  | .sla _ _ x lo hi mxx => x.ts ++ ots lo ++ ots hi ++ ots mxx
  | .fa _ x => x.ts
  | .fld _ x => x.ts
  | .fldn _ _ x => x.ts
  | .ia _ x i => x.ts ++ i.ts
  | .iaa _ _ x i => x.ts ++ i.ts
  | .ixs x i => x.ts ++ i.ts
  | .ixa _ x i => x.ts ++ i.ts
  | .ixan _ _ x i => x.ts ++ i.ts
  | .look _ _ _ m k => m.ts ++ k.ts
  | .mset _ m k v => m.ts ++ k.ts ++ v.ts
  | .ext x _ => x.ts
  | .len _ x => x.ts
  | .lenk _ => []
  | .app _ _ x y => x.ts ++ y.ts
  | .cpy _ x y => x.ts ++ y.ts
  | .del _ m k => m.ts ++ k.ts
  | .clr _ x => x.ts
  | .clrm x => x.ts
  | .mx x y => x.ts ++ y.ts
  | .mn x y => x.ts ++ y.ts
  | .call _ args => xts args
  | .callv f args => f.ts ++ xts args
theorem opA_congr {op : Op} (hg : ∀ t ∈ op.ts, e t = e' t) : opA id e op = opA id e' op := by
  cases op with
  | mov x =>
    have hx := X.congr (e := e) (e' := e') (x := x) fun t ht => hg t (by simp [Op.ts, ht])
    simp only [opA, hx]
  | pick c a b =>
    have hc := X.congr (e := e) (e' := e') (x := c) fun t ht => hg t (by simp [Op.ts, ht])
    have ha := X.congr (e := e) (e' := e') (x := a) fun t ht => hg t (by simp [Op.ts, ht])
    have hb := X.congr (e := e) (e' := e') (x := b) fun t ht => hg t (by simp [Op.ts, ht])
    simp only [opA, hc, ha, hb]
  | new zero =>
    simp only [opA]
  | box x =>
    have hx := X.congr (e := e) (e' := e') (x := x) fun t ht => hg t (by simp [Op.ts, ht])
    simp only [opA, hx]
  | build zero parts =>
    have hparts := pts_congr (e := e) (e' := e') (l := parts) fun t ht => hg t (by simp [Op.ts, ht])
    simp only [opA, hparts]
  | bsl len zero parts =>
    have hparts := pts_congr (e := e) (e' := e') (l := parts) fun t ht => hg t (by simp [Op.ts, ht])
    simp only [opA, hparts]
  | ld x =>
    have hx := X.congr (e := e) (e' := e') (x := x) fun t ht => hg t (by simp [Op.ts, ht])
    simp only [opA, hx]
  | ldn n x =>
    have hx := X.congr (e := e) (e' := e') (x := x) fun t ht => hg t (by simp [Op.ts, ht])
    simp only [opA, hx]
  | st a x =>
    have ha := X.congr (e := e) (e' := e') (x := a) fun t ht => hg t (by simp [Op.ts, ht])
    have hx := X.congr (e := e) (e' := e') (x := x) fun t ht => hg t (by simp [Op.ts, ht])
    simp only [opA, ha, hx]
  | stn n a x =>
    have ha := X.congr (e := e) (e' := e') (x := a) fun t ht => hg t (by simp [Op.ts, ht])
    have hx := X.congr (e := e) (e' := e') (x := x) fun t ht => hg t (by simp [Op.ts, ht])
    simp only [opA, ha, hx]
  | nilc x =>
    have hx := X.congr (e := e) (e' := e') (x := x) fun t ht => hg t (by simp [Op.ts, ht])
    simp only [opA, hx]
  | bin op x y =>
    have hx := X.congr (e := e) (e' := e') (x := x) fun t ht => hg t (by simp [Op.ts, ht])
    have hy := X.congr (e := e) (e' := e') (x := y) fun t ht => hg t (by simp [Op.ts, ht])
    simp only [opA, hx, hy]
  | eqb neg x y =>
    have hx := X.congr (e := e) (e' := e') (x := x) fun t ht => hg t (by simp [Op.ts, ht])
    have hy := X.congr (e := e) (e' := e') (x := y) fun t ht => hg t (by simp [Op.ts, ht])
    simp only [opA, hx, hy]
  | eqn kd neg x =>
    have hx := X.congr (e := e) (e' := e') (x := x) fun t ht => hg t (by simp [Op.ts, ht])
    simp only [opA, hx]
  | eqt neg ty x y =>
    have hx := X.congr (e := e) (e' := e') (x := x) fun t ht => hg t (by simp [Op.ts, ht])
    have hy := X.congr (e := e) (e' := e') (x := y) fun t ht => hg t (by simp [Op.ts, ht])
    simp only [opA, hx, hy]
  | un op x =>
    have hx := X.congr (e := e) (e' := e') (x := x) fun t ht => hg t (by simp [Op.ts, ht])
    simp only [opA, hx]
  | conv k x =>
    have hx := X.congr (e := e) (e' := e') (x := x) fun t ht => hg t (by simp [Op.ts, ht])
    simp only [opA, hx]
  | b2s x =>
    have hx := X.congr (e := e) (e' := e') (x := x) fun t ht => hg t (by simp [Op.ts, ht])
    simp only [opA, hx]
  | s2b x =>
    have hx := X.congr (e := e) (e' := e') (x := x) fun t ht => hg t (by simp [Op.ts, ht])
    simp only [opA, hx]
  | ms x =>
    have hx := X.congr (e := e) (e' := e') (x := x) fun t ht => hg t (by simp [Op.ts, ht])
    simp only [opA, hx]
  | mkf id caps =>
    have hcaps := xts_congr (e := e) (e' := e') (l := caps) fun t ht => hg t (by simp [Op.ts, ht])
    simp only [opA, hcaps]
  | mkm =>
    simp only [opA]
  | mkc bytes x =>
    have hx := X.congr (e := e) (e' := e') (x := x) fun t ht => hg t (by simp [Op.ts, ht])
    simp only [opA, hx]
  | mks zero bytes l c =>
    have hl := X.congr (e := e) (e' := e') (x := l) fun t ht => hg t (by simp [Op.ts, ht])
    have hc := X.congr (e := e) (e' := e') (x := c) fun t ht => hg t (by simp [Op.ts, ht])
    simp only [opA, hl, hc]
  | sls x lo hi =>
    have hx := X.congr (e := e) (e' := e') (x := x) fun t ht => hg t (by simp [Op.ts, ht])
    have hlo := ots_congr (e := e) (e' := e') (o := lo) fun t ht => hg t (by simp [Op.ts, ht])
    have hhi := ots_congr (e := e) (e' := e') (o := hi) fun t ht => hg t (by simp [Op.ts, ht])
    simp only [opA, hx, hlo, hhi]
  | sl sz x lo hi mxx =>
    have hx := X.congr (e := e) (e' := e') (x := x) fun t ht => hg t (by simp [Op.ts, ht])
    have hlo := ots_congr (e := e) (e' := e') (o := lo) fun t ht => hg t (by simp [Op.ts, ht])
    have hhi := ots_congr (e := e) (e' := e') (o := hi) fun t ht => hg t (by simp [Op.ts, ht])
    have hmxx := ots_congr (e := e) (e' := e') (o := mxx) fun t ht => hg t (by simp [Op.ts, ht])
    simp only [opA, hx, hlo, hhi, hmxx]
  | sla n sz x lo hi mxx =>
    have hx := X.congr (e := e) (e' := e') (x := x) fun t ht => hg t (by simp [Op.ts, ht])
    have hlo := ots_congr (e := e) (e' := e') (o := lo) fun t ht => hg t (by simp [Op.ts, ht])
    have hhi := ots_congr (e := e) (e' := e') (o := hi) fun t ht => hg t (by simp [Op.ts, ht])
    have hmxx := ots_congr (e := e) (e' := e') (o := mxx) fun t ht => hg t (by simp [Op.ts, ht])
    simp only [opA, hx, hlo, hhi, hmxx]
  | fa off x =>
    have hx := X.congr (e := e) (e' := e') (x := x) fun t ht => hg t (by simp [Op.ts, ht])
    simp only [opA, hx]
  | fld off x =>
    have hx := X.congr (e := e) (e' := e') (x := x) fun t ht => hg t (by simp [Op.ts, ht])
    simp only [opA, hx]
  | fldn off n x =>
    have hx := X.congr (e := e) (e' := e') (x := x) fun t ht => hg t (by simp [Op.ts, ht])
    simp only [opA, hx]
  | ia sz x i =>
    have hx := X.congr (e := e) (e' := e') (x := x) fun t ht => hg t (by simp [Op.ts, ht])
    have hi := X.congr (e := e) (e' := e') (x := i) fun t ht => hg t (by simp [Op.ts, ht])
    simp only [opA, hx, hi]
  | iaa n sz x i =>
    have hx := X.congr (e := e) (e' := e') (x := x) fun t ht => hg t (by simp [Op.ts, ht])
    have hi := X.congr (e := e) (e' := e') (x := i) fun t ht => hg t (by simp [Op.ts, ht])
    simp only [opA, hx, hi]
  | ixs x i =>
    have hx := X.congr (e := e) (e' := e') (x := x) fun t ht => hg t (by simp [Op.ts, ht])
    have hi := X.congr (e := e) (e' := e') (x := i) fun t ht => hg t (by simp [Op.ts, ht])
    simp only [opA, hx, hi]
  | ixa n x i =>
    have hx := X.congr (e := e) (e' := e') (x := x) fun t ht => hg t (by simp [Op.ts, ht])
    have hi := X.congr (e := e) (e' := e') (x := i) fun t ht => hg t (by simp [Op.ts, ht])
    simp only [opA, hx, hi]
  | ixan n sz x i =>
    have hx := X.congr (e := e) (e' := e') (x := x) fun t ht => hg t (by simp [Op.ts, ht])
    have hi := X.congr (e := e) (e' := e') (x := i) fun t ht => hg t (by simp [Op.ts, ht])
    simp only [opA, hx, hi]
  | look ty zero ok m k =>
    have hm := X.congr (e := e) (e' := e') (x := m) fun t ht => hg t (by simp [Op.ts, ht])
    have hk := X.congr (e := e) (e' := e') (x := k) fun t ht => hg t (by simp [Op.ts, ht])
    simp only [opA, hm, hk]
  | mset ty m k v =>
    have hm := X.congr (e := e) (e' := e') (x := m) fun t ht => hg t (by simp [Op.ts, ht])
    have hk := X.congr (e := e) (e' := e') (x := k) fun t ht => hg t (by simp [Op.ts, ht])
    have hv := X.congr (e := e) (e' := e') (x := v) fun t ht => hg t (by simp [Op.ts, ht])
    simp only [opA, hm, hk, hv]
  | ext x i =>
    have hx := X.congr (e := e) (e' := e') (x := x) fun t ht => hg t (by simp [Op.ts, ht])
    simp only [opA, hx]
  | len kd x =>
    have hx := X.congr (e := e) (e' := e') (x := x) fun t ht => hg t (by simp [Op.ts, ht])
    simp only [opA, hx]
  | lenk n =>
    simp only [opA]
  | app sz bytes x y =>
    have hx := X.congr (e := e) (e' := e') (x := x) fun t ht => hg t (by simp [Op.ts, ht])
    have hy := X.congr (e := e) (e' := e') (x := y) fun t ht => hg t (by simp [Op.ts, ht])
    simp only [opA, hx, hy]
  | cpy sz x y =>
    have hx := X.congr (e := e) (e' := e') (x := x) fun t ht => hg t (by simp [Op.ts, ht])
    have hy := X.congr (e := e) (e' := e') (x := y) fun t ht => hg t (by simp [Op.ts, ht])
    simp only [opA, hx, hy]
  | del ty m k =>
    have hm := X.congr (e := e) (e' := e') (x := m) fun t ht => hg t (by simp [Op.ts, ht])
    have hk := X.congr (e := e) (e' := e') (x := k) fun t ht => hg t (by simp [Op.ts, ht])
    simp only [opA, hm, hk]
  | clr zero x =>
    have hx := X.congr (e := e) (e' := e') (x := x) fun t ht => hg t (by simp [Op.ts, ht])
    simp only [opA, hx]
  | clrm x =>
    have hx := X.congr (e := e) (e' := e') (x := x) fun t ht => hg t (by simp [Op.ts, ht])
    simp only [opA, hx]
  | mx x y =>
    have hx := X.congr (e := e) (e' := e') (x := x) fun t ht => hg t (by simp [Op.ts, ht])
    have hy := X.congr (e := e) (e' := e') (x := y) fun t ht => hg t (by simp [Op.ts, ht])
    simp only [opA, hx, hy]
  | mn x y =>
    have hx := X.congr (e := e) (e' := e') (x := x) fun t ht => hg t (by simp [Op.ts, ht])
    have hy := X.congr (e := e) (e' := e') (x := y) fun t ht => hg t (by simp [Op.ts, ht])
    simp only [opA, hx, hy]
  | call f args =>
    have hargs := xts_congr (e := e) (e' := e') (l := args) fun t ht => hg t (by simp [Op.ts, ht])
    simp only [opA, hargs]
  | callv f args =>
    have hf := X.congr (e := e) (e' := e') (x := f) fun t ht => hg t (by simp [Op.ts, ht])
    have hargs := xts_congr (e := e) (e' := e') (l := args) fun t ht => hg t (by simp [Op.ts, ht])
    simp only [opA, hf, hargs]
theorem opV_congr {op : Op} (hg : ∀ t ∈ op.ts, e t = e' t) : opV e h op = opV e' h op := by
  cases op with
  | mov x =>
    have hx := X.congr (e := e) (e' := e') (x := x) fun t ht => hg t (by simp [Op.ts, ht])
    simp only [opV, opA, hx]
  | pick c a b =>
    have hc := X.congr (e := e) (e' := e') (x := c) fun t ht => hg t (by simp [Op.ts, ht])
    have ha := X.congr (e := e) (e' := e') (x := a) fun t ht => hg t (by simp [Op.ts, ht])
    have hb := X.congr (e := e) (e' := e') (x := b) fun t ht => hg t (by simp [Op.ts, ht])
    simp only [opV, opA, hc, ha, hb]
  | new zero =>
    simp only [opV, opA]
  | box x =>
    have hx := X.congr (e := e) (e' := e') (x := x) fun t ht => hg t (by simp [Op.ts, ht])
    simp only [opV, opA, hx]
  | build zero parts =>
    have hparts := pts_congr (e := e) (e' := e') (l := parts) fun t ht => hg t (by simp [Op.ts, ht])
    simp only [opV, opA, hparts]
  | bsl len zero parts =>
    have hparts := pts_congr (e := e) (e' := e') (l := parts) fun t ht => hg t (by simp [Op.ts, ht])
    simp only [opV, opA, hparts]
  | ld x =>
    have hx := X.congr (e := e) (e' := e') (x := x) fun t ht => hg t (by simp [Op.ts, ht])
    simp only [opV, opA, hx]
  | ldn n x =>
    have hx := X.congr (e := e) (e' := e') (x := x) fun t ht => hg t (by simp [Op.ts, ht])
    simp only [opV, opA, hx]
  | st a x =>
    have ha := X.congr (e := e) (e' := e') (x := a) fun t ht => hg t (by simp [Op.ts, ht])
    have hx := X.congr (e := e) (e' := e') (x := x) fun t ht => hg t (by simp [Op.ts, ht])
    simp only [opV, opA, ha, hx]
  | stn n a x =>
    have ha := X.congr (e := e) (e' := e') (x := a) fun t ht => hg t (by simp [Op.ts, ht])
    have hx := X.congr (e := e) (e' := e') (x := x) fun t ht => hg t (by simp [Op.ts, ht])
    simp only [opV, opA, ha, hx]
  | nilc x =>
    have hx := X.congr (e := e) (e' := e') (x := x) fun t ht => hg t (by simp [Op.ts, ht])
    simp only [opV, opA, hx]
  | bin op x y =>
    have hx := X.congr (e := e) (e' := e') (x := x) fun t ht => hg t (by simp [Op.ts, ht])
    have hy := X.congr (e := e) (e' := e') (x := y) fun t ht => hg t (by simp [Op.ts, ht])
    simp only [opV, opA, hx, hy]
  | eqb neg x y =>
    have hx := X.congr (e := e) (e' := e') (x := x) fun t ht => hg t (by simp [Op.ts, ht])
    have hy := X.congr (e := e) (e' := e') (x := y) fun t ht => hg t (by simp [Op.ts, ht])
    simp only [opV, opA, hx, hy]
  | eqn kd neg x =>
    have hx := X.congr (e := e) (e' := e') (x := x) fun t ht => hg t (by simp [Op.ts, ht])
    simp only [opV, opA, hx]
  | eqt neg ty x y =>
    have hx := X.congr (e := e) (e' := e') (x := x) fun t ht => hg t (by simp [Op.ts, ht])
    have hy := X.congr (e := e) (e' := e') (x := y) fun t ht => hg t (by simp [Op.ts, ht])
    simp only [opV, opA, hx, hy]
  | un op x =>
    have hx := X.congr (e := e) (e' := e') (x := x) fun t ht => hg t (by simp [Op.ts, ht])
    simp only [opV, opA, hx]
  | conv k x =>
    have hx := X.congr (e := e) (e' := e') (x := x) fun t ht => hg t (by simp [Op.ts, ht])
    simp only [opV, opA, hx]
  | b2s x =>
    have hx := X.congr (e := e) (e' := e') (x := x) fun t ht => hg t (by simp [Op.ts, ht])
    simp only [opV, opA, hx]
  | s2b x =>
    have hx := X.congr (e := e) (e' := e') (x := x) fun t ht => hg t (by simp [Op.ts, ht])
    simp only [opV, opA, hx]
  | ms x =>
    have hx := X.congr (e := e) (e' := e') (x := x) fun t ht => hg t (by simp [Op.ts, ht])
    simp only [opV, opA, hx]
  | mkf id caps =>
    have hcaps := xts_congr (e := e) (e' := e') (l := caps) fun t ht => hg t (by simp [Op.ts, ht])
    simp only [opV, opA, hcaps]
  | mkm =>
    simp only [opV, opA]
  | mkc bytes x =>
    have hx := X.congr (e := e) (e' := e') (x := x) fun t ht => hg t (by simp [Op.ts, ht])
    simp only [opV, opA, hx]
  | mks zero bytes l c =>
    have hl := X.congr (e := e) (e' := e') (x := l) fun t ht => hg t (by simp [Op.ts, ht])
    have hc := X.congr (e := e) (e' := e') (x := c) fun t ht => hg t (by simp [Op.ts, ht])
    simp only [opV, opA, hl, hc]
  | sls x lo hi =>
    have hx := X.congr (e := e) (e' := e') (x := x) fun t ht => hg t (by simp [Op.ts, ht])
    have hlo := ots_congr (e := e) (e' := e') (o := lo) fun t ht => hg t (by simp [Op.ts, ht])
    have hhi := ots_congr (e := e) (e' := e') (o := hi) fun t ht => hg t (by simp [Op.ts, ht])
    simp only [opV, opA, hx, hlo, hhi]
  | sl sz x lo hi mxx =>
    have hx := X.congr (e := e) (e' := e') (x := x) fun t ht => hg t (by simp [Op.ts, ht])
    have hlo := ots_congr (e := e) (e' := e') (o := lo) fun t ht => hg t (by simp [Op.ts, ht])
    have hhi := ots_congr (e := e) (e' := e') (o := hi) fun t ht => hg t (by simp [Op.ts, ht])
    have hmxx := ots_congr (e := e) (e' := e') (o := mxx) fun t ht => hg t (by simp [Op.ts, ht])
    simp only [opV, opA, hx, hlo, hhi, hmxx]
  | sla n sz x lo hi mxx =>
    have hx := X.congr (e := e) (e' := e') (x := x) fun t ht => hg t (by simp [Op.ts, ht])
    have hlo := ots_congr (e := e) (e' := e') (o := lo) fun t ht => hg t (by simp [Op.ts, ht])
    have hhi := ots_congr (e := e) (e' := e') (o := hi) fun t ht => hg t (by simp [Op.ts, ht])
    have hmxx := ots_congr (e := e) (e' := e') (o := mxx) fun t ht => hg t (by simp [Op.ts, ht])
    simp only [opV, opA, hx, hlo, hhi, hmxx]
  | fa off x =>
    have hx := X.congr (e := e) (e' := e') (x := x) fun t ht => hg t (by simp [Op.ts, ht])
    simp only [opV, opA, hx]
  | fld off x =>
    have hx := X.congr (e := e) (e' := e') (x := x) fun t ht => hg t (by simp [Op.ts, ht])
    simp only [opV, opA, hx]
  | fldn off n x =>
    have hx := X.congr (e := e) (e' := e') (x := x) fun t ht => hg t (by simp [Op.ts, ht])
    simp only [opV, opA, hx]
  | ia sz x i =>
    have hx := X.congr (e := e) (e' := e') (x := x) fun t ht => hg t (by simp [Op.ts, ht])
    have hi := X.congr (e := e) (e' := e') (x := i) fun t ht => hg t (by simp [Op.ts, ht])
    simp only [opV, opA, hx, hi]
  | iaa n sz x i =>
    have hx := X.congr (e := e) (e' := e') (x := x) fun t ht => hg t (by simp [Op.ts, ht])
    have hi := X.congr (e := e) (e' := e') (x := i) fun t ht => hg t (by simp [Op.ts, ht])
    simp only [opV, opA, hx, hi]
  | ixs x i =>
    have hx := X.congr (e := e) (e' := e') (x := x) fun t ht => hg t (by simp [Op.ts, ht])
    have hi := X.congr (e := e) (e' := e') (x := i) fun t ht => hg t (by simp [Op.ts, ht])
    simp only [opV, opA, hx, hi]
  | ixa n x i =>
    have hx := X.congr (e := e) (e' := e') (x := x) fun t ht => hg t (by simp [Op.ts, ht])
    have hi := X.congr (e := e) (e' := e') (x := i) fun t ht => hg t (by simp [Op.ts, ht])
    simp only [opV, opA, hx, hi]
  | ixan n sz x i =>
    have hx := X.congr (e := e) (e' := e') (x := x) fun t ht => hg t (by simp [Op.ts, ht])
    have hi := X.congr (e := e) (e' := e') (x := i) fun t ht => hg t (by simp [Op.ts, ht])
    simp only [opV, opA, hx, hi]
  | look ty zero ok m k =>
    have hm := X.congr (e := e) (e' := e') (x := m) fun t ht => hg t (by simp [Op.ts, ht])
    have hk := X.congr (e := e) (e' := e') (x := k) fun t ht => hg t (by simp [Op.ts, ht])
    simp only [opV, opA, hm, hk]
  | mset ty m k v =>
    have hm := X.congr (e := e) (e' := e') (x := m) fun t ht => hg t (by simp [Op.ts, ht])
    have hk := X.congr (e := e) (e' := e') (x := k) fun t ht => hg t (by simp [Op.ts, ht])
    have hv := X.congr (e := e) (e' := e') (x := v) fun t ht => hg t (by simp [Op.ts, ht])
    simp only [opV, opA, hm, hk, hv]
  | ext x i =>
    have hx := X.congr (e := e) (e' := e') (x := x) fun t ht => hg t (by simp [Op.ts, ht])
    simp only [opV, opA, hx]
  | len kd x =>
    have hx := X.congr (e := e) (e' := e') (x := x) fun t ht => hg t (by simp [Op.ts, ht])
    simp only [opV, opA, hx]
  | lenk n =>
    simp only [opV, opA]
  | app sz bytes x y =>
    have hx := X.congr (e := e) (e' := e') (x := x) fun t ht => hg t (by simp [Op.ts, ht])
    have hy := X.congr (e := e) (e' := e') (x := y) fun t ht => hg t (by simp [Op.ts, ht])
    simp only [opV, opA, hx, hy]
  | cpy sz x y =>
    have hx := X.congr (e := e) (e' := e') (x := x) fun t ht => hg t (by simp [Op.ts, ht])
    have hy := X.congr (e := e) (e' := e') (x := y) fun t ht => hg t (by simp [Op.ts, ht])
    simp only [opV, opA, hx, hy]
  | del ty m k =>
    have hm := X.congr (e := e) (e' := e') (x := m) fun t ht => hg t (by simp [Op.ts, ht])
    have hk := X.congr (e := e) (e' := e') (x := k) fun t ht => hg t (by simp [Op.ts, ht])
    simp only [opV, opA, hm, hk]
  | clr zero x =>
    have hx := X.congr (e := e) (e' := e') (x := x) fun t ht => hg t (by simp [Op.ts, ht])
    simp only [opV, opA, hx]
  | clrm x =>
    have hx := X.congr (e := e) (e' := e') (x := x) fun t ht => hg t (by simp [Op.ts, ht])
    simp only [opV, opA, hx]
  | mx x y =>
    have hx := X.congr (e := e) (e' := e') (x := x) fun t ht => hg t (by simp [Op.ts, ht])
    have hy := X.congr (e := e) (e' := e') (x := y) fun t ht => hg t (by simp [Op.ts, ht])
    simp only [opV, opA, hx, hy]
  | mn x y =>
    have hx := X.congr (e := e) (e' := e') (x := x) fun t ht => hg t (by simp [Op.ts, ht])
    have hy := X.congr (e := e) (e' := e') (x := y) fun t ht => hg t (by simp [Op.ts, ht])
    simp only [opV, opA, hx, hy]
  | call f args =>
    have hargs := xts_congr (e := e) (e' := e') (l := args) fun t ht => hg t (by simp [Op.ts, ht])
    simp only [opV, opA, hargs]
  | callv f args =>
    have hf := X.congr (e := e) (e' := e') (x := f) fun t ht => hg t (by simp [Op.ts, ht])
    have hargs := xts_congr (e := e) (e' := e') (l := args) fun t ht => hg t (by simp [Op.ts, ht])
    simp only [opV, opA, hf, hargs]
def gts : Option (Nat × Bool) → List Nat
  | some (t, _) => [t]
  | none => []
theorem gd_congr {g : Option (Nat × Bool)} (hg : ∀ t ∈ gts g, e t = e' t) : gd e g = gd e' g := by
  cases g with
  | none => rfl
  | some p =>
    obtain ⟨t, b⟩ := p
    simp only [gd]
    rw [hg t (by simp [gts])]
theorem act_congr {cl : Nat → Sp} {op : Op} (hg : ∀ t ∈ op.ts, e t = e' t) : act cl e h op = act cl e' h op := by
  unfold act
  split
  · rw [xts_congr (e := e) (e' := e') fun t ht => hg t (by simp [Op.ts, ht])]
  · rename_i x xs
    rw [xts_congr (e := e) (e' := e') (l := xs) fun t ht => hg t (by simp [Op.ts, ht]), X.congr (e := e) (e' := e') (x := x) fun t ht => hg t (by simp [Op.ts, ht])]
  · exact opV_congr hg
/-- A reader's operand that can tell a place is no constant place. -/
def rtame : Op → Bool
  | .ld x | .ldn _ x | .b2s x | .look _ _ _ x _ | .len _ x | .ms x => match x with
    | .c v => ground v
    | _ => true
  | _ => false

theorem ev_vr {φ : Phi} {x : X} (ht : (match x with
    | .c v => ground v
    | _ => true) = true) (he : ∀ t, ∃ u, VR φ (e t) u) : ∃ u, VR φ (x.ev e) u := by
  cases x with
  | t n => exact he n
  | c v => exact ⟨v, VR.ground ht⟩
  | f id => exact ⟨_, VR.funcL (.nil _)⟩

theorem opV_read2 {φ : Phi} {op : Op} {h' : Hp} {v : Value} (h3 : isR op = true) (ht : rtame op = true) (he : ∀ t, ∃ u, VR φ (e t) u) (hv : opV e h op = some (v, h')) :
    ∀ g : Hp, (∀ b o, (φ b).isSome = true → h.get b = some o → g.get b = some o) → opV e g op = some (v, g) := by
  intro g hi
  have cells : ∀ b c, (φ b).isSome = true → h.cells b = some c → g.cells b = some c := fun b c hb hc => by
    obtain ⟨ro, hg⟩ := cells_of hc
    simp [Hp.cells, hi b _ hb hg]
  have hrd : ∀ b o x, (φ b).isSome = true → h.rd b o = some x → g.rd b o = some x := fun b o x hb hx => by
    obtain ⟨c, hc, hx⟩ := Option.bind_eq_some_iff.1 hx
    exact Option.bind_eq_some_iff.2 ⟨c, cells b c hb hc, hx⟩
  have hrdn : ∀ b o n x, (φ b).isSome = true → h.rdn b o n = some x → g.rdn b o n = some x := fun b o n x hb hx => by
    obtain ⟨c, hc, hx⟩ := Option.bind_eq_some_iff.1 hx
    exact Option.bind_eq_some_iff.2 ⟨c, cells b c hb hc, hx⟩
  have hat : ∀ (x : X) p, (∃ u, VR φ (x.ev e) u) → at? (x.ev e) = some p → (φ p.1).isSome = true := fun x p hx hp => by
    obtain ⟨u, hu⟩ := hx
    obtain ⟨b', n, _, hφ, _⟩ := hu.at hp
    rw [hφ]
    rfl
  cases op <;> simp [isR] at h3 <;> simp only [rtame] at ht <;> simp only [opV] at hv ⊢
  case ld x =>
    obtain ⟨p, hp, hv⟩ := Option.bind_eq_some_iff.1 hv
    obtain ⟨u, hu, hh⟩ := Option.map_eq_some_iff.1 hv
    cases hh
    rw [hp]
    simp [hrd _ _ _ (hat x p (ev_vr ht he) hp) hu]
  case ldn n x =>
    obtain ⟨p, hp, hv⟩ := Option.bind_eq_some_iff.1 hv
    obtain ⟨u, hu, hh⟩ := Option.map_eq_some_iff.1 hv
    cases hh
    rw [hp]
    simp [hrdn _ _ _ _ (hat x p (ev_vr ht he) hp) hu]
  case b2s x =>
    obtain ⟨u, hu⟩ := ev_vr ht he
    generalize x.ev e = cv at *
    cases cv <;> first | (cases hv; done) | skip
    rename_i p n c
    cases p with
    | none => exact (someP hv).2 g
    | some p =>
      have hb : (φ p.block).isSome = true := by cases hu <;> simp [*]
      obtain ⟨l, hl, hh⟩ := Option.map_eq_some_iff.1 hv
      cases hh
      obtain ⟨cs, hcs, hm⟩ := Option.bind_eq_some_iff.1 hl
      refine Option.map_eq_some_iff.2 ⟨l, Option.bind_eq_some_iff.2 ⟨cs, ?_, hm⟩, rfl⟩
      split at hcs
      · rename_i h0; rw [if_pos h0]; exact hcs
      · rename_i h0; rw [if_neg h0]; exact hrdn _ _ _ _ hb hcs
  case look t z ok m k =>
    obtain ⟨u, hu⟩ := ev_vr ht he
    generalize m.ev e = mv at *
    cases mv <;> first | (cases hv; done) | skip
    rename_i p
    cases p with
    | none => exact (mapP hv).2 g
    | some r =>
      have hb : (φ r).isSome = true := by cases hu; simp [*]
      cases hg : h.get r with
      | none => simp [hg] at hv
      | some ob =>
        cases ob <;> simp only [hg] at hv <;> first | (cases hv; done) | skip
        rename_i es
        simp only [hi _ _ hb hg]; exact (mapP hv).2 g
  case ms x =>
    obtain ⟨u, hu⟩ := ev_vr ht he
    generalize x.ev e = cv at *
    split at hv
    case h_2 => cases hv
    rename_i b o n c
    have hb : (φ b).isSome = true := by cases hu; simp [*]
    split at hv
    case h_2 => cases hv
    rename_i hg
    simp only [hi _ _ hb hg]; exact (someP hv).2 g
  case len kd x =>
    obtain ⟨u, hu⟩ := ev_vr ht he
    generalize x.ev e = cv at *
    split at hv
    · exact (someP hv).2 g
    · exact (someP hv).2 g
    · exact (someP hv).2 g
    · rename_i r
      have hb : (φ r).isSome = true := by cases hu; simp [*]
      split at hv
      case h_2 => cases hv
      rename_i hg
      simp only [hi _ _ hb hg]; exact (someP hv).2 g
    · rename_i r
      have hb : (φ r).isSome = true := by cases hu; simp [*]
      split at hv
      case h_2 => cases hv
      rename_i hg
      simp only [hi _ _ hb hg]; exact (someP hv).2 g
    · cases hv

def O.ts (o : O) : List Nat := gts o.g ++ o.o.ts
end
end Go.Dx
