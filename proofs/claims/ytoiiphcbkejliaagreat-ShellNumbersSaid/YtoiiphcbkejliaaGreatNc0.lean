/- A text of this claim. -/
import Derived.Test.YtoiiphcbkejliaaGreatNb0
import Derived.Below
set_option linter.unusedSimpArgs false
set_option linter.unusedVariables false
namespace Go.Dx
def Leq (cl cl':Nat→Sp):Prop:=∀ f args h r,cl f args h=some r→cl' f args h=some r
section
variable {cl cl':Nat→Sp} {e e':Env} {h h':Hp}
theorem aHp (hl:Leq cl cl') {op:Op} {r:Value×Hp} (hr:act cl e h op=some r):act cl' e h op=some r:=by
 unfold act at hr ⊢
 split at hr
 ·exact hl _ _ _ _ hr
 ·split at hr
  ·rename_i h0
   split at hr
   ·rename_i h1; simp only[h0,h1,if_true]; exact hl _ _ _ _ hr
   ·cases hr
  ·cases hr
 ·exact hr
theorem aB5 (hl:Leq cl cl') {o:O} {r:Env×Hp} (hr:bF cl o e h=some r):bF cl' o e h=some r:=by
 unfold bF at hr ⊢
 split at hr
 ·cases hr
 ·exact hr
 ·obtain ⟨q,h1,h2⟩:=Option.map_eq_some_iff.1 hr
  rw[aHp hl h1]
  exact congrArg some h2
theorem aAv (hl:Leq cl cl'):∀ {l:List O} {e:Env} {h:Hp} {r:Env×Hp},aBa cl l e h=some r→aBa cl' l e h=some r:=by
 intro l
 induction l with
 | nil=>intro e h r hr; exact hr
 | cons o l ih =>
  intro e h r hr
  obtain ⟨q,h1,h2⟩:=Option.bind_eq_some_iff.1 hr
  exact Option.bind_eq_some_iff.2 ⟨q,aB5 hl h1,ih h2⟩
theorem aBt (hl:Leq cl cl') {base:Nat} {o:It} {r:Env×Hp} (hr:aZ cl base e h o=some r):aZ cl' base e h o=some r:=by
 cases o with
 | op i o=>exact aB5 hl hr
 | al i j o=>exact hr
 | re i o=>exact hr
theorem aAu (hl:Leq cl cl') {base:Nat}:∀ {l:List It} {e:Env} {h:Hp} {r:Env×Hp},aBR cl base l e h=some r→aBR cl' base l e h=some r:=by
 intro l
 induction l with
 | nil=>intro e h r hr; exact hr
 | cons o l ih =>
  intro e h r hr
  obtain ⟨q,h1,h2⟩:=Option.bind_eq_some_iff.1 hr
  exact Option.bind_eq_some_iff.2 ⟨q,aBt hl h1,ih h2⟩
theorem aCf (hl:Leq cl cl') (n:Nat):∀ (c:C) (e:Env) (h:Hp) (r:Ex×Env×Hp),aN cl n c e h=some r→aN cl' (n+1) c e h=some r:=by
 induction n with
 | zero=>intro c e h r hr; simp[aN] at hr
 | succ n ih =>
  intro c e h r hr
  cases c with
  | skip=>simpa only[aN] using hr
  | exit id=>simpa only[aN] using hr
  | ret=>simpa only[aN] using hr
  | ops l =>
   simp only[aN] at hr ⊢
   obtain ⟨q,h1,h2⟩:=Option.map_eq_some_iff.1 hr
   rw[aAv hl h1]
   exact congrArg some h2
  | any k l =>
   simp only[aN] at hr ⊢
   obtain ⟨q,h1,h2⟩:=Option.map_eq_some_iff.1 hr
   rw[aAu hl h1]
   exact congrArg some h2
  | cond c a b =>
   rw[aN] at hr ⊢
   split at hr
   ·rename_i t _
    cases t
    ·simp only[Bool.false_eq_true,if_false] at hr ⊢; exact ih _ _ _ _ hr
    ·simp only[if_true] at hr ⊢; exact ih _ _ _ _ hr
   ·cases hr
  | seq a b =>
   rw[aN] at hr ⊢
   cases hq:aN cl n a e h with
   | none=>rw[hq] at hr; cases hr
   | some q =>
    rw[ih _ _ _ _ hq]
    obtain ⟨x,e1,h1⟩:=q
    rw[hq] at hr
    cases x with
    | n=>exact ih _ _ _ _ hr
    | x id=>exact hr
    | r=>exact hr
  | block id a =>
   rw[aN] at hr ⊢
   cases hq:aN cl n a e h with
   | none=>rw[hq] at hr; cases hr
   | some q =>
    rw[ih _ _ _ _ hq]
    obtain ⟨x,e1,h1⟩:=q
    rw[hq] at hr
    cases x<;>exact hr
  | loop a =>
   rw[aN] at hr ⊢
   cases hq:aN cl n a e h with
   | none=>rw[hq] at hr; cases hr
   | some q =>
    rw[ih _ _ _ _ hq]
    obtain ⟨x,e1,h1⟩:=q
    rw[hq] at hr
    cases x with
    | n=>exact ih _ _ _ _ hr
    | x id=>exact hr
    | r=>exact hr
theorem aEn {T:Nat→Option Fn} (n:Nat):Leq (aW T n) (aW T (n+1)):=by
 induction n with
 | zero=>intro f args h r hr; simp[aW] at hr
 | succ n ih =>
  intro f args h r hr
  cases hf:T f with
  | none=>simp[aW,hf] at hr
  | some x =>
   cases x with
   | spec s=>simp only[aW,hf] at hr ⊢; exact hr
   | code F =>
    rw[aW,hf] at hr ⊢
    simp only[aDt] at hr ⊢
    cases hq:aN (aW T n) n F.body (aBW args) h with
    | none=>rw[hq] at hr; cases hr
    | some q =>
     rw[aCf ih n _ _ _ _ hq]
     rw[hq] at hr
     exact hr
theorem Leq.refl (cl:Nat→Sp):Leq cl cl:=fun _ _ _ _ h=>h
theorem aA9 {T:Nat→Option Fn} {m n:Nat} (hm:m≤n):Leq (aW T m) (aW T n):=by
 induction n with
 | zero=>rw[Nat.le_zero.1 hm]; exact .refl _
 | succ n ih =>
  rcases Nat.lt_or_ge m (n+1) with hl | hl
  ·exact fun f args h r hr=>aEn n f args h r (ih (by omega) f args h r hr)
  ·rw[show m=n+1 by omega]; exact .refl _
theorem aLd (hl:Leq cl cl') (n:Nat):∀ (c:C) (e:Env) (h:Hp) (r:Ex×Env×Hp),aN cl n c e h=some r→aN cl' n c e h=some r:=by
 induction n with
 | zero=>intro c e h r hr; simp[aN] at hr
 | succ n ih =>
  intro c e h r hr
  cases c with
  | skip=>simpa only[aN] using hr
  | exit id=>simpa only[aN] using hr
  | ret=>simpa only[aN] using hr
  | ops l =>
   simp only[aN] at hr ⊢
   obtain ⟨q,h1,h2⟩:=Option.map_eq_some_iff.1 hr
   rw[aAv hl h1]
   exact congrArg some h2
  | any k l =>
   simp only[aN] at hr ⊢
   obtain ⟨q,h1,h2⟩:=Option.map_eq_some_iff.1 hr
   rw[aAu hl h1]
   exact congrArg some h2
  | cond c a b =>
   rw[aN] at hr ⊢
   split at hr
   ·rename_i t _
    cases t
    ·simp only[Bool.false_eq_true,if_false] at hr ⊢; exact ih _ _ _ _ hr
    ·simp only[if_true] at hr ⊢; exact ih _ _ _ _ hr
   ·cases hr
  | seq a b =>
   rw[aN] at hr ⊢
   cases hq:aN cl n a e h with
   | none=>rw[hq] at hr; cases hr
   | some q =>
    rw[ih _ _ _ _ hq]
    obtain ⟨x,e1,h1⟩:=q
    rw[hq] at hr
    cases x with
    | n=>exact ih _ _ _ _ hr
    | x id=>exact hr
    | r=>exact hr
  | block id a =>
   rw[aN] at hr ⊢
   cases hq:aN cl n a e h with
   | none=>rw[hq] at hr; cases hr
   | some q =>
    rw[ih _ _ _ _ hq]
    obtain ⟨x,e1,h1⟩:=q
    rw[hq] at hr
    cases x<;>exact hr
  | loop a =>
   rw[aN] at hr ⊢
   cases hq:aN cl n a e h with
   | none=>rw[hq] at hr; cases hr
   | some q =>
    rw[ih _ _ _ _ hq]
    obtain ⟨x,e1,h1⟩:=q
    rw[hq] at hr
    cases x with
    | n=>exact ih _ _ _ _ hr
    | x id=>exact hr
    | r=>exact hr
theorem aAk {T:Nat→Option Fn} {m m' n n':Nat} (hm:m≤m') (hn:n≤n') {c:C} {e:Env} {h:Hp} {r:Ex×Env×Hp} (hr:aN (aW T m) n c e h=some r):aN (aW T m') n' c e h=some r:=by
 refine aLd (aA9 hm) n' _ _ _ _ ?_
 induction n' with
 | zero=>rw[Nat.le_zero.1 hn] at hr; exact hr
 | succ n' ih =>
  rcases Nat.lt_or_ge n (n'+1) with hl | hl
  ·exact aCf (.refl _) n' _ _ _ _ (ih (by omega))
  ·rw[show n'+1=n by omega]; exact hr
end
section
variable (T:Nat→Option Fn)
def W (c:C) (e:Env) (h:Hp) (Q:Ex→Env→Hp→Prop):Prop:=∃ m n x e' h',aN (aW T m) n c e h=some (x,e',h')∧Q x e' h'
def WO (l:List O) (e:Env) (h:Hp) (Q:Env→Hp→Prop):Prop:=∃ n e' h',aBa (aW T n) l e h=some (e',h')∧Q e' h'
def WI (base:Nat) (l:List It) (e:Env) (h:Hp) (Q:Env→Hp→Prop):Prop:=∃ n e' h',aBR (aW T n) base l e h=some (e',h')∧Q e' h'
def WC (f:Nat) (args:List Value) (h:Hp) (Q:Value→Hp→Prop):Prop:=∃ n v h',aW T n f args h=some (v,h')∧Q v h'
end
def Ex.go (Q:Ex→Env→Hp→Prop) (K:Env→Hp→Prop):Ex→Env→Hp→Prop
 | .n,e,h=>K e h
 | .x i,e,h=>Q (.x i) e h
 | .r,e,h=>Q .r e h
def Ex.out (id:Nat) (Q:Ex→Env→Hp→Prop):Ex→Env→Hp→Prop
 | .x j,e,h=>if j=id then Q .n e h else Q (.x j) e h
 | .n,e,h=>Q .n e h
 | .r,e,h=>Q .r e h
def isC:Op→Bool
 | .call .. | .bC .. => true
 | _=>false
section
variable {T:Nat→Option Fn} {e:Env} {h:Hp} {Q:Ex→Env→Hp→Prop} {K:Env→Hp→Prop}
theorem W.mono {c:C} {Q':Ex→Env→Hp→Prop} (hw:W T c e h Q) (hq:∀ x e h,Q x e h→Q' x e h):W T c e h Q' :=
 let ⟨m,n,x,e',h',h1,h2⟩:=hw; ⟨m,n,x,e',h',h1,hq _ _ _ h2⟩
theorem WO.mono {l:List O} {K':Env→Hp→Prop} (hw:WO T l e h K) (hq:∀ e h,K e h→K' e h):WO T l e h K' :=
 let ⟨n,e',h',h1,h2⟩:=hw; ⟨n,e',h',h1,hq _ _ h2⟩
theorem WC.mono {f:Nat} {args:List Value} {q q':Value→Hp→Prop} (hw:WC T f args h q) (hq:∀ v h,q v h→q' v h):WC T f args h q' :=
 let ⟨n,e',h',h1,h2⟩:=hw; ⟨n,e',h',h1,hq _ _ h2⟩
theorem aJj:W T .skip e h Q↔Q .n e h:=⟨fun ⟨m,n,x,e',h',h1,h2⟩=>by cases n<;>simp[aN] at h1; obtain ⟨rfl,rfl,rfl⟩:=h1; exact h2,fun hq=>⟨1,1,_,_,_,rfl,hq⟩⟩
theorem aO2:W T .ret e h Q↔Q .r e h:=⟨fun ⟨m,n,x,e',h',h1,h2⟩=>by cases n<;>simp[aN] at h1; obtain ⟨rfl,rfl,rfl⟩:=h1; exact h2,fun hq=>⟨1,1,_,_,_,rfl,hq⟩⟩
theorem aKP {id:Nat}:W T (.exit id) e h Q↔Q (.x id) e h:=⟨fun ⟨m,n,x,e',h',h1,h2⟩=>by cases n<;>simp[aN] at h1; obtain ⟨rfl,rfl,rfl⟩:=h1; exact h2,fun hq=>⟨1,1,_,_,_,rfl,hq⟩⟩
theorem aOh {l:List O}:W T (.ops l) e h Q↔WO T l e h (Q .n):=by
 constructor
 ·rintro ⟨m,n,x,e',h',h1,h2⟩
  cases n with
  | zero=>simp[aN] at h1
  | succ n =>
   simp only[aN] at h1
   obtain ⟨q,h3,h4⟩:=Option.map_eq_some_iff.1 h1
   cases h4
   exact ⟨m,_,_,h3,h2⟩
 ·rintro ⟨m,e',h',h1,h2⟩
  refine ⟨m,1,_,_,_,?_,h2⟩
  simp only[aN,h1]
  rfl
theorem aOk {k:Nat} {l:List It}:W T (.any k l) e h Q↔WI T h.next l e (h.adv k) (Q .n):=by
 constructor
 ·rintro ⟨m,n,x,e',h',h1,h2⟩
  cases n with
  | zero=>simp[aN] at h1
  | succ n =>
   simp only[aN] at h1
   obtain ⟨q,h3,h4⟩:=Option.map_eq_some_iff.1 h1
   cases h4
   exact ⟨m,_,_,h3,h2⟩
 ·rintro ⟨m,e',h',h1,h2⟩
  refine ⟨m,1,_,_,_,?_,h2⟩
  simp only[aN,h1]
  rfl
theorem aOM {a b:C}:W T (.seq a b) e h Q↔W T a e h (Ex.go Q fun e h=>W T b e h Q):=by
 constructor
 ·rintro ⟨m,n,x,e',h',h1,h2⟩
  cases n with
  | zero=>simp[aN] at h1
  | succ n =>
   rw[aN] at h1
   cases hq:aN (aW T m) n a e h with
   | none=>rw[hq] at h1; cases h1
   | some q =>
    obtain ⟨y,e1,h3⟩:=q
    rw[hq] at h1
    cases y with
    | n=>exact ⟨m,n,_,_,_,hq,m,n,x,e',h',h1,h2⟩
    | x id=>cases h1; exact ⟨m,n,_,_,_,hq,h2⟩
    | r=>cases h1; exact ⟨m,n,_,_,_,hq,h2⟩
 ·rintro ⟨m,n,x,e',h',h1,h2⟩
  cases x with
  | n =>
   obtain ⟨m',n',y,e1,h3,h4,h5⟩:=h2
   refine ⟨max m m',max n n'+1,y,e1,h3,?_,h5⟩
   rw[aN,aAk (Nat.le_max_left m m') (Nat.le_max_left n n') h1]
   exact aAk (Nat.le_max_right m m') (Nat.le_max_right n n') h4
  | x id=>exact ⟨m,n+1,_,_,_,by rw[aN,h1],h2⟩
  | r=>exact ⟨m,n+1,_,_,_,by rw[aN,h1],h2⟩
theorem aJw {c:X} {a b:C} {t:Bool} (hc:c.ev e = .bool t):W T (.cond c a b) e h Q↔if t then W T a e h Q else W T b e h Q:=by
 constructor
 ·rintro ⟨m,n,x,e',h',h1,h2⟩
  cases n with
  | zero=>simp[aN] at h1
  | succ n =>
   rw[aN,hc] at h1
   cases t
   ·exact ⟨m,n,_,_,_,h1,h2⟩
   ·exact ⟨m,n,_,_,_,h1,h2⟩
 ·intro hw
  cases t
  ·obtain ⟨m,n,x,e',h',h1,h2⟩:=hw
   exact ⟨m,n+1,_,_,_,by rw[aN,hc]; exact h1,h2⟩
  ·obtain ⟨m,n,x,e',h',h1,h2⟩:=hw
   exact ⟨m,n+1,_,_,_,by rw[aN,hc]; exact h1,h2⟩
theorem aHF {id:Nat} {a:C}:W T (.block id a) e h Q↔W T a e h (Ex.out id Q):=by
 constructor
 ·rintro ⟨m,n,x,e',h',h1,h2⟩
  cases n with
  | zero=>simp[aN] at h1
  | succ n =>
   rw[aN] at h1
   cases hq:aN (aW T m) n a e h with
   | none=>rw[hq] at h1; cases h1
   | some q =>
    obtain ⟨y,e1,h3⟩:=q
    rw[hq] at h1
    refine ⟨m,n,y,e1,h3,hq,?_⟩
    cases y with
    | n=>cases h1; exact h2
    | r=>cases h1; exact h2
    | x j =>
     simp only[] at h1
     simp only[Ex.out]
     split at h1
     ·rename_i hj; cases h1; rw[if_pos hj]; exact h2
     ·rename_i hj; cases h1; rw[if_neg hj]; exact h2
 ·rintro ⟨m,n,x,e',h',h1,h2⟩
  cases x with
  | n=>exact ⟨m,n+1,.n,e',h',by rw[aN,h1],h2⟩
  | r=>exact ⟨m,n+1,.r,e',h',by rw[aN,h1],h2⟩
  | x j =>
   simp only[Ex.out] at h2
   split at h2
   ·rename_i hj; exact ⟨m,n+1,.n,e',h',by rw[aN,h1]; simp[hj],h2⟩
   ·rename_i hj; exact ⟨m,n+1,.x j,e',h',by rw[aN,h1]; simp[hj],h2⟩
theorem aJb {a:C}:W T (.loop a) e h Q↔W T a e h (Ex.go Q fun e h=>W T (.loop a) e h Q):=by
 constructor
 ·rintro ⟨m,n,x,e',h',h1,h2⟩
  cases n with
  | zero=>simp[aN] at h1
  | succ n =>
   rw[aN] at h1
   cases hq:aN (aW T m) n a e h with
   | none=>rw[hq] at h1; cases h1
   | some q =>
    obtain ⟨y,e1,h3⟩:=q
    rw[hq] at h1
    cases y with
    | n=>exact ⟨m,n,_,_,_,hq,m,n,x,e',h',h1,h2⟩
    | x id=>cases h1; exact ⟨m,n,_,_,_,hq,h2⟩
    | r=>cases h1; exact ⟨m,n,_,_,_,hq,h2⟩
 ·rintro ⟨m,n,x,e',h',h1,h2⟩
  cases x with
  | n =>
   obtain ⟨m',n',y,e1,h3,h4,h5⟩:=h2
   refine ⟨max m m',max n n'+1,y,e1,h3,?_,h5⟩
   rw[aN,aAk (Nat.le_max_left m m') (Nat.le_max_left n n') h1]
   exact aAk (Nat.le_max_right m m') (Nat.le_max_right n n') h4
  | x id=>exact ⟨m,n+1,_,_,_,by rw[aN,h1],h2⟩
  | r=>exact ⟨m,n+1,_,_,_,by rw[aN,h1],h2⟩
theorem aAQ:WO T [] e h K↔K e h:=⟨fun ⟨n,e',h',h1,h2⟩=>by cases h1; exact h2,fun hk=>⟨0,_,_,rfl,hk⟩⟩
theorem aAP {o:O} {l:List O}:WO T (o::l) e h K↔∃ n e' h',bF (aW T n) o e h=some (e',h')∧WO T l e' h' K:=by
 constructor
 ·rintro ⟨n,e',h',h1,h2⟩
  obtain ⟨q,h3,h4⟩:=Option.bind_eq_some_iff.1 h1
  exact ⟨n,_,_,h3,n,e',h',h4,h2⟩
 ·rintro ⟨n,e1,h1,h3,m,e',h',h4,h5⟩
  exact ⟨max n m,e',h',Option.bind_eq_some_iff.2 ⟨(e1,h1),aB5 (aA9 (Nat.le_max_left _ _)) h3,aAv (aA9 (Nat.le_max_right _ _)) h4⟩,h5⟩
theorem aHd {d:Option Nat} {op:Op} {l:List O} (hop:isC op=false):WO T (⟨d,none,op⟩::l) e h K↔∃ v h',opV e h op=some (v,h')∧WO T l (put e d v) h' K:=by
 have hact:∀ cl,act cl e h op=opV e h op:=fun cl=>by cases op<;>first | rfl | (simp[isC] at hop)
 rw[aAP]
 constructor
 ·rintro ⟨n,e',h',h1,h2⟩
  simp only[bF,gd,hact] at h1
  obtain ⟨r,h3,h4⟩:=Option.map_eq_some_iff.1 h1
  cases h4
  exact ⟨_,_,h3,h2⟩
 ·rintro ⟨v,h',h1,h2⟩
  exact ⟨0,_,_,by simp only[bF,gd,hact,h1,Option.map_some],h2⟩
theorem aN9 {d:Option Nat} {t:Nat} {want b:Bool} {op:Op} {l:List O} (ht:e t = .bool b) :
  WO T (⟨d,some (t,want),op⟩::l) e h K↔if b=want then WO T (⟨d,none,op⟩::l) e h K else WO T l (put e d undef) h K:=by
 rw[aAP,aAP]
 simp only[bF,gd,ht]
 cases b<;>cases want<;>simp
 ·exact ⟨fun ⟨_,_,⟨h1,h2⟩,h3⟩=>by subst h1 h2; exact h3,fun hk=>⟨_,_,⟨rfl,rfl⟩,hk⟩⟩
 ·exact ⟨fun ⟨_,_,⟨h1,h2⟩,h3⟩=>by subst h1 h2; exact h3,fun hk=>⟨_,_,⟨rfl,rfl⟩,hk⟩⟩
theorem aDE {d:Option Nat} {f:Nat} {xs:List X} {l:List O}:WO T (⟨d,none,.call f xs⟩::l) e h K↔WC T f (evs e xs) h fun v h=>WO T l (put e d v) h K:=by
 rw[aAP]
 constructor
 ·rintro ⟨n,e',h',h1,h2⟩
  simp only[bF,gd,act] at h1
  obtain ⟨r,h3,h4⟩:=Option.map_eq_some_iff.1 h1
  cases h4
  exact ⟨n,_,_,h3,h2⟩
 ·rintro ⟨n,v,h',h1,h2⟩
  exact ⟨n,_,_,by simp only[bF,gd,act,h1,Option.map_some],h2⟩
theorem aHD {f:Nat} {F:F} {args:List Value} {q:Value→Hp→Prop} (hf:T f=some (.code F)):WC T f args h q↔W T F.body (aBW args) h fun x e h'=>match x with
  | .x _=>False
  | _=>∃ v,resV e h' F.res=some v∧q v (aCZ h.next e h' F.drop):=by
 constructor
 ·rintro ⟨n,v,h',h1,h2⟩
  cases n with
  | zero=>simp[aW] at h1
  | succ n =>
   rw[aW,hf] at h1
   simp only[aDt] at h1
   split at h1
   ·rename_i hrun
    obtain ⟨u,h3,h4⟩:=Option.map_eq_some_iff.1 h1
    cases h4
    exact ⟨n,n,_,_,_,hrun,_,h3,h2⟩
   ·rename_i hrun
    obtain ⟨u,h3,h4⟩:=Option.map_eq_some_iff.1 h1
    cases h4
    exact ⟨n,n,_,_,_,hrun,_,h3,h2⟩
   ·cases h1
 ·rintro ⟨m,n,x,e',h',h1,h2⟩
  have h3:=aAk (Nat.le_max_left m n) (Nat.le_max_right m n) h1
  cases x with
  | x id=>exact h2.elim
  | n=>obtain ⟨v,h4,h5⟩:=h2; exact ⟨max m n+1,_,_,by rw[aW,hf]; simp only[aDt,h3,h4,Option.map_some],h5⟩
  | r=>obtain ⟨v,h4,h5⟩:=h2; exact ⟨max m n+1,_,_,by rw[aW,hf]; simp only[aDt,h3,h4,Option.map_some],h5⟩
end
open Go
def cvt (k:IntKind):Value→Option Value
 | .int _ n=>some (.int k (k.wrap n))
 | _=>none
theorem aBy {e:Env} {h:Hp} {k:IntKind} {x:X}:opV e h (.conv k x)=(cvt k (x.ev e)).map fun v=>(v,h):=by
 simp only[opV,cvt]
 generalize x.ev e=v
 cases v<;>rfl
def u8 (x:BitVec 8):Value := .int .u8 (x.toNat:Int)
theorem wrap_u8 (n:Int):IntKind.wrap .u8 n=((BitVec.ofInt 8 n).toNat:Int):=by
 have h:(0:Int)≤n%256:=Int.emod_nonneg _ (by decide)
 simp only[IntKind.wrap,IntKind.signed,IntKind.bits,Bool.false_and,Bool.false_eq_true,if_false,BitVec.toNat_ofInt]
 norm_cast
 omega
theorem aC5 (n:Int):Value.int .u8 (IntKind.wrap .u8 n)=u8 (BitVec.ofInt 8 n):=by rw[wrap_u8]; rfl
theorem aKJ (n:Nat) (h:n<256):Value.int .u8 (n:Int)=u8 (BitVec.ofNat 8 n):=by
 unfold u8
 rw[BitVec.toNat_ofNat,Nat.mod_eq_of_lt h]
theorem aOc (x y:BitVec 8):aG .add (u8 x) (u8 y)=some (u8 (x+y)):=by
 have h:BitVec.ofInt 8 ((x.toNat:Int)+y.toNat)=x+y:=by
  apply BitVec.eq_of_toNat_eq
  have h1:=x.isLt
  have h2:=y.isLt
  simp only[BitVec.toNat_ofInt,BitVec.toNat_add]
  omega
 simp only[aG,u8,aS,wrap_u8,h,if_true]
theorem aNu (x y:BitVec 8):aG .sub (u8 x) (u8 y)=some (u8 (x-y)):=by
 have h:BitVec.ofInt 8 ((x.toNat:Int)-y.toNat)=x-y:=by
  apply BitVec.eq_of_toNat_eq
  have h1:=x.isLt
  have h2:=y.isLt
  simp only[BitVec.toNat_ofInt,BitVec.toNat_sub]
  omega
 simp only[aG,u8,aS,wrap_u8,h,if_true]
theorem aOG (x y:BitVec 8):aG .mul (u8 x) (u8 y)=some (u8 (x*y)):=by
 have h:BitVec.ofInt 8 ((x.toNat:Int)*y.toNat)=x*y:=by
  rw[← Int.natCast_mul,BitVec.ofInt_natCast]
  apply BitVec.eq_of_toNat_eq
  simp[BitVec.toNat_mul]
 simp only[aG,u8,aS,wrap_u8,h,if_true]
theorem aOQ (x y:BitVec 8):aG .and (u8 x) (u8 y)=some (u8 (x&&&y)):=by
 simp only[aG,u8,aS,wrap_u8,IntKind.bits,BitVec.ofInt_natCast,BitVec.ofNat_toNat,BitVec.setWidth_eq,if_true]
 rfl
theorem aRR (x y:BitVec 8):aG .or (u8 x) (u8 y)=some (u8 (x|||y)):=by
 simp only[aG,u8,aS,wrap_u8,IntKind.bits,BitVec.ofInt_natCast,BitVec.ofNat_toNat,BitVec.setWidth_eq,if_true]
 rfl
theorem aOR (x y:BitVec 8):aG .xor (u8 x) (u8 y)=some (u8 (x^^^y)):=by
 simp only[aG,u8,aS,wrap_u8,IntKind.bits,BitVec.ofInt_natCast,BitVec.ofNat_toNat,BitVec.setWidth_eq,if_true]
 rfl
theorem aGf (x y:BitVec 8):aG .andNot (u8 x) (u8 y)=some (u8 (x &&& ~~~ y)):=by
 simp only[aG,u8,aS,wrap_u8,IntKind.bits,BitVec.ofInt_natCast,BitVec.ofNat_toNat,BitVec.setWidth_eq,if_true]
 rfl
theorem aOn (x y:BitVec 8) (h:y≠0):aG .quo (u8 x) (u8 y)=some (u8 (x / y)):=by
 have hy:¬ ((y.toNat:Int)=0):=fun hh=>h (BitVec.eq_of_toNat_eq (by simpa using hh))
 have:BitVec.ofInt 8 ((x.toNat:Int).tdiv y.toNat)=x / y:=by
  apply BitVec.eq_of_toNat_eq
  have h1:x.toNat / y.toNat<256:=Nat.lt_of_le_of_lt (Nat.div_le_self _ _) x.isLt
  rw[← Int.ofNat_tdiv,BitVec.ofInt_natCast,BitVec.toNat_ofNat,BitVec.toNat_udiv,Nat.mod_eq_of_lt h1]
 simp only[aG,u8,aS,wrap_u8,this,if_true,hy,if_false]
theorem aNd (x y:BitVec 8) (h:y≠0):aG .rem (u8 x) (u8 y)=some (u8 (x%y)):=by
 have hy:¬ ((y.toNat:Int)=0):=fun hh=>h (BitVec.eq_of_toNat_eq (by simpa using hh))
 have:(x.toNat:Int).tmod y.toNat=((x%y).toNat:Int):=by
  rw[← Int.ofNat_tmod,BitVec.toNat_umod]
 simp only[aG,u8,aS,this,if_true,hy,if_false]
theorem aOd (x y:BitVec 8):aG .eql (u8 x) (u8 y)=some (.bool (x == y)):=by
 have:((x.toNat:Int) == (y.toNat:Int))=(x == y):=by
  rw[Bool.eq_iff_iff]
  simp only[beq_iff_eq]
  exact ⟨fun h=>BitVec.eq_of_toNat_eq (by omega),fun h=>by rw[h]⟩
 simp only[aG,u8,aS,this,if_true]
theorem aNp (x y:BitVec 8):aG .neq (u8 x) (u8 y)=some (.bool (x != y)):=by
 have:((x.toNat:Int) == (y.toNat:Int))=(x == y):=by
  rw[Bool.eq_iff_iff]
  simp only[beq_iff_eq]
  exact ⟨fun h=>BitVec.eq_of_toNat_eq (by omega),fun h=>by rw[h]⟩
 simp only[aG,u8,aS,bne,this,if_true]
theorem aPA (x y:BitVec 8):aG .lss (u8 x) (u8 y)=some (.bool (decide (x<y))):=by
 simp only[aG,u8,aS,if_true,BitVec.lt_def,Int.ofNat_lt]
theorem aOp (x y:BitVec 8):aG .leq (u8 x) (u8 y)=some (.bool (decide (x≤y))):=by
 simp only[aG,u8,aS,if_true,BitVec.le_def,Int.ofNat_le]
theorem aOf (x y:BitVec 8):aG .gtr (u8 x) (u8 y)=some (.bool (decide (y<x))):=by
 simp only[aG,u8,aS,if_true,BitVec.lt_def,gt_iff_lt,Int.ofNat_lt]
theorem aN0 (x y:BitVec 8):aG .geq (u8 x) (u8 y)=some (.bool (decide (y≤x))):=by
 simp only[aG,u8,aS,if_true,BitVec.le_def,ge_iff_le,Int.ofNat_le]
theorem aBZ (x:BitVec 8) (k:IntKind) (n:Nat):aG .shl (u8 x) (.int k (n:Int))=some (u8 (x<<<n)):=by
 have hn:¬ ((n:Int)<0):=by omega
 have:BitVec.ofInt 8 ((x.toNat:Int)*2^(min n 8))=x<<<n:=by
  apply BitVec.eq_of_toNat_eq
  have e:((x.toNat:Int)*2^(min n 8))=((x.toNat*2^(min n 8):Nat):Int):=by simp
  rw[e,BitVec.ofInt_natCast,BitVec.toNat_ofNat,BitVec.toNat_shiftLeft,Nat.shiftLeft_eq]
  rcases Nat.le_total n 8 with hh | hh
  ·rw[Nat.min_eq_left hh]
  ·rw[Nat.min_eq_right hh,show n=8+(n-8) by omega,Nat.pow_add]
   rw[Nat.mul_mod_left,← Nat.mul_assoc,Nat.mul_right_comm,Nat.mul_mod_left]
 simp only[aG,u8,aAW,hn,if_false,wrap_u8,IntKind.bits,Int.toNat_natCast,this]
theorem aB0 (x:BitVec 8) (k:IntKind) (n:Nat):aG .shr (u8 x) (.int k (n:Int))=some (u8 (x>>>n)):=by
 have hn:¬ ((n:Int)<0):=by omega
 have:(x.toNat:Int).fdiv (2^(min n 8))=((x>>>n).toNat:Int):=by
  have e:(x.toNat:Int).fdiv (2^(min n 8))=((x.toNat / 2^(min n 8):Nat):Int):=by
   rw[Int.fdiv_eq_ediv_of_nonneg _ (by exact_mod_cast Nat.zero_le _)]
   norm_cast
  rw[e,BitVec.toNat_ushiftRight,Nat.shiftRight_eq_div_pow]
  rcases Nat.le_total n 8 with hh | hh
  ·rw[Nat.min_eq_left hh]
  ·rw[Nat.min_eq_right hh,Nat.div_eq_of_lt x.isLt,Nat.div_eq_of_lt (Nat.lt_of_lt_of_le x.isLt (Nat.pow_le_pow_right (by decide) hh))]
 simp only[aG,u8,aAW,hn,if_false,IntKind.bits,Int.toNat_natCast,this]
theorem aOT (x:BitVec 8):unV .xor (u8 x)=some (u8 (~~~ x)):=by
 simp only[unV,u8,IntKind.signed,Bool.false_eq_true,if_false,IntKind.max,IntKind.bits,BitVec.ofInt_natCast,BitVec.ofNat_toNat,BitVec.setWidth_eq,wrap_u8]
 have h:BitVec.ofInt 8 (2^8-1)=BitVec.allOnes 8:=by decide
 rw[h]
 have g:(BitVec.allOnes 8^^^x) = ~~~ x:=by rw[BitVec.xor_comm,BitVec.xor_allOnes]
 exact congrArg (fun y:BitVec 8=>some (Value.int .u8 (y.toNat:Int))) g
def u16 (x:BitVec 16):Value := .int .u16 (x.toNat:Int)
theorem wrap_u16 (n:Int):IntKind.wrap .u16 n=((BitVec.ofInt 16 n).toNat:Int):=by
 have h:(0:Int)≤n%65536:=Int.emod_nonneg _ (by decide)
 simp only[IntKind.wrap,IntKind.signed,IntKind.bits,Bool.false_and,Bool.false_eq_true,if_false,BitVec.toNat_ofInt]
 norm_cast
 omega
theorem aBf (n:Int):Value.int .u16 (IntKind.wrap .u16 n)=u16 (BitVec.ofInt 16 n):=by rw[wrap_u16]; rfl
theorem aM5 (n:Nat) (h:n<65536):Value.int .u16 (n:Int)=u16 (BitVec.ofNat 16 n):=by
 unfold u16
 rw[BitVec.toNat_ofNat,Nat.mod_eq_of_lt h]
theorem aK8 (x y:BitVec 16):aG .add (u16 x) (u16 y)=some (u16 (x+y)):=by
 have h:BitVec.ofInt 16 ((x.toNat:Int)+y.toNat)=x+y:=by
  apply BitVec.eq_of_toNat_eq
  have h1:=x.isLt
  have h2:=y.isLt
  simp only[BitVec.toNat_ofInt,BitVec.toNat_add]
  omega
 simp only[aG,u16,aS,wrap_u16,h,if_true]
theorem aLC (x y:BitVec 16):aG .sub (u16 x) (u16 y)=some (u16 (x-y)):=by
 have h:BitVec.ofInt 16 ((x.toNat:Int)-y.toNat)=x-y:=by
  apply BitVec.eq_of_toNat_eq
  have h1:=x.isLt
  have h2:=y.isLt
  simp only[BitVec.toNat_ofInt,BitVec.toNat_sub]
  omega
 simp only[aG,u16,aS,wrap_u16,h,if_true]
theorem aLf (x y:BitVec 16):aG .mul (u16 x) (u16 y)=some (u16 (x*y)):=by
 have h:BitVec.ofInt 16 ((x.toNat:Int)*y.toNat)=x*y:=by
  rw[← Int.natCast_mul,BitVec.ofInt_natCast]
  apply BitVec.eq_of_toNat_eq
  simp[BitVec.toNat_mul]
 simp only[aG,u16,aS,wrap_u16,h,if_true]
theorem aKu (x y:BitVec 16):aG .and (u16 x) (u16 y)=some (u16 (x&&&y)):=by
 simp only[aG,u16,aS,wrap_u16,IntKind.bits,BitVec.ofInt_natCast,BitVec.ofNat_toNat,BitVec.setWidth_eq,if_true]
 rfl
theorem aNm (x y:BitVec 16):aG .or (u16 x) (u16 y)=some (u16 (x|||y)):=by
 simp only[aG,u16,aS,wrap_u16,IntKind.bits,BitVec.ofInt_natCast,BitVec.ofNat_toNat,BitVec.setWidth_eq,if_true]
 rfl
theorem aLU (x y:BitVec 16):aG .xor (u16 x) (u16 y)=some (u16 (x^^^y)):=by
 simp only[aG,u16,aS,wrap_u16,IntKind.bits,BitVec.ofInt_natCast,BitVec.ofNat_toNat,BitVec.setWidth_eq,if_true]
 rfl
theorem aEj (x y:BitVec 16):aG .andNot (u16 x) (u16 y)=some (u16 (x &&& ~~~ y)):=by
 simp only[aG,u16,aS,wrap_u16,IntKind.bits,BitVec.ofInt_natCast,BitVec.ofNat_toNat,BitVec.setWidth_eq,if_true]
 rfl
theorem aLH (x y:BitVec 16) (h:y≠0):aG .quo (u16 x) (u16 y)=some (u16 (x / y)):=by
 have hy:¬ ((y.toNat:Int)=0):=fun hh=>h (BitVec.eq_of_toNat_eq (by simpa using hh))
 have:BitVec.ofInt 16 ((x.toNat:Int).tdiv y.toNat)=x / y:=by
  apply BitVec.eq_of_toNat_eq
  have h1:x.toNat / y.toNat<65536:=Nat.lt_of_le_of_lt (Nat.div_le_self _ _) x.isLt
  rw[← Int.ofNat_tdiv,BitVec.ofInt_natCast,BitVec.toNat_ofNat,BitVec.toNat_udiv,Nat.mod_eq_of_lt h1]
 simp only[aG,u16,aS,wrap_u16,this,if_true,hy,if_false]
theorem aLa (x y:BitVec 16) (h:y≠0):aG .rem (u16 x) (u16 y)=some (u16 (x%y)):=by
 have hy:¬ ((y.toNat:Int)=0):=fun hh=>h (BitVec.eq_of_toNat_eq (by simpa using hh))
 have:(x.toNat:Int).tmod y.toNat=((x%y).toNat:Int):=by
  rw[← Int.ofNat_tmod,BitVec.toNat_umod]
 simp only[aG,u16,aS,this,if_true,hy,if_false]
theorem aL8 (x y:BitVec 16):aG .eql (u16 x) (u16 y)=some (.bool (x == y)):=by
 have:((x.toNat:Int) == (y.toNat:Int))=(x == y):=by
  rw[Bool.eq_iff_iff]
  simp only[beq_iff_eq]
  exact ⟨fun h=>BitVec.eq_of_toNat_eq (by omega),fun h=>by rw[h]⟩
 simp only[aG,u16,aS,this,if_true]
theorem aM8 (x y:BitVec 16):aG .neq (u16 x) (u16 y)=some (.bool (x != y)):=by
 have:((x.toNat:Int) == (y.toNat:Int))=(x == y):=by
  rw[Bool.eq_iff_iff]
  simp only[beq_iff_eq]
  exact ⟨fun h=>BitVec.eq_of_toNat_eq (by omega),fun h=>by rw[h]⟩
 simp only[aG,u16,aS,bne,this,if_true]
theorem aLX (x y:BitVec 16):aG .lss (u16 x) (u16 y)=some (.bool (decide (x<y))):=by
 simp only[aG,u16,aS,if_true,BitVec.lt_def,Int.ofNat_lt]
theorem aMd (x y:BitVec 16):aG .leq (u16 x) (u16 y)=some (.bool (decide (x≤y))):=by
 simp only[aG,u16,aS,if_true,BitVec.le_def,Int.ofNat_le]
theorem aK4 (x y:BitVec 16):aG .gtr (u16 x) (u16 y)=some (.bool (decide (y<x))):=by
 simp only[aG,u16,aS,if_true,BitVec.lt_def,gt_iff_lt,Int.ofNat_lt]
theorem aLJ (x y:BitVec 16):aG .geq (u16 x) (u16 y)=some (.bool (decide (y≤x))):=by
 simp only[aG,u16,aS,if_true,BitVec.le_def,ge_iff_le,Int.ofNat_le]
theorem aBB (x:BitVec 16) (k:IntKind) (n:Nat):aG .shl (u16 x) (.int k (n:Int))=some (u16 (x<<<n)):=by
 have hn:¬ ((n:Int)<0):=by omega
 have:BitVec.ofInt 16 ((x.toNat:Int)*2^(min n 16))=x<<<n:=by
  apply BitVec.eq_of_toNat_eq
  have e:((x.toNat:Int)*2^(min n 16))=((x.toNat*2^(min n 16):Nat):Int):=by simp
  rw[e,BitVec.ofInt_natCast,BitVec.toNat_ofNat,BitVec.toNat_shiftLeft,Nat.shiftLeft_eq]
  rcases Nat.le_total n 16 with hh | hh
  ·rw[Nat.min_eq_left hh]
  ·rw[Nat.min_eq_right hh,show n=16+(n-16) by omega,Nat.pow_add]
   rw[Nat.mul_mod_left,← Nat.mul_assoc,Nat.mul_right_comm,Nat.mul_mod_left]
 simp only[aG,u16,aAW,hn,if_false,wrap_u16,IntKind.bits,Int.toNat_natCast,this]
theorem aBF (x:BitVec 16) (k:IntKind) (n:Nat):aG .shr (u16 x) (.int k (n:Int))=some (u16 (x>>>n)):=by
 have hn:¬ ((n:Int)<0):=by omega
 have:(x.toNat:Int).fdiv (2^(min n 16))=((x>>>n).toNat:Int):=by
  have e:(x.toNat:Int).fdiv (2^(min n 16))=((x.toNat / 2^(min n 16):Nat):Int):=by
   rw[Int.fdiv_eq_ediv_of_nonneg _ (by exact_mod_cast Nat.zero_le _)]
   norm_cast
  rw[e,BitVec.toNat_ushiftRight,Nat.shiftRight_eq_div_pow]
  rcases Nat.le_total n 16 with hh | hh
  ·rw[Nat.min_eq_left hh]
  ·rw[Nat.min_eq_right hh,Nat.div_eq_of_lt x.isLt,Nat.div_eq_of_lt (Nat.lt_of_lt_of_le x.isLt (Nat.pow_le_pow_right (by decide) hh))]
 simp only[aG,u16,aAW,hn,if_false,IntKind.bits,Int.toNat_natCast,this]
theorem aLV (x:BitVec 16):unV .xor (u16 x)=some (u16 (~~~ x)):=by
 simp only[unV,u16,IntKind.signed,Bool.false_eq_true,if_false,IntKind.max,IntKind.bits,BitVec.ofInt_natCast,BitVec.ofNat_toNat,BitVec.setWidth_eq,wrap_u16]
 have h:BitVec.ofInt 16 (2^16-1)=BitVec.allOnes 16:=by decide
 rw[h]
 have g:(BitVec.allOnes 16^^^x) = ~~~ x:=by rw[BitVec.xor_comm,BitVec.xor_allOnes]
 exact congrArg (fun y:BitVec 16=>some (Value.int .u16 (y.toNat:Int))) g
def u32 (x:BitVec 32):Value := .int .u32 (x.toNat:Int)
theorem wrap_u32 (n:Int):IntKind.wrap .u32 n=((BitVec.ofInt 32 n).toNat:Int):=by
 have h:(0:Int)≤n%4294967296:=Int.emod_nonneg _ (by decide)
 simp only[IntKind.wrap,IntKind.signed,IntKind.bits,Bool.false_and,Bool.false_eq_true,if_false,BitVec.toNat_ofInt]
 norm_cast
 omega
theorem aBi (n:Int):Value.int .u32 (IntKind.wrap .u32 n)=u32 (BitVec.ofInt 32 n):=by rw[wrap_u32]; rfl
theorem aGo (n:Nat) (h:n<4294967296):Value.int .u32 (n:Int)=u32 (BitVec.ofNat 32 n):=by
 unfold u32
 rw[BitVec.toNat_ofNat,Nat.mod_eq_of_lt h]
theorem aK5 (x y:BitVec 32):aG .add (u32 x) (u32 y)=some (u32 (x+y)):=by
 have h:BitVec.ofInt 32 ((x.toNat:Int)+y.toNat)=x+y:=by
  apply BitVec.eq_of_toNat_eq
  have h1:=x.isLt
  have h2:=y.isLt
  simp only[BitVec.toNat_ofInt,BitVec.toNat_add]
  omega
 simp only[aG,u32,aS,wrap_u32,h,if_true]
theorem aLl (x y:BitVec 32):aG .sub (u32 x) (u32 y)=some (u32 (x-y)):=by
 have h:BitVec.ofInt 32 ((x.toNat:Int)-y.toNat)=x-y:=by
  apply BitVec.eq_of_toNat_eq
  have h1:=x.isLt
  have h2:=y.isLt
  simp only[BitVec.toNat_ofInt,BitVec.toNat_sub]
  omega
 simp only[aG,u32,aS,wrap_u32,h,if_true]
theorem aM2 (x y:BitVec 32):aG .mul (u32 x) (u32 y)=some (u32 (x*y)):=by
 have h:BitVec.ofInt 32 ((x.toNat:Int)*y.toNat)=x*y:=by
  rw[← Int.natCast_mul,BitVec.ofInt_natCast]
  apply BitVec.eq_of_toNat_eq
  simp[BitVec.toNat_mul]
 simp only[aG,u32,aS,wrap_u32,h,if_true]
theorem aLj (x y:BitVec 32):aG .and (u32 x) (u32 y)=some (u32 (x&&&y)):=by
 simp only[aG,u32,aS,wrap_u32,IntKind.bits,BitVec.ofInt_natCast,BitVec.ofNat_toNat,BitVec.setWidth_eq,if_true]
 rfl
theorem aN8 (x y:BitVec 32):aG .or (u32 x) (u32 y)=some (u32 (x|||y)):=by
 simp only[aG,u32,aS,wrap_u32,IntKind.bits,BitVec.ofInt_natCast,BitVec.ofNat_toNat,BitVec.setWidth_eq,if_true]
 rfl
theorem aKl (x y:BitVec 32):aG .xor (u32 x) (u32 y)=some (u32 (x^^^y)):=by
 simp only[aG,u32,aS,wrap_u32,IntKind.bits,BitVec.ofInt_natCast,BitVec.ofNat_toNat,BitVec.setWidth_eq,if_true]
 rfl
theorem aFF (x y:BitVec 32):aG .andNot (u32 x) (u32 y)=some (u32 (x &&& ~~~ y)):=by
 simp only[aG,u32,aS,wrap_u32,IntKind.bits,BitVec.ofInt_natCast,BitVec.ofNat_toNat,BitVec.setWidth_eq,if_true]
 rfl
theorem aLZ (x y:BitVec 32) (h:y≠0):aG .quo (u32 x) (u32 y)=some (u32 (x / y)):=by
 have hy:¬ ((y.toNat:Int)=0):=fun hh=>h (BitVec.eq_of_toNat_eq (by simpa using hh))
 have:BitVec.ofInt 32 ((x.toNat:Int).tdiv y.toNat)=x / y:=by
  apply BitVec.eq_of_toNat_eq
  have h1:x.toNat / y.toNat<4294967296:=Nat.lt_of_le_of_lt (Nat.div_le_self _ _) x.isLt
  rw[← Int.ofNat_tdiv,BitVec.ofInt_natCast,BitVec.toNat_ofNat,BitVec.toNat_udiv,Nat.mod_eq_of_lt h1]
 simp only[aG,u32,aS,wrap_u32,this,if_true,hy,if_false]
theorem aMI (x y:BitVec 32) (h:y≠0):aG .rem (u32 x) (u32 y)=some (u32 (x%y)):=by
 have hy:¬ ((y.toNat:Int)=0):=fun hh=>h (BitVec.eq_of_toNat_eq (by simpa using hh))
 have:(x.toNat:Int).tmod y.toNat=((x%y).toNat:Int):=by
  rw[← Int.ofNat_tmod,BitVec.toNat_umod]
 simp only[aG,u32,aS,this,if_true,hy,if_false]
theorem aMG (x y:BitVec 32):aG .eql (u32 x) (u32 y)=some (.bool (x == y)):=by
 have:((x.toNat:Int) == (y.toNat:Int))=(x == y):=by
  rw[Bool.eq_iff_iff]
  simp only[beq_iff_eq]
  exact ⟨fun h=>BitVec.eq_of_toNat_eq (by omega),fun h=>by rw[h]⟩
 simp only[aG,u32,aS,this,if_true]
theorem aKw (x y:BitVec 32):aG .neq (u32 x) (u32 y)=some (.bool (x != y)):=by
 have:((x.toNat:Int) == (y.toNat:Int))=(x == y):=by
  rw[Bool.eq_iff_iff]
  simp only[beq_iff_eq]
  exact ⟨fun h=>BitVec.eq_of_toNat_eq (by omega),fun h=>by rw[h]⟩
 simp only[aG,u32,aS,bne,this,if_true]
theorem aMU (x y:BitVec 32):aG .lss (u32 x) (u32 y)=some (.bool (decide (x<y))):=by
 simp only[aG,u32,aS,if_true,BitVec.lt_def,Int.ofNat_lt]
theorem aL7 (x y:BitVec 32):aG .leq (u32 x) (u32 y)=some (.bool (decide (x≤y))):=by
 simp only[aG,u32,aS,if_true,BitVec.le_def,Int.ofNat_le]
theorem aLn (x y:BitVec 32):aG .gtr (u32 x) (u32 y)=some (.bool (decide (y<x))):=by
 simp only[aG,u32,aS,if_true,BitVec.lt_def,gt_iff_lt,Int.ofNat_lt]
theorem aLt (x y:BitVec 32):aG .geq (u32 x) (u32 y)=some (.bool (decide (y≤x))):=by
 simp only[aG,u32,aS,if_true,BitVec.le_def,ge_iff_le,Int.ofNat_le]
theorem aBH (x:BitVec 32) (k:IntKind) (n:Nat):aG .shl (u32 x) (.int k (n:Int))=some (u32 (x<<<n)):=by
 have hn:¬ ((n:Int)<0):=by omega
 have:BitVec.ofInt 32 ((x.toNat:Int)*2^(min n 32))=x<<<n:=by
  apply BitVec.eq_of_toNat_eq
  have e:((x.toNat:Int)*2^(min n 32))=((x.toNat*2^(min n 32):Nat):Int):=by simp
  rw[e,BitVec.ofInt_natCast,BitVec.toNat_ofNat,BitVec.toNat_shiftLeft,Nat.shiftLeft_eq]
  rcases Nat.le_total n 32 with hh | hh
  ·rw[Nat.min_eq_left hh]
  ·rw[Nat.min_eq_right hh,show n=32+(n-32) by omega,Nat.pow_add]
   rw[Nat.mul_mod_left,← Nat.mul_assoc,Nat.mul_right_comm,Nat.mul_mod_left]
 simp only[aG,u32,aAW,hn,if_false,wrap_u32,IntKind.bits,Int.toNat_natCast,this]
theorem aBJ (x:BitVec 32) (k:IntKind) (n:Nat):aG .shr (u32 x) (.int k (n:Int))=some (u32 (x>>>n)):=by
 have hn:¬ ((n:Int)<0):=by omega
 have:(x.toNat:Int).fdiv (2^(min n 32))=((x>>>n).toNat:Int):=by
  have e:(x.toNat:Int).fdiv (2^(min n 32))=((x.toNat / 2^(min n 32):Nat):Int):=by
   rw[Int.fdiv_eq_ediv_of_nonneg _ (by exact_mod_cast Nat.zero_le _)]
   norm_cast
  rw[e,BitVec.toNat_ushiftRight,Nat.shiftRight_eq_div_pow]
  rcases Nat.le_total n 32 with hh | hh
  ·rw[Nat.min_eq_left hh]
  ·rw[Nat.min_eq_right hh,Nat.div_eq_of_lt x.isLt,Nat.div_eq_of_lt (Nat.lt_of_lt_of_le x.isLt (Nat.pow_le_pow_right (by decide) hh))]
 simp only[aG,u32,aAW,hn,if_false,IntKind.bits,Int.toNat_natCast,this]
theorem aMP (x:BitVec 32):unV .xor (u32 x)=some (u32 (~~~ x)):=by
 simp only[unV,u32,IntKind.signed,Bool.false_eq_true,if_false,IntKind.max,IntKind.bits,BitVec.ofInt_natCast,BitVec.ofNat_toNat,BitVec.setWidth_eq,wrap_u32]
 have h:BitVec.ofInt 32 (2^32-1)=BitVec.allOnes 32:=by decide
 rw[h]
 have g:(BitVec.allOnes 32^^^x) = ~~~ x:=by rw[BitVec.xor_comm,BitVec.xor_allOnes]
 exact congrArg (fun y:BitVec 32=>some (Value.int .u32 (y.toNat:Int))) g
def u64 (x:BitVec 64):Value := .int .u64 (x.toNat:Int)
theorem wrap_u64 (n:Int):IntKind.wrap .u64 n=((BitVec.ofInt 64 n).toNat:Int):=by
 have h:(0:Int)≤n%18446744073709551616:=Int.emod_nonneg _ (by decide)
 simp only[IntKind.wrap,IntKind.signed,IntKind.bits,Bool.false_and,Bool.false_eq_true,if_false,BitVec.toNat_ofInt]
 norm_cast
 omega
theorem aB9 (n:Int):Value.int .u64 (IntKind.wrap .u64 n)=u64 (BitVec.ofInt 64 n):=by rw[wrap_u64]; rfl
theorem aGl (n:Nat) (h:n<18446744073709551616):Value.int .u64 (n:Int)=u64 (BitVec.ofNat 64 n):=by
 unfold u64
 rw[BitVec.toNat_ofNat,Nat.mod_eq_of_lt h]
theorem aKr (x y:BitVec 64):aG .add (u64 x) (u64 y)=some (u64 (x+y)):=by
 have h:BitVec.ofInt 64 ((x.toNat:Int)+y.toNat)=x+y:=by
  apply BitVec.eq_of_toNat_eq
  have h1:=x.isLt
  have h2:=y.isLt
  simp only[BitVec.toNat_ofInt,BitVec.toNat_add]
  omega
 simp only[aG,u64,aS,wrap_u64,h,if_true]
theorem aLi (x y:BitVec 64):aG .sub (u64 x) (u64 y)=some (u64 (x-y)):=by
 have h:BitVec.ofInt 64 ((x.toNat:Int)-y.toNat)=x-y:=by
  apply BitVec.eq_of_toNat_eq
  have h1:=x.isLt
  have h2:=y.isLt
  simp only[BitVec.toNat_ofInt,BitVec.toNat_sub]
  omega
 simp only[aG,u64,aS,wrap_u64,h,if_true]
theorem aLb (x y:BitVec 64):aG .mul (u64 x) (u64 y)=some (u64 (x*y)):=by
 have h:BitVec.ofInt 64 ((x.toNat:Int)*y.toNat)=x*y:=by
  rw[← Int.natCast_mul,BitVec.ofInt_natCast]
  apply BitVec.eq_of_toNat_eq
  simp[BitVec.toNat_mul]
 simp only[aG,u64,aS,wrap_u64,h,if_true]
theorem aLc (x y:BitVec 64):aG .and (u64 x) (u64 y)=some (u64 (x&&&y)):=by
 simp only[aG,u64,aS,wrap_u64,IntKind.bits,BitVec.ofInt_natCast,BitVec.ofNat_toNat,BitVec.setWidth_eq,if_true]
 rfl
theorem aNc (x y:BitVec 64):aG .or (u64 x) (u64 y)=some (u64 (x|||y)):=by
 simp only[aG,u64,aS,wrap_u64,IntKind.bits,BitVec.ofInt_natCast,BitVec.ofNat_toNat,BitVec.setWidth_eq,if_true]
 rfl
theorem aKU (x y:BitVec 64):aG .xor (u64 x) (u64 y)=some (u64 (x^^^y)):=by
 simp only[aG,u64,aS,wrap_u64,IntKind.bits,BitVec.ofInt_natCast,BitVec.ofNat_toNat,BitVec.setWidth_eq,if_true]
 rfl
theorem aFO (x y:BitVec 64):aG .andNot (u64 x) (u64 y)=some (u64 (x &&& ~~~ y)):=by
 simp only[aG,u64,aS,wrap_u64,IntKind.bits,BitVec.ofInt_natCast,BitVec.ofNat_toNat,BitVec.setWidth_eq,if_true]
 rfl
theorem aLQ (x y:BitVec 64) (h:y≠0):aG .quo (u64 x) (u64 y)=some (u64 (x / y)):=by
 have hy:¬ ((y.toNat:Int)=0):=fun hh=>h (BitVec.eq_of_toNat_eq (by simpa using hh))
 have:BitVec.ofInt 64 ((x.toNat:Int).tdiv y.toNat)=x / y:=by
  apply BitVec.eq_of_toNat_eq
  have h1:x.toNat / y.toNat<18446744073709551616:=Nat.lt_of_le_of_lt (Nat.div_le_self _ _) x.isLt
  rw[← Int.ofNat_tdiv,BitVec.ofInt_natCast,BitVec.toNat_ofNat,BitVec.toNat_udiv,Nat.mod_eq_of_lt h1]
 simp only[aG,u64,aS,wrap_u64,this,if_true,hy,if_false]
theorem aMc (x y:BitVec 64) (h:y≠0):aG .rem (u64 x) (u64 y)=some (u64 (x%y)):=by
 have hy:¬ ((y.toNat:Int)=0):=fun hh=>h (BitVec.eq_of_toNat_eq (by simpa using hh))
 have:(x.toNat:Int).tmod y.toNat=((x%y).toNat:Int):=by
  rw[← Int.ofNat_tmod,BitVec.toNat_umod]
 simp only[aG,u64,aS,this,if_true,hy,if_false]
theorem aMm (x y:BitVec 64):aG .eql (u64 x) (u64 y)=some (.bool (x == y)):=by
 have:((x.toNat:Int) == (y.toNat:Int))=(x == y):=by
  rw[Bool.eq_iff_iff]
  simp only[beq_iff_eq]
  exact ⟨fun h=>BitVec.eq_of_toNat_eq (by omega),fun h=>by rw[h]⟩
 simp only[aG,u64,aS,this,if_true]
theorem aM9 (x y:BitVec 64):aG .neq (u64 x) (u64 y)=some (.bool (x != y)):=by
 have:((x.toNat:Int) == (y.toNat:Int))=(x == y):=by
  rw[Bool.eq_iff_iff]
  simp only[beq_iff_eq]
  exact ⟨fun h=>BitVec.eq_of_toNat_eq (by omega),fun h=>by rw[h]⟩
 simp only[aG,u64,aS,bne,this,if_true]
theorem aML (x y:BitVec 64):aG .lss (u64 x) (u64 y)=some (.bool (decide (x<y))):=by
 simp only[aG,u64,aS,if_true,BitVec.lt_def,Int.ofNat_lt]
theorem aM4 (x y:BitVec 64):aG .leq (u64 x) (u64 y)=some (.bool (decide (x≤y))):=by
 simp only[aG,u64,aS,if_true,BitVec.le_def,Int.ofNat_le]
theorem aK7 (x y:BitVec 64):aG .gtr (u64 x) (u64 y)=some (.bool (decide (y<x))):=by
 simp only[aG,u64,aS,if_true,BitVec.lt_def,gt_iff_lt,Int.ofNat_lt]
theorem aMZ (x y:BitVec 64):aG .geq (u64 x) (u64 y)=some (.bool (decide (y≤x))):=by
 simp only[aG,u64,aS,if_true,BitVec.le_def,ge_iff_le,Int.ofNat_le]
theorem aBL (x:BitVec 64) (k:IntKind) (n:Nat):aG .shl (u64 x) (.int k (n:Int))=some (u64 (x<<<n)):=by
 have hn:¬ ((n:Int)<0):=by omega
 have:BitVec.ofInt 64 ((x.toNat:Int)*2^(min n 64))=x<<<n:=by
  apply BitVec.eq_of_toNat_eq
  have e:((x.toNat:Int)*2^(min n 64))=((x.toNat*2^(min n 64):Nat):Int):=by simp
  rw[e,BitVec.ofInt_natCast,BitVec.toNat_ofNat,BitVec.toNat_shiftLeft,Nat.shiftLeft_eq]
  rcases Nat.le_total n 64 with hh | hh
  ·rw[Nat.min_eq_left hh]
  ·rw[Nat.min_eq_right hh,show n=64+(n-64) by omega,Nat.pow_add]
   rw[Nat.mul_mod_left,← Nat.mul_assoc,Nat.mul_right_comm,Nat.mul_mod_left]
 simp only[aG,u64,aAW,hn,if_false,wrap_u64,IntKind.bits,Int.toNat_natCast,this]
theorem aBC (x:BitVec 64) (k:IntKind) (n:Nat):aG .shr (u64 x) (.int k (n:Int))=some (u64 (x>>>n)):=by
 have hn:¬ ((n:Int)<0):=by omega
 have:(x.toNat:Int).fdiv (2^(min n 64))=((x>>>n).toNat:Int):=by
  have e:(x.toNat:Int).fdiv (2^(min n 64))=((x.toNat / 2^(min n 64):Nat):Int):=by
   rw[Int.fdiv_eq_ediv_of_nonneg _ (by exact_mod_cast Nat.zero_le _)]
   norm_cast
  rw[e,BitVec.toNat_ushiftRight,Nat.shiftRight_eq_div_pow]
  rcases Nat.le_total n 64 with hh | hh
  ·rw[Nat.min_eq_left hh]
  ·rw[Nat.min_eq_right hh,Nat.div_eq_of_lt x.isLt,Nat.div_eq_of_lt (Nat.lt_of_lt_of_le x.isLt (Nat.pow_le_pow_right (by decide) hh))]
 simp only[aG,u64,aAW,hn,if_false,IntKind.bits,Int.toNat_natCast,this]
theorem aM0 (x:BitVec 64):unV .xor (u64 x)=some (u64 (~~~ x)):=by
 simp only[unV,u64,IntKind.signed,Bool.false_eq_true,if_false,IntKind.max,IntKind.bits,BitVec.ofInt_natCast,BitVec.ofNat_toNat,BitVec.setWidth_eq,wrap_u64]
 have h:BitVec.ofInt 64 (2^64-1)=BitVec.allOnes 64:=by decide
 rw[h]
 have g:(BitVec.allOnes 64^^^x) = ~~~ x:=by rw[BitVec.xor_comm,BitVec.xor_allOnes]
 exact congrArg (fun y:BitVec 64=>some (Value.int .u64 (y.toNat:Int))) g
theorem aGQ (x:BitVec 8) (y:BitVec 8):aG .shl (u8 x) (u8 y)=some (u8 (x<<<y.toNat)):=aBZ x .u8 y.toNat
theorem aGd (x:BitVec 8) (y:BitVec 8):aG .shr (u8 x) (u8 y)=some (u8 (x>>>y.toNat)):=aB0 x .u8 y.toNat
theorem aGg (y:BitVec 8):cvt .u8 (u8 y)=some (u8 (y.setWidth 8)):=by
 simp only[cvt,u8,aC5,BitVec.ofInt_natCast,BitVec.ofNat_toNat]
theorem aFV (x:BitVec 8) (y:BitVec 16):aG .shl (u8 x) (u16 y)=some (u8 (x<<<y.toNat)):=aBZ x .u16 y.toNat
theorem aFP (x:BitVec 8) (y:BitVec 16):aG .shr (u8 x) (u16 y)=some (u8 (x>>>y.toNat)):=aB0 x .u16 y.toNat
theorem aFA (y:BitVec 16):cvt .u8 (u16 y)=some (u8 (y.setWidth 8)):=by
 simp only[cvt,u16,aC5,BitVec.ofInt_natCast,BitVec.ofNat_toNat]
theorem aFS (x:BitVec 8) (y:BitVec 32):aG .shl (u8 x) (u32 y)=some (u8 (x<<<y.toNat)):=aBZ x .u32 y.toNat
theorem aFI (x:BitVec 8) (y:BitVec 32):aG .shr (u8 x) (u32 y)=some (u8 (x>>>y.toNat)):=aB0 x .u32 y.toNat
theorem aFN (y:BitVec 32):cvt .u8 (u32 y)=some (u8 (y.setWidth 8)):=by
 simp only[cvt,u32,aC5,BitVec.ofInt_natCast,BitVec.ofNat_toNat]
theorem aEc (x:BitVec 8) (y:BitVec 64):aG .shl (u8 x) (u64 y)=some (u8 (x<<<y.toNat)):=aBZ x .u64 y.toNat
theorem aFK (x:BitVec 8) (y:BitVec 64):aG .shr (u8 x) (u64 y)=some (u8 (x>>>y.toNat)):=aB0 x .u64 y.toNat
theorem aFH (y:BitVec 64):cvt .u8 (u64 y)=some (u8 (y.setWidth 8)):=by
 simp only[cvt,u64,aC5,BitVec.ofInt_natCast,BitVec.ofNat_toNat]
theorem aEx (k:IntKind) (n:Int):cvt .u8 (.int k n)=some (u8 (BitVec.ofInt 8 n)):=by
 simp only[cvt,aC5]
theorem aFB (x:BitVec 16) (y:BitVec 8):aG .shl (u16 x) (u8 y)=some (u16 (x<<<y.toNat)):=aBB x .u8 y.toNat
theorem aFU (x:BitVec 16) (y:BitVec 8):aG .shr (u16 x) (u8 y)=some (u16 (x>>>y.toNat)):=aBF x .u8 y.toNat
theorem aEm (y:BitVec 8):cvt .u16 (u8 y)=some (u16 (y.setWidth 16)):=by
 simp only[cvt,u8,aBf,BitVec.ofInt_natCast,BitVec.ofNat_toNat]
theorem aDS (x:BitVec 16) (y:BitVec 16):aG .shl (u16 x) (u16 y)=some (u16 (x<<<y.toNat)):=aBB x .u16 y.toNat
theorem aDI (x:BitVec 16) (y:BitVec 16):aG .shr (u16 x) (u16 y)=some (u16 (x>>>y.toNat)):=aBF x .u16 y.toNat
theorem aDy (y:BitVec 16):cvt .u16 (u16 y)=some (u16 (y.setWidth 16)):=by
 simp only[cvt,u16,aBf,BitVec.ofInt_natCast,BitVec.ofNat_toNat]
theorem aDR (x:BitVec 16) (y:BitVec 32):aG .shl (u16 x) (u32 y)=some (u16 (x<<<y.toNat)):=aBB x .u32 y.toNat
theorem aDK (x:BitVec 16) (y:BitVec 32):aG .shr (u16 x) (u32 y)=some (u16 (x>>>y.toNat)):=aBF x .u32 y.toNat
theorem aDZ (y:BitVec 32):cvt .u16 (u32 y)=some (u16 (y.setWidth 16)):=by
 simp only[cvt,u32,aBf,BitVec.ofInt_natCast,BitVec.ofNat_toNat]
theorem aDX (x:BitVec 16) (y:BitVec 64):aG .shl (u16 x) (u64 y)=some (u16 (x<<<y.toNat)):=aBB x .u64 y.toNat
theorem aCw (x:BitVec 16) (y:BitVec 64):aG .shr (u16 x) (u64 y)=some (u16 (x>>>y.toNat)):=aBF x .u64 y.toNat
theorem aDL (y:BitVec 64):cvt .u16 (u64 y)=some (u16 (y.setWidth 16)):=by
 simp only[cvt,u64,aBf,BitVec.ofInt_natCast,BitVec.ofNat_toNat]
theorem aDj (k:IntKind) (n:Int):cvt .u16 (.int k n)=some (u16 (BitVec.ofInt 16 n)):=by
 simp only[cvt,aBf]
theorem aE8 (x:BitVec 32) (y:BitVec 8):aG .shl (u32 x) (u8 y)=some (u32 (x<<<y.toNat)):=aBH x .u8 y.toNat
theorem aEr (x:BitVec 32) (y:BitVec 8):aG .shr (u32 x) (u8 y)=some (u32 (x>>>y.toNat)):=aBJ x .u8 y.toNat
theorem aEa (y:BitVec 8):cvt .u32 (u8 y)=some (u32 (y.setWidth 32)):=by
 simp only[cvt,u8,aBi,BitVec.ofInt_natCast,BitVec.ofNat_toNat]
theorem aDq (x:BitVec 32) (y:BitVec 16):aG .shl (u32 x) (u16 y)=some (u32 (x<<<y.toNat)):=aBH x .u16 y.toNat
theorem aDM (x:BitVec 32) (y:BitVec 16):aG .shr (u32 x) (u16 y)=some (u32 (x>>>y.toNat)):=aBJ x .u16 y.toNat
theorem aED (y:BitVec 16):cvt .u32 (u16 y)=some (u32 (y.setWidth 32)):=by
 simp only[cvt,u16,aBi,BitVec.ofInt_natCast,BitVec.ofNat_toNat]
theorem aDN (x:BitVec 32) (y:BitVec 32):aG .shl (u32 x) (u32 y)=some (u32 (x<<<y.toNat)):=aBH x .u32 y.toNat
theorem aDs (x:BitVec 32) (y:BitVec 32):aG .shr (u32 x) (u32 y)=some (u32 (x>>>y.toNat)):=aBJ x .u32 y.toNat
theorem aEB (y:BitVec 32):cvt .u32 (u32 y)=some (u32 (y.setWidth 32)):=by
 simp only[cvt,u32,aBi,BitVec.ofInt_natCast,BitVec.ofNat_toNat]
theorem aD0 (x:BitVec 32) (y:BitVec 64):aG .shl (u32 x) (u64 y)=some (u32 (x<<<y.toNat)):=aBH x .u64 y.toNat
theorem aDB (x:BitVec 32) (y:BitVec 64):aG .shr (u32 x) (u64 y)=some (u32 (x>>>y.toNat)):=aBJ x .u64 y.toNat
theorem aDO (y:BitVec 64):cvt .u32 (u64 y)=some (u32 (y.setWidth 32)):=by
 simp only[cvt,u64,aBi,BitVec.ofInt_natCast,BitVec.ofNat_toNat]
theorem aDx (k:IntKind) (n:Int):cvt .u32 (.int k n)=some (u32 (BitVec.ofInt 32 n)):=by
 simp only[cvt,aBi]
theorem aFW (x:BitVec 64) (y:BitVec 8):aG .shl (u64 x) (u8 y)=some (u64 (x<<<y.toNat)):=aBL x .u8 y.toNat
theorem aE9 (x:BitVec 64) (y:BitVec 8):aG .shr (u64 x) (u8 y)=some (u64 (x>>>y.toNat)):=aBC x .u8 y.toNat
theorem aEg (y:BitVec 8):cvt .u64 (u8 y)=some (u64 (y.setWidth 64)):=by
 simp only[cvt,u8,aB9,BitVec.ofInt_natCast,BitVec.ofNat_toNat]
theorem aDk (x:BitVec 64) (y:BitVec 16):aG .shl (u64 x) (u16 y)=some (u64 (x<<<y.toNat)):=aBL x .u16 y.toNat
theorem aDn (x:BitVec 64) (y:BitVec 16):aG .shr (u64 x) (u16 y)=some (u64 (x>>>y.toNat)):=aBC x .u16 y.toNat
theorem aD3 (y:BitVec 16):cvt .u64 (u16 y)=some (u64 (y.setWidth 64)):=by
 simp only[cvt,u16,aB9,BitVec.ofInt_natCast,BitVec.ofNat_toNat]
theorem aDl (x:BitVec 64) (y:BitVec 32):aG .shl (u64 x) (u32 y)=some (u64 (x<<<y.toNat)):=aBL x .u32 y.toNat
theorem aDW (x:BitVec 64) (y:BitVec 32):aG .shr (u64 x) (u32 y)=some (u64 (x>>>y.toNat)):=aBC x .u32 y.toNat
theorem aD2 (y:BitVec 32):cvt .u64 (u32 y)=some (u64 (y.setWidth 64)):=by
 simp only[cvt,u32,aB9,BitVec.ofInt_natCast,BitVec.ofNat_toNat]
theorem aDe (x:BitVec 64) (y:BitVec 64):aG .shl (u64 x) (u64 y)=some (u64 (x<<<y.toNat)):=aBL x .u64 y.toNat
theorem aDC (x:BitVec 64) (y:BitVec 64):aG .shr (u64 x) (u64 y)=some (u64 (x>>>y.toNat)):=aBC x .u64 y.toNat
theorem aD1 (y:BitVec 64):cvt .u64 (u64 y)=some (u64 (y.setWidth 64)):=by
 simp only[cvt,u64,aB9,BitVec.ofInt_natCast,BitVec.ofNat_toNat]
theorem aDw (k:IntKind) (n:Int):cvt .u64 (.int k n)=some (u64 (BitVec.ofInt 64 n)):=by
 simp only[cvt,aB9]
theorem aDb (n:Int):IntKind.wrap .i64 n=if n%18446744073709551616≥9223372036854775808 then n%18446744073709551616-18446744073709551616 else n%18446744073709551616:=by
 simp[IntKind.wrap,IntKind.signed,IntKind.bits]
theorem wrap_i64 {n:Int} (h : -9223372036854775808≤n) (h':n<9223372036854775808):IntKind.wrap .i64 n=n:=by
 rw[aDb]
 split<;>omega
theorem aEb (y:BitVec 8):cvt .i64 (u8 y)=some (.int .i64 (y.toNat:Int)):=by
 have h:=y.isLt
 have:IntKind.wrap .i64 (y.toNat:Int)=y.toNat:=wrap_i64 (by omega) (by omega)
 simp only[cvt,u8,this]
theorem aDr (y:BitVec 16):cvt .i64 (u16 y)=some (.int .i64 (y.toNat:Int)):=by
 have h:=y.isLt
 have:IntKind.wrap .i64 (y.toNat:Int)=y.toNat:=wrap_i64 (by omega) (by omega)
 simp only[cvt,u16,this]
theorem aD9 (y:BitVec 32):cvt .i64 (u32 y)=some (.int .i64 (y.toNat:Int)):=by
 have h:=y.isLt
 have:IntKind.wrap .i64 (y.toNat:Int)=y.toNat:=wrap_i64 (by omega) (by omega)
 simp only[cvt,u32,this]
def brn (v:Value) (p q:Prop):Prop :=
 match v with
 | .bool t=>if t=true then p else q
 | _=>False
def gdn (v:Value) (want:Bool) (p q:Prop):Prop :=
 match v with
 | .bool t=>if t=want then p else q
 | .tuple _=>q
 | _=>False
section
variable {T:Nat→Option Fn} {e:Env} {h:Hp} {Q:Ex→Env→Hp→Prop} {K:Env→Hp→Prop}
@[simp] theorem aPx {t:Bool} {p q:Prop}:brn (.bool t) p q↔if t=true then p else q:=Iff.rfl
@[simp] theorem aPK {t w:Bool} {p q:Prop}:gdn (.bool t) w p q↔if t=w then p else q:=Iff.rfl
theorem aQo {c:X} {a b:C}:W T (.cond c a b) e h Q↔brn (c.ev e) (W T a e h Q) (W T b e h Q):=by
 cases hc:c.ev e with
 | bool t=>rw[aJw hc]; rfl
 | _ =>
  refine ⟨fun ⟨m,n,x,e',h',h1,h2⟩=>?_,fun hf=>hf.elim⟩
  cases n<;>simp[aN,hc] at h1
theorem aJn {d:Option Nat} {t:Nat} {want:Bool} {op:Op} {l:List O} :
  WO T (⟨d,some (t,want),op⟩::l) e h K↔gdn (e t) want (WO T (⟨d,none,op⟩::l) e h K) (WO T l (put e d undef) h K):=by
 cases ht:e t with
 | bool b=>rw[aN9 ht]; rfl
 | tuple a =>
  rw[aAP]
  simp only[bF,gd,ht]
  exact ⟨fun ⟨n,e',h',h1,h2⟩=>by cases h1; exact h2,fun hk=>⟨0,_,_,rfl,hk⟩⟩
 | _ =>
  rw[aAP]
  simp only[bF,gd,ht,gdn]
  exact ⟨fun ⟨n,e',h',h1,h2⟩=>(by cases h1),fun hf=>hf.elim⟩
theorem aFq {base:Nat}:WI T base [] e h K↔K e h:=⟨fun ⟨n,e',h',h1,h2⟩=>by cases h1; exact h2,fun hk=>⟨0,_,_,rfl,hk⟩⟩
theorem aAd {base:Nat} {o:It} {l:List It}:WI T base (o::l) e h K↔∃ n e' h',aZ (aW T n) base e h o=some (e',h')∧WI T base l e' h' K:=by
 constructor
 ·rintro ⟨n,e',h',h1,h2⟩
  obtain ⟨q,h3,h4⟩:=Option.bind_eq_some_iff.1 h1
  exact ⟨n,_,_,h3,n,e',h',h4,h2⟩
 ·rintro ⟨n,e1,h1,h3,m,e',h',h4,h5⟩
  exact ⟨max n m,e',h',Option.bind_eq_some_iff.2 ⟨(e1,h1),aBt (aA9 (Nat.le_max_left _ _)) h3,aAu (aA9 (Nat.le_max_right _ _)) h4⟩,h5⟩
theorem aEt {base i:Nat} {o:O} {l:List It}:WI T base (.op i o::l) e h K↔WO T [o] e h fun e h=>WI T base l e h K:=by
 rw[aAd,aAP]
 simp only[aAQ,aZ]
theorem aR6 {base i j:Nat} {d:Option Nat} {op:Op} {l:List It}:WI T base (.al i j ⟨d,none,op⟩::l) e h K↔∃ v ob,opA (base+j) e op=some (v,ob)∧WI T base l (put e d v) (h.put (base+j) (some ob)) K:=by
 rw[aAd]
 simp only[aZ,gd]
 constructor
 ·rintro ⟨n,e',h',h1,h2⟩
  obtain ⟨r,h3,h4⟩:=Option.map_eq_some_iff.1 h1
  cases h4
  exact ⟨_,_,h3,h2⟩
 ·rintro ⟨v,ob,h1,h2⟩
  exact ⟨0,_,_,by rw[h1]; rfl,h2⟩
theorem aRs {base i t:Nat} {op:Op} {l:List It}:WI T base (.re i ⟨some t,none,op⟩::l) e h K↔∃ v h',opV e h op=some (v,h')∧veq v (e t)=true∧WI T base l e h K:=by
 rw[aAd]
 simp only[aZ,gd]
 constructor
 ·rintro ⟨n,e',h',h1,h2⟩
  cases hv:opV e h op with
  | none=>rw[hv] at h1; cases h1
  | some r =>
   rw[hv] at h1
   simp only[] at h1
   split at h1
   ·rename_i hq; cases h1; exact ⟨_,_,rfl,hq,h2⟩
   ·cases h1
 ·rintro ⟨v,h',h1,h2,h3⟩
  exact ⟨0,_,_,by simp only[h1,h2,if_true],h3⟩
@[simp] theorem aPI (h:Hp):h.adv 0=h:=rfl
@[simp] theorem aRv (h:Hp) (k b:Nat):(h.adv k).get b=h.get b:=rfl
@[simp] theorem aIA (h:Hp) (k:Nat):(h.adv k).next=h.next+k:=rfl
@[simp] theorem aIc (h:Hp) (b:Nat) (o:Option Ob):(h.put b o).next=h.next:=rfl
@[simp] theorem aGY (h:Hp) (o:Ob):(h.push o).next=h.next+1:=rfl
theorem nX:(∀ (h:Hp) (o:Ob),(h.push o).next=h.next+1)∧(∀ (h:Hp) (b:Nat) (o:Option Ob),(h.put b o).next=h.next)∧(∀ (h:Hp) (n:Nat),(h.adv n).next=h.next+n)∧(∀ (α:Type) (x:α) (l:List α),(x::l).length=l.length+1)∧(∀ (α:Type),([]:List α).length=0)∧(∀ (α β:Type) (l:List α) (f:α→β),(l.map f).length=l.length)∧(∀ (α:Type) (l:List α) (i:Nat) (x:α),(l.set i x).length=l.length) :=
 ⟨aGY,aIc,aIA,fun _ _ _=>rfl,fun _=>rfl,fun _ _ _ _=>List.length_map _,fun _ _ _ _=>List.length_set⟩
theorem aAj {b:Nat} {o:Option Ob} (hb:b<h.next):(h.put b o).get b=o:=by simp[Hp.put,hb]
theorem aAb {b c:Nat} {o:Option Ob} (hb:c≠b):(h.put b o).get c=h.get c:=by simp[Hp.put,hb]
@[simp] theorem aQe {b:Nat} {o p:Option Ob}:(h.put b o).put b p=h.put b p:=Hp.ext' rfl fun k=>by
 simp only[Hp.put]
 split<;>rfl
theorem aAH {o:Ob}:(h.push o).get h.next=some o:=by simp[Hp.push]
theorem aAN {b:Nat} {o:Ob} (hb:b≠h.next):(h.push o).get b=h.get b:=by simp[Hp.push,hb]
theorem aBK {b:Nat} {o:Ob} (hg:h.get b=some o):b<h.next:=by
 rcases Nat.lt_or_ge b h.next with hl | hl
 ·exact hl
 ·rw[h.wf b hl] at hg; cases hg
@[simp] theorem aTd (b o:Nat):at? (ptr b o)=some (b,o):=rfl
@[simp] theorem aS8 (x:BitVec 8):one (u8 x)=true:=rfl
@[simp] theorem aQQ (x:BitVec 16):one (u16 x)=true:=rfl
@[simp] theorem aRJ (x:BitVec 32):one (u32 x)=true:=rfl
@[simp] theorem aQm (x:BitVec 64):one (u64 x)=true:=rfl
@[simp] theorem aQP (k:IntKind) (n:Int):one (.int k n)=true:=rfl
@[simp] theorem aPe (b:Bool):one (.bool b)=true:=rfl
@[simp] theorem aRT (b o:Nat):one (ptr b o)=true:=rfl
theorem aNb {b o:Nat} {c vs:List Value} (hg:h.get b=some (.cells false c)) (hle:o+vs.length≤c.length) (h1:vs.all one=true):h.wr b o vs=some (h.put b (some (.cells false (over c o vs)))):=by
 simp only[Hp.wr,hg,hle,h1,true_and,if_true]
end
def runK (o:Option (Value×Hp)) (k:Value→Hp→Prop):Prop :=
 match o with
 | some r=>k r.1 r.2
 | none=>False
@[simp] theorem aPE {v:Value} {h:Hp} {k:Value→Hp→Prop}:runK (some (v,h)) k↔k v h:=Iff.rfl
@[congr] theorem aNB {o o':Option (Value×Hp)} {k:Value→Hp→Prop} (h:o=o'):runK o k=runK o' k:=by rw[h]
@[congr] theorem aPB {v v':Value} {p q:Prop} (h:v=v'):brn v p q=brn v' p q:=by rw[h]
@[congr] theorem aNl {v v':Value} {w:Bool} {p q:Prop} (h:v=v'):gdn v w p q=gdn v' w p q:=by rw[h]
@[congr] theorem aPb {T:Nat→Option Fn} {f:Nat} {args args':List Value} {h:Hp} {q:Value→Hp→Prop} (ha:args=args'):WC T f args h q=WC T f args' h q:=by rw[ha]
@[congr] theorem aQ2 {T:Nat→Option Fn} {c:C} {e:Env} {h:Hp} {Q:Ex→Env→Hp→Prop}:W T c e h Q=W T c e h Q:=rfl
@[congr] theorem aP7 {T:Nat→Option Fn} {l:List O} {e:Env} {h:Hp} {K:Env→Hp→Prop}:WO T l e h K=WO T l e h K:=rfl
@[congr] theorem aP0 {T:Nat→Option Fn} {base:Nat} {l:List It} {e:Env} {h:Hp} {K:Env→Hp→Prop}:WI T base l e h K=WI T base l e h K:=rfl
section
variable {T:Nat→Option Fn} {e:Env} {h:Hp} {K:Env→Hp→Prop} {dd:Option Nat} {ll:List O}
end
open Go Go.RowKit
theorem aEk {P:Program} {T:Nat→Option Fn} (hT:aBG P (aAJ P) T) {f:Nat} {args args':List Value} {h:Hp} {φ:Phi} {w:World} (hw:WC T f args h fun v _=>v = .bool true)
  (hl:LR φ args args') (hr:HR φ h w) (hro:∀ b,h.wrt b=false):Calls P f args'.toArray w fun e w'=>e = .returned (.bool true)∧Below w.heap.size w w':=by
 obtain ⟨n,v,h',h1,rfl⟩:=hw
 refine ((aCF hT n f args h _ h' h1).2.2 φ w args' hl hr).mono fun e w' ⟨φ',u,he,hx,hv⟩=>?_
 have:u = .bool true:=hv.aAM
 subst this
 refine ⟨he,hx.os,hx.tape,hx.output,hx.size,fun k hk=>hx.frame k hk fun b m hb=>?_⟩
 rw[hro b] at hb
 cases hb
inductive Fr where
 | seq (b:C)
 | block (id:Nat)
 | loop (a:C)
section
variable (T:Nat→Option Fn)
def GR (Q:Ex→Env→Hp→Prop):List Fr→Ex→Env→Hp→Prop
 | [],x,e,h=>Q x e h
 | .seq b::k,.n,e,h=>W T b e h (GR Q k)
 | .seq _::k,x,e,h=>GR Q k x e h
 | .block id::k,.x j,e,h=>if j=id then GR Q k .n e h else GR Q k (.x j) e h
 | .block _::k,x,e,h=>GR Q k x e h
 | .loop a::k,.n,e,h=>W T (.loop a) e h (GR Q k)
 | .loop _::k,x,e,h=>GR Q k x e h
def G (Q:Ex→Env→Hp→Prop) (c:C) (k:List Fr) (e:Env) (h:Hp):Prop:=W T c e h (GR T Q k)
def GO (Q:Ex→Env→Hp→Prop) (l:List O) (k:List Fr) (e:Env) (h:Hp):Prop:=WO T l e h (GR T Q k .n)
def GI (Q:Ex→Env→Hp→Prop) (base:Nat) (l:List It) (k:List Fr) (e:Env) (h:Hp):Prop:=WI T base l e h (GR T Q k .n)
def GV (Q:Ex→Env→Hp→Prop) (o:Option (Value×Hp)) (d:Option Nat) (l:List O) (k:List Fr) (e:Env):Prop :=
 match o with
 | some r=>GO T Q l k (put e d r.1) r.2
 | none=>False
def GVI (Q:Ex→Env→Hp→Prop) (o:Option (Value×Hp)) (d:Option Nat) (base:Nat) (l:List It) (k:List Fr) (e:Env):Prop :=
 match o with
 | some r=>GI T Q base l k (put e d r.1) r.2
 | none=>False
def GB (Q:Ex→Env→Hp→Prop) (v:Value) (a b:C) (k:List Fr) (e:Env) (h:Hp):Prop :=
 match v with
 | .bool t=>if t=true then G T Q a k e h else G T Q b k e h
 | _=>False
def GG (Q:Ex→Env→Hp→Prop) (v:Value) (w:Bool) (d:Option Nat) (op:Op) (l:List O) (k:List Fr) (e:Env) (h:Hp):Prop :=
 match v with
 | .bool t=>if t=w then GO T Q (⟨d,none,op⟩::l) k e h else GO T Q l k (put e d undef) h
 | .tuple _=>GO T Q l k (put e d undef) h
 | _=>False
def GC (Q:Ex→Env→Hp→Prop) (f:Nat) (args:List Value) (d:Option Nat) (l:List O) (k:List Fr) (e:Env) (h:Hp):Prop :=
 WC T f args h fun v h=>GO T Q l k (put e d v) h
end
section
variable {T:Nat→Option Fn} {Q:Ex→Env→Hp→Prop} {k:List Fr} {e:Env} {h:Hp} {d:Option Nat} {l:List O}
theorem Ex.go_eq {b:C}:Ex.go (GR T Q k) (fun e h=>W T b e h (GR T Q k))=GR T Q (.seq b::k):=by
 funext x e h; cases x<;>rfl
theorem Ex.aN3 {id:Nat}:Ex.out id (GR T Q k)=GR T Q (.block id::k):=by
 funext x e h; cases x<;>rfl
@[simp] theorem aV3 {a b:C}:G T Q (.seq a b) k e h↔G T Q a (.seq b::k) e h:=by
 unfold G; rw[aOM,Ex.go_eq]
@[simp] theorem aQx {id:Nat} {a:C}:G T Q (.block id a) k e h↔G T Q a (.block id::k) e h:=by
 unfold G; rw[aHF,Ex.aN3]
@[simp] theorem aTI:G T Q .skip k e h↔GR T Q k .n e h:=aJj
@[simp] theorem a0G:G T Q .ret k e h↔GR T Q k .r e h:=aO2
@[simp] theorem aTv {id:Nat}:G T Q (.exit id) k e h↔GR T Q k (.x id) e h:=aKP
@[simp] theorem aYx:G T Q (.ops l) k e h↔GO T Q l k e h:=aOh
theorem aQN {m:Nat} {l:List It}:G T Q (.any m l) k e h↔GI T Q h.next l k e (h.adv m):=aOk
@[simp] theorem aTa {c:X} {a b:C}:G T Q (.cond c a b) k e h↔GB T Q (c.ev e) a b k e h:=by
 unfold G; rw[aQo]; cases c.ev e<;>rfl
@[simp] theorem aQU {t:Bool} {a b:C}:GB T Q (.bool t) a b k e h↔if t=true then G T Q a k e h else G T Q b k e h:=Iff.rfl
@[simp] theorem aTi {x:Ex}:GR T Q [] x e h↔Q x e h:=by cases x<;>exact Iff.rfl
@[simp] theorem aP5 {b:C}:GR T Q (.seq b::k) .n e h↔G T Q b k e h:=Iff.rfl
@[simp] theorem aPk {b:C} {j:Nat}:GR T Q (.seq b::k) (.x j) e h↔GR T Q k (.x j) e h:=Iff.rfl
@[simp] theorem aPZ {b:C}:GR T Q (.seq b::k) .r e h↔GR T Q k .r e h:=Iff.rfl
@[simp] theorem aNT {id:Nat}:GR T Q (.block id::k) .n e h↔GR T Q k .n e h:=Iff.rfl
@[simp] theorem aNX {id j:Nat}:GR T Q (.block id::k) (.x j) e h↔if j=id then GR T Q k .n e h else GR T Q k (.x j) e h:=Iff.rfl
@[simp] theorem aNS {id:Nat}:GR T Q (.block id::k) .r e h↔GR T Q k .r e h:=Iff.rfl
@[simp] theorem aT6:GO T Q [] k e h↔GR T Q k .n e h:=aAQ
theorem aP {op:Op} (hop:isC op=false):GO T Q (⟨d,none,op⟩::l) k e h↔GV T Q (opV e h op) d l k e:=by
 unfold GO GV
 rw[aHd hop]
 cases opV e h op with
 | none=>exact ⟨fun ⟨_,_,hh,_⟩=>(by cases hh),fun hf=>hf.elim⟩
 | some r=>exact ⟨fun ⟨_,_,hh,hk⟩=>by cases hh; exact hk,fun hk=>⟨r.1,r.2,rfl,hk⟩⟩
@[simp] theorem aUk {t:Nat} {w:Bool} {op:Op}:GO T Q (⟨d,some (t,w),op⟩::l) k e h↔GG T Q (e t) w d op l k e h:=by
 unfold GO; rw[aJn]; cases e t<;>rfl
@[simp] theorem aRE {t w:Bool} {op:Op}:GG T Q (.bool t) w d op l k e h↔if t=w then GO T Q (⟨d,none,op⟩::l) k e h else GO T Q l k (put e d undef) h:=Iff.rfl
@[simp] theorem aQf {f:Nat} {xs:List X}:GO T Q (⟨d,none,.call f xs⟩::l) k e h↔GC T Q f (evs e xs) d l k e h:=aDE
@[simp] theorem aSU {v:Value}:GV T Q (some (v,h)) d l k e↔GO T Q l k (put e d v) h:=Iff.rfl
@[simp] theorem aTK {base:Nat}:GI T Q base [] k e h↔GR T Q k .n e h:=aFq
theorem aO {base i:Nat} {op:Op} {l:List It} (hop:isC op=false):GI T Q base (.op i ⟨d,none,op⟩::l) k e h↔GVI T Q (opV e h op) d base l k e:=by
 unfold GI GVI
 rw[aEt,aHd hop]
 cases opV e h op with
 | none=>exact ⟨fun ⟨_,_,hh,_⟩=>(by cases hh),fun hf=>hf.elim⟩
 | some r=>exact ⟨fun ⟨_,_,hh,hk⟩=>by cases hh; exact aAQ.1 hk,fun hk=>⟨r.1,r.2,rfl,aAQ.2 hk⟩⟩
@[simp] theorem aP8 {v:Value} {base:Nat} {l:List It}:GVI T Q (some (v,h)) d base l k e↔GI T Q base l k (put e d v) h:=Iff.rfl
def fin (res:List RV) (drop:Option (List Nat)) (n:Nat) (q:Value→Hp→Prop):Ex→Env→Hp→Prop
 | .x _,_,_=>False
 | _,e,h'=>∃ v,resV e h' res=some v∧q v (aCZ n e h' drop)
theorem aUd {f:Nat} {F:F} {args:List Value} {q:Value→Hp→Prop} (hf:T f=some (.code F)):WC T f args h q↔G T (fin F.res F.drop h.next q) F.body [] (aBW args) h:=by
 rw[aHD hf]
 unfold G
 constructor
 ·exact fun hw=>hw.mono fun x e h hq=>by cases x<;>exact hq
 ·exact fun hw=>hw.mono fun x e h hq=>by cases x<;>exact hq
end
section
variable {T:Nat→Option Fn} {Q:Ex→Env→Hp→Prop} {kk:List Fr} {e:Env} {h:Hp} {dd:Option Nat} {ll:List O} {base ii:Nat} {li:List It}
@[simp] theorem aTx {x:X}:GO T Q (⟨dd,none,.mov x⟩::ll) kk e h↔GV T Q (opV e h (.mov x)) dd ll kk e:=aP rfl
@[simp] theorem aSq {x:X}:GI T Q base (.op ii ⟨dd,none,.mov x⟩::li) kk e h↔GVI T Q (opV e h (.mov x)) dd base li kk e:=aO rfl
@[simp] theorem aSA {c a b:X}:GO T Q (⟨dd,none,.pick c a b⟩::ll) kk e h↔GV T Q (opV e h (.pick c a b)) dd ll kk e:=aP rfl
@[simp] theorem aRc {c a b:X}:GI T Q base (.op ii ⟨dd,none,.pick c a b⟩::li) kk e h↔GVI T Q (opV e h (.pick c a b)) dd base li kk e:=aO rfl
@[simp] theorem aSt {zero:List Value}:GO T Q (⟨dd,none,.new zero⟩::ll) kk e h↔GV T Q (opV e h (.new zero)) dd ll kk e:=aP rfl
@[simp] theorem aTD {zero:List Value}:GI T Q base (.op ii ⟨dd,none,.new zero⟩::li) kk e h↔GVI T Q (opV e h (.new zero)) dd base li kk e:=aO rfl
@[simp] theorem aT1 {x:X}:GO T Q (⟨dd,none,.box x⟩::ll) kk e h↔GV T Q (opV e h (.box x)) dd ll kk e:=aP rfl
@[simp] theorem aTb {x:X}:GI T Q base (.op ii ⟨dd,none,.box x⟩::li) kk e h↔GVI T Q (opV e h (.box x)) dd base li kk e:=aO rfl
@[simp] theorem aPS {zero:List Value} {parts:List (Nat×Nat×X)}:GO T Q (⟨dd,none,.build zero parts⟩::ll) kk e h↔GV T Q (opV e h (.build zero parts)) dd ll kk e:=aP rfl
@[simp] theorem aPo {zero:List Value} {parts:List (Nat×Nat×X)}:GI T Q base (.op ii ⟨dd,none,.build zero parts⟩::li) kk e h↔GVI T Q (opV e h (.build zero parts)) dd base li kk e:=aO rfl
@[simp] theorem aSb {len:Nat} {zero:List Value} {parts:List (Nat×Nat×X)}:GO T Q (⟨dd,none,.bsl len zero parts⟩::ll) kk e h↔GV T Q (opV e h (.bsl len zero parts)) dd ll kk e:=aP rfl
@[simp] theorem aSj {len:Nat} {zero:List Value} {parts:List (Nat×Nat×X)}:GI T Q base (.op ii ⟨dd,none,.bsl len zero parts⟩::li) kk e h↔GVI T Q (opV e h (.bsl len zero parts)) dd base li kk e:=aO rfl
@[simp] theorem a0c {x:X}:GO T Q (⟨dd,none,.ld x⟩::ll) kk e h↔GV T Q (opV e h (.ld x)) dd ll kk e:=aP rfl
@[simp] theorem aZL {x:X}:GI T Q base (.op ii ⟨dd,none,.ld x⟩::li) kk e h↔GVI T Q (opV e h (.ld x)) dd base li kk e:=aO rfl
@[simp] theorem aTR {n:Nat} {x:X}:GO T Q (⟨dd,none,.ldn n x⟩::ll) kk e h↔GV T Q (opV e h (.ldn n x)) dd ll kk e:=aP rfl
@[simp] theorem aTE {n:Nat} {x:X}:GI T Q base (.op ii ⟨dd,none,.ldn n x⟩::li) kk e h↔GVI T Q (opV e h (.ldn n x)) dd base li kk e:=aO rfl
@[simp] theorem a1k {a x:X}:GO T Q (⟨dd,none,.st a x⟩::ll) kk e h↔GV T Q (opV e h (.st a x)) dd ll kk e:=aP rfl
@[simp] theorem aWd {a x:X}:GI T Q base (.op ii ⟨dd,none,.st a x⟩::li) kk e h↔GVI T Q (opV e h (.st a x)) dd base li kk e:=aO rfl
@[simp] theorem aTg {n:Nat} {a x:X}:GO T Q (⟨dd,none,.stn n a x⟩::ll) kk e h↔GV T Q (opV e h (.stn n a x)) dd ll kk e:=aP rfl
@[simp] theorem aSv {n:Nat} {a x:X}:GI T Q base (.op ii ⟨dd,none,.stn n a x⟩::li) kk e h↔GVI T Q (opV e h (.stn n a x)) dd base li kk e:=aO rfl
@[simp] theorem aQi {x:X}:GO T Q (⟨dd,none,.nilc x⟩::ll) kk e h↔GV T Q (opV e h (.nilc x)) dd ll kk e:=aP rfl
@[simp] theorem aRb {x:X}:GI T Q base (.op ii ⟨dd,none,.nilc x⟩::li) kk e h↔GVI T Q (opV e h (.nilc x)) dd base li kk e:=aO rfl
@[simp] theorem aTX {op:BinOp} {x y:X}:GO T Q (⟨dd,none,.bin op x y⟩::ll) kk e h↔GV T Q (opV e h (.bin op x y)) dd ll kk e:=aP rfl
@[simp] theorem aSy {op:BinOp} {x y:X}:GI T Q base (.op ii ⟨dd,none,.bin op x y⟩::li) kk e h↔GVI T Q (opV e h (.bin op x y)) dd base li kk e:=aO rfl
@[simp] theorem aTk {neg:Bool} {x y:X}:GO T Q (⟨dd,none,.eqb neg x y⟩::ll) kk e h↔GV T Q (opV e h (.eqb neg x y)) dd ll kk e:=aP rfl
@[simp] theorem aSs {neg:Bool} {x y:X}:GI T Q base (.op ii ⟨dd,none,.eqb neg x y⟩::li) kk e h↔GVI T Q (opV e h (.eqb neg x y)) dd base li kk e:=aO rfl
@[simp] theorem aTy {kd:Nat} {neg:Bool} {x:X}:GO T Q (⟨dd,none,.eqn kd neg x⟩::ll) kk e h↔GV T Q (opV e h (.eqn kd neg x)) dd ll kk e:=aP rfl
@[simp] theorem aS7 {kd:Nat} {neg:Bool} {x:X}:GI T Q base (.op ii ⟨dd,none,.eqn kd neg x⟩::li) kk e h↔GVI T Q (opV e h (.eqn kd neg x)) dd base li kk e:=aO rfl
@[simp] theorem aT3 {neg:Bool} {ty:Ty} {x y:X}:GO T Q (⟨dd,none,.eqt neg ty x y⟩::ll) kk e h↔GV T Q (opV e h (.eqt neg ty x y)) dd ll kk e:=aP rfl
@[simp] theorem aTt {neg:Bool} {ty:Ty} {x y:X}:GI T Q base (.op ii ⟨dd,none,.eqt neg ty x y⟩::li) kk e h↔GVI T Q (opV e h (.eqt neg ty x y)) dd base li kk e:=aO rfl
@[simp] theorem a2m {op:UnOp} {x:X}:GO T Q (⟨dd,none,.un op x⟩::ll) kk e h↔GV T Q (opV e h (.un op x)) dd ll kk e:=aP rfl
@[simp] theorem aZt {op:UnOp} {x:X}:GI T Q base (.op ii ⟨dd,none,.un op x⟩::li) kk e h↔GVI T Q (opV e h (.un op x)) dd base li kk e:=aO rfl
@[simp] theorem aQR {k:IntKind} {x:X}:GO T Q (⟨dd,none,.conv k x⟩::ll) kk e h↔GV T Q (opV e h (.conv k x)) dd ll kk e:=aP rfl
@[simp] theorem aQy {k:IntKind} {x:X}:GI T Q base (.op ii ⟨dd,none,.conv k x⟩::li) kk e h↔GVI T Q (opV e h (.conv k x)) dd base li kk e:=aO rfl
@[simp] theorem aTQ {x:X}:GO T Q (⟨dd,none,.b2s x⟩::ll) kk e h↔GV T Q (opV e h (.b2s x)) dd ll kk e:=aP rfl
@[simp] theorem aSo {x:X}:GI T Q base (.op ii ⟨dd,none,.b2s x⟩::li) kk e h↔GVI T Q (opV e h (.b2s x)) dd base li kk e:=aO rfl
@[simp] theorem aSn {x:X}:GO T Q (⟨dd,none,.s2b x⟩::ll) kk e h↔GV T Q (opV e h (.s2b x)) dd ll kk e:=aP rfl
@[simp] theorem aSu {x:X}:GI T Q base (.op ii ⟨dd,none,.s2b x⟩::li) kk e h↔GVI T Q (opV e h (.s2b x)) dd base li kk e:=aO rfl
@[simp] theorem aUn {x:X}:GO T Q (⟨dd,none,.ms x⟩::ll) kk e h↔GV T Q (opV e h (.ms x)) dd ll kk e:=aP rfl
@[simp] theorem a0v {x:X}:GI T Q base (.op ii ⟨dd,none,.ms x⟩::li) kk e h↔GVI T Q (opV e h (.ms x)) dd base li kk e:=aO rfl
@[simp] theorem aSw {id:Nat} {caps:List X}:GO T Q (⟨dd,none,.mkf id caps⟩::ll) kk e h↔GV T Q (opV e h (.mkf id caps)) dd ll kk e:=aP rfl
@[simp] theorem aT7 {id:Nat} {caps:List X}:GI T Q base (.op ii ⟨dd,none,.mkf id caps⟩::li) kk e h↔GVI T Q (opV e h (.mkf id caps)) dd base li kk e:=aO rfl
@[simp] theorem aS6:GO T Q (⟨dd,none,.mkm ⟩::ll) kk e h↔GV T Q (opV e h (.mkm )) dd ll kk e:=aP rfl
@[simp] theorem aTj:GI T Q base (.op ii ⟨dd,none,.mkm ⟩::li) kk e h↔GVI T Q (opV e h (.mkm )) dd base li kk e:=aO rfl
@[simp] theorem aTU {bytes:Nat} {x:X}:GO T Q (⟨dd,none,.mkc bytes x⟩::ll) kk e h↔GV T Q (opV e h (.mkc bytes x)) dd ll kk e:=aP rfl
@[simp] theorem aTF {bytes:Nat} {x:X}:GI T Q base (.op ii ⟨dd,none,.mkc bytes x⟩::li) kk e h↔GVI T Q (opV e h (.mkc bytes x)) dd base li kk e:=aO rfl
@[simp] theorem aTH {zero:List Value} {bytes:Nat} {l c:X}:GO T Q (⟨dd,none,.mks zero bytes l c⟩::ll) kk e h↔GV T Q (opV e h (.mks zero bytes l c)) dd ll kk e:=aP rfl
@[simp] theorem aSf {zero:List Value} {bytes:Nat} {l c:X}:GI T Q base (.op ii ⟨dd,none,.mks zero bytes l c⟩::li) kk e h↔GVI T Q (opV e h (.mks zero bytes l c)) dd base li kk e:=aO rfl
@[simp] theorem aTM {x:X} {lo hi:Option X}:GO T Q (⟨dd,none,.sls x lo hi⟩::ll) kk e h↔GV T Q (opV e h (.sls x lo hi)) dd ll kk e:=aP rfl
@[simp] theorem aSm {x:X} {lo hi:Option X}:GI T Q base (.op ii ⟨dd,none,.sls x lo hi⟩::li) kk e h↔GVI T Q (opV e h (.sls x lo hi)) dd base li kk e:=aO rfl
@[simp] theorem aXC {sz:Nat} {x:X} {lo hi mx:Option X}:GO T Q (⟨dd,none,.sl sz x lo hi mx⟩::ll) kk e h↔GV T Q (opV e h (.sl sz x lo hi mx)) dd ll kk e:=aP rfl
@[simp] theorem a1q {sz:Nat} {x:X} {lo hi mx:Option X}:GI T Q base (.op ii ⟨dd,none,.sl sz x lo hi mx⟩::li) kk e h↔GVI T Q (opV e h (.sl sz x lo hi mx)) dd base li kk e:=aO rfl
@[simp] theorem aTq {n sz:Nat} {x:X} {lo hi mx:Option X}:GO T Q (⟨dd,none,.sla n sz x lo hi mx⟩::ll) kk e h↔GV T Q (opV e h (.sla n sz x lo hi mx)) dd ll kk e:=aP rfl
@[simp] theorem aTN {n sz:Nat} {x:X} {lo hi mx:Option X}:GI T Q base (.op ii ⟨dd,none,.sla n sz x lo hi mx⟩::li) kk e h↔GVI T Q (opV e h (.sla n sz x lo hi mx)) dd base li kk e:=aO rfl
@[simp] theorem a1j {off:Nat} {x:X}:GO T Q (⟨dd,none,.fa off x⟩::ll) kk e h↔GV T Q (opV e h (.fa off x)) dd ll kk e:=aP rfl
@[simp] theorem aUK {off:Nat} {x:X}:GI T Q base (.op ii ⟨dd,none,.fa off x⟩::li) kk e h↔GVI T Q (opV e h (.fa off x)) dd base li kk e:=aO rfl
@[simp] theorem aTn {off:Nat} {x:X}:GO T Q (⟨dd,none,.fld off x⟩::ll) kk e h↔GV T Q (opV e h (.fld off x)) dd ll kk e:=aP rfl
@[simp] theorem aTV {off:Nat} {x:X}:GI T Q base (.op ii ⟨dd,none,.fld off x⟩::li) kk e h↔GVI T Q (opV e h (.fld off x)) dd base li kk e:=aO rfl
@[simp] theorem aQ6 {off n:Nat} {x:X}:GO T Q (⟨dd,none,.fldn off n x⟩::ll) kk e h↔GV T Q (opV e h (.fldn off n x)) dd ll kk e:=aP rfl
@[simp] theorem aQD {off n:Nat} {x:X}:GI T Q base (.op ii ⟨dd,none,.fldn off n x⟩::li) kk e h↔GVI T Q (opV e h (.fldn off n x)) dd base li kk e:=aO rfl
@[simp] theorem aVa {sz:Nat} {x i:X}:GO T Q (⟨dd,none,.ia sz x i⟩::ll) kk e h↔GV T Q (opV e h (.ia sz x i)) dd ll kk e:=aP rfl
@[simp] theorem a0y {sz:Nat} {x i:X}:GI T Q base (.op ii ⟨dd,none,.ia sz x i⟩::li) kk e h↔GVI T Q (opV e h (.ia sz x i)) dd base li kk e:=aO rfl
@[simp] theorem aTp {n sz:Nat} {x i:X}:GO T Q (⟨dd,none,.iaa n sz x i⟩::ll) kk e h↔GV T Q (opV e h (.iaa n sz x i)) dd ll kk e:=aP rfl
@[simp] theorem aTu {n sz:Nat} {x i:X}:GI T Q base (.op ii ⟨dd,none,.iaa n sz x i⟩::li) kk e h↔GVI T Q (opV e h (.iaa n sz x i)) dd base li kk e:=aO rfl
@[simp] theorem aTe {x i:X}:GO T Q (⟨dd,none,.ixs x i⟩::ll) kk e h↔GV T Q (opV e h (.ixs x i)) dd ll kk e:=aP rfl
@[simp] theorem aTf {x i:X}:GI T Q base (.op ii ⟨dd,none,.ixs x i⟩::li) kk e h↔GVI T Q (opV e h (.ixs x i)) dd base li kk e:=aO rfl
@[simp] theorem aTP {n:Nat} {x i:X}:GO T Q (⟨dd,none,.ixa n x i⟩::ll) kk e h↔GV T Q (opV e h (.ixa n x i)) dd ll kk e:=aP rfl
@[simp] theorem aTs {n:Nat} {x i:X}:GI T Q base (.op ii ⟨dd,none,.ixa n x i⟩::li) kk e h↔GVI T Q (opV e h (.ixa n x i)) dd base li kk e:=aO rfl
@[simp] theorem aQd {n sz:Nat} {x i:X}:GO T Q (⟨dd,none,.ixan n sz x i⟩::ll) kk e h↔GV T Q (opV e h (.ixan n sz x i)) dd ll kk e:=aP rfl
@[simp] theorem aRV {n sz:Nat} {x i:X}:GI T Q base (.op ii ⟨dd,none,.ixan n sz x i⟩::li) kk e h↔GVI T Q (opV e h (.ixan n sz x i)) dd base li kk e:=aO rfl
@[simp] theorem aQF {ty:Ty} {zero:Value} {ok:Bool} {m k:X}:GO T Q (⟨dd,none,.look ty zero ok m k⟩::ll) kk e h↔GV T Q (opV e h (.look ty zero ok m k)) dd ll kk e:=aP rfl
@[simp] theorem aQI {ty:Ty} {zero:Value} {ok:Bool} {m k:X}:GI T Q base (.op ii ⟨dd,none,.look ty zero ok m k⟩::li) kk e h↔GVI T Q (opV e h (.look ty zero ok m k)) dd base li kk e:=aO rfl
@[simp] theorem aSP {ty:Ty} {m k v:X}:GO T Q (⟨dd,none,.mset ty m k v⟩::ll) kk e h↔GV T Q (opV e h (.mset ty m k v)) dd ll kk e:=aP rfl
@[simp] theorem aQG {ty:Ty} {m k v:X}:GI T Q base (.op ii ⟨dd,none,.mset ty m k v⟩::li) kk e h↔GVI T Q (opV e h (.mset ty m k v)) dd base li kk e:=aO rfl
@[simp] theorem aSk {x:X} {i:Nat}:GO T Q (⟨dd,none,.ext x i⟩::ll) kk e h↔GV T Q (opV e h (.ext x i)) dd ll kk e:=aP rfl
@[simp] theorem aTC {x:X} {i:Nat}:GI T Q base (.op ii ⟨dd,none,.ext x i⟩::li) kk e h↔GVI T Q (opV e h (.ext x i)) dd base li kk e:=aO rfl
@[simp] theorem aSz {kd:Nat} {x:X}:GO T Q (⟨dd,none,.len kd x⟩::ll) kk e h↔GV T Q (opV e h (.len kd x)) dd ll kk e:=aP rfl
@[simp] theorem aTO {kd:Nat} {x:X}:GI T Q base (.op ii ⟨dd,none,.len kd x⟩::li) kk e h↔GVI T Q (opV e h (.len kd x)) dd base li kk e:=aO rfl
@[simp] theorem aRB {n:Nat}:GO T Q (⟨dd,none,.lenk n⟩::ll) kk e h↔GV T Q (opV e h (.lenk n)) dd ll kk e:=aP rfl
@[simp] theorem aRt {n:Nat}:GI T Q base (.op ii ⟨dd,none,.lenk n⟩::li) kk e h↔GVI T Q (opV e h (.lenk n)) dd base li kk e:=aO rfl
@[simp] theorem aSg {sz bytes:Nat} {x y:X}:GO T Q (⟨dd,none,.app sz bytes x y⟩::ll) kk e h↔GV T Q (opV e h (.app sz bytes x y)) dd ll kk e:=aP rfl
@[simp] theorem aTG {sz bytes:Nat} {x y:X}:GI T Q base (.op ii ⟨dd,none,.app sz bytes x y⟩::li) kk e h↔GVI T Q (opV e h (.app sz bytes x y)) dd base li kk e:=aO rfl
@[simp] theorem aSp {sz:Nat} {x y:X}:GO T Q (⟨dd,none,.cpy sz x y⟩::ll) kk e h↔GV T Q (opV e h (.cpy sz x y)) dd ll kk e:=aP rfl
@[simp] theorem aSx {sz:Nat} {x y:X}:GI T Q base (.op ii ⟨dd,none,.cpy sz x y⟩::li) kk e h↔GVI T Q (opV e h (.cpy sz x y)) dd base li kk e:=aO rfl
@[simp] theorem aSh {ty:Ty} {m k:X}:GO T Q (⟨dd,none,.del ty m k⟩::ll) kk e h↔GV T Q (opV e h (.del ty m k)) dd ll kk e:=aP rfl
@[simp] theorem aTL {ty:Ty} {m k:X}:GI T Q base (.op ii ⟨dd,none,.del ty m k⟩::li) kk e h↔GVI T Q (opV e h (.del ty m k)) dd base li kk e:=aO rfl
@[simp] theorem aTY {zero:List Value} {x:X}:GO T Q (⟨dd,none,.clr zero x⟩::ll) kk e h↔GV T Q (opV e h (.clr zero x)) dd ll kk e:=aP rfl
@[simp] theorem aSl {zero:List Value} {x:X}:GI T Q base (.op ii ⟨dd,none,.clr zero x⟩::li) kk e h↔GVI T Q (opV e h (.clr zero x)) dd base li kk e:=aO rfl
@[simp] theorem aQS {x:X}:GO T Q (⟨dd,none,.clrm x⟩::ll) kk e h↔GV T Q (opV e h (.clrm x)) dd ll kk e:=aP rfl
@[simp] theorem aQX {x:X}:GI T Q base (.op ii ⟨dd,none,.clrm x⟩::li) kk e h↔GVI T Q (opV e h (.clrm x)) dd base li kk e:=aO rfl
@[simp] theorem aUt {x y:X}:GO T Q (⟨dd,none,.mx x y⟩::ll) kk e h↔GV T Q (opV e h (.mx x y)) dd ll kk e:=aP rfl
@[simp] theorem aWl {x y:X}:GI T Q base (.op ii ⟨dd,none,.mx x y⟩::li) kk e h↔GVI T Q (opV e h (.mx x y)) dd base li kk e:=aO rfl
@[simp] theorem aYW {x y:X}:GO T Q (⟨dd,none,.mn x y⟩::ll) kk e h↔GV T Q (opV e h (.mn x y)) dd ll kk e:=aP rfl
@[simp] theorem a2a {x y:X}:GI T Q base (.op ii ⟨dd,none,.mn x y⟩::li) kk e h↔GVI T Q (opV e h (.mn x y)) dd base li kk e:=aO rfl
end
@[simp] theorem a2b {res:List RV} {n:Nat} {q:Value→Hp→Prop} {e:Env} {h:Hp}:fin res (some []) n q .n e h↔∃ v,resV e h res=some v∧q v h:=Iff.rfl
@[simp] theorem a0H {res:List RV} {n:Nat} {q:Value→Hp→Prop} {e:Env} {h:Hp}:fin res (some []) n q .r e h↔∃ v,resV e h res=some v∧q v h:=Iff.rfl
@[simp] theorem aOW {e:Env} {h:Hp}:resV e h []=some (.tuple #[]):=rfl
@[simp] theorem aT0 {e:Env} {h:Hp} {n:Nat}:resV e h [.t n]=some (e n):=rfl
@[simp] theorem aQH {e:Env} {h:Hp} {n m:Nat}:resV e h [.t n,.t m]=some (.tuple #[e n,e m]):=rfl
@[simp] theorem aRN {e:Env}:evs e []=[]:=rfl
@[simp] theorem aPm {e:Env} {x:X} {l:List X}:evs e (x::l)=x.ev e::evs e l:=rfl
@[simp] theorem aPg {l:List Value} {t:Nat}:aBW l t=(l[t]?).getD undef:=rfl
def aSV:Value→Option Value
 | .pointer (some a)=>some (.pointer (some a))
 | .func (.func f) a b=>some (.func (.func f) a b)
 | _=>none
def aL2 (a b:Value):Value→Option Value
 | .bool t=>some (if t then a else b)
 | _=>none
def aQu (neg:Bool):Value→Value→Option Value
 | .bool a,.bool b=>some (.bool ((a == b) != neg))
 | _,_=>none
def aS1 (i:Nat):Value→Option Value
 | .tuple vs=>vs.toList[i]?
 | _=>none
def aT9 (i:Nat):Value→Option Value
 | .agg cs=>cs.toList[i]?
 | _=>none
def aQn:Value→Option Value
 | .slice _ n _=>some (goInt n)
 | _=>none
def iaV (sz:Nat) (i:Value):Value→Option Value
 | .slice (some a) n _=>(aAV n i).map fun k=>ptr a.block (a.off+k*sz)
 | _=>none
section
variable {e:Env} {h:Hp} {x y z:X}
@[simp] theorem aKa:opV e h (.mov x)=some (x.ev e,h):=rfl
@[simp] theorem aPQ:opV e h (.pick x y z)=(aL2 (y.ev e) (z.ev e) (x.ev e)).map fun v=>(v,h):=by
 simp only[opV,aL2]
 generalize x.ev e=v
 cases v<;>rfl
@[simp] theorem aS2 {l:List Value}:opV e h (.new l)=some (ptr h.next 0,h.push (.cells false l)):=rfl
@[simp] theorem aQh:opV e h (.box x)=if isJ (x.ev e)=true then none else some (ptr h.next 0,h.push (.cells false (x.ev e).cells.toList)):=by
 simp only[opV,opA]
 split<;>rfl
@[simp] theorem aNy {l:List Value} {ps:List (Nat×Nat×X)}:opV e h (.build l ps)=(aAt l (evp e ps)).map fun c=>(.agg c.toArray,h):=rfl
@[simp] theorem aRD {n:Nat} {l:List Value} {ps:List (Nat×Nat×X)}:opV e h (.bsl n l ps)=(aAt l (evp e ps)).map fun c=>(.slice (some ⟨h.next,0,none⟩) n n,h.push (.cells false c)):=by
 simp only[opV,opA]
 cases aAt l (evp e ps)<;>rfl
@[simp] theorem aNz:opV e h (.ld x)=(at? (x.ev e)).bind fun p=>(h.rd p.1 p.2).map fun v=>(v,h):=rfl
@[simp] theorem aMB {n:Nat}:opV e h (.ldn n x)=(at? (x.ev e)).bind fun p=>(h.rdn p.1 p.2 n).map fun c=>(.agg c.toArray,h):=rfl
@[simp] theorem aNs:opV e h (.st x y)=(at? (x.ev e)).bind fun p=>if one (y.ev e)=true then (h.wr p.1 p.2 [y.ev e]).map fun h=>(undef,h) else none:=rfl
@[simp] theorem aPl:opV e h (.nilc x)=(aSV (x.ev e)).map fun v=>(v,h):=by
 simp only[opV,aSV]
 generalize x.ev e=v
 cases v<;>first | rfl | skip
 ·rename_i p; cases p<;>rfl
 ·rename_i f _ _; cases f<;>rfl
@[simp] theorem aGZ {op:BinOp}:opV e h (.bin op x y)=(aG op (x.ev e) (y.ev e)).map fun v=>(v,h):=rfl
@[simp] theorem aRQ {n:Bool}:opV e h (.eqb n x y)=(aQu n (x.ev e) (y.ev e)).map fun v=>(v,h):=by
 simp only[opV,aQu]
 generalize x.ev e=v
 generalize y.ev e=u
 cases v<;>cases u<;>rfl
@[simp] theorem aRe {k:Nat} {n:Bool}:opV e h (.eqn k n x)=(isNil k (x.ev e)).map fun b=>(.bool (b != n),h):=rfl
@[simp] theorem aQ9 {t:Ty} {n:Bool}:opV e h (.eqt n t x y)=(eqV t (x.ev e) (y.ev e)).map fun b=>(.bool (b != n),h):=rfl
@[simp] theorem aTl {op:UnOp}:opV e h (.un op x)=(unV op (x.ev e)).map fun v=>(v,h):=rfl
attribute [simp] aBy
@[simp] theorem aNt {n:Nat}:opV e h (.fa n x)=(at? (x.ev e)).map fun p=>(ptr p.1 (p.2+n),h):=rfl
@[simp] theorem aSB {n:Nat}:opV e h (.fld n x)=(aT9 n (x.ev e)).map fun v=>(v,h):=by
 simp only[opV,aT9]
 generalize x.ev e=v
 cases v<;>rfl
@[simp] theorem aQJ {n:Nat}:opV e h (.ext x n)=(aS1 n (x.ev e)).map fun v=>(v,h):=by
 simp only[opV,aS1]
 generalize x.ev e=v
 cases v<;>rfl
@[simp] theorem aTS {n:Nat}:opV e h (.ia n x y)=(iaV n (y.ev e) (x.ev e)).map fun v=>(v,h):=by
 simp only[opV,iaV]
 generalize x.ev e=v
 cases v<;>first | rfl | skip
 rename_i p _ _; cases p
 ·rfl
 ·simp only[]; cases aAV _ (y.ev e)<;>rfl
@[simp] theorem aHh:opV e h (.len 1 x)=(aQn (x.ev e)).map fun v=>(v,h):=by
 simp only[opV,aQn]
 generalize x.ev e=v
 cases v<;>rfl
@[simp] theorem aRp {n m:Nat}:opV e h (.app n m x y)=aAI h n m (x.ev e) (y.ev e):=rfl
@[simp] theorem aRL {n:Nat}:opV e h (.cpy n x y)=copyV h n (x.ev e) (y.ev e):=rfl
@[simp] theorem aSH {l:List Value} {n:Nat}:opV e h (.mks l n x y)=(aGp h.next l n (x.ev e) (y.ev e)).map fun r=>(r.1,h.push r.2):=rfl
@[simp] theorem aRO {n:Nat} {l:List X}:opV e h (.mkf n l)=some (.func (.func n) #[] (evs e l).toArray,h):=rfl
@[simp] theorem aTZ {n:Nat} {a b c:Option X}:opV e h (.sl n x a b c)=(aA3 n (x.ev e) (a.map (·.ev e)) (b.map (·.ev e)) (c.map (·.ev e))).map fun v=>(v,h):=rfl
@[simp] theorem aMt {a b:Value} {t:Bool}:aL2 a b (.bool t)=some (if t then a else b):=rfl
@[simp] theorem aPH {b o:Nat}:aSV (ptr b o)=some (ptr b o):=rfl
@[simp] theorem aNw {b o:Nat}:isNil 0 (ptr b o)=some false:=rfl
@[simp] theorem aNI:isNil 0 (.pointer none)=some true:=rfl
@[simp] theorem aNk {n a b:Bool}:aQu n (.bool a) (.bool b)=some (.bool ((a == b) != n)):=rfl
@[simp] theorem aNL {l:List Value} {i:Nat}:aS1 i (.tuple l.toArray)=l[i]?:=rfl
@[simp] theorem aNU {a:Option Addr} {n c:Nat}:aQn (.slice a n c)=some (goInt n):=rfl
@[simp] theorem a2r {n:Nat}:X.ev e (.t n)=e n:=rfl
@[simp] theorem a2p {v:Value}:X.ev e (.c v)=v:=rfl
@[simp] theorem a2q {n:Nat}:X.ev e (.f n) = .func (.func n) #[] #[]:=rfl
@[simp] theorem aPf {d:Nat} {v:Value}:put e (some d) v=upd e d v:=rfl
@[simp] theorem aP2 {v:Value}:put e none v=e:=rfl
@[simp] theorem aT5 {d t:Nat} {v:Value}:upd e d v t=if t=d then v else e t:=rfl
@[simp] theorem aPr {b:Bool}:unV .not (.bool b)=some (.bool !b):=rfl
end
def ins (n:Nat) (x:Fn) (T:Nat→Option Fn):Nat→Option Fn:=fun k=>if k=n then some x else T k
section
variable {P:Program} {any:Nat→Array Oper→Option (Nat×List It)} {T:Nat→Option Fn} {n:Nat}
theorem aEY {s:Sp} (hc:aV P n s) (hT:aBG P any T):aBG P any (ins n (.spec s) T):=fun f x h=>by
 unfold ins at h
 split at h
 ·rename_i e; subst e; cases h; exact hc
 ·exact hT f x h
end
section
variable {T:Nat→Option Fn} {Q:Ex→Env→Hp→Prop} {k:List Fr} {e:Env} {h:Hp} {a:C}
@[simp] theorem aOC:GR T Q (.loop a::k) .n e h↔G T Q (.loop a) k e h:=Iff.rfl
@[simp] theorem aOX {j:Nat}:GR T Q (.loop a::k) (.x j) e h↔GR T Q k (.x j) e h:=Iff.rfl
@[simp] theorem aOo:GR T Q (.loop a::k) .r e h↔GR T Q k .r e h:=Iff.rfl
theorem Ex.aRC:Ex.go (GR T Q k) (fun e h=>W T (.loop a) e h (GR T Q k))=GR T Q (.loop a::k):=by
 funext x e h; cases x<;>rfl
theorem aLy:G T Q (.loop a) k e h↔G T Q a (.loop a::k) e h:=by
 unfold G; rw[aJb,Ex.aRC]
theorem aOy (I:Nat→Env→Hp→Prop) (step:∀ n,(∀ m,m<n→∀ e h,I m e h→G T Q (.loop a) k e h)→∀ e h,I n e h→G T Q a (.loop a::k) e h) (n:Nat) (e:Env) (h:Hp) (hi:I n e h):G T Q (.loop a) k e h:=by
 induction n using Nat.strongRecOn generalizing e h with
 | _ n ih=>exact aLy.2 (step n (fun m hm e h hi=>ih m hm e h hi) e h hi)
end
section
variable {T:Nat→Option Fn} {Q:Ex→Env→Hp→Prop} {k:List Fr} {e:Env} {h:Hp} {K:Env→Hp→Prop}
def bC (T:Nat→Option Fn) (args:List Value) (h:Hp) (q:Value→Hp→Prop):Value→Prop
 | .func (.func f) a caps=>a.size=0∧WC T f (args++caps.toList) h q
 | _=>False
theorem aI9 {d:Option Nat} {x:X} {xs:List X} {l:List O}:WO T (⟨d,none,.bC x xs⟩::l) e h K↔bC T (evs e xs) h (fun v h=>WO T l (put e d v) h K) (x.ev e):=by
 rw[aAP]
 cases hx:x.ev e with
 | func f a caps =>
  cases f with
  | func f =>
   constructor
   ·rintro ⟨n,e',h',h1,h2⟩
    simp only[bF,gd,act,hx] at h1
    split at h1
    ·rename_i ha
     obtain ⟨r,h3,h4⟩:=Option.map_eq_some_iff.1 h1
     cases h4
     exact ⟨ha,n,_,_,h3,h2⟩
    ·cases h1
   ·rintro ⟨ha,n,v,h',h1,h2⟩
    exact ⟨n,_,_,by simp only[bF,gd,act,hx,ha,if_true,h1,Option.map_some],h2⟩
  | _=>exact ⟨fun ⟨n,e',h',h1,h2⟩=>by simp[bF,gd,act,hx] at h1,fun hf=>hf.elim⟩
 | _=>exact ⟨fun ⟨n,e',h',h1,h2⟩=>by simp[bF,gd,act,hx] at h1,fun hf=>hf.elim⟩
def GCV (T:Nat→Option Fn) (Q:Ex→Env→Hp→Prop) (args:List Value) (d:Option Nat) (l:List O) (k:List Fr) (e:Env) (h:Hp):Value→Prop
 | .func (.func f) a caps=>a.size=0∧GC T Q f (args++caps.toList) d l k e h
 | _=>False
@[simp] theorem aPd {d:Option Nat} {x:X} {xs:List X} {l:List O}:GO T Q (⟨d,none,.bC x xs⟩::l) k e h↔GCV T Q (evs e xs) d l k e h (x.ev e):=by
 unfold GO
 rw[aI9]
 cases x.ev e with
 | func f a caps=>cases f<;>rfl
 | _=>rfl
@[simp] theorem aPw {args:List Value} {d:Option Nat} {l:List O} {f:Nat} {a caps:Array Value}:GCV T Q args d l k e h (.func (.func f) a caps)↔a.size=0∧GC T Q f (args++caps.toList) d l k e h:=Iff.rfl
def opsOf:List It→Option (List O)
 | []=>some []
 | .op _ o::l=>(opsOf l).map (o::·)
 | _::_=>none
@[simp] theorem aNj:opsOf []=some []:=rfl
@[simp] theorem aPW {i:Nat} {o:O} {l:List It}:opsOf (.op i o::l)=(opsOf l).map (o::·):=rfl
@[simp] theorem aPi {i j:Nat} {o:O} {l:List It}:opsOf (.al i j o::l)=none:=rfl
@[simp] theorem aP9 {i:Nat} {o:O} {l:List It}:opsOf (.re i o::l)=none:=rfl
theorem aFm {base:Nat}:∀ {l:List It} {os:List O} {e:Env} {h:Hp},opsOf l=some os→(WI T base l e h K↔WO T os e h K)
 | [],_,e,h,ho=>by cases ho; rw[aFq,aAQ]
 | .op i o::l,os,e,h,ho=>by
  obtain ⟨os',h1,rfl⟩:=Option.map_eq_some_iff.1 ho
  rw[aEt,aAP,aAP]
  constructor
  ·rintro ⟨n,e',h',h2,h3⟩
   rw[aAQ] at h3
   exact ⟨n,e',h',h2,(aFm h1).1 h3⟩
  ·rintro ⟨n,e',h',h2,h3⟩
   exact ⟨n,e',h',h2,aAQ.2 ((aFm h1).2 h3)⟩
 | .al .. :: _,_,_,_,ho=>by cases ho
 | .re .. :: _,_,_,_,ho=>by cases ho
def aR7 (T:Nat→Option Fn) (Q:Ex→Env→Hp→Prop) (m:Nat) (l:List It) (k:List Fr) (e:Env) (h:Hp):Option (List O)→Prop
 | some os=>GO T Q os k e (h.adv m)
 | none=>GI T Q h.next l k e (h.adv m)
@[simp] theorem aTw {m:Nat} {l:List It}:G T Q (.any m l) k e h↔aR7 T Q m l k e h (opsOf l):=by
 rw[aQN]
 cases ho:opsOf l with
 | none=>rfl
 | some os=>exact aFm ho
@[simp] theorem aOr {m:Nat} {l:List It} {os:List O}:aR7 T Q m l k e h (some os)↔GO T Q os k e (h.adv m):=Iff.rfl
@[simp] theorem aNo {m:Nat} {l:List It}:aR7 T Q m l k e h none↔GI T Q h.next l k e (h.adv m):=Iff.rfl
def GGI (T:Nat→Option Fn) (Q:Ex→Env→Hp→Prop) (w:Bool) (base i:Nat) (d:Option Nat) (op:Op) (l:List It) (k:List Fr) (e:Env) (h:Hp):Value→Prop
 | .bool t=>if t=w then GI T Q base (.op i ⟨d,none,op⟩::l) k e h else GI T Q base l k (put e d undef) h
 | .tuple _=>GI T Q base l k (put e d undef) h
 | _=>False
@[simp] theorem a0b {base i:Nat} {d:Option Nat} {t:Nat} {w:Bool} {op:Op} {l:List It}:GI T Q base (.op i ⟨d,some (t,w),op⟩::l) k e h↔GGI T Q w base i d op l k e h (e t):=by
 unfold GI
 rw[aEt,aJn]
 cases hv:e t with
 | bool b =>
  by_cases hb:b=w
  ·subst hb; simp only[gdn,GGI,if_true]; exact aEt.symm
  ·simp only[gdn,GGI,hb,if_false]; exact aAQ
 | tuple vs=>exact aAQ
 | _=>exact Iff.rfl
@[simp] theorem aPV {base i:Nat} {d:Option Nat} {t w:Bool} {op:Op} {l:List It}:GGI T Q w base i d op l k e h (.bool t)↔if t=w then GI T Q base (.op i ⟨d,none,op⟩::l) k e h else GI T Q base l k (put e d undef) h:=Iff.rfl
def GCI (T:Nat→Option Fn) (Q:Ex→Env→Hp→Prop) (f:Nat) (args:List Value) (d:Option Nat) (base:Nat) (l:List It) (k:List Fr) (e:Env) (h:Hp):Prop :=
 WC T f args h fun v h=>GI T Q base l k (put e d v) h
@[simp] theorem aSR {base i:Nat} {d:Option Nat} {f:Nat} {xs:List X} {l:List It}:GI T Q base (.op i ⟨d,none,.call f xs⟩::l) k e h↔GCI T Q f (evs e xs) d base l k e h:=by
 unfold GI GCI
 rw[aEt,aDE]
 exact ⟨fun hw=>hw.mono fun v h hq=>aAQ.1 hq,fun hw=>hw.mono fun v h hq=>aAQ.2 hq⟩
def GAl (T:Nat→Option Fn) (Q:Ex→Env→Hp→Prop) (b:Nat) (d:Option Nat) (base:Nat) (l:List It) (k:List Fr) (e:Env) (h:Hp):Option (Value×Ob)→Prop
 | some r=>GI T Q base l k (put e d r.1) (h.put b (some r.2))
 | none=>False
@[simp] theorem aWS {base i j:Nat} {d:Option Nat} {op:Op} {l:List It}:GI T Q base (.al i j ⟨d,none,op⟩::l) k e h↔GAl T Q (base+j) d base l k e h (opA (base+j) e op):=by
 unfold GI
 rw[aR6]
 cases opA (base+j) e op with
 | none=>exact ⟨fun ⟨_,_,h1,_⟩=>(by cases h1),fun hf=>hf.elim⟩
 | some r=>exact ⟨fun ⟨_,_,h1,h2⟩=>(by cases h1; exact h2),fun hk=>⟨_,_,rfl,hk⟩⟩
@[simp] theorem aP1 {b:Nat} {d:Option Nat} {base:Nat} {l:List It} {r:Value×Ob}:GAl T Q b d base l k e h (some r)↔GI T Q base l k (put e d r.1) (h.put b (some r.2)):=Iff.rfl
def GRe (T:Nat→Option Fn) (Q:Ex→Env→Hp→Prop) (u:Value) (base:Nat) (l:List It) (k:List Fr) (e:Env) (h:Hp):Option (Value×Hp)→Prop
 | some r=>veq r.1 u=true∧GI T Q base l k e h
 | none=>False
@[simp] theorem aZ4 {base i t:Nat} {op:Op} {l:List It}:GI T Q base (.re i ⟨some t,none,op⟩::l) k e h↔GRe T Q (e t) base l k e h (opV e h op):=by
 unfold GI
 rw[aRs]
 cases opV e h op with
 | none=>exact ⟨fun ⟨_,_,h1,_⟩=>(by cases h1),fun hf=>hf.elim⟩
 | some r=>exact ⟨fun ⟨_,_,h1,h2⟩=>(by cases h1; exact h2),fun hk=>⟨_,_,rfl,hk⟩⟩
@[simp] theorem aPX {u:Value} {base:Nat} {l:List It} {r:Value×Hp}:GRe T Q u base l k e h (some r)↔veq r.1 u=true∧GI T Q base l k e h:=Iff.rfl
theorem aHi {base i t g:Nat} {w:Bool} {op:Op} {l:List It}:WI T base (.re i ⟨some t,some (g,w),op⟩::l) e h K↔gdn (e g) w (WI T base (.re i ⟨some t,none,op⟩::l) e h K) (WI T base l e h K):=by
 rw[aAd]
 cases hv:e g with
 | bool b =>
  by_cases hb:b=w
  ·subst hb
   simp only[gdn,if_true]
   rw[aAd]
   simp only[aZ,gd,hv,beq_self_eq_true]
  ·have hbw:(b == w)=false:=by simpa using hb
   simp only[gdn,hb,if_false,aZ,gd,hv,hbw]
   exact ⟨fun ⟨_,_,_,h1,h2⟩=>(by cases h1; exact h2),fun hk=>⟨0,_,_,rfl,hk⟩⟩
 | tuple vs =>
  simp only[gdn,aZ,gd,hv]
  exact ⟨fun ⟨_,_,_,h1,h2⟩=>(by cases h1; exact h2),fun hk=>⟨0,_,_,rfl,hk⟩⟩
 | _=>exact ⟨fun ⟨_,_,_,h1,_⟩=>(by simp[aZ,gd,hv] at h1),fun hf=>hf.elim⟩
def GGR (T:Nat→Option Fn) (Q:Ex→Env→Hp→Prop) (w:Bool) (base i t:Nat) (op:Op) (l:List It) (k:List Fr) (e:Env) (h:Hp):Value→Prop
 | .bool b=>if b=w then GI T Q base (.re i ⟨some t,none,op⟩::l) k e h else GI T Q base l k e h
 | .tuple _=>GI T Q base l k e h
 | _=>False
@[simp] theorem aPO {base i t g:Nat} {w:Bool} {op:Op} {l:List It}:GI T Q base (.re i ⟨some t,some (g,w),op⟩::l) k e h↔GGR T Q w base i t op l k e h (e g):=by
 unfold GI
 rw[aHi]
 cases e g<;>rfl
@[simp] theorem aPL {base i t:Nat} {w b:Bool} {op:Op} {l:List It}:GGR T Q w base i t op l k e h (.bool b)↔if b=w then GI T Q base (.re i ⟨some t,none,op⟩::l) k e h else GI T Q base l k e h:=Iff.rfl
@[simp] theorem aDa (k:IntKind) (n:Int):veq (.int k n) (.int k n)=true:=by simp[veq,aIb]
@[simp] theorem aPa (b:Bool):veq (.bool b) (.bool b)=true:=by simp[veq,aIb]
@[simp] theorem aS9 (x:BitVec 8):veq (u8 x) (u8 x)=true:=aDa _ _
@[simp] theorem aR8 (x:BitVec 32):veq (u32 x) (u32 x)=true:=aDa _ _
@[simp] theorem aSW (x:BitVec 64):veq (u64 x) (u64 x)=true:=aDa _ _
@[simp] theorem aSI (b o:Nat):veq (ptr b o) (ptr b o)=true:=by simp[veq,aIb,ptr]
@[simp] theorem aOO (a:Option Addr) (n c:Nat):veq (.slice a n c) (.slice a n c)=true:=by
 cases a with
 | none=>simp[veq,aIb]
 | some a=>obtain ⟨b,o,s⟩:=a; simp[veq,aIb]
@[simp] theorem aPn {w:Bool} {d:Option Nat} {op:Op} {l:List O}:GG T Q undef w d op l k e h↔GO T Q l k (put e d undef) h:=Iff.rfl
@[simp] theorem aN6 {base i:Nat} {d:Option Nat} {w:Bool} {op:Op} {l:List It}:GGI T Q w base i d op l k e h undef↔GI T Q base l k (put e d undef) h:=Iff.rfl
@[simp] theorem aO9 {base i t:Nat} {w:Bool} {op:Op} {l:List It}:GGR T Q w base i t op l k e h undef↔GI T Q base l k e h:=Iff.rfl
end
attribute [simp] Hp.rd Hp.cells Hp.wr over goInt aAj aAb aAH aAN
attribute [simp] aOc aNu aOG aOQ aRR aOR aGf aOn aNd aOd aNp aPA aOp aOf aN0 aOT aEx aGQ aGd aGg aFV aFP aFA aFS aFI aFN aEc aFK aFH
@[simp] theorem a2t (n:Nat) (h:n<256):Value.int .u8 (no_index (OfNat.ofNat n))=u8 (BitVec.ofNat 8 n):=aKJ n h
attribute [simp] aK8 aLC aLf aKu aNm aLU aEj aLH aLa aL8 aM8 aLX aMd aK4 aLJ aLV aDj aFB aFU aEm aDS aDI aDy aDR aDK aDZ aDX aCw aDL
@[simp] theorem a0U (n:Nat) (h:n<65536):Value.int .u16 (no_index (OfNat.ofNat n))=u16 (BitVec.ofNat 16 n):=aM5 n h
attribute [simp] aK5 aLl aM2 aLj aN8 aKl aFF aLZ aMI aMG aKw aMU aL7 aLn aLt aMP aDx aE8 aEr aEa aDq aDM aED aDN aDs aEB aD0 aDB aDO
@[simp] theorem a1v (n:Nat) (h:n<4294967296):Value.int .u32 (no_index (OfNat.ofNat n))=u32 (BitVec.ofNat 32 n):=aGo n h
attribute [simp] aKr aLi aLb aLc aNc aKU aFO aLQ aMc aMm aM9 aML aM4 aK7 aMZ aM0 aDw aFW aE9 aEg aDk aDn aD3 aDl aDW aD2 aDe aDC aD1
@[simp] theorem aV2 (n:Nat) (h:n<18446744073709551616):Value.int .u64 (no_index (OfNat.ofNat n))=u64 (BitVec.ofNat 64 n):=aGl n h
attribute [simp] aEb aDr aD9
section
variable (a b:Int)
@[simp] theorem aRF:aG .add (.int .i64 a) (.int .i64 b)=some (.int .i64 (IntKind.i64.wrap (a+b))):=rfl
@[simp] theorem aSC:aG .sub (.int .i64 a) (.int .i64 b)=some (.int .i64 (IntKind.i64.wrap (a-b))):=rfl
@[simp] theorem aRK:aG .mul (.int .i64 a) (.int .i64 b)=some (.int .i64 (IntKind.i64.wrap (a*b))):=rfl
@[simp] theorem aQV (h:b≠0):aG .quo (.int .i64 a) (.int .i64 b)=some (.int .i64 (IntKind.i64.wrap (a.tdiv b))):=by simp[aG,aS,h]
@[simp] theorem aSX (h:b≠0):aG .rem (.int .i64 a) (.int .i64 b)=some (.int .i64 (a.tmod b)):=by simp[aG,aS,h]
@[simp] theorem aSS:aG .eql (.int .i64 a) (.int .i64 b)=some (.bool (decide (a=b))):=rfl
@[simp] theorem aS0:aG .neq (.int .i64 a) (.int .i64 b)=some (.bool (!decide (a=b))):=rfl
@[simp] theorem aR1:aG .lss (.int .i64 a) (.int .i64 b)=some (.bool (decide (a<b))):=rfl
@[simp] theorem aPz:aG .leq (.int .i64 a) (.int .i64 b)=some (.bool (decide (a≤b))):=rfl
@[simp] theorem aSQ:aG .gtr (.int .i64 a) (.int .i64 b)=some (.bool (decide (b<a))):=rfl
@[simp] theorem aRn:aG .geq (.int .i64 a) (.int .i64 b)=some (.bool (decide (b≤a))):=rfl
@[simp] theorem aRg:unV .neg (.int .i64 a)=some (.int .i64 (IntKind.i64.wrap (0-a))):=rfl
@[simp] theorem aKs (k:IntKind):cvt .i64 (.int k a)=some (.int .i64 (IntKind.i64.wrap a)):=rfl
end
attribute [simp] wrap_i64
theorem aHE (a:Int) (k:IntKind) (n:Nat):aG .shl (.int .i64 a) (.int k (n:Int))=some (.int .i64 (IntKind.i64.wrap (a*2^(min n 64)))):=by
 have hn:¬ ((n:Int)<0):=by omega
 simp[aG,aAW,hn,IntKind.bits]
theorem aFh (a:Int) (k:IntKind) (n:Nat):aG .shr (.int .i64 a) (.int k (n:Int))=some (.int .i64 (a.fdiv (2^(min n 64)))):=by
 have hn:¬ ((n:Int)<0):=by omega
 simp[aG,aAW,hn,IntKind.bits]
@[simp] theorem aMD (a:Int) (y:BitVec 64):aG .shl (.int .i64 a) (u64 y)=some (.int .i64 (IntKind.i64.wrap (a*2^(min y.toNat 64)))):=aHE a .u64 y.toNat
@[simp] theorem aK2 (a:Int) (y:BitVec 64):aG .shr (.int .i64 a) (u64 y)=some (.int .i64 (a.fdiv (2^(min y.toNat 64)))):=aFh a .u64 y.toNat
theorem aAF {n:Nat} {k:IntKind} {a b:Int}:bD (n+1) (.int k) (.int k a) (.int k b)=some (decide (a=b)):=by
 simp[bD]
 rfl
@[simp] theorem aMu (k:IntKind) (a b:Int):bD 20 (.int k) (.int k a) (.int k b)=some (decide (a=b)):=aAF (n:=19)
@[simp] theorem aLp (a b:Bool):bD 20 .bool (.bool a) (.bool b)=some (decide (a=b)):=rfl
@[simp] theorem aNh (a b:BitVec 8):bD 20 (.int .u8) (u8 a) (u8 b)=some (decide (a=b)):=by
 have h:=aAF (n:=19) (k := .u8) (a:=(a.toNat:Int)) (b:=(b.toNat:Int))
 have e:decide ((a.toNat:Int)=(b.toNat:Int))=decide (a=b):=by
  rw[decide_eq_decide]
  exact ⟨fun h=>BitVec.eq_of_toNat_eq (by omega),fun h=>by rw[h]⟩
 rw[e] at h
 exact h
@[simp] theorem aNM (a b:BitVec 32):bD 20 (.int .u32) (u32 a) (u32 b)=some (decide (a=b)):=by
 have h:=aAF (n:=19) (k := .u32) (a:=(a.toNat:Int)) (b:=(b.toNat:Int))
 have e:decide ((a.toNat:Int)=(b.toNat:Int))=decide (a=b):=by
  rw[decide_eq_decide]
  exact ⟨fun h=>BitVec.eq_of_toNat_eq (by omega),fun h=>by rw[h]⟩
 rw[e] at h
 exact h
@[simp] theorem aMq (a b:BitVec 64):bD 20 (.int .u64) (u64 a) (u64 b)=some (decide (a=b)):=by
 have h:=aAF (n:=19) (k := .u64) (a:=(a.toNat:Int)) (b:=(b.toNat:Int))
 have e:decide ((a.toNat:Int)=(b.toNat:Int))=decide (a=b):=by
  rw[decide_eq_decide]
  exact ⟨fun h=>BitVec.eq_of_toNat_eq (by omega),fun h=>by rw[h]⟩
 rw[e] at h
 exact h
@[simp] theorem aNN (k:IntKind) (a b:Int):bD 19 (.int k) (.int k a) (.int k b)=some (decide (a=b)):=aAF (n:=18)
@[simp] theorem aMW (a b:Bool):bD 19 .bool (.bool a) (.bool b)=some (decide (a=b)):=rfl
@[simp] theorem aOj (a b:BitVec 8):bD 19 (.int .u8) (u8 a) (u8 b)=some (decide (a=b)):=by
 have h:=aAF (n:=18) (k := .u8) (a:=(a.toNat:Int)) (b:=(b.toNat:Int))
 have e:decide ((a.toNat:Int)=(b.toNat:Int))=decide (a=b):=by
  rw[decide_eq_decide]
  exact ⟨fun h=>BitVec.eq_of_toNat_eq (by omega),fun h=>by rw[h]⟩
 rw[e] at h
 exact h
@[simp] theorem aNG (a b:BitVec 32):bD 19 (.int .u32) (u32 a) (u32 b)=some (decide (a=b)):=by
 have h:=aAF (n:=18) (k := .u32) (a:=(a.toNat:Int)) (b:=(b.toNat:Int))
 have e:decide ((a.toNat:Int)=(b.toNat:Int))=decide (a=b):=by
  rw[decide_eq_decide]
  exact ⟨fun h=>BitVec.eq_of_toNat_eq (by omega),fun h=>by rw[h]⟩
 rw[e] at h
 exact h
@[simp] theorem aMs (a b:BitVec 64):bD 19 (.int .u64) (u64 a) (u64 b)=some (decide (a=b)):=by
 have h:=aAF (n:=18) (k := .u64) (a:=(a.toNat:Int)) (b:=(b.toNat:Int))
 have e:decide ((a.toNat:Int)=(b.toNat:Int))=decide (a=b):=by
  rw[decide_eq_decide]
  exact ⟨fun h=>BitVec.eq_of_toNat_eq (by omega),fun h=>by rw[h]⟩
 rw[e] at h
 exact h
@[simp] theorem aMp (k:IntKind) (a b:Int):bD 18 (.int k) (.int k a) (.int k b)=some (decide (a=b)):=aAF (n:=17)
@[simp] theorem aMg (a b:Bool):bD 18 .bool (.bool a) (.bool b)=some (decide (a=b)):=rfl
@[simp] theorem aO4 (a b:BitVec 8):bD 18 (.int .u8) (u8 a) (u8 b)=some (decide (a=b)):=by
 have h:=aAF (n:=17) (k := .u8) (a:=(a.toNat:Int)) (b:=(b.toNat:Int))
 have e:decide ((a.toNat:Int)=(b.toNat:Int))=decide (a=b):=by
  rw[decide_eq_decide]
  exact ⟨fun h=>BitVec.eq_of_toNat_eq (by omega),fun h=>by rw[h]⟩
 rw[e] at h
 exact h
@[simp] theorem aNA (a b:BitVec 32):bD 18 (.int .u32) (u32 a) (u32 b)=some (decide (a=b)):=by
 have h:=aAF (n:=17) (k := .u32) (a:=(a.toNat:Int)) (b:=(b.toNat:Int))
 have e:decide ((a.toNat:Int)=(b.toNat:Int))=decide (a=b):=by
  rw[decide_eq_decide]
  exact ⟨fun h=>BitVec.eq_of_toNat_eq (by omega),fun h=>by rw[h]⟩
 rw[e] at h
 exact h
@[simp] theorem aMx (a b:BitVec 64):bD 18 (.int .u64) (u64 a) (u64 b)=some (decide (a=b)):=by
 have h:=aAF (n:=17) (k := .u64) (a:=(a.toNat:Int)) (b:=(b.toNat:Int))
 have e:decide ((a.toNat:Int)=(b.toNat:Int))=decide (a=b):=by
  rw[decide_eq_decide]
  exact ⟨fun h=>BitVec.eq_of_toNat_eq (by omega),fun h=>by rw[h]⟩
 rw[e] at h
 exact h
@[simp] theorem aNO (k:IntKind) (a b:Int):bD 17 (.int k) (.int k a) (.int k b)=some (decide (a=b)):=aAF (n:=16)
@[simp] theorem aKq (a b:Bool):bD 17 .bool (.bool a) (.bool b)=some (decide (a=b)):=rfl
@[simp] theorem aOP (a b:BitVec 8):bD 17 (.int .u8) (u8 a) (u8 b)=some (decide (a=b)):=by
 have h:=aAF (n:=16) (k := .u8) (a:=(a.toNat:Int)) (b:=(b.toNat:Int))
 have e:decide ((a.toNat:Int)=(b.toNat:Int))=decide (a=b):=by
  rw[decide_eq_decide]
  exact ⟨fun h=>BitVec.eq_of_toNat_eq (by omega),fun h=>by rw[h]⟩
 rw[e] at h
 exact h
@[simp] theorem aMo (a b:BitVec 32):bD 17 (.int .u32) (u32 a) (u32 b)=some (decide (a=b)):=by
 have h:=aAF (n:=16) (k := .u32) (a:=(a.toNat:Int)) (b:=(b.toNat:Int))
 have e:decide ((a.toNat:Int)=(b.toNat:Int))=decide (a=b):=by
  rw[decide_eq_decide]
  exact ⟨fun h=>BitVec.eq_of_toNat_eq (by omega),fun h=>by rw[h]⟩
 rw[e] at h
 exact h
@[simp] theorem aNF (a b:BitVec 64):bD 17 (.int .u64) (u64 a) (u64 b)=some (decide (a=b)):=by
 have h:=aAF (n:=16) (k := .u64) (a:=(a.toNat:Int)) (b:=(b.toNat:Int))
 have e:decide ((a.toNat:Int)=(b.toNat:Int))=decide (a=b):=by
  rw[decide_eq_decide]
  exact ⟨fun h=>BitVec.eq_of_toNat_eq (by omega),fun h=>by rw[h]⟩
 rw[e] at h
 exact h
def mnV:Value→Value→Option Value
 | .int k a,.int j b=>if k=j then some (.int k (if b<a then b else a)) else none
 | _,_=>none
def mxV:Value→Value→Option Value
 | .int k a,.int j b=>if k=j then some (.int k (if b>a then b else a)) else none
 | _,_=>none
@[simp] theorem aSr {e:Env} {h:Hp} {x y:X}:opV e h (.mn x y)=(mnV (x.ev e) (y.ev e)).map fun v=>(v,h):=by
 simp only[opV]
 generalize x.ev e=a
 generalize y.ev e=b
 cases a<;>first | rfl | (cases b<;>first | rfl | (simp only[mnV]; split<;>rfl))
@[simp] theorem aTo {e:Env} {h:Hp} {x y:X}:opV e h (.mx x y)=(mxV (x.ev e) (y.ev e)).map fun v=>(v,h):=by
 simp only[opV]
 generalize x.ev e=a
 generalize y.ev e=b
 cases a<;>first | rfl | (cases b<;>first | rfl | (simp only[mxV]; split<;>rfl))
@[simp] theorem aQO (a b:Int):mnV (.int .i64 a) (.int .i64 b)=some (.int .i64 (if b<a then b else a)):=rfl
@[simp] theorem aRX (a b:BitVec 32):mxV (u32 a) (u32 b)=some (u32 (if a<b then b else a)):=by
 simp only[mxV,u32,if_true]
 by_cases h:a<b
 ·have h':(b.toNat:Int)>a.toNat:=by have:=BitVec.lt_def.1 h; omega
  rw[if_pos h',if_pos h]
 ·have h':¬ (b.toNat:Int)>a.toNat:=by have:=mt BitVec.lt_def.2 h; omega
  rw[if_neg h',if_neg h]
@[simp] theorem aQ3 (a b:BitVec 32):mnV (u32 a) (u32 b)=some (u32 (if b<a then b else a)):=by
 simp only[mnV,u32,if_true]
 by_cases h:b<a
 ·have h':(b.toNat:Int)<a.toNat:=by have:=BitVec.lt_def.1 h; omega
  rw[if_pos h',if_pos h]
 ·have h':¬ (b.toNat:Int)<a.toNat:=by have:=mt BitVec.lt_def.2 h; omega
  rw[if_neg h',if_neg h]
@[simp] theorem aQk (a b:Int):mxV (.int .i64 a) (.int .i64 b)=some (.int .i64 (if b>a then b else a)):=rfl
def aRa (n:Nat) (h:Hp) (p:Nat×Nat):Value→Option (Value×Hp)
 | .agg cs=>if cs.size=n then (h.wr p.1 p.2 cs.toList).map fun h=>(undef,h) else none
 | _=>none
section
variable {e:Env} {h:Hp} {x y z:X}
@[simp] theorem aSZ {n:Nat}:opV e h (.stn n x y)=(at? (x.ev e)).bind fun p=>aRa n h p (y.ev e):=by
 simp only[opV,aRa]
 generalize y.ev e=v
 cases v<;>rfl
@[simp] theorem aPY {n:Nat} {p:Nat×Nat} {cs:Array Value}:aRa n h p (.agg cs)=if cs.size=n then (h.wr p.1 p.2 cs.toList).map fun h=>(undef,h) else none:=rfl
end
attribute [simp] opA aAt evp
@[simp] theorem aO7 (a:Option Addr) (n c:Nat):one (.slice a n c)=true:=rfl
@[simp] theorem aKt (a:Option Addr):one (.pointer a)=true:=rfl
@[simp] theorem aNV (s:ByteArray):one (.string s)=true:=rfl
@[simp] theorem aPM (r:Option Nat):one (.chan r)=true:=rfl
@[simp] theorem aPv (f:Go.Fn) (a b:Array Value):one (.func f a b)=true:=rfl
@[simp] theorem a2s {e:Env} {h:Hp} {n:Nat}:rv e h (.t n)=some (e n):=rfl
@[simp] theorem aYi {e:Env} {h:Hp} {n:Nat}:rv e h (.ld n)=(at? (e n)).bind fun p=>h.rd p.1 p.2:=rfl
@[simp] theorem aTA {e:Env} {h:Hp} {k n:Nat}:rv e h (.ldn k n)=(at? (e n)).bind fun p=>(h.rdn p.1 p.2 k).map fun c => .agg c.toArray:=rfl
@[simp] theorem aSe {e:Env} {h:Hp} {a:RV}:resV e h [a]=rv e h a:=rfl
@[simp] theorem aSc {e:Env} {h:Hp} {a b:RV}:resV e h [a,b]=(rv e h a).bind fun x=>(rv e h b).map fun y => .tuple #[x,y]:=by
 simp only[resV,List.mapM_cons,List.mapM_nil]
 cases rv e h a<;>cases rv e h b<;>rfl
@[simp] theorem aT2 {e:Env} {h:Hp} {a b c:RV}:resV e h [a,b,c]=(rv e h a).bind fun x=>(rv e h b).bind fun y=>(rv e h c).map fun z => .tuple #[x,y,z]:=by
 simp only[resV,List.mapM_cons,List.mapM_nil]
 cases rv e h a<;>cases rv e h b<;>cases rv e h c<;>rfl
@[simp] theorem aLm {h:Hp} {b:Nat} {o:Ob} (hb:b≤h.next) (hc:h.next≤b):(h.push o).get b=some o:=by
 rw[Nat.le_antisymm hb hc]
 exact aAH
@[simp] theorem aQ0 (k:IntKind) (n:Int):isJ (.int k n)=false:=rfl
@[simp] theorem aP4 (b:Bool):isJ (.bool b)=false:=rfl
@[simp] theorem aQs (a:Array Value):isJ (.agg a)=false:=rfl
@[simp] theorem aOS (a:Array Value):isJ (.tuple a)=false:=rfl
@[simp] theorem aN7 (a:Option Addr) (n c:Nat):isJ (.slice a n c)=false:=rfl
@[simp] theorem aLu (a:Option Addr):isJ (.pointer a)=false:=rfl
@[simp] theorem aNY (s:ByteArray):isJ (.string s)=false:=rfl
@[simp] theorem aPh (r:Option Nat):isJ (.chan r)=false:=rfl
@[simp] theorem aRZ (r:Option Nat):isJ (.map r)=false:=rfl
@[simp] theorem aPu (f:Go.Fn) (a b:Array Value):isJ (.func f a b)=false:=rfl
@[simp] theorem aTc (x:BitVec 8):isJ (u8 x)=false:=rfl
@[simp] theorem aRk (x:BitVec 16):isJ (u16 x)=false:=rfl
@[simp] theorem aRz (x:BitVec 32):isJ (u32 x)=false:=rfl
@[simp] theorem aSG (x:BitVec 64):isJ (u64 x)=false:=rfl
@[simp] theorem aS5 (b o:Nat):isJ (ptr b o)=false:=rfl
@[simp] theorem aOe (k:IntKind) (n:Int):(Value.int k n).cells = #[.int k n]:=rfl
@[simp] theorem aPG (x:BitVec 8):(u8 x).cells = #[u8 x]:=rfl
@[simp] theorem aNx (x:BitVec 16):(u16 x).cells = #[u16 x]:=rfl
@[simp] theorem aOl (x:BitVec 32):(u32 x).cells = #[u32 x]:=rfl
@[simp] theorem aOa (x:BitVec 64):(u64 x).cells = #[u64 x]:=rfl
@[simp] theorem aNK (b:Bool):(Value.bool b).cells = #[.bool b]:=rfl
@[simp] theorem aOu (b o:Nat):(ptr b o).cells = #[ptr b o]:=rfl
@[simp] theorem aHx (a:Option Addr):(Value.pointer a).cells = #[.pointer a]:=rfl
@[simp] theorem aL5 (a:Option Addr) (n c:Nat):(Value.slice a n c).cells = #[.slice a n c]:=rfl
@[simp] theorem aJS (s:ByteArray):(Value.string s).cells = #[.string s]:=rfl
@[simp] theorem aNv (a:Array Value):(Value.agg a).cells=a:=rfl
section
variable {T:Nat→Option Fn} {Q:Ex→Env→Hp→Prop} {k:List Fr} {e:Env} {h:Hp} {c:C}
theorem G.mono {Q':Ex→Env→Hp→Prop} (hw:G T Q c [] e h) (hq:∀ x e h,Q x e h→Q' x e h):G T Q' c [] e h :=
 W.mono hw fun x e h hx=>by simp at hx ⊢; exact hq _ _ _ hx
def aSE (S:Env→Hp→Prop):Ex→Env→Hp→Prop
 | .n,e,h=>S e h
 | _,_,_=>False
@[simp] theorem aTT {S:Env→Hp→Prop}:aSE S .n e h↔S e h:=Iff.rfl
@[simp] theorem aTr {S:Env→Hp→Prop}:aSE S .r e h↔False:=Iff.rfl
@[simp] theorem aSd {S:Env→Hp→Prop} {j:Nat}:aSE S (.x j) e h↔False:=Iff.rfl
end
structure Kp (g h:Hp):Prop where
 le:g.next≤h.next
 get:∀ b,b<g.next→h.get b=g.get b
theorem Kp.refl (h:Hp):Kp h h:=⟨Nat.le_refl _,fun _ _=>rfl⟩
theorem Kp.trans {a b c:Hp} (x:Kp a b) (y:Kp b c):Kp a c:=⟨Nat.le_trans x.le y.le,fun k hk=>(y.get k (Nat.lt_of_lt_of_le hk x.le)).trans (x.get k hk)⟩
theorem Kp.push {g h:Hp} (x:Kp g h) (o:Ob):Kp g (h.push o):=⟨Nat.le_succ_of_le x.le,fun k hk=>by
 have:=x.le
 rw[aAN (by omega)]
 exact x.get k hk⟩
theorem Kp.put {g h:Hp} (x:Kp g h) {b:Nat} (hb:g.next≤b) (o:Option Ob):Kp g (h.put b o):=⟨x.le,fun k hk=>by
 rw[aAb (by omega)]
 exact x.get k hk⟩
theorem Kp.adv {g h:Hp} (x:Kp g h) (n:Nat):Kp g (h.adv n):=⟨Nat.le_trans x.le (Nat.le_add_right _ _),x.get⟩
theorem aG8 {h:Hp} {b o n:Nat} {c:List Value} (hr:h.rdn b o n=some c):b<h.next:=by
 rcases Nat.lt_or_ge b h.next with hl | hl
 ·exact hl
 ·simp[Hp.rdn,h.wf b hl] at hr
@[simp] theorem aRW {sz n c:Nat} {i:Int} {k:IntKind} {A:Addr} (h0:0≤i) (hi:i<n):iaV sz (.int k i) (.slice (some A) n c)=some (ptr A.block (A.off+i.toNat*sz)):=by
 simp[iaV,aAV,hi,h0]
structure Enc (α:Type) where
 sz:Nat
 enc:α→List Value
 len:∀ x,(enc x).length=sz
 one:∀ x,(enc x).all one=true
 pos:0<sz
section
variable {α:Type} (E:Enc α)
def Enc.all (xs:List α):List Value:=xs.flatMap E.enc
@[simp] theorem Enc.all_nil:E.all []=[]:=rfl
@[simp] theorem Enc.all_cons (x:α) (xs:List α):E.all (x::xs)=E.enc x++E.all xs:=rfl
@[simp] theorem Enc.all_append (xs ys:List α):E.all (xs++ys)=E.all xs++E.all ys:=by simp[Enc.all]
@[simp] theorem Enc.aEd (xs:List α):(E.all xs).length=xs.length*E.sz:=by
 induction xs with
 | nil=>simp
 | cons x xs ih=>simp[ih,E.len,Nat.add_mul,Nat.add_comm]
theorem Enc.aGM (xs:List α):(E.all xs).all Dx.one=true:=by
 induction xs with
 | nil=>rfl
 | cons x xs ih=>simp only[Enc.all_cons,List.all_append,ih,E.one,Bool.and_true]
theorem Enc.take (xs:List α) (r:List Value) (k:Nat) (hk:k≤xs.length):(E.all xs++r).take (k*E.sz)=E.all (xs.take k):=by
 have h1:(E.all (xs.take k)).length=k*E.sz:=by simp[Nat.min_eq_left hk]
 have h2:E.all xs=E.all (xs.take k)++E.all (xs.drop k):=by rw[← Enc.all_append,List.take_append_drop]
 rw[h2,List.append_assoc,← h1,List.take_left]
theorem Enc.drop (xs:List α) (r:List Value) (k:Nat) (hk:k≤xs.length):(E.all xs++r).drop (k*E.sz)=E.all (xs.drop k)++r:=by
 have h1:(E.all (xs.take k)).length=k*E.sz:=by simp[Nat.min_eq_left hk]
 have h2:E.all xs=E.all (xs.take k)++E.all (xs.drop k):=by rw[← Enc.all_append,List.take_append_drop]
 rw[h2,List.append_assoc,← h1,List.drop_left]
theorem Enc.part (xs:List α) (r:List Value) (k n:Nat) (hk:k+n≤xs.length):((E.all xs++r).drop (k*E.sz)).take (n*E.sz)=E.all ((xs.drop k).take n):=by
 rw[E.drop _ _ _ (by omega),E.take _ _ _ (by simp; omega)]
theorem Enc.at' (xs:List α) (r:List Value) (k:Nat) (hk:k<xs.length):((E.all xs++r).drop (k*E.sz)).take E.sz=E.enc xs[k]:=by
 have:=E.part xs r k 1 (by omega)
 rw[Nat.one_mul] at this
 rw[this,List.drop_eq_getElem_cons hk,List.take_succ_cons,List.take_zero]
 simp
theorem Enc.over (xs ys:List α) (r:List Value) (k:Nat) (hk:k+ys.length≤xs.length):over (E.all xs++r) (k*E.sz) (E.all ys)=E.all (xs.take k++ys++xs.drop (k+ys.length))++r:=by
 unfold Dx.over
 rw[E.aEd,← Nat.add_mul,E.take _ _ _ (by omega),E.drop _ _ _ hk]
 simp
theorem Enc.set (xs:List α) (y:α) (r:List Value) (k:Nat) (hk:k<xs.length):Dx.over (E.all xs++r) (k*E.sz) (E.enc y)=E.all (xs.set k y)++r:=by
 have:=E.over xs [y] r k (by simp; omega)
 simp only[Enc.all_cons,Enc.all_nil,List.append_nil,List.length_cons,List.length_nil,Nat.zero_add] at this
 rw[this,List.set_eq_take_append_cons_drop,if_pos hk]
 simp
end
structure Upd (h h':Hp) (fp fp':List Nat):Prop where
 le:h.next≤h'.next
 get:∀ b,b<h.next→b∉fp→h'.get b=h.get b
 sub:∀ b,b∈fp'→b∈fp∨h.next≤b
theorem Upd.refl {h:Hp} {fp:List Nat}:Upd h h fp fp:=⟨Nat.le_refl _,fun _ _ _=>rfl,fun _ hb => .inl hb⟩
theorem Upd.trans {a b c:Hp} {p q r:List Nat} (x:Upd a b p q) (y:Upd b c q r):Upd a c p r:=⟨Nat.le_trans x.le y.le,fun k hk hn=>by
 rw[y.get k (Nat.lt_of_lt_of_le hk x.le),x.get k hk hn]
 intro hq
 rcases x.sub k hq with h1 | h1
 ·exact hn h1
 ·omega,fun k hk=>by
 rcases y.sub k hk with h1 | h1
 ·exact x.sub k h1
 ·exact .inr (Nat.le_trans x.le h1)⟩
structure bI {α:Type} (E:Enc α) (h:Hp) (a:Option Addr) (xs:List α):Prop where
 nil:a=none→xs=[]
 get:∀ A,a=some A→h.rdn A.block A.off (xs.length*E.sz)=some (E.all xs)
 sp:∀ A,a=some A→A.spot=none∨A.spot=some E.sz
theorem aOq {g h:Hp} {b o n:Nat} {c:List Value} (hr:g.rdn b o n=some c) (hg:h.get b=g.get b):h.rdn b o n=some c:=by
 rw[← hr]
 simp only[Hp.rdn,Hp.cells,hg]
theorem aCA {h:Hp} {b o m:Nat} {c:List Value} (hr:h.rdn b o m=some c) {k n:Nat} (hk:k+n≤m):h.rdn b (o+k) n=some ((c.drop k).take n):=by
 simp only[Hp.rdn,Option.bind_eq_some_iff] at hr ⊢
 obtain ⟨l,h1,h2⟩:=hr
 split at h2
 ·cases h2
  refine ⟨l,h1,?_⟩
  rw[if_pos (by omega)]
  congr 1
  rw[List.drop_take,List.drop_drop,List.take_take,Nat.min_eq_left (by omega)]
 ·cases h2
theorem bI.at' {α:Type} {E:Enc α} {h:Hp} {a:Option Addr} {xs:List α} (x:bI E h a xs) (i:Nat) (hi:i<xs.length):∃ A,a=some A∧h.rdn A.block (A.off+i*E.sz) E.sz=some (E.enc xs[i]):=by
 cases a with
 | none=>rw[x.nil rfl] at hi; cases hi
 | some A =>
  refine ⟨A,rfl,?_⟩
  have hm:(i+1)*E.sz≤xs.length*E.sz:=Nat.mul_le_mul_right _ hi
  rw[Nat.add_mul,Nat.one_mul] at hm
  rw[aCA (x.get A rfl) hm]
  have:=E.at' xs [] i hi
  rw[List.append_nil] at this
  rw[this]
theorem bI.nul {α:Type} {E:Enc α} {h:Hp}:bI E h none []:=⟨fun _=>rfl,fun A hA=>(by cases hA),fun A hA=>(by cases hA)⟩
theorem bI.part {α:Type} {E:Enc α} {h:Hp} {a:Option Addr} {xs:List α} {c:Nat} (x:bI E h a xs) {lo hi:Nat} (h1:lo≤hi) (h2:hi≤xs.length) (hc:xs.length≤c) {l u:Option Value} (hl:(l=none∧lo=0)∨∃ k,l=some (.int k lo)) (hu:(u=none∧hi=xs.length)∨∃ k,u=some (.int k hi)) :
  ∃ a' c',aA3 E.sz (.slice a xs.length c) l u none=some (.slice a' (hi-lo) c')∧hi-lo≤c'∧bI E h a' ((xs.drop lo).take (hi-lo)):=by
 have hb:bounds xs.length c l u none=some (lo,hi,c):=by
  have h3:hi≤c:=by omega
  rcases hl with ⟨rfl,rfl⟩ | ⟨k,rfl⟩<;>rcases hu with ⟨rfl,rfl⟩ | ⟨j,rfl⟩<;>simp[bounds,asN,h1,h3]
 have hlen:((xs.drop lo).take (hi-lo)).length=hi-lo:=by simp; omega
 cases a with
 | none =>
  have:=x.nil rfl
  subst this
  refine ⟨none,c-lo,by simp only[aA3,hb],by simp at h2; omega,?_⟩
  simp
  exact .nul
 | some A =>
  have hg:=x.get A rfl
  have hm:lo*E.sz+(hi-lo)*E.sz≤xs.length*E.sz:=by
   rw[← Nat.add_mul]
   exact Nat.mul_le_mul_right _ (by omega)
  have hp:h.rdn A.block (A.off+lo*E.sz) ((hi-lo)*E.sz)=some (E.all ((xs.drop lo).take (hi-lo))):=by
   rw[aCA hg hm]
   have:=E.part xs [] lo (hi-lo) (by omega)
   rw[List.append_nil] at this
   rw[this]
  obtain ⟨b,o,sp⟩:=A
  rcases x.sp _ rfl with hs | hs
  ·simp only at hs
   subst hs
   by_cases hcl:c=lo
   ·have h4:hi-lo=0:=by omega
    refine ⟨some ⟨b,o,none⟩,c-lo,by simp only[aA3,hb]; rw[if_pos hcl],by omega,⟨fun hA=>(by cases hA),fun A hA=>?_,fun A hA=>?_⟩⟩
    ·cases hA
     rw[hlen,h4]
     have:=aCA hg (k:=0) (n:=0) (by omega)
     simpa using this
    ·cases hA; exact .inl rfl
   ·refine ⟨some ⟨b,o+lo*E.sz,none⟩,c-lo,by simp only[aA3,hb]; rw[if_neg hcl],by omega,⟨fun hA=>(by cases hA),fun A hA=>?_,fun A hA=>?_⟩⟩
    ·cases hA; rw[hlen]; exact hp
    ·cases hA; exact .inl rfl
  ·simp only at hs
   subst hs
   refine ⟨some ⟨b,o+lo*E.sz,some E.sz⟩,c-lo,by simp[aA3,hb],by omega,⟨fun hA=>(by cases hA),fun A hA=>?_,fun A hA=>?_⟩⟩
   ·cases hA; rw[hlen]; exact hp
   ·cases hA; exact .inr rfl
theorem bI.elems {α:Type} {E:Enc α} {h:Hp} {a:Option Addr} {c:Nat} {xs:List α} (x:bI E h a xs):elems h E.sz xs.length (.slice a xs.length c)=some (E.all xs):=by
 cases a with
 | none=>rw[x.nil rfl]; rfl
 | some A=>exact x.get A rfl
inductive Own {α:Type} (E:Enc α) (h:Hp):Value→List α→List Nat→Prop where
 | nul:Own E h (.slice none 0 0) [] []
 | blk {b n c:Nat} {xs:List α} {r:List Value} (hg:h.get b=some (.cells false (E.all xs++r))) (hn:n=xs.length) (hc:n≤c) (h0:0<c) (hr:r.length=(c-n)*E.sz) :
   Own E h (.slice (some ⟨b,0,some E.sz⟩) n c) xs [b]
 | emp {b:Nat} (hg:h.get b=some (.cells false [])):Own E h (.slice (some ⟨b,0,none⟩) 0 0) [] [b]
section
variable {α:Type} {E:Enc α} {h h':Hp} {v:Value} {xs:List α} {fp:List Nat}
theorem Own.live (o:Own E h v xs fp):∀ b∈fp,b<h.next:=by
 cases o with
 | nul=>simp
 | blk hg=>simp; exact aBK hg
 | emp hg=>simp; exact aBK hg
theorem Own.keep (o:Own E h v xs fp) (hk:∀ b∈fp,h'.get b=h.get b):Own E h' v xs fp:=by
 cases o with
 | nul=>exact .nul
 | blk hg hn hc h0 hr=>exact .blk (by rw[hk _ (by simp),hg]) hn hc h0 hr
 | emp hg=>exact .emp (by rw[hk _ (by simp),hg])
theorem Own.len (o:Own E h v xs fp):∃ a c,v = .slice a xs.length c∧bI E h a xs∧xs.length≤c∧∀ A,a=some A→A.block∈fp:=by
 cases o with
 | nul=>exact ⟨_,_,rfl,.nul,Nat.le_refl _,fun A hA=>(by cases hA)⟩
 | blk hg hn hc h0 hr =>
  subst hn
  refine ⟨_,_,rfl,⟨fun hA=>(by cases hA),fun A hA=>?_,fun A hA=>(by cases hA; exact .inr rfl)⟩,hc,fun A hA=>(by cases hA; simp)⟩
  cases hA
  simp only[Hp.rdn,Hp.cells,hg,Option.bind_some,Nat.zero_add]
  rw[if_pos (by simp),List.drop_zero,E.take _ _ _ (Nat.le_refl _),List.take_length]
 | emp hg =>
  refine ⟨_,_,rfl,⟨fun hA=>(by cases hA),fun A hA=>?_,fun A hA=>(by cases hA; exact .inl rfl)⟩,Nat.le_refl _,fun A hA=>(by cases hA; simp)⟩
  cases hA
  simp[Hp.rdn,hg]
theorem Own.app (o:Own E h v xs fp) {y:Value} {ys:List α} {bytes:Nat} (hl:lenV y=some ys.length) (he:elems h E.sz ys.length y=some (E.all ys)) (hs:(2*(xs.length+ys.length)+1000)*bytes≤2^47)
  (hn:xs.length+ys.length<2^62):∃ v' h' fp',aAI h E.sz bytes v y=some (v',h')∧Own E h' v' (xs++ys) fp'∧Upd h h' fp fp':=by
 have hlen:(E.all ys).length=ys.length*E.sz:=by simp
 cases o with
 | nul =>
  simp only[List.length_nil,Nat.zero_add] at hs hn
  by_cases h0:ys.length=0
  ·have:ys=[]:=List.length_eq_zero_iff.1 h0
   subst this
   simp only[List.length_nil,Enc.all_nil] at he hl
   exact ⟨_,_,[],by simp[aAI,hl,he],.nul,.refl⟩
  ·have e:aAI h E.sz bytes (.slice none 0 0) y=some (.slice (some ⟨h.next,0,some E.sz⟩) ys.length ys.length,h.push (.cells false (E.all ys))):=by
    simp only[aAI,hl,he,hlen,if_true,Nat.zero_add]
    rw[if_neg (by omega),if_pos ⟨hs,hn⟩]
   refine ⟨_,_,[h.next],e,.blk (r:=[]) (by simp[aAH]) rfl (Nat.le_refl _) (by omega) (by simp),⟨by simp,fun b hb _=>by rw[aAN (by omega)],fun b hb=>by simp at hb; omega⟩⟩
 | blk hg hn' hc h0 hr =>
  rename_i b n c r
  subst hn'
  have hlt:=aBK hg
  by_cases hfit:xs.length+ys.length≤c
  ·by_cases hy0:ys.length=0
   ·have:ys=[]:=List.length_eq_zero_iff.1 hy0
    subst this
    have e:aAI h E.sz bytes (.slice (some ⟨b,0,some E.sz⟩) xs.length c) y=some (.slice (some ⟨b,0,some E.sz⟩) xs.length c,h):=by
     simp only[aAI,hl,he,hlen,if_true]
     rw[if_pos hfit]
     rfl
    exact ⟨_,_,[b],e,by simpa using Own.blk hg rfl hc h0 hr,.refl⟩
   ·have hm:(xs.length+ys.length)*E.sz≤c*E.sz:=Nat.mul_le_mul_right _ hfit
    rw[Nat.add_mul] at hm
    have hr':r.length=c*E.sz-xs.length*E.sz:=by rw[hr,Nat.sub_mul]
    have hle:xs.length*E.sz≤c*E.sz:=Nat.mul_le_mul_right _ hc
    have ho:Dx.over (E.all xs++r) (xs.length*E.sz) (E.all ys)=E.all (xs++ys)++r.drop (ys.length*E.sz):=by
     unfold Dx.over
     rw[E.take _ _ _ (Nat.le_refl _),List.take_length,hlen,← List.drop_drop,E.drop _ _ _ (Nat.le_refl _)]
     simp
    have e:aAI h E.sz bytes (.slice (some ⟨b,0,some E.sz⟩) xs.length c) y=some (.slice (some ⟨b,0,some E.sz⟩) (xs.length+ys.length) c,h.put b (some (.cells false (E.all (xs++ys)++r.drop (ys.length*E.sz))))):=by
     simp only[aAI,hl,he,hlen,if_true]
     rw[if_pos hfit,if_neg hy0,if_pos (by simp),aNb hg (by simp; omega) (E.aGM ys)]
     simp only[Option.map_some,Nat.zero_add,ho]
    exact ⟨_,_,[b],e,.blk (r:=r.drop (ys.length*E.sz)) (by rw[aAj hlt]) (by simp) hfit h0 (by rw[List.length_drop,hr',Nat.sub_mul,Nat.add_mul]; omega),
     ⟨by simp,fun k hk hn=>by rw[aAb (by simpa using hn)],fun k hk => .inl hk⟩⟩
  ·have hm:xs.length*E.sz≤c*E.sz:=Nat.mul_le_mul_right _ hc
   have hrd:h.rdn b 0 (xs.length*E.sz)=some (E.all xs):=by
    simp only[Hp.rdn,Hp.cells,hg,Option.bind_some,Nat.zero_add]
    rw[if_pos (by simp),List.drop_zero,E.take _ _ _ (Nat.le_refl _),List.take_length]
   have e:aAI h E.sz bytes (.slice (some ⟨b,0,some E.sz⟩) xs.length c) y=some (.slice (some ⟨h.next,0,some E.sz⟩) (xs.length+ys.length) (xs.length+ys.length),(h.put b none).push (.cells false (E.all xs++E.all ys))):=by
    simp only[aAI,hl,he,hlen,if_true]
    rw[if_neg hfit,if_pos ⟨hs,hn⟩]
    simp only[hrd,hg,E.aGM,true_and,and_true,h0,if_true]
   exact ⟨_,_,[h.next],e,.blk (r:=[]) (by rw[show h.next=(h.put b none).next from rfl,aAH]; simp) (by simp) (Nat.le_refl _) (by omega) (by simp),⟨by simp,fun k hk hn=>by
    rw[aAN (by simp; omega),aAb (by simpa using hn)],fun k hk=>by simp at hk; omega⟩⟩
 | emp hg =>
  rename_i b
  have hlt:=aBK hg
  simp only[List.length_nil,Nat.zero_add] at hs hn
  by_cases h0:ys.length=0
  ·have:ys=[]:=List.length_eq_zero_iff.1 h0
   subst this
   simp only[List.length_nil,Enc.all_nil] at he hl
   exact ⟨_,_,[b],by simp[aAI,hl,he],.emp hg,.refl⟩
  ·have e:aAI h E.sz bytes (.slice (some ⟨b,0,none⟩) 0 0) y=some (.slice (some ⟨h.next,0,some E.sz⟩) ys.length ys.length,h.push (.cells false (E.all ys))):=by
    simp only[aAI,hl,he,hlen,if_true,Nat.zero_add]
    rw[if_neg (by omega),if_pos ⟨hs,hn⟩]
    simp[Hp.rdn,hg]
   refine ⟨_,_,[h.next],e,.blk (r:=[]) (by simp[aAH]) rfl (Nat.le_refl _) (by omega) (by simp),⟨by simp,fun b hb _=>by rw[aAN (by omega)],fun b hb=>by simp at hb; omega⟩⟩
end
section
variable {sz b o n c:Nat} {k j m:IntKind} {lo hi mx:Int}
@[simp] theorem aO8 (h0:0≤hi) (h1:hi≤c):aA3 sz (.slice (some ⟨b,o,some sz⟩) n c) none (some (.int k hi)) none=some (.slice (some ⟨b,o,some sz⟩) hi.toNat c):=by
 have:hi.toNat≤c:=by omega
 simp[aA3,bounds,asN,h0,this]
@[simp] theorem aOF (h0:0≤lo) (h1:lo≤n) (h2:n≤c):aA3 sz (.slice (some ⟨b,o,some sz⟩) n c) (some (.int k lo)) none none=some (.slice (some ⟨b,o+lo.toNat*sz,some sz⟩) (n-lo.toNat) (c-lo.toNat)):=by
 have:lo.toNat≤n:=by omega
 simp[aA3,bounds,asN,h0,this]
@[simp] theorem aKc (h0:0≤lo) (h1:lo≤hi) (h2:hi≤c):aA3 sz (.slice (some ⟨b,o,some sz⟩) n c) (some (.int k lo)) (some (.int j hi)) none=some (.slice (some ⟨b,o+lo.toNat*sz,some sz⟩) (hi.toNat-lo.toNat) (c-lo.toNat)):=by
 have h3:0≤hi:=by omega
 obtain ⟨l,rfl⟩:=Int.eq_ofNat_of_zero_le h0
 obtain ⟨m,rfl⟩:=Int.eq_ofNat_of_zero_le h3
 have h4:m≤c:=by omega
 have h5:l≤m:=by omega
 simp[aA3,bounds,asN,h4,h5]
end
def aRx (zero:List Value) (h:Hp):Value→Option (Value×Hp)
 | .slice none _ _=>some (.tuple #[],h)
 | .slice (some a) n _=>if n=0 then some (.tuple #[],h) else (h.wr a.block a.off (List.replicate n zero).flatten).map fun h=>(.tuple #[],h)
 | _=>none
@[simp] theorem aQW {e:Env} {h:Hp} {z:List Value} {x:X}:opV e h (.clr z x)=aRx z h (x.ev e):=by
 simp only[opV,aRx]
 generalize x.ev e=v
 cases v<;>rfl
@[simp] theorem aMw {z:List Value} {h:Hp} {a:Addr} {n c:Nat}:aRx z h (.slice (some a) n c)=if n=0 then some (.tuple #[],h) else (h.wr a.block a.off (List.replicate n z).flatten).map fun h=>(.tuple #[],h):=rfl
section
variable {α:Type} {E:Enc α} {h:Hp} {b:Nat} {A B:List α} {x y:α} {r:List Value}
theorem aGz {o n:Nat} {c:List Value} (hr:h.rdn b o n=some c):∃ ro C,h.get b=some (.cells ro C)∧∀ k,k<n→C[o+k]?=c[k]?:=by
 simp only[Hp.rdn,Option.bind_eq_some_iff] at hr
 obtain ⟨l,h1,h2⟩:=hr
 unfold Hp.cells at h1
 split at h1
 ·rename_i ro C hg
  cases h1
  split at h2
  ·cases h2
   exact ⟨ro,_,hg,fun k hk=>by rw[List.getElem?_take_of_lt hk,List.getElem?_drop]⟩
  ·cases h2
 ·cases h1
theorem bI.mid {a:Option Addr} (hs:bI E h a (A++x::B)):∃ A0,a=some A0∧h.rdn A0.block (A0.off+A.length*E.sz) E.sz=some (E.enc x):=by
 obtain ⟨A0,h1,h2⟩:=hs.at' A.length (by simp)
 refine ⟨A0,h1,?_⟩
 rw[h2]
 simp
end
section
variable {α:Type} {E:Enc α} {T:Nat→Option Fn} {Q:Ex→Env→Hp→Prop} {k:List Fr} {e:Env} {h:Hp} {d:Option Nat} {l:List O} {v:Value} {xs:List α} {fp:List Nat}
@[simp] theorem aQK {o:Ob}:(h.adv 1).put h.next (some o)=h.push o:=Hp.ext' rfl fun b=>by
 simp only[Hp.put,Hp.adv,Hp.push]
 by_cases hb:b=h.next<;>simp[hb]
end
theorem aLh {α:Type} {motive:List α→Prop} (l:List α) (nil:motive []) (append_singleton:∀ l x,motive l→motive (l++[x])):motive l:=by
 have:∀ m:List α,motive m.reverse:=by
  intro m
  induction m with
  | nil=>exact nil
  | cons x m ih=>rw[List.reverse_cons]; exact append_singleton _ _ ih
 have h:=this l.reverse
 rwa [List.reverse_reverse] at h
section
variable {α:Type} (key:α→Int)
def aPp (x:α):List α→List α
 | []=>[x]
 | y::ys=>if key x<key y then y::aPp x ys else x::y::ys
def aOb (x:α) (p:List α):List α:=(aPp key x p.reverse).reverse
def aFE (l:List α):List α:=l.foldl (fun p x=>aOb key x p) []
@[simp] theorem aPt (x:α):aOb key x []=[x]:=rfl
theorem aDc (x:α) (p:List α):(aPp key x p).length=p.length+1:=by
 induction p with
 | nil=>rfl
 | cons y p ih =>
  simp only[aPp]
  split<;>simp[ih]
@[simp] theorem aKY (x:α) (p:List α):(aOb key x p).length=p.length+1:=by simp[aOb,aDc]
theorem aFQ (l:List α) (x:α):aFE key (l++[x])=aOb key x (aFE key l):=by simp[aFE]
@[simp] theorem aN5:aFE key ([]:List α)=[]:=rfl
@[simp] theorem aPC (x:α):aFE key [x]=[x]:=rfl
@[simp] theorem aJq (l:List α):(aFE key l).length=l.length:=by
 induction l using aLh with
 | nil=>rfl
 | append_singleton l x ih=>rw[aFQ]; simp[ih]
end
section
variable {α:Type} (key:α→Int)
end
def a0Y (n:Nat):Nat:=if n=0 then 0 else n.log2+1
def clz (v:BitVec 32):Nat:=32-a0Y v.toNat
def aXy (a b:BitVec 32) (s:Bool):Int:=if s then a.toInt*b.toInt else a.toNat*b.toNat
def aRA (a b:BitVec 32) (s:Bool):BitVec 32:=BitVec.ofInt 32 (aXy a b s / 4294967296)
def aUU (a b:BitVec 32) (s:Bool):BitVec 32:=if b=0#32 then 4294967295#32 else if s then BitVec.ofInt 32 (a.toInt.tdiv b.toInt) else a / b
def a2l (a b:BitVec 32) (s:Bool):BitVec 32:=if b=0#32 then a else if s then BitVec.ofInt 32 (a.toInt.tmod b.toInt) else a%b
def sar (v:BitVec 32) (n:Nat):BitVec 32:=v.sshiftRight n
def less (a b:BitVec 32) (s:Bool):Bool:=if s then decide (a.toInt<b.toInt) else decide (a.toNat<b.toNat)
theorem wrap_i32 (v:BitVec 32):IntKind.i32.wrap (v.toNat:Int)=v.toInt:=by
 rw[BitVec.toInt_eq_toNat_cond]
 have:=v.isLt
 simp[IntKind.wrap,IntKind.bits,IntKind.signed]
 split<;>omega
theorem aBl (v:BitVec 32) : -2147483648≤v.toInt∧v.toInt<2147483648:=by
 rw[BitVec.toInt_eq_toNat_cond]
 have:=v.isLt
 split<;>omega
section
variable (a b:Int)
@[simp] theorem aLT (v:BitVec 32):cvt .i32 (u32 v)=some (.int .i32 v.toInt):=by
 simp only[cvt,u32]
 rw[← wrap_i32]
@[simp] theorem aLx (v:BitVec 32):cvt .i64 (.int .i32 v.toInt)=some (.int .i64 v.toInt):=by
 have:=aBl v
 have h:IntKind.i64.wrap v.toInt=v.toInt:=wrap_i64 (by omega) (by omega)
 simp only[cvt,h]
@[simp] theorem aSK:aG .lss (.int .i32 a) (.int .i32 b)=some (.bool (decide (a<b))):=rfl
@[simp] theorem aRG:aG .leq (.int .i32 a) (.int .i32 b)=some (.bool (decide (a≤b))):=rfl
@[simp] theorem aSN:aG .gtr (.int .i32 a) (.int .i32 b)=some (.bool (decide (b<a))):=rfl
@[simp] theorem aQE:aG .geq (.int .i32 a) (.int .i32 b)=some (.bool (decide (b≤a))):=rfl
end
section
variable (a b:BitVec 32)
@[simp] theorem aJv:IntKind.i64.wrap a.toInt=a.toInt:=by
 have:=aBl a
 exact wrap_i64 (by omega) (by omega)
@[simp] theorem aNJ:IntKind.i64.wrap (a.toNat:Int)=a.toNat:=by
 have:=a.isLt
 exact wrap_i64 (by omega) (by omega)
end
structure IOp where
 k:Int
 d:Int
 a:Int
 b:Int
 imm:BitVec 32
instance (x y:IOp):Decidable (x=y) :=
 if h:x.k=y.k∧x.d=y.d∧x.a=y.a∧x.b=y.b∧x.imm=y.imm then .isTrue (by cases x; cases y; simp_all) else .isFalse (fun e=>h (by subst e; simp))
def IOp.ok (o:IOp):Prop:=(0≤o.d∧o.d<40)∧(0≤o.a∧o.a<40)∧(0≤o.b∧o.b<40)∧0≤o.k∧o.k≤22
instance (o:IOp):Decidable o.ok:=by unfold IOp.ok; exact inferInstance
def b1 (t:Bool):BitVec 32:=if t then 1#32 else 0#32
def iof (o:IOp) (a b:BitVec 32):BitVec 32 :=
 if o.k=1 then o.imm else if o.k=3 then a+b else if o.k=4 then a-b else if o.k=5 then a&&&b else if o.k=6 then a|||b
 else if o.k=7 then a^^^b else if o.k=8 then ~~~ (a|||b) else if o.k=9 then a<<<(b.toNat%32) else if o.k=10 then a>>>(b.toNat%32)
 else if o.k=11 then sar a (b.toNat%32) else if o.k=12 then b1 (less a b true) else if o.k=13 then b1 (less a b false) else if o.k=14 then a*b
 else if o.k=15 then BitVec.ofNat 32 (clz a) else if o.k=16 then BitVec.ofNat 32 (clz (~~~ a)) else a
abbrev aCv:=List (BitVec 32)
def rg (R:aCv) (i:Int):BitVec 32:=R.getD i.toNat 0#32
def ido (R:aCv) (o:IOp):aCv :=
 if o.k=17∨o.k=18 then (R.set 32 (aRA (rg R o.a) (rg R o.b) (o.k=17))).set 33 (rg R o.a*rg R o.b)
 else if o.k=19∨o.k=20 then (R.set 33 (aUU (rg R o.a) (rg R o.b) (o.k=19))).set 32 (a2l (rg R o.a) (rg R o.b) (o.k=19))
 else if o.k=0∨o.d=0∨(o.k=21∧rg R o.b≠0#32)∨(o.k=22∧rg R o.b=0#32) then R
 else R.set o.d.toNat (iof o (rg R o.a) (rg R o.b))
def aNP (R:aCv) (L:List IOp):aCv:=L.foldl ido R
def oks (L:List IOp):Prop:=∀ o∈L,o.ok
instance (L:List IOp):Decidable (oks L):=by unfold oks; exact inferInstance
@[simp] theorem aEe (R:aCv) (o:IOp):(ido R o).length=R.length:=by
 unfold ido
 split
 ·simp
 ·split
  ·simp
  ·split<;>simp
@[simp] theorem aKz (R:aCv) (L:List IOp):(aNP R L).length=R.length:=by
 unfold aNP
 induction L generalizing R with
 | nil=>rfl
 | cons o L ih=>rw[List.foldl_cons,ih,aEe]
@[simp] theorem aPN (R:aCv):aNP R []=R:=rfl
@[simp] theorem aOD (R:aCv) (o:IOp) (L:List IOp):aNP R (o::L)=aNP (ido R o) L:=rfl
def aRl (l:List Int):List Int:=((List.range 40).map Int.ofNat).filter fun c=>decide (c∈l)
def aJW (o:IOp):List Int :=
 if ¬ o.ok∨o.k=0∨o.k=1 then [] else if o.k=2∨o.k=15∨o.k=16 then aRl [o.a] else if o.k=21∨o.k=22 then aRl [o.a,o.b,o.d] else aRl [o.a,o.b]
def aD7 (o:IOp):List Int :=
 if ¬ o.ok∨o.k=0 then [] else if 17≤o.k∧o.k≤20 then [32,33] else if o.d=0 then [] else [o.d]
def aQM (o:IOp):Bool:=decide (o.k≠21)&&decide (o.k≠22)
abbrev Live:=Int→Bool
def aR2 (o:IOp) (lv:Live):Live:=fun c=>if c∈aJW o then true else if c∈aD7 o then lv c && !aQM o else lv c
def aYM (o:IOp) (lv:Live):Bool:=(aD7 o).any lv
def aOx (o:IOp) (s:Live×List IOp):Live×List IOp:=if aYM o s.1=true then (aR2 o s.1,o::s.2) else s
def live0:Live:=fun c=>decide (0≤c∧c<34)
def aQ5 (L:List IOp):Live×List IOp:=L.foldr aOx (live0,[])
@[simp] theorem aP3:aQ5 []=(live0,[]):=rfl
@[simp] theorem aNa (o:IOp) (L:List IOp):aQ5 (o::L)=aOx o (aQ5 L):=rfl
def aUO:Live:=fun c=>decide (1≤c∧c<34)
def aO6 (o:IOp) (a:Live):Live:=fun c=>if c∈aJW o then true else if c∈aD7 o then false else a c
def asks (L:List IOp):Live:=L.foldr aO6 aUO
@[simp] theorem aOt (o:IOp) (L:List IOp):asks (o::L)=aO6 o (asks L):=rfl
structure Facts where
 is:Live
 v:aCv
structure FI (f:Facts) (R:aCv):Prop where
 len:f.v.length=40
 eq:∀ c,0≤c→c<40→f.is c=true→rg f.v c=rg R c
def leaves (R:aCv) (L:List IOp):aCv:=(aNP R L).take 34
end Go.Dx
