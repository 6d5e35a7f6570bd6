/-
  Programs in plain values, and the check that a piece of code does what such a program says: the check is a function, so that the kernel carries it out.
-/
import Derived.Test.YtikgppgpailmcaaAlLook2
namespace Go.AL

/-- The state in which these slots are as they were, and those hold what is said; the objects are given. -/
def mk (s : AS) (l : List Nat) (A : List (Nat × D) × List Ob) : AS := { s with env := A.1 ++ l.map fun t => (t, s.get t), eqs := [], S := A.2 }

/-- A program in plain values, and where they lie. -/
inductive Prog : Type → Type 1
  | ret {τ : Type} (r : τ) : Prog τ
  | fail {τ : Type} : Prog τ
  | inner {τ : Type} (p : Prog τ) : Prog τ
  | op {τ α : Type} (κ : Ky) (m : Option α) (e : α → D) (k : α → Prog τ) : Prog τ
  | mem {τ α : Type} (κ : Ky) (m : Option α) (c : α → Ob) (k : α → Prog τ) : Prog τ
  | fix {τ : Type} (i t len k : Nat) (xs : List (List D)) (p : Prog τ) : Prog τ
  | split {τ : Type} (t : Nat) (c : Bool) (x y : Prog τ) : Prog τ
  | join {σ τ : Type} (l : List Nat) (A : σ → List (Nat × D) × List Ob) (m : Prog (σ ⊕ τ)) (k : σ → Prog τ) : Prog τ
  | loop {σ ρ τ : Type} (l : List Nat) (A : σ → List (Nat × D) × List Ob) (st : σ) (nx : σ → ρ → σ) (body : σ → Prog (ρ ⊕ τ)) : Prog τ
  | rng {σ τ : Type} (x tc n : Nat) (l : List Nat) (A : Int → σ → List (Nat × D) × List Ob) (st : σ) (body : Nat → σ → Prog (σ ⊕ τ)) (ex : σ → τ) : Prog τ

/-- More rounds than any loop makes. -/
def big : Nat := 2 ^ 64

def loopE {σ ρ τ : Type} (nx : σ → ρ → σ) (F : σ → Option (ρ ⊕ τ)) : Nat → σ → Option τ
  | 0, _ => none
  | n + 1, st =>
    match F st with
    | some (.inl x) => loopE nx F n (nx st x)
    | some (.inr r) => some r
    | none => none
def rngE {σ τ : Type} (F : Nat → σ → Option (σ ⊕ τ)) (ex : σ → τ) : Nat → Nat → σ → Option τ
  | 0, _, st => some (ex st)
  | k + 1, i, st =>
    match F i st with
    | some (.inl st') => rngE F ex k (i + 1) st'
    | some (.inr r) => some r
    | none => none
def joinE {σ τ : Type} (m : Option (σ ⊕ τ)) (k : σ → Option τ) : Option τ :=
  match m with
  | some (.inl st) => k st
  | some (.inr r) => some r
  | none => none

def Prog.eval {τ : Type} : Prog τ → Option τ
  | .ret r => some r
  | .fail => none
  | .inner p => p.eval
  | .op _ m _ k => m.bind fun a => (k a).eval
  | .mem _ m _ k => m.bind fun a => (k a).eval
  | .fix _ _ len _ xs p => if xs.length = len then p.eval else none
  | .split _ c x y => if c then x.eval else y.eval
  | .join _ _ m k => joinE m.eval fun st => (k st).eval
  | .loop _ _ st nx body => loopE nx (fun st => (body st).eval) big st
  | .rng _ _ n _ _ st body ex => rngE (fun i st => (body i st).eval) ex n 0 st

/-- Its operations give what it says. -/
def Prog.ok (P : Program) {τ : Type} : Prog τ → Prop
  | .ret _ | .fail => True
  | .inner p => p.ok P
  | .op κ m e k => (∀ a, m = some a → κ.ok P (e a)) ∧ ∀ a, m = some a → (k a).ok P
  | .mem κ m c k => (∀ a, m = some a → κ.okO (c a)) ∧ ∀ a, m = some a → (k a).ok P
  | .fix _ _ _ k xs p => (∀ x ∈ xs, x.length = k) ∧ p.ok P
  | .split _ c x y => (c = true → x.ok P) ∧ (c = false → y.ok P)
  | .join _ _ m k => m.ok P ∧ ∀ st, (k st).ok P
  | .loop _ _ _ _ body => ∀ st, (body st).ok P
  | .rng _ _ n _ _ _ body _ => ∀ i st, i < n → (body i st).ok P

/-- What is to be shown: pairs that must agree. -/
inductive T : Type 1
  | ok
  | bad
  | eq (a b : List D) (r : T)
  | key (a b : Ky) (r : T)
  | and (x y : T)
  | all {α : Type} (f : α → T)
inductive U : Type 1
  | ok
  | bad
  | eq (a : List D) (r : U)
  | key (a : Ky) (r : U)
  | and (x y : U)
  | all {α : Type} (f : α → U)
def T.holds : T → Prop
  | .ok => True
  | .bad => False
  | .eq a b r => a = b ∧ r.holds
  | .key a b r => a = b ∧ r.holds
  | .and x y => x.holds ∧ y.holds
  | .all f => ∀ a, (f a).holds
def T.lhs : T → U
  | .ok => .ok
  | .bad => .bad
  | .eq a _ r => .eq a r.lhs
  | .key a _ r => .key a r.lhs
  | .and x y => .and x.lhs y.lhs
  | .all f => .all fun a => (f a).lhs
def T.rhs : T → U
  | .ok => .ok
  | .bad => .ok
  | .eq _ b r => .eq b r.rhs
  | .key _ b r => .key b r.rhs
  | .and x y => .and x.rhs y.rhs
  | .all f => .all fun a => (f a).rhs
/-- One equation for all of them. -/
theorem T.of_eq : ∀ (t : T), t.lhs = t.rhs → t.holds
  | .ok, _ => trivial
  | .bad, h => by cases h
  | .eq a b r, h => by
    simp only [T.lhs, T.rhs, U.eq.injEq] at h
    exact ⟨h.1, T.of_eq r h.2⟩
  | .key a b r, h => by
    simp only [T.lhs, T.rhs, U.key.injEq] at h
    exact ⟨h.1, T.of_eq r h.2⟩
  | .and x y, h => by
    simp only [T.lhs, T.rhs, U.and.injEq] at h
    exact ⟨T.of_eq x h.1, T.of_eq y h.2⟩
  | .all f, h => by
    simp only [T.lhs, T.rhs, U.all.injEq, heq_eq_eq, true_and] at h
    exact fun a => T.of_eq (f a) (congrFun h a)

def obD : Ob → D
  | .cells cs => .agg cs
  | .arr cs => .iptr cs
  | .mp L => .tup (L.map fun p => .tup [p.1, p.2])
  | .dead => .undef
def obsOk (n : Nat) : List Ob → Bool
  | [] => true
  | .cells cs :: r => D.okmL n cs && obsOk n r
  | .arr _ :: r => obsOk n r
  | .mp _ :: r => obsOk n r
  | .dead :: r => obsOk n r

/-- What is known is forgotten as far as is asked. -/
def fitD (a b : D) : D :=
  match a with
  | .osl z xs => match b with
    | .sl _ => .sl xs
    | .osl k ys => match z, xs, ys with
      | 0, [], [] => .osl k []
      | _, _, _ => .osl z xs
    | _ => .osl z xs
  | a => a
def fitL : List D → List D → List D
  | a :: r, b :: q => fitD a b :: fitL r q
  | a, _ => a
def fitO (a b : Ob) : Ob :=
  match a with
  | .cells cs => match b with
    | .cells ds => .cells (fitL cs ds)
    | _ => .cells cs
  | a => a
def fitS : List Ob → List Ob → List Ob
  | a :: r, b :: q => fitO a b :: fitS r q
  | a, _ => a
def fitAS (s : AS) (A : List (Nat × D) × List Ob) : AS := { s with env := (A.1.map fun p => (p.1, fitD (s.get p.1) p.2)) ++ s.env, S := fitS s.S A.2 }

/-- The state s' says at least what is asked. -/
def mat0 (s' s : AS) (l : List Nat) (A : List (Nat × D) × List Ob) (r : T) : T :=
  .eq (l.map s'.get) (l.map s.get) (.eq (A.1.map fun p => s'.get p.1) (A.1.map (·.2)) (.eq ((s'.S.take A.2.length).map obD) (A.2.map obD)
    (.eq [.bool (Nat.beq s'.n s.n && D.okmL A.2.length (l.map s.get) && D.okmL A.2.length (A.1.map (·.2)) && obsOk A.2.length A.2)] [.bool true] r)))

def mat (s' s : AS) (l : List Nat) (A : List (Nat × D) × List Ob) (r : T) : T := mat0 (fitAS s' A) s l A r

def lit (s : AS) (t : Nat) (b : Bool) : AS := { s with env := (t, .bool b) :: s.env }

def Prog.at {τ : Type} (t : Nat) : Prog τ → Option (Bool × Prog τ × Prog τ)
  | .split t' c x y => match Nat.beq t' t with
    | true => some (c, x, y)
    | false => none
  | _ => none

/-- Operations in the order of the text. -/
def xops (tt : Nat → TE) (all : Array Oper) {τ : Type} : List Oper → AS → Prog τ → (AS → Prog τ → T) → T
  | [], s, p, K => K s p
  | o :: r, s, p, K =>
    let go : AS → Prog τ → T := fun s p =>
      match look tt o s with
      | .val d => xops tt all r (s.put o.dst d) p K
      | .st s' => xops tt all r s' p K
      | .key κ => match p with
        | .op κ' _ e k => .key κ κ' (.all fun a => xops tt all r (s.put o.dst (e a)) (k a) K)
        | _ => .bad
      | .eff κ s' => match p with
        | .op κ' _ e k => .key κ κ' (.all fun a => xops tt all r (s'.put o.dst (e a)) (k a) K)
        | _ => .bad
      | .mem κ f => match p with
        | .mem κ' _ c k => .key κ κ' (.all fun a => xops tt all r (f (c a)) (k a) K)
        | _ => .bad
      | .bad => .bad
    match o.guard with
    | none => go s p
    | some (j, want) => match (all[j]?).bind (·.dst) with
      | none => .bad
      | some t => match p.at t with
        | some (c, x, y) => .eq [s.get t] [.bool c] (.and
            (match want with
              | true => go (lit s t true) x
              | false => xops tt all r ((lit s t true).put o.dst skD) x K)
            (match want with
              | true => xops tt all r ((lit s t false).put o.dst skD) y K
              | false => go (lit s t false) y))
        | none => match s.get t with
          | .bool v => match v == want with
            | true => go s p
            | false => xops tt all r (s.put o.dst skD) p K
          | .tup _ => xops tt all r (s.put o.dst skD) p K
          | _ => .bad

def lookQ (tt : Nat → TE) (o : Oper) (s : AS) : Out :=
  match o.op with
  | .move x => .val (s.ev x).dis
  | .assign x => .val (s.ev x).dis
  | .load t x => loadP tt t x s
  | _ => look tt o s

/-- Quiet operations, in the order of the text. -/
def xopsQ (tt : Nat → TE) (all : Array Oper) {τ : Type} : List Oper → AS → Prog τ → (AS → Prog τ → T) → T
  | [], s, p, K => K s p
  | o :: r, s, p, K =>
    let go : AS → Prog τ → T := fun s p =>
      match lookQ tt o s with
      | .val d => xopsQ tt all r (s.put o.dst d) p K
      | .key κ => match p with
        | .op κ' _ e k => .key κ κ' (.all fun a => xopsQ tt all r (s.put o.dst (e a)) (k a) K)
        | _ => .bad
      | _ => .bad
    match o.guard with
    | none => go s p
    | some (j, want) => match (all[j]?).bind (·.dst) with
      | none => .bad
      | some t => match p.at t with
        | some (c, x, y) => .eq [s.get t] [.bool c] (.and
            (match want with
              | true => go (lit s t true) x
              | false => xopsQ tt all r ((lit s t true).put o.dst skD) x K)
            (match want with
              | true => xopsQ tt all r ((lit s t false).put o.dst skD) y K
              | false => go (lit s t false) y))
        | none => match s.get t with
          | .bool v => match v == want with
            | true => go s p
            | false => xopsQ tt all r (s.put o.dst skD) p K
          | .tup _ => xopsQ tt all r (s.put o.dst skD) p K
          | _ => .bad

def effOp (o : Oper) : Bool :=
  match o.op with
  | .assign _ | .store .. | .mapUpdate .. => true
  | .call c => match c.callee with
    | .builtin .append => true
    | _ => false
  | _ => false

/-- The last operation of a region. -/
def xlast (tt : Nat → TE) {τ : Type} (l : List Oper) (s : AS) (p : Prog τ) (K : AS → Prog τ → T) : T :=
  match l with
  | [o] => match o.guard with
    | some _ => .bad
    | none => match look tt o s with
      | .val d => K (s.put o.dst d) p
      | .st s' => K s' p
      | .key κ => match p with
        | .op κ' _ e k => .key κ κ' (.all fun a => K (s.put o.dst (e a)) (k a))
        | _ => .bad
      | .eff κ s' => match p with
        | .op κ' _ e k => .key κ κ' (.all fun a => K (s'.put o.dst (e a)) (k a))
        | _ => .bad
      | .mem κ f => match p with
        | .mem κ' _ c k => .key κ κ' (.all fun a => K (f (c a)) (k a))
        | _ => .bad
      | .bad => .bad
  | _ => .bad

/-- Operations that come one behind the other. -/
def xtail (tt : Nat → TE) {τ : Type} : List Oper → AS → Prog τ → (AS → Prog τ → T) → T
  | [], s, p, K => K s p
  | o :: r, s, p, K => xlast tt [o] s p fun s' p' => xtail tt r s' p' K
def dstNe (o : Oper) (u : Nat) : Bool :=
  match o.dst with
  | some v => !(Nat.beq v u)
  | none => true
/-- Loads of cells from which an append starts. -/
def ldEqs (tt : Nat → TE) (s : AS) : List Oper → List (Nat × Loc)
  | [] => []
  | o :: r => match o.op, o.dst, o.guard with
    | .load t (.tmp x), some u, none => match s.app.contains u && (!(Nat.beq u x) && r.all fun o' => dstNe o' u && dstNe o' x) with
      | true => match (tt t).ag, s.get x with
        | some false, .ref i off => (u, .cell i off) :: ldEqs tt s r
        | _, _ => ldEqs tt s r
      | false => ldEqs tt s r
    | _, _, _ => ldEqs tt s r
def firstEff : List Oper → Nat
  | [] => 0
  | o :: r => match effOp o with
    | true => 0
    | false => firstEff r + 1

def joinK {σ τ : Type} (s : AS) (l : List Nat) (A : σ → List (Nat × D) × List Ob) (K : Exit → AS → Prog τ → T) : Exit → AS → Prog (σ ⊕ τ) → T := fun e s' p' =>
  match p' with
  | .ret x => match x with
    | .inl st => match e with
      | .normal => mat s' s l (A st) .ok
      | _ => .bad
    | .inr r => match e with
      | .normal => .bad
      | e => K e s' (.ret r)
  | _ => .bad

def lenAny : D → D
  | .str s => .int .i64 s.length
  | .sl xs | .osl _ xs => .int .i64 xs.length
  | .msl _ _ n => .int .i64 n
  | _ => .undef

def obO : Option Ob → D
  | some ob => obD ob
  | none => .undef
/-- Arrays that are written no more become slices that are only read. -/
def seals {τ : Type} : Prog τ → AS → (AS → Prog τ → T) → T
  | .fix i t len _ xs p, s, K => .eq [obO s.S[i]?, s.get t, .bool (Nat.blt t s.n)] [.iptr xs.flatten, .msl i 0 len, .bool true]
      (seals p { s with S := s.S.set i .dead, env := (t, .sl xs) :: s.env, eqs := [] } K)
  | p, s, K => K s p

def exec (tt : Nat → TE) : Code → {τ : Type} → AS → Prog τ → (Exit → AS → Prog τ → T) → T
  | .skip, _, s, p, K => K .normal s p
  | .label _, _, s, p, K => K .normal s p
  | .ret, _, s, p, K => K .ret s p
  | .exit id, _, s, p, K => K (.exit id) s p
  | .seq a b, _, s, p, K => seals p s fun s p =>
    match p with
    | .join l A m k => .and (exec tt a s m (joinK s l A K)) (.all fun st => exec tt b (mk s l (A st)) (k st) K)
    | .inner p => exec tt a s p fun e s' p' => match e with
      | .normal => exec tt b s' p' K
      | e => K e s' p'
    | p => exec tt a s p fun e s' p' => match e with
      | .normal => exec tt b s' p' K
      | e => K e s' p'
  | .cond c x y, _, s, p, K => seals p s fun s p =>
    match c with
    | .tmp t => match p.at t with
      | some (b, px, py) => .eq [s.get t] [.bool b] (.and (exec tt x (lit s t true) px K) (exec tt y (lit s t false) py K))
      | none => match s.get t with
        | .bool b => match b with
          | true => exec tt x s p K
          | false => exec tt y s p K
        | _ => .bad
    | _ => .bad
  | .block id c, _, s, p, K => exec tt c s p fun e s' p' => match e with
    | .exit id' => match Nat.beq id' id with
      | true => K .normal s' p'
      | false => K (.exit id') s' p'
    | e => K e s' p'
  | .scope c, _, s, p, K => exec tt c s p fun e s' p' => match e with
    | .goto _ => .bad
    | e => K e s' p'
  | .loop c, _, s, p, K => seals p s fun s p =>
    match p with
    | .loop l A st nx body => mat s s l (A st) (.all fun st => exec tt c (mk s l (A st)) (body st) (joinK s l (fun y => A (nx st y)) K))
    | .rng x tc n l A st body ex => .eq [lenAny (s.get x)] [.int .i64 n] (mat s s l (A 0 st) (.all fun (i : Nat) => .all fun st =>
        exec tt c (mk s l (A i st)) (.split tc (decide ((i : Int) < n)) (body i st) (.ret (.inr (ex st)))) (joinK s l (fun y => A (IntKind.i64.wrap ((i : Int) + 1)) y) K)))
    | _ => .bad
  | .region _ ops draw, _, s, p, K => seals p s fun s p =>
    match draw with
    | false => xops tt ops ops.toList s p fun s' p' => K .normal s' p'
    | true => match tailsOk ops s.n (firstEff ops.toList) with
      | true => xopsQ tt ops (ops.toList.take (firstEff ops.toList)) { s with eqs := [] } p fun s' p' =>
          xtail tt (ops.toList.drop (firstEff ops.toList)) { s' with eqs := ldEqs tt s' (ops.toList.take (firstEff ops.toList)) } p' fun s' p' => K .normal s' p'
      | false => match ops.toList.getLast?.map effOp with
       | some true => .eq [.bool (tailOk ops s.n (ops.size - 1))] [.bool true] (xopsQ tt ops (ops.toList.take (ops.size - 1)) { s with eqs := [] } p fun s' p' =>
          xlast tt (ops.toList.drop (ops.size - 1)) s' p' fun s' p' => K .normal s' p')
       | _ => .eq [.bool (drawOk ops s.n)] [.bool true] (xopsQ tt ops ops.toList { s with eqs := [] } p fun s' p' => K .normal s' p')
  | _, _, _, _, _ => .bad

end Go.AL
