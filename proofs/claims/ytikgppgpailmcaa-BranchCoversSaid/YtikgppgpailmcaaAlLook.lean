/-
  What an operation does to an abstract state, reckoned by a function that looks at types in a table; and that the model agrees.
-/
import Derived.Test.YtikgppgpailmcaaAlSeal
import Derived.Test.YtikgppgpailmcaaAlTails
namespace Go.AL

inductive Sh where
  | no | bool | str | int (k : IntKind) | sl | map | other

/-- What is known of a type. -/
structure TE where
  sz : Option Nat := none
  ag : Option Bool := none
  el : Option (Nat × Nat × Nat) := none
  fl : List (Option (Nat × Nat × Bool)) := []
  sh : Sh := .no
  zk : Bool := false
  tz : Bool := false
  z0 : Option (List D) := none
  mp : Option D := none
  ar : Option (Nat × Nat) := none

def shOf : Option TypeDesc → Sh
  | none => .no
  | some .bool => .bool
  | some .string => .str
  | some (.int k) => .int k
  | some (.slice _) => .sl
  | some (.map _ _) => .map
  | some _ => .other
def flOf (P : Program) (t : Nat) : List (Option (Nat × Nat × Bool)) :=
  match P.underlying t with
  | some (.struct fs) => (List.range fs.size).map (fld P t)
  | _ => []
def teOf (P : Program) (t : Nat) : TE := ⟨tsz P t, tag P t, tel P t, flOf P t, shOf (P.underlying t), zeroOk P t, tze P t, tz0 P t, tmpz P t, tarr P t⟩
/-- The table agrees with the program. -/
def TabOk (P : Program) (tt : Nat → TE) : Prop := ∀ t, tt t = {} ∨ tt t = teOf P t
def rowsOf (P : Program) (mask : List (List Bool)) : List (List TE) := mask.zipIdx.map fun r => r.1.zipIdx.map fun b => bif b.1 then teOf P (16 * r.2 + b.2) else {}
def ttOf (rows : List (List TE)) (t : Nat) : TE := (rows.getD (t / 16) []).getD (t % 16) {}
theorem TabOk.of {P : Program} {rows : List (List TE)} (mask : List (List Bool)) (h : rowsOf P mask = rows) : TabOk P (ttOf rows) := by
  intro t
  subst h
  unfold ttOf rowsOf
  simp only [List.getD_eq_getElem?_getD, List.getElem?_map]
  cases h1 : mask.zipIdx[t / 16]? with
  | none => left; simp
  | some r =>
    simp only [Option.map_some, Option.getD_some, List.getElem?_map]
    cases h2 : r.1.zipIdx[t % 16]? with
    | none => left; simp
    | some b =>
      simp only [Option.map_some, Option.getD_some]
      have e1 : r.2 = t / 16 := by
        rw [List.getElem?_zipIdx] at h1
        cases h3 : mask[t / 16]? <;> rw [h3] at h1 <;> simp at h1
        rw [← h1]
      have e2 : b.2 = t % 16 := by
        rw [List.getElem?_zipIdx] at h2
        cases h3 : r.1[t % 16]? <;> rw [h3] at h2 <;> simp at h2
        rw [← h2]
      cases b.1
      · left; rfl
      · right; rw [e1, e2, Nat.div_add_mod]; rfl

section
variable {P : Program} {tt : Nat → TE}
theorem TabOk.sz (h : TabOk P tt) {t k} (e : (tt t).sz = some k) : tsz P t = some k := by
  rcases h t with h | h <;> rw [h] at e
  · cases e
  · exact e
theorem TabOk.ag (h : TabOk P tt) {t k} (e : (tt t).ag = some k) : tag P t = some k := by
  rcases h t with h | h <;> rw [h] at e
  · cases e
  · exact e
theorem TabOk.el (h : TabOk P tt) {t k} (e : (tt t).el = some k) : tel P t = some k := by
  rcases h t with h | h <;> rw [h] at e
  · cases e
  · exact e
theorem TabOk.zk (h : TabOk P tt) {t} (e : (tt t).zk = true) : zeroOk P t = true := by
  rcases h t with h | h <;> rw [h] at e
  · cases e
  · exact e
theorem TabOk.tz (h : TabOk P tt) {t} (e : (tt t).tz = true) : tze P t = true := by
  rcases h t with h | h <;> rw [h] at e
  · cases e
  · exact e
theorem TabOk.z0 (h : TabOk P tt) {t k} (e : (tt t).z0 = some k) : tz0 P t = some k := by
  rcases h t with h | h <;> rw [h] at e
  · cases e
  · exact e
theorem TabOk.mp (h : TabOk P tt) {t k} (e : (tt t).mp = some k) : tmpz P t = some k := by
  rcases h t with h | h <;> rw [h] at e
  · cases e
  · exact e
theorem TabOk.ar (h : TabOk P tt) {t k} (e : (tt t).ar = some k) : tarr P t = some k := by
  rcases h t with h | h <;> rw [h] at e
  · cases e
  · exact e
theorem TabOk.fl (h : TabOk P tt) {t i x} (e : (tt t).fl[i]? = some (some x)) : fld P t i = some x := by
  rcases h t with h | h <;> rw [h] at e
  · simp at e
  · simp only [teOf, flOf] at e
    split at e
    · rw [List.getElem?_map, Option.map_eq_some_iff] at e
      obtain ⟨j, hj, e⟩ := e
      have : j = i := by
        have := List.getElem?_eq_some_iff.1 hj
        obtain ⟨h1, h2⟩ := this
        simpa using h2.symm
      rw [← this]; exact e
    · simp at e
theorem TabOk.flAll (h : TabOk P tt) {t} (e : (tt t).fl.all Option.isSome = true) (hs : (tt t).fl ≠ []) : fldsOk P t = true := by
  rcases h t with h | h <;> rw [h] at e hs
  · exact absurd rfl hs
  · simp only [teOf, flOf] at e hs
    unfold fldsOk
    split at e
    · rename_i fs hu
      rw [hu] at hs ⊢
      simpa [List.all_map] using e
    · rename_i hu
      split at hs
      · rename_i fs hu'; exact absurd hu' (hu fs)
      · exact absurd rfl hs
theorem TabOk.bool (h : TabOk P tt) {t} (e : (tt t).sh = .bool) : P.underlying t = some .bool := by
  rcases h t with h | h <;> rw [h] at e
  · cases e
  · simp only [teOf] at e; unfold shOf at e; split at e <;> first | (cases e; done) | assumption
theorem TabOk.str (h : TabOk P tt) {t} (e : (tt t).sh = .str) : P.underlying t = some .string := by
  rcases h t with h | h <;> rw [h] at e
  · cases e
  · simp only [teOf] at e; unfold shOf at e; split at e <;> first | (cases e; done) | assumption
theorem TabOk.int (h : TabOk P tt) {t k} (e : (tt t).sh = .int k) : P.underlying t = some (.int k) := by
  rcases h t with h | h <;> rw [h] at e
  · cases e
  · simp only [teOf] at e; unfold shOf at e; split at e <;> first | (cases e; done) | skip
    cases e; assumption
theorem TabOk.sl (h : TabOk P tt) {t} (e : (tt t).sh = .sl) : ∃ x, P.underlying t = some (.slice x) := by
  rcases h t with h | h <;> rw [h] at e
  · cases e
  · simp only [teOf] at e; unfold shOf at e; split at e <;> first | (cases e; done) | skip
    exact ⟨_, by assumption⟩
theorem TabOk.some (h : TabOk P tt) {t} (e : (tt t).sh ≠ .no) : ∃ u, P.underlying t = some u := by
  rcases h t with h | h <;> rw [h] at e
  · exact absurd rfl e
  · simp only [teOf] at e
    cases hu : P.underlying t with
    | none => rw [hu] at e; exact absurd rfl e
    | some u => exact ⟨u, rfl⟩
end

/-- What is asked of an operation whose value is not simply read off. -/
inductive Ky where
  | idx (k : Nat) (x : D) (n : Int)
  | stridx (x : D) (n : Int)
  | call (f : Nat) (args : List D)
  | callS (f : Nat) (args : List D)
  | bin (op : BinOp) (x y : D)
  | slc (str : Bool) (k : Nat) (x : D) (lo hi mx : Option D)
  | app (k bytes : Nat) (xs ys : List (List D))
  | mkS (k bytes : Nat) (zs : List D) (n c : Int)
  | mkO (k bytes : Nat) (zs : List D) (n c : Int)
  | ld (g : Bool) (k : Nat) (cs : List D) (off : Nat)
  | set (g : Bool) (k : Nat) (cs ds : List D) (off : Nat)
  | mget (L : List (D × D)) (u : List UInt8) (z : D)
  | mset (L : List (D × D)) (u : List UInt8) (v : D)

def bndE (dflt : Nat) : Option D → Nat → Prop
  | none, l => l = dflt
  | some (.int _ n), l => 0 ≤ n ∧ l = n.toNat
  | some _, _ => False
def mxE (k : Nat) (hi mx : Option D) (h : Nat) (ys : List (List D)) (d : D) : Prop :=
  match mx with
  | none => d = .sl ys
  | some o => hi ≠ none ∧ bndE 0 (some o) h ∧ d = .osl k ys
def slcE (str : Bool) (k : Nat) (x : D) (lo hi mx : Option D) (d : D) : Prop :=
  match str, x with
  | true, .str u => mx = none ∧ ∃ l h, bndE 0 lo l ∧ bndE u.length hi h ∧ l ≤ h ∧ h ≤ u.length ∧ d = .str ((u.take h).drop l)
  | false, .sl xs | false, .osl _ xs => ∃ l h, bndE 0 lo l ∧ bndE xs.length hi h ∧ l ≤ h ∧ h ≤ xs.length ∧ (∀ x ∈ xs, x.length = k) ∧ mxE k hi mx h ((xs.take h).drop l) d
  | false, .msl i off len => mx = none ∧ ∃ l h, bndE 0 lo l ∧ bndE len hi h ∧ (l < h ∨ l = 0) ∧ h ≤ len ∧ d = .msl i (off + l * k) (h - l)
  | _, _ => False

def ldD (g : Bool) (k : Nat) (cs : List D) (off : Nat) (d : D) : Prop :=
  if g then off + k ≤ cs.length ∧ d = .agg (((cs.drop off).take k).map D.dis) else ∃ c, cs[off]? = some c ∧ d = c.dis

/-- The value d may come of it. -/
def Ky.ok (P : Program) : Ky → D → Prop
  | .idx k x n, d => idxD k x n d
  | .stridx x n, d => strIdxD x n d
  | .call f args, d => fnOk P f = true ∧ CallsP P f args d ∧ ∀ z xs, d ≠ .osl z xs
  | .callS f args, d => (fnOk P f = true ∧ CallsP P f args d ∧ ∀ z xs, d ≠ .osl z xs) ∧ d.scalar = true
  | .bin op x y, d => binD op x y = some d
  | .slc str k x lo hi mx, d => slcE str k x lo hi mx d
  | .mkO k bytes zs n c, d => d = .osl k (List.replicate n.toNat zs) ∧ 0 ≤ n ∧ n ≤ c ∧ (bytes : Int) * c ≤ 281474976710656 ∧ c ≤ 9223372036854775807
  | .ld g k cs off, d => ldD g k cs off d
  | .mget L u z, d => mgetD L u z d
  | .mkS .., _ | .set .., _ | .mset .., _ => False
  | .app k bytes xs ys, d => d = .osl k (xs ++ ys) ∧ (xs.length + ys.length) * bytes ≤ 140737488355328 ∧ xs.length + ys.length ≤ 9223372036854775807 ∧ (∀ x ∈ xs, x.length = k) ∧ ∀ y ∈ ys, y.length = k

/-- These may be the new contents of an object. -/
def Ky.okO : Ky → Ob → Prop
  | .mkS _k bytes zs n c, .arr cs => n = c ∧ 0 ≤ n ∧ (bytes : Int) * c ≤ 281474976710656 ∧ c ≤ 9223372036854775807 ∧ cs = mkCells n.toNat zs
  | .set g k cs ds off, .arr cs' => if g then off + k ≤ cs.length ∧ cs' = cs.take off ++ ds.map D.dis ++ cs.drop (off + k) else off < cs.length ∧ ∃ d, ds = [d] ∧ cs' = cs.set off d.dis
  | .mset L u v, .mp L' => msetL L u v = some L'
  | _, _ => False

inductive Out where
  | mem (κ : Ky) (f : Ob → AS)
  | val (d : D)
  | key (κ : Ky)
  | eff (κ : Ky) (s' : AS)
  | st (s' : AS)
  | bad

def Out.ofO : Option D → Out
  | some d => .val d
  | none => .bad

def loadO (S : List Ob) (g : Bool) (k : Nat) : D → Option D
  | .iptr cs =>
    match g with
    | true => match Nat.ble k cs.length with
      | true => some (.agg (cs.take k))
      | false => none
    | false => match cs with
      | c :: _ => some c.dis
      | [] => none
  | .ref i off =>
    match S[i]? with
    | some (.cells cs) =>
      match g with
      | true => match Nat.ble (off + k) cs.length with
        | true => some (.agg (((cs.drop off).take k).map D.dis))
        | false => none
      | false => match cs.drop off with
        | c :: _ => some c.dis
        | [] => none
    | _ => none
  | _ => none

def fieldAddrO (off : Nat) : D → Option D
  | .iptr cs => some (.iptr (cs.drop off))
  | .ref i o => some (.ref i (o + off))
  | .eref i o => some (.eref i (o + off))
  | _ => none

def fieldO (off k : Nat) (g : Bool) : D → Option D
  | .agg cs =>
    match g with
    | true => match Nat.ble (off + k) cs.length with
      | true => some (.agg ((cs.drop off).take k))
      | false => none
    | false => match cs.drop off with
      | c :: _ => some c.dis
      | [] => none
  | _ => none

def pickD (t : Bool) : D → D → D
  | .bool x, .bool y => .bool (bif t then x else y)
  | x, y => bif t then x else y

def partBin : BinOp → Operand → D → Bool
  | .quo, .const _, _ | .rem, .const _, _ | .shl, .const _, _ | .shr, .const _, _ => false
  | .quo, _, _ | .rem, _, _ | .shl, _, _ | .shr, _, _ => true
  | .add, _, .str _ => true
  | _, _, _ => false

def D.isBool : D → Bool
  | .bool _ => true
  | _ => false
def Sh.isBool : Sh → Bool
  | .bool => true
  | _ => false

def lenO (sh : Sh) : D → Option D
  | .str s => match sh with | .str => some (.int .i64 s.length) | _ => none
  | .sl xs | .osl _ xs => match sh with | .sl => some (.int .i64 xs.length) | _ => none
  | .msl _ _ n => match sh with | .sl => some (.int .i64 n) | _ => none
  | _ => none

def convO (a b : Sh) (x : D) : Option D :=
  match a, b, x with
  | .no, _, _ => none
  | _, .int k, .int _ n => some (.int k (k.wrap n))
  | .str, .str, .str s => some (.str s)
  | _, _, _ => none

def partsB (s : AS) (k : Nat) : Nat → List (Nat × Operand) → Bool
  | _, [] => true
  | i, (q, x) :: r => Nat.beq q i && (Nat.beq (s.ev x).cellsD.length k && ((s.ev x).simple && (D.okmL 0 (s.ev x).cellsD && partsB s k (i + 1) r)))

def cstD (tt : Nat → TE) (ty : Nat) (v : Value) : D :=
  match v with
  | .slice none 0 0 => match (tt ty).el with
    | some (_, k, _) => .osl k []
    | none => .osl 0 []
  | v => ofConst v

def AS.evO (s : AS) : Option Operand → Option D
  | none => none
  | some x => some (s.ev x)

/-- The base of an append is a copy of a cell's slice. -/
def baseC (s : AS) (k : Nat) (d t : Nat) : Option (List (List D) × AS) :=
  match s.eqs.find? (fun p => p.1 == t) with
  | some (_, .cell i j) => match s.S[i]? with
    | some (.cells cs) => match cs[j]? with
      | some (.osl z xs) => match (Nat.beq z k || Nat.beq z 0 && xs.isEmpty) && !(Nat.beq t d) with
        | true => some (xs, { s with env := (t, .osl z xs) :: s.env, S := s.S.set i (Ob.cells (cs.set j (.sl xs))) }.degrade t)
        | false => none
      | _ => none
    | _ => none
  | _ => none

/-- The base of an append: its elements, and the state in which the right to it is given up. -/
def baseO (s : AS) (k : Nat) (d : Nat) : Operand → Option (List (List D) × AS)
  | .tmp t =>
    match s.get (s.owner t) with
    | .osl z xs => match Nat.beq z k && !(Nat.beq (s.owner t) d) with
      | true => some (xs, s.degrade (s.owner t))
      | false => none
    | _ => baseC s k d t
  | .const v => match ofConst v with
    | .osl 0 [] => some ([], s)
    | _ => none
  | _ => none

/-- The address of an array's element, whose number is known. -/
def arrO (len k : Nat) (x : D) : D → Option D
  | .int _ n => match n with
    | .ofNat n => match Nat.blt n len with
      | true => fieldAddrO (n * k) x
      | false => none
    | .negSucc _ => none
  | _ => none
def buildArrO (k : Nat) (zs : Option (List D)) (s : AS) (ps : List (Nat × Operand)) : Option D :=
  match zs with
  | some zs => match fillD (fun i => some (i * k, k, true)) s ps zs with
    | some cs => some (.agg cs)
    | none => none
  | none => none

def loadP (tt : Nat → TE) (t : Nat) (x : Operand) (s : AS) : Out :=
  match (tt t).ag, (tt t).sz with
  | some g, some k => match s.ev x with
    | .eref i off => match s.S[i]? with
      | some (.arr cs) => .key (.ld g k cs off)
      | _ => .bad
    | y => Out.ofO (loadO s.S g k y)
  | _, _ => .bad
/-- A load of an object's cell, from which an append starts: it is kept in mind where the value came from. -/
def loadC (tt : Nat → TE) (t u : Nat) (x : Operand) (s : AS) : Option AS :=
  match x with
  | .tmp y => match (tt t).ag, s.get y, loadP tt t x s with
    | some false, .ref i off, .val d => match Nat.blt u s.n with
      | true => some { (s.put (some u) d) with eqs := (u, .cell i off) :: (s.put (some u) d).eqs }
      | false => none
    | _, _, _ => none
  | _ => none
def storeC (s : AS) (i off : Nat) (cs : List D) (v : Operand) : Option AS :=
  match v with
  | .tmp u => match s.get u with
    | .osl z xs => match Nat.blt off cs.length with
      | true => some { s with env := (u, .sl xs) :: s.env, S := s.S.set i (Ob.cells (cs.set off (.osl z xs))), eqs := [] }
      | false => none
    | _ => none
  | _ => none

def D.isRef : D → Bool
  | .ref _ _ => true
  | _ => false
def hasRef : List D → Bool
  | [] => false
  | .fn _ cap :: r => cap.any D.isRef || hasRef r
  | d :: r => d.isRef || hasRef r

def look (tt : Nat → TE) (o : Oper) (s : AS) : Out :=
  match o.op with
  | .move x => match x with
    | .tmp t => match o.dst with
      | some u => match s.app.contains u with
        | true => match !(Nat.beq u t) && Nat.blt u s.n with
          | true => .st { (s.put (some u) (s.get t).dis) with eqs := (u, .slot t) :: (s.put (some u) (s.get t).dis).eqs }
          | false => .bad
        | false => .val (s.get t).dis
      | none => .st s
    | x => .val (s.ev x).dis
  | .assign x => match x with
    | .tmp t => match o.dst with
      | some u => match Nat.beq u t with
        | true => .bad
        | false => .st ((s.degrade t).put (some u) (s.get t))
      | none => .bad
    | .const v => .st (s.put o.dst (cstD tt o.type v))
    | x => .val (s.ev x).dis
  | .pick c a b => match s.ev c with
    | .bool t => .val (pickD t (s.ev a).dis (s.ev b).dis)
    | _ => .bad
  | .box _ x => match (s.ev x).simple && Nat.ble 1 s.n with
    | true => match o.dst with
      | some d => match s.muts.contains d with
        | true => match Nat.blt d s.n with
          | true => .st ({ s with S := s.S ++ [Ob.cells ((s.ev x).cellsD.map D.dis)], eqs := [] }.put (some d) (.ref s.S.length 0))
          | false => .bad
        | false => match D.okmL 0 (s.ev x).cellsD with
          | true => .val (.iptr (s.ev x).cellsD)
          | false => .bad
      | none => .bad
    | false => .bad
  | .alloc t => match (tt t).z0, o.dst with
    | some zs, some d => match Nat.blt d s.n with
      | true => .st ({ s with S := s.S ++ [Ob.cells (zs.map D.up0)], eqs := [] }.put (some d) (.ref s.S.length 0))
      | false => .bad
    | _, _ => .bad
  | .load t x => match o.dst with
    | some u => match s.app.contains u with
      | true => match loadC tt t u x s with
        | some s' => .st s'
        | none => loadP tt t x s
      | false => loadP tt t x s
    | none => loadP tt t x s
  | .fieldAddr t x f => match (tt t).fl[f]? with
    | some (some (off, k, _)) => match Nat.beq k 0 with
      | true => .bad
      | false => Out.ofO (fieldAddrO off (s.ev x))
    | _ => .bad
  | .field t x f => match (tt t).fl[f]? with
    | some (some (off, k, g)) => Out.ofO (fieldO off k g (s.ev x))
    | _ => .bad
  | .indexAddr t x i => match (tt t).ar with
    | some (len, k) => Out.ofO (arrO len k (s.ev x) (s.ev i))
    | none => match (tt t).el, s.ev i with
      | some (_, k, _), .int _ n => .key (.idx k (s.ev x) n)
      | _, _ => .bad
  | .index t x i => match (tt t).sh, s.ev i with
    | .str, .int _ n => .key (.stridx (s.ev x) n)
    | _, _ => .bad
  | .binOp op t x y _ => match partBin op y (s.ev x) with
    | true => .key (.bin op (s.ev x) (s.ev y))
    | false => match !(s.ev x).isBool || (tt t).sh.isBool with
      | true => Out.ofO (binD op (s.ev x) (s.ev y))
      | false => .bad
  | .unOp op _ x => Out.ofO (unD op (s.ev x))
  | .convert src dst x => Out.ofO (convO (tt src).sh (tt dst).sh (s.ev x))
  | .extract x i => match s.ev x with
    | .tup cs => match cs.drop i with
      | c :: _ => .val c.dis
      | [] => .bad
    | _ => .bad
  | .makeFunc fn first captured => match fn, first.toList with
    | .func f, [] => .val (.fn f (captured.toList.map fun x => (s.ev x).dis))
    | _, _ => .bad
  | .slice t x lo hi mx => match (tt t).sh, (tt t).el with
    | .str, _ => .key (.slc true 0 (s.ev x) (s.evO lo) (s.evO hi) (s.evO mx))
    | .sl, some (_, k, _) => .key (.slc false k (s.ev x) (s.evO lo) (s.evO hi) (s.evO mx))
    | _, _ => .bad
  | .buildSlice t n ps => match (tt t).el with
    | some (e, k, _) => match (tt e).zk && Nat.beq ps.toList.length n && partsB s k 0 ps.toList && Nat.ble (n * k) 16777216 && Nat.ble n 16777216 with
      | true => .val (.osl k (partsCells s ps.toList))
      | false => .bad
    | none => .bad
  | .build t ps => match (tt t).ar with
    | some (_, k) => Out.ofO (buildArrO k (tt t).z0 s ps.toList)
    | none => match (tt t).z0, (tt t).fl.all Option.isSome && !(tt t).fl.isEmpty with
      | some zs, true => match fillD (fun i => ((tt t).fl[i]?).join) s ps.toList (match o.dst.any s.muts.contains with | true => zs.map D.up0 | false => zs) with
        | some cs => .val (.agg cs)
        | none => .bad
      | _, _ => .bad
  | .makeMap _ r => match r, o.dst with
    | none, some d => match Nat.blt d s.n with
      | true => .st ({ s with S := s.S ++ [Ob.mp []], eqs := [] }.put (some d) (.mref s.S.length))
      | false => .bad
    | _, _ => .bad
  | .lookup t x k ok => match ok, (tt t).mp, s.ev x, s.ev k with
    | false, some z, .mref i, .str u => match s.S[i]? with
      | some (.mp L) => .key (.mget L u z)
      | _ => .bad
    | _, _, _, _ => .bad
  | .mapUpdate t m k v => match o.dst, (tt t).mp, s.ev m, s.ev k with
    | none, some _, .mref i, .str u => match s.S[i]?, (s.ev v).one && (s.ev v).okm 0 with
      | some (.mp L), true => .mem (.mset L u (s.ev v)) fun ob => { s with S := s.S.set i ob, eqs := [] }
      | _, _ => .bad
    | _, _, _, _ => .bad
  | .nilCheck x => match s.ev x with
    | .iptr cs => .val (.iptr cs)
    | .ref i off => .val (.ref i off)
    | _ => .bad
  | .makeSlice t l c => match (tt t).el, s.ev l, s.ev c, o.dst with
    | some (e, k, bytes), .int _ n, .int _ cp, some d => match (tt e).z0 with
      | some zs => match Nat.beq zs.length k && !(Nat.beq k 0) && Nat.blt d s.n with
        | true => match s.muts.contains d with
          | true => .mem (.mkS k bytes zs n cp) fun ob => { s with S := s.S ++ [ob], eqs := [] }.put (some d) (.msl s.S.length 0 n.toNat)
          | false => .eff (.mkO k bytes zs n cp) s
        | false => .bad
      | none => .bad
    | _, _, _, _ => .bad
  | .store t x v => match o.dst, s.ev x, (tt t).ag, (tt t).sz with
    | none, .eref i off, some g, some k => match s.S[i]? with
      | some (.arr cs) => match g with
        | true => match s.ev v with
          | .agg ds => match Nat.beq ds.length k && D.okmL 0 ds with
            | true => .mem (.set true k cs ds off) fun ob => { s with S := s.S.set i ob, eqs := [] }
            | false => .bad
          | _ => .bad
        | false => match Nat.beq k 1 && (s.ev v).one && (s.ev v).okm 0 with
          | true => .mem (.set false k cs [s.ev v] off) fun ob => { s with S := s.S.set i ob, eqs := [] }
          | false => .bad
      | _ => .bad
    | none, .ref i off, some g, some k => match s.S[i]? with
      | some (.cells cs) => match g with
        | true => match s.ev v with
          | .agg ds => match Nat.beq ds.length k && Nat.ble (off + k) cs.length with
            | true => .st { s with S := s.S.set i (Ob.cells (cs.take off ++ ds.map D.kee ++ cs.drop (off + k))), eqs := [] }
            | false => .bad
          | _ => .bad
        | false => match Nat.beq k 1 with
          | true => match storeC s i off cs v with
            | some s' => .st s'
            | none => match Nat.blt off cs.length && (s.ev v).one with
              | true => .st { s with S := s.S.set i (Ob.cells (cs.set off (s.ev v).kee)), eqs := [] }
              | false => .bad
          | false => .bad
      | _ => .bad
    | _, _, _, _ => .bad
  | .call c =>
    match c.callee with
    | .builtin .len => match c.args.toList, c.argTypes.toList with
      | [x], [t] => Out.ofO (lenO (tt t).sh (s.ev x))
      | _, _ => .bad
    | .builtin .min => Out.ofO (minD (c.args.toList.map s.ev))
    | .builtin .max => Out.ofO (maxD (c.args.toList.map s.ev))
    | .builtin .append => match c.args.toList, c.argTypes.toList, o.dst with
      | [b, x], [T, T2], some d => match (tt T).el, (tt T).tz, (tt T2).el, srcD (s.ev x) with
        | some (_, k, bytes), true, some _, some ys => match !(Nat.beq k 0) && Nat.blt d s.n, baseO s k d b with
          | true, some (xs, s') => .eff (.app k bytes xs ys) s'
          | _, _ => .bad
        | _, _, _, _ => .bad
      | _, _, _ => .bad
    | .value g => match s.ev g with
      | .fn f cap => match (hasRef ((c.args.toList.map fun x => (s.ev x).dis) ++ cap)) with
        | true => .key (.callS f (((c.args.toList.map fun x => (s.ev x).dis) ++ cap).map (frz s.S)))
        | false => .key (.call f ((c.args.toList.map fun x => (s.ev x).dis) ++ cap))
      | _ => .bad
    | _ => .bad
  | _ => .bad

end Go.AL
