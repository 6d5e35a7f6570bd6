/-
  What an operation that writes nothing gives ('AV'), and that the model agrees ('av_sound').
-/
import Derived.Test.YtikgppgpailmcaaAlMap
namespace Go.AL

def Operand.isGlobal : Operand → Bool
  | .global _ => true
  | _ => false

/-- A call of a function that returns the value r, and writes to no memory that was there before. -/
def CallsP (P : Program) (f : FuncId) (args : List D) (r : D) : Prop :=
  ∀ (w : World) (Z : Zone) (m : List Nat) (vs : Array Value), (∀ b o, Z b o → ∃ v, w.cell? ⟨b, o, none⟩ = some v) → (∀ (i b : Nat), m[i]? = some b → b < w.heap.size) →
    args.length = vs.size → (∀ (i : Nat) (d : D) (v : Value), args[i]? = some d → vs[i]? = some v → Rv w Z m d v) →
    Calls P f vs w fun e w' => ∃ v Z', e = .returned v ∧ Rv w' Z' m r v ∧ QStep w Z w' Z'

def idxD (k : Nat) (x : D) (n : Int) (d : D) : Prop :=
  match x with
  | .sl xs | .osl _ xs => 0 ≤ n ∧ ∃ e, xs[n.toNat]? = some e ∧ e.length = k ∧ d = .iptr e
  | .msl i off len => 0 ≤ n ∧ n < len ∧ d = .eref i (off + n.toNat * k)
  | _ => False

def loadD (S : List Ob) (g : Bool) (k : Nat) (x d : D) : Prop :=
  match x with
  | .iptr cs => if g then k ≤ cs.length ∧ d = .agg (cs.take k) else ∃ c, cs[0]? = some c ∧ d = c.dis
  | .eref i off => ∃ cs, S[i]? = some (.arr cs) ∧ if g then off + k ≤ cs.length ∧ d = .agg (((cs.drop off).take k).map D.dis) else ∃ c, cs[off]? = some c ∧ d = c.dis
  | .ref i off => ∃ cs, S[i]? = some (.cells cs) ∧ if g then off + k ≤ cs.length ∧ d = .agg (((cs.drop off).take k).map D.dis) else ∃ c, cs[off]? = some c ∧ d = c.dis
  | _ => False

def fieldAddrD (off : Nat) (x d : D) : Prop :=
  match x with
  | .iptr cs => d = .iptr (cs.drop off)
  | .ref i o => d = .ref i (o + off)
  | .eref i o => d = .eref i (o + off)
  | _ => False

def fieldD (off k : Nat) (g : Bool) (x d : D) : Prop :=
  match x with
  | .agg cs => if g then off + k ≤ cs.length ∧ d = .agg ((cs.drop off).take k) else ∃ c, cs[off]? = some c ∧ d = c.dis
  | _ => False

def strIdxD (x : D) (n : Int) (d : D) : Prop :=
  match x with
  | .str s => 0 ≤ n ∧ ∃ b, s[n.toNat]? = some b ∧ d = .int .u8 b.toNat
  | _ => False

def extractD (i : Nat) (x d : D) : Prop :=
  match x with
  | .tup cs => ∃ c, cs[i]? = some c ∧ d = c.dis
  | _ => False

def D.cellsD : D → List D
  | .agg cs => cs
  | d => [d.dis]

def minD : List D → Option D
  | [.int k x, .int k' y] => if k = k' then some (.int k (if y < x then y else x)) else none
  | _ => none
def maxD : List D → Option D
  | [.int k x, .int k' y] => if k = k' then some (.int k (if y > x then y else x)) else none
  | _ => none

def convD (P : Program) (src dst : Nat) (x d : D) : Prop :=
  match P.underlying src, P.underlying dst, x with
  | some _, some (.int k), .int _ n => d = .int k (k.wrap n)
  | some .string, some .string, .str s => d = .str s
  | _, _, _ => False

def fnOk (P : Program) (f : Nat) : Bool :=
  match P.funcs[f]? with
  | some fn => fn.body.isSome && !(fn.name == "runtime.NumGoroutine")
  | none => false

/-- Values that point nowhere. -/
def D.scalar0 : D → Bool
  | .bool _ | .int _ _ | .str _ => true
  | _ => false
def D.scalar : D → Bool
  | .tup cs => cs.all D.scalar0
  | d => d.scalar0
/-- An object of the caller's, which the callee only reads. -/
def frz1 (S : List Ob) : D → D
  | .ref i off => match S[i]? with
    | some (.cells cs) => match D.okmL 0 cs with
      | true => .iptr ((cs.drop off).map D.dis)
      | false => .ref i off
    | _ => .ref i off
  | d => d
def frz (S : List Ob) : D → D
  | .fn f cap => .fn f (cap.map (frz1 S))
  | d => frz1 S d

/-- A bound of a slice expression. -/
def bndD (s : AS) (dflt : Nat) : Option Operand → Nat → Prop
  | none, l => l = dflt
  | some o, l => ∃ kd n, s.ev o = .int kd n ∧ 0 ≤ n ∧ l = n.toNat

def mxD (s : AS) (k : Nat) (hi mx : Option Operand) (h : Nat) (ys : List (List D)) (d : D) : Prop :=
  match mx with
  | none => d = .sl ys
  | some o => hi ≠ none ∧ bndD s 0 (some o) h ∧ d = .osl k ys

def sliceD (P : Program) (t : Nat) (x : D) (s : AS) (lo hi mx : Option Operand) (d : D) : Prop :=
  match x with
  | .str u => P.underlying t = some .string ∧ mx = none ∧ ∃ l h, bndD s 0 lo l ∧ bndD s u.length hi h ∧ l ≤ h ∧ h ≤ u.length ∧ d = .str ((u.take h).drop l)
  | .sl xs | .osl _ xs => ∃ e k b l h, tel P t = some (e, k, b) ∧ bndD s 0 lo l ∧ bndD s xs.length hi h ∧ l ≤ h ∧ h ≤ xs.length ∧ (∀ x ∈ xs, x.length = k) ∧ mxD s k hi mx h ((xs.take h).drop l) d
  | .msl i off len => mx = none ∧ ∃ e k b l h, tel P t = some (e, k, b) ∧ bndD s 0 lo l ∧ bndD s len hi h ∧ (l < h ∨ l = 0) ∧ h ≤ len ∧ d = .msl i (off + l * k) (h - l)
  | _ => False

def D.simple : D → Bool
  | .tup _ | .undef => false
  | _ => true

def zeroOk (P : Program) (e : Nat) : Bool := ((P.info? e).bind (·.zero)).isSome

def partsOk (s : AS) (k : Nat) : Nat → List (Nat × Operand) → Prop
  | _, [] => True
  | i, (q, x) :: r => q = i ∧ (s.ev x).cellsD.length = k ∧ ((s.ev x).simple = true ∧ D.okmL 0 (s.ev x).cellsD = true) ∧ partsOk s k (i + 1) r
def partsCells (s : AS) : List (Nat × Operand) → List (List D)
  | [] => []
  | (_, x) :: r => (s.ev x).cellsD :: partsCells s r

theorem partsOk_spec {s : AS} {k : Nat} : ∀ {ps : List (Nat × Operand)} {i : Nat}, partsOk s k i ps → ps.map (·.1) = List.range' i ps.length ∧ ∀ p ∈ ps, (s.ev p.2).cellsD.length = k ∧ ((s.ev p.2).simple = true ∧ D.okmL 0 (s.ev p.2).cellsD = true)
  | [], i, _ => by simp
  | (q, x) :: r, i, ⟨h1, h2, h3, h4⟩ => by
    obtain ⟨g1, g2⟩ := partsOk_spec h4
    subst h1
    refine ⟨by simp [List.range'_succ, g1], fun p hp => ?_⟩
    rcases List.mem_cons.1 hp with hp | hp
    · rw [hp]; exact ⟨h2, h3⟩
    · exact g2 p hp
theorem partsCells_eq (s : AS) : ∀ (ps : List (Nat × Operand)), partsCells s ps = ps.map fun p => (s.ev p.2).cellsD
  | [] => rfl
  | (q, x) :: r => by simp [partsCells, partsCells_eq s r]

def buildSliceD (P : Program) (t n : Nat) (ps : List (Nat × Operand)) (s : AS) (d : D) : Prop :=
  ∃ e k b, tel P t = some (e, k, b) ∧ zeroOk P e = true ∧ ps.length = n ∧ partsOk s k 0 ps ∧ (n * k ≤ 16777216 ∧ n ≤ 16777216) ∧ d = .osl k (partsCells s ps)

/-- The parts of a struct literal, laid over the zero cells. -/
def fillD (pl : Nat → Option (Nat × Nat × Bool)) (s : AS) : List (Nat × Operand) → List D → Option (List D)
  | [], cs => some cs
  | (i, x) :: r, cs =>
    match pl i with
    | some (off, k, _) =>
      match (s.ev x).simple && Nat.beq (s.ev x).cellsD.length k && Nat.ble (off + k) cs.length with
      | true => fillD pl s r (cs.take off ++ (s.ev x).cellsD ++ cs.drop (off + k))
      | false => none
    | none => none

/-- A type's zero cells. -/
def tz0 (P : Program) (t : Nat) : Option (List D) :=
  match (P.info? t).bind (·.zero) with
  | some z => if z.cells.toList.all Value.oneCell' then some (z.cells.toList.map fun v => (ofConst1 v).dis) else none
  | none => none

def fldsOk (P : Program) (t : Nat) : Bool :=
  match P.underlying t with
  | some (.struct fs) => (List.range fs.size).all fun i => (fld P t i).isSome
  | _ => false

def buildD (P : Program) (t : Nat) (ps : List (Nat × Operand)) (s : AS) (d : D) : Prop :=
  fldsOk P t = true ∧ ∃ zs cs, (tz0 P t = some zs ∨ ∃ z, tz0 P t = some z ∧ zs = z.map D.up0) ∧ fillD (fld P t) s ps zs = some cs ∧ d = .agg cs

def buildA (P : Program) (t : Nat) (ps : List (Nat × Operand)) (s : AS) (d : D) : Prop :=
  ∃ n k zs cs, tarr P t = some (n, k) ∧ tz0 P t = some zs ∧ fillD (fun i => some (i * k, k, true)) s ps zs = some cs ∧ d = .agg cs

/-- A quiet operation gives d. -/
def AV (P : Program) (o : Oper) (s : AS) (d : D) : Prop :=
  match o.op with
  | .move x | .assign x => d = (s.ev x).dis
  | .pick c a b => ∃ t, s.ev c = .bool t ∧ d = if t then (s.ev a).dis else (s.ev b).dis
  | .box _ x => d = .iptr ((s.ev x).cellsD) ∧ (∀ cs, s.ev x ≠ .tup cs) ∧ s.ev x ≠ .undef ∧ D.okmL 0 (s.ev x).cellsD = true
  | .load t x => ∃ g k, tag P t = some g ∧ tsz P t = some k ∧ loadD s.S g k (s.ev x) d
  | .fieldAddr t x f => ∃ off k g, fld P t f = some (off, k, g) ∧ k ≠ 0 ∧ fieldAddrD off (s.ev x) d
  | .field t x f => ∃ off k g, fld P t f = some (off, k, g) ∧ fieldD off k g (s.ev x) d
  | .indexAddr t x i => (∃ e k b kd n, tel P t = some (e, k, b) ∧ s.ev i = .int kd n ∧ idxD k (s.ev x) n d) ∨
      ∃ len k kd n, tarr P t = some (len, k) ∧ s.ev i = .int kd (Int.ofNat n) ∧ n < len ∧ fieldAddrD (n * k) (s.ev x) d
  | .index t x i => P.underlying t = some .string ∧ ∃ kd n, s.ev i = .int kd n ∧ strIdxD (s.ev x) n d
  | .binOp op t x y _ => binD op (s.ev x) (s.ev y) = some d ∧ (P.underlying t = some .bool ∨ ∀ b, s.ev x ≠ .bool b)
  | .unOp op _ x => unD op (s.ev x) = some d
  | .convert src dst x => convD P src dst (s.ev x) d
  | .extract x i => extractD i (s.ev x) d
  | .makeFunc fn first captured => ∃ f, fn = .func f ∧ first = #[] ∧ d = .fn f (captured.toList.map fun x => (s.ev x).dis)
  | .slice t x lo hi mx => sliceD P t (s.ev x) s lo hi mx d
  | .buildSlice t n ps => buildSliceD P t n ps.toList s d
  | .build t ps => buildD P t ps.toList s d ∨ buildA P t ps.toList s d
  | .nilCheck x => (match s.ev x with | .iptr _ | .ref _ _ => d = s.ev x | _ => False)
  | .lookup t x k ok => ok = false ∧ ∃ z i L u, tmpz P t = some z ∧ s.ev x = .mref i ∧ s.S[i]? = some (.mp L) ∧ s.ev k = .str u ∧ mgetD L u z d
  | .call c =>
    match c.callee with
    | .builtin .len => ∃ x t, c.args[0]? = some x ∧ c.argTypes[0]? = some t ∧ ∃ n, lenD (P.underlying t) (s.ev x) = some n ∧ d = .int .i64 n
    | .builtin .min => minD (c.args.toList.map s.ev) = some d
    | .builtin .max => maxD (c.args.toList.map s.ev) = some d
    | .value g => ∃ f cap, s.ev g = .fn f cap ∧ fnOk P f = true ∧ (CallsP P f ((c.args.toList.map fun x => (s.ev x).dis) ++ cap) d ∨ (d.scalar = true ∧ CallsP P f (((c.args.toList.map fun x => (s.ev x).dis) ++ cap).map (frz s.S)) d)) ∧ (∀ z xs, d ≠ .osl z xs)
    | _ => False
  | _ => False

section
variable {P : Program} {w : World} {Z : Zone} {m : List Nat} {cl : Cl} {s : AS} {a : Act}

theorem Rv.bool_inv {b : Bool} {v : Value} (h : Rv w Z m (.bool b) v) : v = .bool b := by cases h; rfl
theorem Rv.int_inv {k : IntKind} {n : Int} {v : Value} (h : Rv w Z m (.int k n) v) : v = .int k n := by cases h; rfl
theorem Rv.str_inv {l : List UInt8} {v : Value} (h : Rv w Z m (.str l) v) : v = .string ⟨l.toArray⟩ := by cases h; rfl
theorem Rv.str_len {l : List UInt8} {v : Value} (h : Rv w Z m (.str l) v) : l.length ≤ 9223372036854775807 := by cases h; assumption
theorem Rv.tup_inv {cs : List D} {v : Value} (h : Rv w Z m (.tup cs) v) : ∃ vs, v = .tuple vs ∧ cs.length = vs.size ∧ ∀ (i : Nat) (d : D) (v : Value), cs[i]? = some d → vs[i]? = some v → Rv w Z m d v := by
  cases h; exact ⟨_, rfl, by assumption, by assumption⟩

theorem binD_ne {op : BinOp} {x y d : D} (h : binD op x y = some d) : ∀ z xs, d ≠ .osl z xs := by
  intro z xs hd
  subst hd
  unfold binD at h
  split at h
  · split at h
    · cases op <;> simp only [intBin, Option.some.injEq, reduceCtorEq] at h
      all_goals split at h <;> simp at h
    · cases h
  · cases op <;> simp only [strBin, Option.some.injEq, reduceCtorEq] at h
    split at h <;> simp at h
  · cases op <;> simp [boolBin] at h
  · cases h

theorem run_isAgg {t : TypeId} {g : Bool} (h : tag P t = some g) : (isAgg t).run P w = .ok g w := by
  unfold tag at h
  simp only [Option.map_eq_some_iff] at h
  obtain ⟨d, hd, rfl⟩ := h
  unfold isAgg
  simp only [Sem.run_bind, run_underlying hd, Result.andThen_ok]
  cases d <;> rfl

theorem run_size {t : TypeId} {k : Nat} (h : tsz P t = some k) : (sizeOf t).run P w = .ok k w := by
  unfold tsz at h
  simp only [Option.map_eq_some_iff] at h
  obtain ⟨i, hi, rfl⟩ := h
  simp [sizeOf, run_typeInfo w hi]

theorem addr_add (b off n : Nat) : (Addr.mk b off none).add n = ⟨b, off + n, none⟩ := by
  unfold Addr.add; split
  · rename_i h; subst h; rfl
  · rfl

theorem run_loadVar_agg {t : TypeId} {k b off : Nat} {f : Nat → Value} (hg : tag P t = some true) (hk : tsz P t = some k) (h : ∀ j, j < k → w.cell? ⟨b, off + j, none⟩ = some (f j)) :
    (loadVar t ⟨b, off, none⟩).run P w = .ok (.agg ((List.range k).map f).toArray) w := by
  unfold loadVar
  simp only [Sem.run_bind, run_isAgg hg, run_size hk, Result.andThen_ok, if_true]
  rw [run_loadCells w ⟨b, off, none⟩ k f (fun j hj => by rw [addr_add]; exact h j hj)]
  rfl

theorem run_loadVar_one {t : TypeId} {b off : Nat} {v : Value} (hg : tag P t = some false) (h : w.cell? ⟨b, off, none⟩ = some v) :
    (loadVar t ⟨b, off, none⟩).run P w = .ok v w := by
  unfold loadVar
  simp only [Sem.run_bind, run_isAgg hg, Result.andThen_ok, Bool.false_eq_true, if_false, run_load, h]

theorem Rv.agg_range {cs : List D} {k : Nat} {f : Nat → Value} (hk : cs.length = k) (ho : ∀ j, j < k → (f j).oneCell' = true) (h : ∀ (j : Nat) (d : D), cs[j]? = some d → Rv w Z m d (f j)) :
    Rv w Z m (.agg cs) (.agg ((List.range k).map f).toArray) := by
  subst hk
  refine .agg _ _ (by simp) (fun v hv => by simp at hv; obtain ⟨j, hj, rfl⟩ := hv; exact ho j hj) fun i d v hd hv => ?_
  have hi : i < cs.length := (List.getElem?_eq_some_iff.1 hd).1
  simp [hi] at hv
  subst hv
  exact h i d hd

theorem loadD_sound {t : TypeId} {g : Bool} {k : Nat} {x d : D} {v : Value} (h : RelS w Z m cl s.S) (hv : Rv w Z m x v) (hg : tag P t = some g) (hk : tsz P t = some k) (hd : loadD s.S g k x d) :
    ∃ r, (Instr.loadAt t v).run P w = .ok r w ∧ Rv w Z m d r ∧ (∀ z xs, d ≠ .osl z xs) := by
  have obj : ∀ (i off b : Nat), m[i]? = some b → (∃ cs, s.S[i]? = some (.cells cs) ∧ if g then off + k ≤ cs.length ∧ d = .agg (((cs.drop off).take k).map D.dis) else ∃ c, cs[off]? = some c ∧ d = c.dis) →
      ∃ r, (Instr.loadAt t (.pointer (some ⟨b, off, none⟩))).run P w = .ok r w ∧ Rv w Z m d r ∧ (∀ z xs, d ≠ .osl z xs) := by
    intro i off b hm hd
    obtain ⟨cs, hS, hd⟩ := hd
    obtain ⟨h1, h2, vs, e, h3, h4, h6, h5⟩ := h.obj i cs b hS hm
    have cell : ∀ j (hj : j < vs.size), w.cell? ⟨b, j, none⟩ = some vs[j] := fun j hj => by simp [World.cell?, h3, hj]
    cases g with
    | true =>
      simp only [if_true] at hd
      obtain ⟨hl, rfl⟩ := hd
      refine ⟨_, ?_, Rv.agg_range (f := fun j => vs.getD (off + j) undef) (k := k) (by simp; omega) (fun j hj => by simp [Array.getD, show off + j < vs.size by omega]; exact h6 _ (by simp)) (fun j d hj => ?_), by simp⟩
      · simp only [Instr.loadAt, Instr.sureAddr, pure_bind]
        refine run_loadVar_agg hg hk fun j hj => ?_
        rw [cell (off + j) (by omega)]; simp [Array.getD, show off + j < vs.size by omega]
      · simp only [List.getElem?_map, Option.map_eq_some_iff, List.getElem?_take] at hj
        obtain ⟨d', hj, rfl⟩ := hj
        split at hj
        · rw [List.getElem?_drop] at hj
          have hlt : off + j < cs.length := (List.getElem?_eq_some_iff.1 hj).1
          have hv' : vs[off + j]? = some (vs.getD (off + j) undef) := by simp [Array.getD, show off + j < vs.size by omega]
          exact (h5 (off + j) d' _ hj hv').1.dis
        · cases hj
    | false =>
      simp only [Bool.false_eq_true, if_false] at hd
      obtain ⟨c, hc, rfl⟩ := hd
      have hlt : off < cs.length := (List.getElem?_eq_some_iff.1 hc).1
      refine ⟨vs[off]'(by omega), ?_, (h5 off c _ hc (by simp [show off < vs.size by omega])).1.dis, by cases c <;> simp [D.dis]⟩
      simp only [Instr.loadAt, Instr.sureAddr, pure_bind]
      exact run_loadVar_one hg (cell off (by omega))
  have arr : ∀ (i off b : Nat), m[i]? = some b → (∃ cs, s.S[i]? = some (.arr cs) ∧ if g then off + k ≤ cs.length ∧ d = .agg (((cs.drop off).take k).map D.dis) else ∃ c, cs[off]? = some c ∧ d = c.dis) →
      ∃ r, (Instr.loadAt t (.pointer (some ⟨b, off, none⟩))).run P w = .ok r w ∧ Rv w Z m d r ∧ (∀ z xs, d ≠ .osl z xs) := by
    intro i off b hm hd
    obtain ⟨cs, hS, hd⟩ := hd
    obtain ⟨h1, h2, vs, e, h3, h4, h6, h5⟩ := h.aro i cs b hS hm
    have cell : ∀ j (hj : j < vs.size), w.cell? ⟨b, j, none⟩ = some vs[j] := fun j hj => by simp [World.cell?, h3, hj]
    cases g with
    | true =>
      simp only [if_true] at hd
      obtain ⟨hl, rfl⟩ := hd
      refine ⟨_, ?_, Rv.agg_range (f := fun j => vs.getD (off + j) undef) (k := k) (by simp; omega) (fun j hj => by simp [Array.getD, show off + j < vs.size by omega]; exact h6 _ (by simp)) (fun j d hj => ?_), by simp⟩
      · simp only [Instr.loadAt, Instr.sureAddr, pure_bind]
        refine run_loadVar_agg hg hk fun j hj => ?_
        rw [cell (off + j) (by omega)]; simp [Array.getD, show off + j < vs.size by omega]
      · simp only [List.getElem?_map, Option.map_eq_some_iff, List.getElem?_take] at hj
        obtain ⟨d', hj, rfl⟩ := hj
        split at hj
        · rw [List.getElem?_drop] at hj
          have hlt : off + j < cs.length := (List.getElem?_eq_some_iff.1 hj).1
          have hv' : vs[off + j]? = some (vs.getD (off + j) undef) := by simp [Array.getD, show off + j < vs.size by omega]
          exact ((h5 (off + j) d' _ hj hv').up m).dis
        · cases hj
    | false =>
      simp only [Bool.false_eq_true, if_false] at hd
      obtain ⟨c, hc, rfl⟩ := hd
      have hlt : off < cs.length := (List.getElem?_eq_some_iff.1 hc).1
      refine ⟨vs[off]'(by omega), ?_, ((h5 off c _ hc (by simp [show off < vs.size by omega])).up m).dis, by cases c <;> simp [D.dis]⟩
      simp only [Instr.loadAt, Instr.sureAddr, pure_bind]
      exact run_loadVar_one hg (cell off (by omega))
  cases hv <;> simp only [loadD] at hd
  case iptr cs b off c hc hv =>
    cases g with
    | true =>
      simp only [if_true] at hd
      obtain ⟨hl, rfl⟩ := hd
      refine ⟨_, ?_, Rv.agg_range (f := c) (k := k) (by simp; omega) (fun j hj => (hc j cs[j] (List.getElem?_eq_getElem (by omega))).2.2) (fun j d hj => ?_), by simp⟩
      · simp only [Instr.loadAt, Instr.sureAddr, pure_bind]
        refine run_loadVar_agg hg hk fun j hj => ?_
        exact (hc j cs[j] (List.getElem?_eq_getElem (by omega))).2.1
      · rw [List.getElem?_take] at hj
        split at hj
        · exact (hv j d hj).up m
        · cases hj
    | false =>
      simp only [Bool.false_eq_true, if_false] at hd
      obtain ⟨e, he, rfl⟩ := hd
      refine ⟨c 0, ?_, ((hv 0 e he).up m).dis, by cases e <;> simp [D.dis]⟩
      simp only [Instr.loadAt, Instr.sureAddr, pure_bind]
      exact run_loadVar_one hg (hc 0 e he).2.1
  case ref i off b hm => exact obj i off b hm hd
  case eref i off b hm => exact arr i off b hm hd

theorem tel_spec {t e k b : Nat} (h : tel P t = some (e, k, b)) : P.underlying t = some (.slice e) ∧ ∃ i, P.info? e = some i ∧ i.size = k ∧ i.bytes = b := by
  unfold tel at h
  split at h
  · rename_i e' he
    simp only [Option.map_eq_some_iff, Prod.mk.injEq] at h
    obtain ⟨i, hi, rfl, rfl, rfl⟩ := h
    exact ⟨he, i, hi, rfl, rfl⟩
  · cases h

theorem idxD_sound {t e k b : Nat} {kd : IntKind} {n : Int} {x d : D} {v : Value} (hv : Rv w Z m x v) (ht : tel P t = some (e, k, b)) (hd : idxD k x n d) :
    ∃ r, (Instr.indexAt t v (.int kd n)).run P w = .ok r w ∧ Rv w Z m d r ∧ (∀ z xs, d ≠ .osl z xs) := by
  obtain ⟨hu, i, hi, hk, hb⟩ := tel_spec ht
  have run : ∀ (b off len cap : Nat), 0 ≤ n → n < len → (Instr.indexAt t (.slice (some ⟨b, off, none⟩) len cap) (.int kd n)).run P w = .ok (.pointer (some ⟨b, off + n.toNat * k, none⟩)) w := by
    intro b off len cap h0 h1
    simp only [Instr.indexAt, asIntOf, pure_bind, Sem.run_bind, run_underlying hu, Result.andThen_ok]
    simp [h0, h1, sizeOf, run_typeInfo w hi, addr_add, hk]
  have key : ∀ (xs : List (List D)) (v : Value), Rv w Z m (.sl xs) v → (0 ≤ n ∧ ∃ e, xs[n.toNat]? = some e ∧ e.length = k ∧ d = .iptr e) →
      ∃ r, (Instr.indexAt t v (.int kd n)).run P w = .ok r w ∧ Rv w Z m d r ∧ (∀ z xs, d ≠ .osl z xs) := by
    intro xs v hv hd
    cases hv
    case slnil => obtain ⟨_, e, he, _⟩ := hd; simp at he
    case slz a => obtain ⟨_, e, he, _⟩ := hd; simp at he
    case sl sz bl off cap c hcap hsz hc hv =>
      obtain ⟨h0, el, he, hel, rfl⟩ := hd
      have hlt : n.toNat < xs.length := (List.getElem?_eq_some_iff.1 he).1
      have hszk : sz = k := by rw [← hel]; exact (hsz el (List.mem_of_getElem? he)).symm
      subst hszk
      refine ⟨_, run bl off xs.length cap h0 (by omega), ?_, by simp⟩
      refine .iptr _ _ _ (fun j => c n.toNat j) (fun j d hj => ?_) (fun j d hj => hv _ _ _ _ he hj)
      exact hc n.toNat j el d he hj
  cases hv <;> simp only [idxD] at hd
  case slnil => exact key _ _ .slnil hd
  case slz a => exact key _ _ (.slz a) hd
  case sl sz xs bl off cap c hcap hsz hc hv => exact key _ _ (.sl sz xs bl off cap c hcap hsz hc hv) hd
  case osl z xs hz h => exact key _ _ h hd
  case msl i off len cap bl hcap hm =>
    obtain ⟨h0, h1, rfl⟩ := hd
    exact ⟨_, run bl off len cap h0 h1, .eref _ _ _ hm, by simp⟩

theorem fld_spec {t f off k : Nat} {g : Bool} (h : fld P t f = some (off, k, g)) : ∃ fs fd, P.underlying t = some (.struct fs) ∧ fs[f]? = some fd ∧ fd.offset = off ∧ tsz P fd.type = some k ∧ tag P fd.type = some g := by
  unfold fld at h
  split at h
  · rename_i fs hfs
    split at h
    · rename_i fd hfd
      split at h
      · rename_i k' g' hk hg
        simp only [Option.some.injEq, Prod.mk.injEq] at h
        obtain ⟨rfl, rfl, rfl⟩ := h
        exact ⟨fs, fd, hfs, hfd, rfl, hk, hg⟩
      · cases h
    · cases h
  · cases h

theorem fieldAddrD_sound {t f off k : Nat} {g : Bool} {x d : D} {v : Value} (hv : Rv w Z m x v) (hf : fld P t f = some (off, k, g)) (hk : k ≠ 0) (hd : fieldAddrD off x d) :
    ∃ r, (Instr.fieldAt t v f).run P w = .ok r w ∧ Rv w Z m d r ∧ (∀ z xs, d ≠ .osl z xs) := by
  obtain ⟨fs, fd, hu, hfd, rfl, hsz, hg⟩ := fld_spec hf
  have run : ∀ (b o : Nat), (Instr.fieldAt t (.pointer (some ⟨b, o, none⟩)) f).run P w = .ok (.pointer (some ⟨b, o + fd.offset, none⟩)) w := by
    intro b o
    simp only [Instr.fieldAt, Sem.run_bind, run_underlying hu, Result.andThen_ok, hfd, Instr.sureAddr, pure_bind, fieldPlace, run_size hsz, hk, if_false, addr_add]
    rfl
  cases hv <;> simp only [fieldAddrD] at hd
  case iptr cs b o c hc hv =>
    subst hd
    refine ⟨_, run b o, .iptr _ _ _ (fun j => c (fd.offset + j)) (fun j d hj => ?_) (fun j d hj => ?_), by simp⟩
    · rw [List.getElem?_drop] at hj
      rw [Nat.add_assoc]; exact hc _ _ hj
    · rw [List.getElem?_drop] at hj; exact hv _ _ hj
  case ref i o b hm =>
    subst hd
    exact ⟨_, run b o, .ref _ _ _ hm, by simp⟩
  case eref i o b hm =>
    subst hd
    exact ⟨_, run b o, .eref _ _ _ hm, by simp⟩

theorem tarr_spec {t len k : Nat} (h : tarr P t = some (len, k)) : ∃ e i, P.underlying t = some (.array len e) ∧ P.info? e = some i ∧ i.size = k := by
  unfold tarr at h
  split at h
  · rename_i n e hu
    simp only [Option.map_eq_some_iff] at h
    obtain ⟨i, hi, h⟩ := h
    simp only [Prod.mk.injEq] at h
    obtain ⟨rfl, rfl⟩ := h
    exact ⟨e, i, hu, hi, rfl⟩
  · cases h
theorem arrAddr_sound {t len k n : Nat} {kd : IntKind} {x d : D} {v : Value} (hv : Rv w Z m x v) (ht : tarr P t = some (len, k)) (hn : n < len) (hd : fieldAddrD (n * k) x d) :
    ∃ r, (Instr.indexAt t v (.int kd (Int.ofNat n))).run P w = .ok r w ∧ Rv w Z m d r ∧ (∀ z xs, d ≠ .osl z xs) := by
  obtain ⟨e, i, hu, hi, hk⟩ := tarr_spec ht
  have run : ∀ (b o : Nat), (Instr.indexAt t (.pointer (some ⟨b, o, none⟩)) (.int kd (Int.ofNat n))).run P w = .ok (.pointer (some ⟨b, o + n * k, none⟩)) w := by
    intro b o
    simp [Instr.indexAt, asIntOf, run_underlying hu, Instr.sureAddr, hn, sizeOf, run_typeInfo w hi, hk, addr_add]
  cases hv <;> simp only [fieldAddrD] at hd
  case iptr cs b o c hc hv =>
    subst hd
    refine ⟨_, run b o, .iptr _ _ _ (fun j => c (n * k + j)) (fun j d hj => ?_) (fun j d hj => ?_), by simp⟩
    · rw [List.getElem?_drop] at hj
      rw [Nat.add_assoc]; exact hc _ _ hj
    · rw [List.getElem?_drop] at hj; exact hv _ _ hj
  case ref i o b hm =>
    subst hd
    exact ⟨_, run b o, .ref _ _ _ hm, by simp⟩
  case eref i o b hm =>
    subst hd
    exact ⟨_, run b o, .eref _ _ _ hm, by simp⟩

theorem fieldD_sound {t f off k : Nat} {g : Bool} {x d : D} {v : Value} (hv : Rv w Z m x v) (hf : fld P t f = some (off, k, g)) (hd : fieldD off k g x d) :
    ∃ r, (Instr.field t v f).run P w = .ok r w ∧ Rv w Z m d r ∧ (∀ z xs, d ≠ .osl z xs) := by
  obtain ⟨fs, fd, hu, hfd, rfl, hsz, hg⟩ := fld_spec hf
  cases hv <;> simp only [fieldD] at hd
  case agg cs vs hl ho hv =>
    have run0 : (Instr.field t (.agg vs) f).run P w = (part fd.type vs fd.offset).run P w := by
      simp only [Instr.field, Sem.run_bind, run_underlying hu, Result.andThen_ok, hfd, asAgg, pure_bind]
    rw [run0]
    cases g with
    | true =>
      simp only [if_true] at hd
      obtain ⟨hle, rfl⟩ := hd
      refine ⟨.agg (vs.extract fd.offset (fd.offset + k)), by simp [part, run_isAgg hg, run_size hsz], .agg _ _ (by simp; omega) (fun v hv => ho v (by have := Array.mem_extract_iff_getElem.1 hv; obtain ⟨q, hq, rfl⟩ := this; exact Array.getElem_mem _)) (fun i d v hd hv' => ?_), by simp⟩
      rw [List.getElem?_take] at hd
      split at hd
      · rw [List.getElem?_drop] at hd
        simp only [Array.getElem?_extract] at hv'
        split at hv'
        · exact hv _ _ _ hd hv'
        · cases hv'
      · cases hd
    | false =>
      simp only [Bool.false_eq_true, if_false] at hd
      obtain ⟨c, hc, rfl⟩ := hd
      have hlt : fd.offset < cs.length := (List.getElem?_eq_some_iff.1 hc).1
      have hvv : vs[fd.offset]? = some (vs[fd.offset]'(by omega)) := by simp [show fd.offset < vs.size by omega]
      exact ⟨_, by simp [part, run_isAgg hg, hvv], (hv _ _ _ hc hvv).dis, by cases c <;> simp [D.dis]⟩

/-- A new block that will not be written. -/
theorem QStep.alloc {S} (h : RelS w Z m cl S) (vs : Array Value) (e : TypeId) : QStep w Z (w.alloc (.cells vs e)) (fun b o => Z b o ∨ (b = w.heap.size ∧ o < vs.size)) where
  os := rfl
  tape := rfl
  output := rfl
  size := by simp
  heap b hb := Go.RowKit.Below.heap_alloc w _ b hb
  zmono b o hz := .inl hz
  zold b o hb hz := hz.resolve_right (by omega)
  zc b o hz := by
    rcases hz with hz | ⟨rfl, ho⟩
    · obtain ⟨v, hv⟩ := h.zc b o hz
      exact ⟨v, by rw [World.cell?_alloc_lt w _ ⟨b, o, none⟩ (cell_lt hv)]; exact hv⟩
    · exact ⟨vs[o], by rw [World.cell?_alloc_new]; simp [ho]⟩

theorem Rv.cellsD {x : D} {v : Value} (hv : Rv w Z m x v) (h1 : ∀ cs, x ≠ .tup cs) (h2 : x ≠ .undef) : x.cellsD.length = v.cells.size ∧ (∀ u ∈ v.cells, u.oneCell' = true) ∧ ∀ (i : Nat) (d : D) (u : Value), x.cellsD[i]? = some d → v.cells[i]? = some u → Rv w Z m d u := by
  cases hv
  case agg cs vs hl ho hv => exact ⟨hl, ho, hv⟩
  case undef => exact absurd rfl h2
  case tup => exact absurd rfl (h1 _)
  case osl sz xs hz h =>
    have hvc : v.cells = #[v] ∧ v.oneCell' = true := by cases h <;> exact ⟨rfl, rfl⟩
    rw [hvc.1]
    refine ⟨rfl, fun u hu => by simp at hu; subst hu; exact hvc.2, fun i d u hd hu => ?_⟩
    simp only [D.cellsD] at hd
    have hi : i = 0 := by
      have := (List.getElem?_eq_some_iff.1 hd).1; simpa using this
    subst hi
    simp at hd hu; subst hd; subst hu
    exact h
  all_goals
    refine ⟨rfl, fun u hu => by simp [Value.cells] at hu; subst hu; rfl, fun i d u hd hu => ?_⟩
    simp only [D.cellsD, Value.cells] at hd hu
    have hi : i = 0 := by
      have := (List.getElem?_eq_some_iff.1 hd).1; simpa using this
    subst hi
    simp at hd hu; subst hd; subst hu
    refine Rv.dis ?_
    first
      | exact .bool _
      | exact .int _ _
      | exact .str _ (by assumption)
      | exact .slnil
      | exact .slz _
      | (apply Rv.sl <;> assumption)
      | (apply Rv.osl <;> assumption)
      | (apply Rv.iptr <;> assumption)
      | exact .nilp
      | (apply Rv.ref; assumption)
      | (apply Rv.eref; assumption)
      | (apply Rv.mref; assumption)
      | (apply Rv.msl <;> assumption)
      | (apply Rv.fn <;> assumption)
      | exact .nilf
      | exact .nili
      | exact .nilmap

/-- A new block holds the cells of values that are known. -/
theorem Rv.newptr {S} (h : RelS w Z m cl S) {cs : List D} {vs : Array Value} (e : TypeId) (hl : cs.length = vs.size) (ho : ∀ u ∈ vs, u.oneCell' = true) (hv : ∀ (i : Nat) (d : D) (u : Value), cs[i]? = some d → vs[i]? = some u → Rv w Z m d u) (hcl : D.okmL 0 cs = true) :
    Rv (w.alloc (.cells vs e)) (fun b o => Z b o ∨ (b = w.heap.size ∧ o < vs.size)) m (.iptr cs) (.pointer (some ⟨w.heap.size, 0, none⟩)) := by
  have q := QStep.alloc h vs e
  refine .iptr _ _ _ (fun j => vs.getD j Go.undef) (fun j d hj => ?_) (fun j d hj => ?_)
  · have hlt : j < vs.size := by rw [← hl]; exact (List.getElem?_eq_some_iff.1 hj).1
    refine ⟨.inr ⟨rfl, by omega⟩, ?_, by simp [Array.getD, hlt]; exact ho _ (by simp)⟩
    rw [Nat.zero_add, World.cell?_alloc_new]; simp [Array.getD, hlt]
  · have hlt : j < vs.size := by rw [← hl]; exact (List.getElem?_eq_some_iff.1 hj).1
    exact (q.step h).rv ((hv j d _ hj (by simp [Array.getD, hlt])).closed [] (D.okmL_mem hcl d (List.mem_of_getElem? hj)))

theorem map_ev_rv {cl s a} (h : Rel w Z m cl s a) (xs : Array Operand) :
    (xs.toList.map fun x => (s.ev x).dis).length = (xs.map a.eval).size ∧ ∀ (i : Nat) (d : D) (v : Value), (xs.toList.map fun x => (s.ev x).dis)[i]? = some d → (xs.map a.eval)[i]? = some v → Rv w Z m d v := by
  refine ⟨by simp, fun i d v hd hv => ?_⟩
  simp only [List.getElem?_map, Option.map_eq_some_iff, Array.getElem?_toList, Array.getElem?_map] at hd hv
  obtain ⟨x, hx, rfl⟩ := hd
  obtain ⟨y, hy, rfl⟩ := hv
  rw [hx] at hy; cases hy
  exact (h.ev' x).dis

theorem not_osl_own {w' : World} {Z' : Zone} {d : D} {v : Value} (h : ∀ z xs, d ≠ .osl z xs) : ∀ (cl' : Cl) t, Own w' Z' cl' (.slot t) d v := fun _ _ => Own.of_ne h

theorem bnd_run {b : Option Operand} {dflt l : Nat} (hr : Rel w Z m cl s a) (h : bndD s dflt b l) :
    (b = none ∧ l = dflt) ∨ ∃ o kd, b = some o ∧ a.eval o = .int kd l := by
  cases b with
  | none => exact .inl ⟨rfl, h⟩
  | some o =>
    obtain ⟨kd, n, h1, h2, h3⟩ := h
    have := hr.ev' o
    rw [h1] at this
    refine .inr ⟨o, kd, rfl, ?_⟩
    rw [this.int_inv, h3]; congr 1; omega

theorem run_sliceBound {kd : IntKind} {l y : Nat} {code : BoundsCode} (h : l ≤ y) : (Instr.sliceBound (.int kd l) y code).run P w = .ok l w := by
  simp [Instr.sliceBound, asIntOf, h]

theorem run_sliceBounds {isSlice : Bool} {len cap l h _dflt : Nat} {lo hi : Option Operand} (hr : Rel w Z m cl s a) (h1 : bndD s 0 lo l) (h2 : bndD s len hi h) (h3 : l ≤ h) (h4 : h ≤ len) (h5 : len ≤ cap) :
    (Instr.sliceBounds isSlice len cap (lo.map a.eval) (hi.map a.eval) none).run P w = .ok (l, h, cap) w := by
  have hb1 := bnd_run hr h1
  have hb2 := bnd_run hr h2
  rcases hb1 with ⟨rfl, rfl⟩ | ⟨o, kd, rfl, ho⟩ <;> rcases hb2 with ⟨rfl, rfl⟩ | ⟨o2, kd2, rfl, ho2⟩
  · simp [Instr.sliceBounds]
  · simp [Instr.sliceBounds, ho2, run_sliceBound (show h ≤ cap by omega)]
  · simp [Instr.sliceBounds, ho, run_sliceBound h3]
  · simp [Instr.sliceBounds, ho, ho2, run_sliceBound h3, run_sliceBound (show h ≤ cap by omega)]

theorem run_sliceBounds3 {isSlice : Bool} {len cap l h : Nat} {lo hi mx : Option Operand} (hr : Rel w Z m cl s a) (h1 : bndD s 0 lo l) (h2 : bndD s len hi h) (hhi : hi ≠ none) (hm : bndD s 0 mx h) (hmx : mx ≠ none) (h3 : l ≤ h) (h4 : h ≤ len) (h5 : len ≤ cap) :
    (Instr.sliceBounds isSlice len cap (lo.map a.eval) (hi.map a.eval) (mx.map a.eval)).run P w = .ok (l, h, h) w := by
  have hb1 := bnd_run hr h1
  have hb2 := bnd_run hr h2
  have hb3 := bnd_run hr hm
  rcases hb2 with ⟨rfl, rfl⟩ | ⟨o2, kd2, rfl, ho2⟩
  · exact absurd rfl hhi
  rcases hb3 with ⟨rfl, rfl⟩ | ⟨o3, kd3, rfl, ho3⟩
  · exact absurd rfl hmx
  rcases hb1 with ⟨rfl, rfl⟩ | ⟨o, kd, rfl, ho⟩
  · simp [Instr.sliceBounds, ho2, ho3, run_sliceBound (show h ≤ cap by omega), run_sliceBound (Nat.le_refl h)]
  · simp [Instr.sliceBounds, ho, ho2, ho3, run_sliceBound (show h ≤ cap by omega), run_sliceBound (Nat.le_refl h), run_sliceBound h3]

theorem take_drop_len {α : Type} (xs : List α) (l h : Nat) (h3 : l ≤ h) (h4 : h ≤ xs.length) : ((xs.take h).drop l).length = h - l := by
  rw [List.length_drop, List.length_take]; omega

theorem take_drop_get {α : Type} (xs : List α) (l h i : Nat) (x : α) (h1 : ((xs.take h).drop l)[i]? = some x) : xs[l + i]? = some x ∧ l + i < h := by
  rw [List.getElem?_drop, List.getElem?_take] at h1
  split at h1
  · exact ⟨h1, by assumption⟩
  · cases h1

/-- A part of a slice. -/
theorem sl_part {xs : List (List D)} {v : Value} {t e k b l h _cap2 : Nat} (hv : Rv w Z m (.sl xs) v) (_ht : tel P t = some (e, k, b)) (h3 : l ≤ h) (h4 : h ≤ xs.length) (hk : ∀ x ∈ xs, x.length = k) :
    ∃ p cap, v = .slice p xs.length cap ∧ xs.length ≤ cap ∧ ∀ mx, (mx = h ∨ mx = cap) → Rv w Z m (.sl ((xs.take h).drop l)) (.slice (if mx = l then p else p.map (·.add (l * k))) (h - l) (mx - l)) ∧ h ≤ mx := by
  cases hv
  case slnil =>
    refine ⟨none, 0, rfl, Nat.le_refl _, fun mx hmx => ?_⟩
    have h0 : h = 0 := by simpa using h4
    have l0 : l = 0 := by omega
    have m0 : mx = 0 := by omega
    subst h0; subst l0; subst m0
    exact ⟨by simp; exact .slnil, Nat.le_refl _⟩
  case slz ad =>
    refine ⟨some ad, 0, rfl, Nat.le_refl _, fun mx hmx => ?_⟩
    have h0 : h = 0 := by simpa using h4
    have l0 : l = 0 := by omega
    have m0 : mx = 0 := by omega
    subst h0; subst l0; subst m0
    exact ⟨by simp; exact .slz _, Nat.le_refl _⟩
  case sl sz bl off cap c hcap hsz hc hv =>
    refine ⟨some ⟨bl, off, none⟩, cap, rfl, hcap.1, fun mx hmx => ⟨?_, by omega⟩⟩
    have hlen := take_drop_len xs l h h3 h4
    have hmx' : h ≤ mx := by omega
    by_cases he : mx = l
    · have hl0 : h - l = 0 := by omega
      have hnil : (xs.take h).drop l = [] := List.eq_nil_of_length_eq_zero (by rw [hlen]; exact hl0)
      rw [if_pos he, hnil, hl0]
      exact .sl sz [] bl off _ c ⟨Nat.zero_le _, Nat.zero_le _⟩ (by simp) (fun i j x d hx => by simp at hx) (fun i j x d hx => by simp at hx)
    · rw [if_neg he]
      simp only [Option.map_some, addr_add]
      rw [← hlen]
      have hszk : xs ≠ [] → sz = k := fun hne => by
        cases xs with
        | nil => exact absurd rfl hne
        | cons y r => rw [← hsz y (by simp), hk y (by simp)]
      refine .sl sz _ bl _ _ (fun i j => c (l + i) j) (by rw [hlen]; constructor <;> omega) (fun x hx => hsz x (List.mem_of_mem_take (List.mem_of_mem_drop hx))) (fun i j x d hx hd => ?_) (fun i j x d hx hd => ?_)
      · obtain ⟨h5, _⟩ := take_drop_get xs l h i x hx
        have hsk := hszk (by intro h0; rw [h0] at h5; simp at h5)
        have := hc (l + i) j x d h5 hd
        rw [show off + l * k + i * sz + j = off + (l + i) * sz + j by rw [hsk, Nat.add_mul]; omega]
        exact this
      · obtain ⟨h5, _⟩ := take_drop_get xs l h i x hx
        exact hv (l + i) j x d h5 hd

theorem slice_sound {t : Nat} {x : D} {v : Value} {lo hi mx : Option Operand} {d : D} (hr : Rel w Z m cl s a) (hx : Rv w Z m x v) (hsd : sliceD P t x s lo hi mx d) :
    ∃ r, (Instr.sliceAt t v (lo.map a.eval) (hi.map a.eval) (mx.map a.eval)).run P w = .ok r w ∧ Rv w Z m d r ∧ ∀ (cl' : Cl) t, Own w Z cl' (.slot t) d r := by
  have key : ∀ xs, Rv w Z m (.sl xs) v → (∃ (e k b l h : Nat), tel P t = some (e, k, b) ∧ bndD s 0 lo l ∧ bndD s xs.length hi h ∧ l ≤ h ∧ h ≤ xs.length ∧ (∀ x ∈ xs, x.length = k) ∧ mxD s k hi mx h ((xs.take h).drop l) d) →
      ∃ r, (Instr.sliceAt t v (lo.map a.eval) (hi.map a.eval) (mx.map a.eval)).run P w = .ok r w ∧ Rv w Z m d r ∧ ∀ (cl' : Cl) t, Own w Z cl' (.slot t) d r := by
    rintro xs hv ⟨e, k, b, l, h, ht, h1, h2, h3, h4, hk, hm⟩
    obtain ⟨hu, i, hi', hik, hib⟩ := tel_spec ht
    obtain ⟨p, cap, rfl, hcap, hpart⟩ := sl_part (_cap2 := 0) hv ht h3 h4 hk
    have hlen := take_drop_len xs l h h3 h4
    cases mx with
    | none =>
      simp only [mxD] at hm; subst hm
      refine ⟨_, ?_, (hpart cap (.inr rfl)).1, fun cl' t' => Own.of_ne (by simp)⟩
      have := run_sliceBounds (P := P) (isSlice := true) (cap := cap) (_dflt := 0) hr h1 h2 h3 h4 hcap
      simp [Instr.sliceAt, Instr.slice, run_underlying hu, this, sizeOf, run_typeInfo w hi', hik]
    | some o =>
      simp only [mxD] at hm
      obtain ⟨hhi, hmx, rfl⟩ := hm
      refine ⟨_, ?_, .osl _ _ _ (hpart h (.inl rfl)).1 (fun _ he p l c hv => (by have := congrArg List.length he; rw [hlen] at this; simp only [Value.slice.injEq] at hv; simp at this; omega)), fun cl' t' sz zs hd b' off c hval hlt => ?_⟩
      · have := run_sliceBounds3 (P := P) (isSlice := true) (cap := cap) hr h1 h2 hhi hmx (by simp) h3 h4 hcap
        simp only [Option.map_some] at this
        simp [Instr.sliceAt, Instr.slice, run_underlying hu, this, sizeOf, run_typeInfo w hi', hik]
      · simp only [D.osl.injEq] at hd
        obtain ⟨_, rfl⟩ := hd
        simp only [Value.slice.injEq] at hval
        omega
  cases x <;> simp only [sliceD] at hsd
  case str u =>
    obtain ⟨hu, rfl, l, h', h1, h2, h3, h4, rfl⟩ := hsd
    rw [hx.str_inv]
    refine ⟨.string ⟨((u.take h').drop l).toArray⟩, ?_, .str _ (by have := hx.str_len; rw [take_drop_len _ _ _ h3 h4]; omega), fun cl' t' => Own.of_ne (by simp)⟩
    have := run_sliceBounds (P := P) (isSlice := false) (cap := u.length) (_dflt := 0) hr h1 h2 h3 h4 (Nat.le_refl _)
    simp [Instr.sliceAt, Instr.slice, run_underlying hu, ba_size, this, ba_ext]
  case sl xs => exact key xs hx hsd
  case osl z xs => exact key xs hx.dis hsd
  case msl i off len =>
    obtain ⟨rfl, e, k, b, l, h', ht, h1, h2, h3, h4, rfl⟩ := hsd
    obtain ⟨hu, i', hi', hik, hib⟩ := tel_spec ht
    obtain ⟨cap, bl, ⟨hcap, hmx⟩, hm, rfl⟩ : ∃ cap bl, (len ≤ cap ∧ len ≤ 9223372036854775807) ∧ m[i]? = some bl ∧ v = .slice (some ⟨bl, off, none⟩) len cap := by
      cases hx; exact ⟨_, _, by assumption, by assumption, rfl⟩
    have := run_sliceBounds (P := P) (isSlice := true) (cap := cap) (_dflt := 0) hr h1 h2 (by omega) h4 hcap
    refine ⟨.slice (some ⟨bl, off + l * k, none⟩) (h' - l) (cap - l), ?_, .msl _ _ _ _ _ ⟨by omega, by omega⟩ hm, fun cl' t' => Own.of_ne (by simp)⟩
    by_cases hne : cap = l
    · have hl0 : l = 0 := by omega
      subst hl0
      subst hne
      simp [Instr.sliceAt, Instr.slice, run_underlying hu, this, sizeOf, run_typeInfo w hi', addr_add]
    · simp [Instr.sliceAt, Instr.slice, run_underlying hu, this, sizeOf, run_typeInfo w hi', hik, hne, addr_add]
  all_goals exact hsd.elim

theorem simple_cells {x : D} {v : Value} (hv : Rv w Z m x v) (h1 : x.simple = true) : x.cellsD.length = v.cells.size ∧ (∀ u ∈ v.cells, u.oneCell' = true) ∧ ∀ (i : Nat) (d : D) (u : Value), x.cellsD[i]? = some d → v.cells[i]? = some u → Rv w Z m d u :=
  hv.cellsD (fun cs e => by rw [e] at h1; cases h1) (fun e => by rw [e] at h1; cases h1)

/-- The parts of a slice literal, one behind the other. -/
theorem fill_run {k : Nat} : ∀ (vs : List Value) (i0 : Nat) (done rest : List Value), (∀ v ∈ vs, v.cells.size = k) → done.length = i0 * k → rest.length = vs.length * k →
    Instr.fill (fun i => some (i * k, k)) (done ++ rest).toArray ((List.range' i0 vs.length).zip vs) = some (done ++ vs.flatMap fun v => v.cells.toList).toArray
  | [], i0, done, rest, _, _, hr => by
    have : rest = [] := by simpa using hr
    subst this; simp [Instr.fill]
  | v :: vs, i0, done, rest, hv, hd, hr => by
    have hvk := hv v (by simp)
    simp only [List.length_cons, List.range'_succ, List.zip_cons_cons, Instr.fill]
    have hr' : rest.length = k + vs.length * k := by rw [hr, List.length_cons, Nat.add_mul, Nat.one_mul, Nat.add_comm]
    have hfold : ∀ (cs : List Value) (j : Nat) (pre suf : List Value), pre.length = i0 * k + j → cs.length ≤ suf.length →
        ((cs.zipIdx j).foldl (fun (acc : Array Value) (p : Value × Nat) => acc.setIfInBounds (i0 * k + p.2) p.1) (pre ++ suf).toArray) = (pre ++ cs ++ suf.drop cs.length).toArray := by
      intro cs
      induction cs with
      | nil => intro j pre suf _ _; simp
      | cons c cs ih =>
        intro j pre suf hp hs
        cases suf with
        | nil => simp at hs
        | cons y suf =>
          simp only [List.zipIdx_cons, List.foldl_cons]
          have e : (pre ++ y :: suf).toArray.setIfInBounds (i0 * k + j) c = ((pre ++ [c]) ++ suf).toArray := by
            rw [List.setIfInBounds_toArray]
            congr 1
            rw [List.set_append_right _ _ (by omega), hp, Nat.sub_self]
            simp
          rw [e, ih (j + 1) (pre ++ [c]) suf (by simp; omega) (by simpa using hs)]
          simp
    have hb : ¬ (v.cells.size ≠ k || i0 * k + v.cells.size > (done ++ rest).toArray.size) = true := by
      simp [hvk]; omega
    rw [if_neg hb]
    have hz : v.cells.zipIdx.foldl (fun (cs : Array Value) (p : Value × Nat) => cs.setIfInBounds (i0 * k + p.2) p.1) (done ++ rest).toArray = (done ++ v.cells.toList ++ rest.drop k).toArray := by
      rw [← Array.foldl_toList, Array.toList_zipIdx]
      have := hfold v.cells.toList 0 done rest (by omega) (by simp [hvk]; omega)
      rw [this]; simp [hvk]
    have hz' : v.cells.zipIdx.foldl (fun (cs : Array Value) (x : Value × Nat) => match x with | (c, j) => cs.setIfInBounds (i0 * k + j) c) (done ++ rest).toArray = (done ++ v.cells.toList ++ rest.drop k).toArray := hz
    rw [hz']
    have := fill_run vs (i0 + 1) (done ++ v.cells.toList) (rest.drop k) (fun u hu => hv u (by simp [hu])) (by simp [hvk, hd, Nat.add_mul]) (by simp; omega)
    rw [this]
    simp

theorem fill_fold (off : Nat) : ∀ (cs : List Value) (j : Nat) (pre suf : List Value), pre.length = off + j → cs.length ≤ suf.length →
    ((cs.zipIdx j).foldl (fun (acc : Array Value) (p : Value × Nat) => acc.setIfInBounds (off + p.2) p.1) (pre ++ suf).toArray) = (pre ++ cs ++ suf.drop cs.length).toArray := by
  intro cs
  induction cs with
  | nil => intro j pre suf _ _; simp
  | cons c cs ih =>
    intro j pre suf hp hs
    cases suf with
    | nil => simp at hs
    | cons y suf =>
      simp only [List.zipIdx_cons, List.foldl_cons]
      have e : (pre ++ y :: suf).toArray.setIfInBounds (off + j) c = ((pre ++ [c]) ++ suf).toArray := by
        rw [List.setIfInBounds_toArray]
        congr 1
        rw [List.set_append_right _ _ (by omega), hp, Nat.sub_self]
        simp
      rw [e, ih (j + 1) (pre ++ [c]) suf (by simp; omega) (by simpa using hs)]
      simp

theorem fill_rel (pl : Nat → Option (Nat × Nat × Bool)) (q : Nat → Option (Nat × Nat)) (hq : ∀ i o k g, pl i = some (o, k, g) → q i = some (o, k)) (hr : Rel w Z m cl s a) : ∀ (ps : List (Nat × Operand)) (cs : List D) (vs : List Value) (out : List D),
    cs.length = vs.length → (∀ v ∈ vs, v.oneCell' = true) → (∀ (i : Nat) (d : D) (v : Value), cs[i]? = some d → vs[i]? = some v → Rv w Z m d v) → fillD pl s ps cs = some out →
    ∃ us : List Value, Instr.fill q vs.toArray (ps.map fun p => (p.1, a.eval p.2)) = some us.toArray ∧ out.length = us.length ∧ (∀ v ∈ us, v.oneCell' = true) ∧
      ∀ (i : Nat) (d : D) (v : Value), out[i]? = some d → us[i]? = some v → Rv w Z m d v
  | [], cs, vs, out, hl, ho, hv, h => by
    simp only [fillD, Option.some.injEq] at h
    subst h
    exact ⟨vs, by simp [Instr.fill], hl, ho, hv⟩
  | (i, x) :: r, cs, vs, out, hl, ho, hv, h => by
    simp only [fillD] at h
    split at h
    case h_2 => cases h
    rename_i off k g hp
    split at h
    case h_2 => cases h
    rename_i hc
    simp only [Bool.and_eq_true] at hc
    obtain ⟨⟨hs, hk⟩, hle⟩ := hc
    have hk' : (s.ev x).cellsD.length = k := Nat.eq_of_beq_eq_true hk
    have hle' : off + k ≤ cs.length := Nat.le_of_ble_eq_true hle
    obtain ⟨c1, c2, c3⟩ := simple_cells (hr.ev' x) hs
    have hck : (a.eval x).cells.toList.length = k := by rw [Array.length_toList, ← c1]; exact hk'
    have hck2 : (a.eval x).cells.size = k := by simpa using hck
    have hfold := fill_fold off (a.eval x).cells.toList 0 (vs.take off) (vs.drop off) (by rw [List.length_take]; omega) (by rw [List.length_drop]; omega)
    rw [List.take_append_drop, hck, List.drop_drop] at hfold
    obtain ⟨us, h1, h2, h3, h4⟩ := fill_rel pl q hq hr r (cs.take off ++ (s.ev x).cellsD ++ cs.drop (off + k)) (vs.take off ++ (a.eval x).cells.toList ++ vs.drop (off + k)) out
      (by simp only [List.length_append, List.length_take, List.length_drop]; omega)
      (fun v hv' => by
        rcases List.mem_append.1 hv' with h | h
        · rcases List.mem_append.1 h with h | h
          · exact ho v (List.mem_of_mem_take h)
          · exact c2 v (by simpa using h)
        · exact ho v (List.mem_of_mem_drop h))
      (fun j d v hd hv' => by
        have e1 : (cs.take off).length = off := by rw [List.length_take]; omega
        have e2 : (vs.take off).length = off := by rw [List.length_take]; omega
        rw [List.append_assoc] at hd hv'
        by_cases hj : j < off
        · rw [List.getElem?_append_left (by omega), List.getElem?_take, if_pos hj] at hd hv'
          exact hv j d v hd hv'
        · rw [List.getElem?_append_right (by omega), e1] at hd
          rw [List.getElem?_append_right (by omega), e2] at hv'
          by_cases hj2 : j - off < k
          · rw [List.getElem?_append_left (by omega)] at hd hv'
            exact c3 _ d v hd (by simpa using hv')
          · rw [List.getElem?_append_right (by omega), List.getElem?_drop] at hd hv'
            rw [hk'] at hd; rw [hck] at hv'
            exact hv _ d v hd hv') h
    refine ⟨us, ?_, h2, h3, h4⟩
    simp only [List.map_cons, Instr.fill, hq i off k g hp]
    have hb : ¬ ((a.eval x).cells.size ≠ k || off + (a.eval x).cells.size > vs.toArray.size) = true := by
      simp [hck2]; omega
    rw [if_neg hb]
    have hz : (a.eval x).cells.zipIdx.foldl (fun (cs : Array Value) (x : Value × Nat) => match x with | (c, j) => cs.setIfInBounds (off + j) c) vs.toArray = (vs.take off ++ (a.eval x).cells.toList ++ vs.drop (off + k)).toArray := by
      rw [← Array.foldl_toList, Array.toList_zipIdx]
      exact hfold
    rw [hz]
    exact h1

theorem scalar0_rv {d : D} {v : Value} {w' : World} {Z' : Zone} {m' : List Nat} (h : Rv w Z m d v) (hs : d.scalar0 = true) : Rv w' Z' m' d v := by
  cases h <;> first | (simp [D.scalar0] at hs; done) | exact .bool _ | exact .int _ _ | (exact .str _ (by assumption))
theorem scalar_rv {d : D} {v : Value} {w' : World} {Z' : Zone} {m' : List Nat} (h : Rv w Z m d v) (hs : d.scalar = true) : Rv w' Z' m' d v := by
  cases h
  case tup cs vs hl hv =>
    simp only [D.scalar, List.all_eq_true] at hs
    exact .tup _ _ hl fun i d v hd hv' => scalar0_rv (hv i d v hd hv') (hs d (List.mem_of_getElem? hd))
  all_goals first | exact scalar0_rv (by constructor <;> assumption) hs | (simp [D.scalar, D.scalar0] at hs; done) | exact .bool _ | exact .int _ _ | exact .str _ (by assumption)

/-- The zone with the caller's objects. -/
def frzZ (Z : Zone) (m : List Nat) (S : List Ob) : Zone := fun b o => Z b o ∨ ∃ (i : Nat) (cs : List D), S[i]? = some (Ob.cells cs) ∧ m[i]? = some b ∧ o < cs.length
theorem frz1_rv {S : List Ob} (h : RelS w Z m cl S) {d : D} {v : Value} (hv : Rv w Z m d v) : Rv w (frzZ Z m S) m (frz1 S d) v := by
  have up : ∀ {m' : List Nat} {d v}, Rv w Z m' d v → Rv w (frzZ Z m S) m' d v := fun h => h.mono (fun _ _ hz => ⟨Or.inl hz, rfl⟩) (fun _ _ h => h)
  unfold frz1
  split
  · rename_i i off
    split
    · rename_i cs hS
      split
      · rename_i hk
        obtain ⟨b, hm, rfl⟩ : ∃ b, m[i]? = some b ∧ v = .pointer (some ⟨b, off, none⟩) := by
          cases hv; exact ⟨_, by assumption, rfl⟩
        obtain ⟨h1, h2, vs, e, h3, h4, h6, h5⟩ := h.obj i cs b hS hm
        refine .iptr _ _ _ (fun j => vs.getD (off + j) Go.undef) (fun j d hj => ?_) (fun j d hj => ?_)
        · rw [List.getElem?_map, Option.map_eq_some_iff] at hj
          obtain ⟨c, hc, rfl⟩ := hj
          rw [List.getElem?_drop] at hc
          have hlt : off + j < cs.length := (List.getElem?_eq_some_iff.1 hc).1
          refine ⟨Or.inr ⟨i, cs, hS, hm, hlt⟩, ?_, ?_⟩
          · simp [World.cell?, h3, Array.getD, show off + j < vs.size by omega]
          · simp [Array.getD, show off + j < vs.size by omega]; exact h6 _ (by simp)
        · rw [List.getElem?_map, Option.map_eq_some_iff] at hj
          obtain ⟨c, hc, rfl⟩ := hj
          rw [List.getElem?_drop] at hc
          have hlt : off + j < cs.length := (List.getElem?_eq_some_iff.1 hc).1
          have := (h5 (off + j) c (vs.getD (off + j) Go.undef) hc (by simp [Array.getD, show off + j < vs.size by omega])).1
          exact (up (this.closed [] (D.okmL_mem hk c (List.mem_of_getElem? hc)))).dis
      · exact up hv
    · exact up hv
  · exact up hv
theorem frz_rv {S : List Ob} (h : RelS w Z m cl S) {d : D} {v : Value} (hv : Rv w Z m d v) : Rv w (frzZ Z m S) m (frz S d) v := by
  unfold frz
  split
  · rename_i f cap
    cases hv with
    | fn f cap vs hl hv =>
      refine .fn f _ vs (by simpa using hl) fun i d v hd hv' => ?_
      rw [List.getElem?_map, Option.map_eq_some_iff] at hd
      obtain ⟨c, hc, rfl⟩ := hd
      exact frz1_rv h (hv i c v hc hv')
  · exact frz1_rv h hv
theorem frzZ_zc {S : List Ob} (h : RelS w Z m cl S) : ∀ b o, frzZ Z m S b o → ∃ v, w.cell? ⟨b, o, none⟩ = some v := fun b o hz => by
  rcases hz with hz | ⟨i, cs, hS, hm, hlt⟩
  · exact h.zc b o hz
  · obtain ⟨h1, h2, vs, e, h3, h4, h6, h5⟩ := h.obj i cs b hS hm
    exact ⟨vs[o]'(by omega), by simp [World.cell?, h3, show o < vs.size by omega]⟩

/-- The model agrees with AV. -/
theorem av_sound {o : Oper} {d : D} (h : AV P o s d) (hr : Rel w Z m cl s a) {K : Act → World → Prop} {Q : Exit → Act → World → Prop}
    (hk : ∀ v w' Z', QStep w Z w' Z' → Rv w' Z' m d v → (∀ (cl' : Cl) t, Own w' Z' cl' (.slot t) d v) → K (a.put o.dst v) w') : o.wp P a w K Q := by
  have same : ∀ v, (execOp a.eval o).run P w = .ok (.value v) w → Rv w Z m d v → (∀ z xs, d ≠ .osl z xs) → o.wp P a w K Q :=
    fun v h1 h2 h3 => wp_value h1 (hk v w Z (QStep.refl hr.toRelS) h2 (not_osl_own h3))
  have disn : ∀ (x : D) z xs, x.dis ≠ .osl z xs := fun x z xs => by cases x <;> simp [D.dis]
  obtain ⟨dst, op, type, pos, after, guard⟩ := o
  unfold AV at h
  cases op <;> simp only at h same
  case move x =>
    subst h
    exact same (a.eval x) (by simp [execOp]) (hr.ev' x).dis (disn _)
  case assign x =>
    subst h
    exact same (a.eval x) (by simp [execOp]) (hr.ev' x).dis (disn _)
  case pick c x y =>
    obtain ⟨t, hc, rfl⟩ := h
    have hcv := hr.ev' c
    rw [hc] at hcv
    have hce : a.eval c = .bool t := hcv.bool_inv
    refine same (if t then a.eval x else a.eval y) (by simp [execOp, hce, asBool]) ?_ (by cases t <;> exact disn _)
    cases t
    · exact (hr.ev' y).dis
    · exact (hr.ev' x).dis
  case box t x =>
    obtain ⟨rfl, h1, h2, h4⟩ := h
    obtain ⟨hl, ho, hv⟩ := (hr.ev' x).cellsD h1 h2
    refine wp_value (w' := w.alloc (.cells (a.eval x).cells t)) (v := .pointer (some ⟨w.heap.size, 0, none⟩)) (by simp [execOp, Instr.box, newVar, newRow]) ?_
    exact hk _ _ _ (QStep.alloc hr.toRelS _ t) (Rv.newptr hr.toRelS t hl ho hv h4) (not_osl_own (by simp))
  case load t x =>
    obtain ⟨g, k, hg, hsz, hd⟩ := h
    obtain ⟨r, h1, h2, h3⟩ := loadD_sound hr.toRelS (hr.ev' x) hg hsz hd
    exact same r (by simp [execOp, h1]) h2 h3
  case fieldAddr t x f =>
    obtain ⟨off, k, g, hf, hk0, hd⟩ := h
    obtain ⟨r, h1, h2, h3⟩ := fieldAddrD_sound (hr.ev' x) hf hk0 hd
    exact same r (by simp [execOp, h1]) h2 h3
  case field t x f =>
    obtain ⟨off, k, g, hf, hd⟩ := h
    obtain ⟨r, h1, h2, h3⟩ := fieldD_sound (hr.ev' x) hf hd
    exact same r (by simp [execOp, h1]) h2 h3
  case indexAddr t x i =>
    rcases h with ⟨e, k, b, kd, n, ht, hi, hd⟩ | ⟨len, k, kd, n, ht, hi, hn, hd⟩
    · have hiv := hr.ev' i
      rw [hi] at hiv
      have hie : a.eval i = .int kd n := hiv.int_inv
      obtain ⟨r, h1, h2, h3⟩ := idxD_sound (kd := kd) (hr.ev' x) ht hd
      exact same r (by simp [execOp, hie, h1]) h2 h3
    · have hiv := hr.ev' i
      rw [hi] at hiv
      have hie : a.eval i = .int kd (Int.ofNat n) := hiv.int_inv
      obtain ⟨r, h1, h2, h3⟩ := arrAddr_sound (kd := kd) (hr.ev' x) ht hn hd
      exact same r (by simp only [execOp, hie, Sem.run_bind, h1, Result.andThen_ok, Sem.run_pure]) h2 h3
  case index t x i =>
    obtain ⟨hu, kd, n, hi, hd⟩ := h
    have hiv := hr.ev' i
    rw [hi] at hiv
    have hie : a.eval i = .int kd n := hiv.int_inv
    have hx := hr.ev' x
    cases hxd : s.ev x <;> rw [hxd] at hd hx <;> simp only [strIdxD] at hd
    case str l =>
      obtain ⟨h0, b, hb, rfl⟩ := hd
      have hxe := hx.str_inv
      refine same (.int .u8 b.toNat) ?_ (.int _ _) (by simp)
      simp [execOp, hie, hxe, Instr.index, asIntOf, run_underlying hu, h0, ba_get, hb]
  case binOp op t x y yt =>
    obtain ⟨hb, ht⟩ := h
    obtain ⟨r, h1, h2⟩ := binD_run (t := t) (hr.ev' x) (hr.ev' y) hb ht x y
    refine same r ?_ h2 (binD_ne hb)
    simp only [execOp, Sem.run_bind, h1, Result.andThen_ok, Sem.run_pure]
  case unOp op t x =>
    have hx := hr.ev' x
    cases hxd : s.ev x <;> rw [hxd] at h hx <;> simp only [unD, reduceCtorEq] at h
    case bool b =>
      have hxe := hx.bool_inv
      cases op <;> simp only [reduceCtorEq, Option.some.injEq] at h
      subst h
      exact same (.bool !b) (by simp [execOp, hxe, Op.unary]) (.bool _) (by simp)
    case int k n =>
      have hxe := hx.int_inv
      cases op <;> simp only [reduceCtorEq, Option.some.injEq] at h
      subst h
      exact same (.int k (k.wrap (0 - n))) (by simp [execOp, hxe, Op.unary, Op.intArith]) (.int _ _) (by simp)
  case convert src dst' x =>
    have hx := hr.ev' x
    unfold convD at h
    split at h
    · rename_i u k kk n hsrc hdst hxd
      subst h
      rw [hxd] at hx
      have hxe := hx.int_inv
      refine same (.int k (k.wrap n)) ?_ (.int _ _) (by simp)
      simp only [execOp, hxe, convert, Sem.run_bind, run_underlying hsrc, run_underlying hdst, Result.andThen_ok]
      cases u <;> simp [Conv.intToInt]
    · rename_i l hsrc hdst hxd
      subst h
      rw [hxd] at hx
      have hxe := hx.str_inv
      refine same (.string ⟨l.toArray⟩) ?_ (.str _ hx.str_len) (by simp)
      simp [execOp, hxe, convert, run_underlying hsrc, run_underlying hdst]
    · exact h.elim
  case extract x i =>
    have hx := hr.ev' x
    cases hxd : s.ev x <;> rw [hxd] at h hx <;> simp only [extractD] at h
    case tup cs =>
      obtain ⟨c, hc, rfl⟩ := h
      obtain ⟨vs, hxe, hl, hv⟩ := hx.tup_inv
      have hlt : i < vs.size := by rw [← hl]; exact (List.getElem?_eq_some_iff.1 hc).1
      have hvv : vs[i]? = some vs[i] := by simp [hlt]
      exact same vs[i] (by simp [execOp, hxe, Instr.extract, hvv]) (hv _ _ _ hc hvv).dis (disn _)
  case makeFunc fn first captured =>
    obtain ⟨f, rfl, rfl, rfl⟩ := h
    obtain ⟨hl, hv⟩ := map_ev_rv hr captured
    exact same (.func (.func f) #[] (captured.map a.eval)) (by simp [execOp, Instr.makeFunc]) (.fn _ _ _ hl hv) (by simp)
  case lookup t x k ok =>
    obtain ⟨rfl, z, i, L, u, hz, hx, hS, hk', hm⟩ := h
    have hxv := hr.ev' x
    rw [hx] at hxv
    obtain ⟨b, hmb, hxe⟩ : ∃ b, m[i]? = some b ∧ a.eval x = .map (some b) := by
      generalize a.eval x = v at hxv
      cases hxv; exact ⟨_, by assumption, rfl⟩
    have hkv := hr.ev' k
    rw [hk'] at hkv
    obtain ⟨h1, es, clk, h3, h4, h5⟩ := hr.mpo i L b hS hmb
    obtain ⟨v, hrun, hv⟩ := lookup_rel hz h3 ⟨h4, fun j p e hp he => h5 j p e hp (by simpa using he)⟩ hm
    refine same v (by simp [execOp, hxe, hkv.str_inv, hrun]) (hv.up m) fun y ys hd => ?_
    rw [hd] at hm
    have : ∀ (L : List (D × D)), mgetD L u z (.osl y ys) → False := by
      intro L
      induction L with
      | nil => intro h; exact absurd h.symm (disn z y ys)
      | cons p r ih =>
        obtain ⟨q, x⟩ := p
        intro h
        cases q <;> simp only [mgetD] at h
        split at h
        · exact absurd h.symm (disn x y ys)
        · exact ih h
    exact this L hm
  case nilCheck x =>
    have hx := hr.ev' x
    cases hxd : s.ev x <;> rw [hxd] at h hx <;> simp only at h
    all_goals
      subst h
      cases hxe : a.eval x <;> rw [hxe] at hx <;> first | (cases hx; done) | skip
    · rename_i cs p
      cases p with
      | none => cases hx
      | some p => exact same _ (by simp [execOp, hxe]) hx (by simp)
    · rename_i i off p
      cases p with
      | none => cases hx
      | some p => exact same _ (by simp [execOp, hxe]) hx (by simp)
  case slice t x lo hi mx =>
    obtain ⟨r, h1, h2, h3⟩ := slice_sound hr (hr.ev' x) h
    exact wp_value (v := r) (w' := w) (by simp [execOp, h1]) (hk r w Z (QStep.refl hr.toRelS) h2 h3)
  case buildSlice t n ps =>
    obtain ⟨e, k, b, ht, hzo, hpl, hpo, hroom, rfl⟩ := h
    rw [partsCells_eq] at hk same
    have hidx : ps.toList.map (·.1) = List.range n := by rw [(partsOk_spec hpo).1, hpl, List.range_eq_range']
    have hps := (partsOk_spec hpo).2
    obtain ⟨hu, i, hi, hik, hib⟩ := tel_spec ht
    have hroom2 := hroom.2
    obtain ⟨zv, hzv⟩ : ∃ zv, i.zero = some zv := by
      unfold zeroOk at hzo; rw [hi] at hzo; simp only [Option.bind_some] at hzo
      cases hz : i.zero with
      | none => rw [hz] at hzo; cases hzo
      | some z => exact ⟨z, rfl⟩
    have hnl : ps.toList.length = n := by have := congrArg List.length hidx; simpa using this
    let vals := ps.toList.map fun p => a.eval p.2
    have hvk : ∀ v ∈ vals, v.cells.size = k := fun v hv => by
      obtain ⟨p, hp, rfl⟩ := List.mem_map.1 hv
      rw [← (simple_cells (hr.ev' p.2) (hps p hp).2.1).1]; exact (hps p hp).1
    have hone : ∀ v ∈ vals, ∀ u ∈ v.cells, u.oneCell' = true := fun v hv => by
      obtain ⟨p, hp, rfl⟩ := List.mem_map.1 hv
      exact (simple_cells (hr.ev' p.2) (hps p hp).2.1).2.1
    have hparts : (ps.map fun (p : Nat × Operand) => (p.1, a.eval p.2)).toList = (List.range' 0 vals.length).zip vals := by
      have hvl : vals.length = n := by simp [vals, hnl]
      have h1 : ps.toList.map (·.1) = List.range' 0 vals.length := by rw [hidx, hvl, List.range_eq_range']
      rw [Array.toList_map, ← h1]
      exact List.zip_map'.symm
    let flat : List Value := vals.flatMap fun v => v.cells.toList
    have hflen : ∀ (vs : List Value), (∀ v ∈ vs, v.cells.size = k) → (vs.flatMap fun v => v.cells.toList).length = vs.length * k := by
      intro vs
      induction vs with
      | nil => intro _; simp
      | cons v r ih =>
        intro h
        rw [List.flatMap_cons, List.length_append, ih fun u hu => h u (by simp [hu]), List.length_cons, Nat.add_mul, Nat.one_mul]
        have := h v (by simp)
        simp [this]; omega
    have hfl : flat.length = n * k := by rw [hflen vals hvk]; simp [vals, hnl]
    have hrun : (Instr.buildSlice t n (ps.map fun (p : Nat × Operand) => (p.1, a.eval p.2))).run P w = .ok (.slice (some ⟨w.heap.size, 0, none⟩) n n) (w.alloc (.cells flat.toArray e)) := by
      have hfill : ∀ (rest : List Value), rest.length = n * k → Instr.fill (fun i => some (i * k, k)) rest.toArray (ps.map fun (p : Nat × Operand) => (p.1, a.eval p.2)).toList = some flat.toArray := fun rest hrest => by
        rw [hparts]
        have := fill_run (k := k) vals 0 [] rest hvk (by simp) (by rw [hrest]; simp [vals, hnl])
        simpa using this
      have hroom' : ¬ (16777216 < n * k) := by have := hroom.1; omega
      by_cases hz : n * k = 0
      · have := hfill ((Array.range (n * k)).map (fun x => (#[] : Array Value)[x % (#[] : Array Value).size]!)).toList (by simp)
        simp only [Array.toArray_toList] at this
        simp [Instr.buildSlice, run_underlying hu, sizeOf, run_typeInfo w hi, hik, hroom']
        rcases Nat.mul_eq_zero.1 hz with h0 | h0
        · simp [h0] at this ⊢; simp [this, newRow]
        · simp [h0] at this ⊢; simp [this, newRow]
      · have := hfill ((Array.range (n * k)).map (fun x => zv.cells[x % zv.cells.size]!)).toList (by simp)
        rw [Array.toArray_toList] at this
        rw [Array.toList_map] at this
        simp only [Instr.buildSlice, Sem.run_bind, run_underlying hu, Result.andThen_ok, run_size (show tsz P e = some k by simp [tsz, hi, hik])]
        rw [if_neg (by simpa using hroom')]
        simp [hz, zeroValue, run_typeInfo w hi, hzv, newRow]
        rw [this]
        simp
    refine wp_value (v := .slice (some ⟨w.heap.size, 0, none⟩) n n) (w' := w.alloc (.cells flat.toArray e)) ?_ ?_
    · have : (ps.map fun (x : Nat × Operand) => match x with | (i, x) => (i, a.eval x)) = ps.map fun (p : Nat × Operand) => (p.1, a.eval p.2) := rfl
      simp only [execOp]
      simp [hrun]
    · have hlen2 : (ps.toList.map fun p => (s.ev p.2).cellsD).length = n := by simp [hnl]
      refine hk _ _ _ (QStep.alloc hr.toRelS flat.toArray e) (.osl _ _ _ ?_ (fun _ he p l c hv => by have := congrArg List.length he; simp only [Value.slice.injEq] at hv; simp [hnl] at this; omega)) (fun cl' t' sz zs hd b' off c hval hlt => ?_)
      · have q := QStep.alloc hr.toRelS flat.toArray e
        have hst := q.step hr.toRelS
        have base : ∀ (qs : List (Nat × Operand)), (∀ p ∈ qs, p ∈ ps.toList) → ∀ (i j : Nat) x d, (qs.map fun p => (s.ev p.2).cellsD)[i]? = some x → x[j]? = some d →
            ∃ u, ((qs.map fun p => a.eval p.2).flatMap fun v => v.cells.toList)[i * k + j]? = some u ∧ Rv w Z [] d u := by
          intro qs
          induction qs with
          | nil => intro _ i j x d hx; simp at hx
          | cons p r ih =>
            intro hmem i j x d hx hd
            have hp := hmem p (by simp)
            obtain ⟨c1, c2, c3⟩ := simple_cells (hr.ev' p.2) (hps p hp).2.1
            have c4 := (hps p hp).2.2
            have hck : (a.eval p.2).cells.toList.length = k := by have := (hps p hp).1; rw [c1] at this; simpa using this
            simp only [List.map_cons, List.flatMap_cons] at hx ⊢
            cases i with
            | zero =>
              simp only [List.getElem?_cons_zero, Option.some.injEq] at hx
              subst hx
              have hj : j < k := by rw [← (hps p hp).1]; exact (List.getElem?_eq_some_iff.1 hd).1
              rw [Nat.zero_mul, Nat.zero_add, List.getElem?_append_left (by omega)]
              have hju : (a.eval p.2).cells.toList[j]? = some ((a.eval p.2).cells.toList[j]'(by omega)) := List.getElem?_eq_getElem (by omega)
              exact ⟨_, hju, (c3 j d _ hd (by simp)).closed [] (D.okmL_mem c4 d (List.mem_of_getElem? hd))⟩
            | succ i =>
              simp only [List.getElem?_cons_succ] at hx
              obtain ⟨u, h1, h2⟩ := ih (fun q hq => hmem q (by simp [hq])) i j x d hx hd
              refine ⟨u, ?_, h2⟩
              rw [List.getElem?_append_right (by rw [hck, Nat.add_mul]; omega), hck, show (i + 1) * k + j - k = i * k + j by rw [Nat.add_mul]; omega]
              exact h1
        rw [← hlen2]
        have hkk : ∀ x ∈ (ps.toList.map fun p => (s.ev p.2).cellsD), x.length = k := fun x hx => by
          obtain ⟨p, hp, rfl⟩ := List.mem_map.1 hx; exact (hps p hp).1
        refine .sl k _ _ 0 _ (fun i j => flat.getD (i * k + j) Go.undef) ⟨Nat.le_refl _, by omega⟩ hkk (fun i j x d hx hd => ?_) (fun i j x d hx hd => ?_)
        · obtain ⟨u, h1, h2⟩ := base ps.toList (fun p hp => hp) i j x d hx hd
          have h1' : flat[i * k + j]? = some u := h1
          have hlt : i * k + j < flat.length := (List.getElem?_eq_some_iff.1 h1').1
          refine ⟨.inr ⟨rfl, by simpa using hlt⟩, ?_, ?_⟩
          · rw [Nat.zero_add, World.cell?_alloc_new]; simp [List.getD, h1']
          · simp only [List.getD, h1', Option.getD_some]
            obtain ⟨v, hv, hu'⟩ := List.mem_flatMap.1 (List.mem_of_getElem? h1')
            exact hone v hv u (by simpa using hu')
        · obtain ⟨u, h1, h2⟩ := base ps.toList (fun p hp => hp) i j x d hx hd
          have h1' : flat[i * k + j]? = some u := h1
          simp only [List.getD, h1', Option.getD_some]
          exact hst.rv h2
      · simp only [D.osl.injEq] at hd
        obtain ⟨_, rfl⟩ := hd
        simp only [Value.slice.injEq] at hval
        omega
  case build t ps =>
    have zero : ∀ zs, tz0 P t = some zs → ∃ i zv, P.info? t = some i ∧ i.zero = some zv ∧ (∀ v ∈ zv.cells, v.oneCell' = true) ∧ zs = zv.cells.toList.map fun v => (ofConst1 v).dis := fun zs hz => by
      unfold tz0 at hz
      cases hi : P.info? t with
      | none => rw [hi] at hz; cases hz
      | some i =>
        rw [hi] at hz
        simp only [Option.bind_some] at hz
        cases hzz : i.zero with
        | none => rw [hzz] at hz; cases hz
        | some zv =>
          rw [hzz] at hz
          simp only at hz
          split at hz
          · rename_i hall'; exact ⟨i, zv, rfl, hzz, fun v hv => List.all_eq_true.1 hall' v (by simpa using hv), (Option.some.inj hz).symm⟩
          · cases hz
    rcases h with ⟨hfo, zs, cs, hz, hfill, rfl⟩ | ⟨n, k, zs, cs, ht, hz, hfill, rfl⟩
    · have zero2 : ∃ i zv, P.info? t = some i ∧ i.zero = some zv ∧ (∀ v ∈ zv.cells, v.oneCell' = true) ∧ zs.length = zv.cells.toList.length ∧ ∀ (j : Nat) (d : D) (v : Value), zs[j]? = some d → zv.cells.toList[j]? = some v → Rv w Z m d v := by
        rcases hz with hz | ⟨z, hz, rfl⟩
        · obtain ⟨i, zv, h1, h2, h3, rfl⟩ := zero _ hz
          refine ⟨i, zv, h1, h2, h3, by simp, fun j d v hd hv => ?_⟩
          rw [List.getElem?_map, Option.map_eq_some_iff] at hd
          obtain ⟨u, hu, rfl⟩ := hd
          rw [hv] at hu; cases hu
          exact (ofConst1_rv _ _ _ _).dis
        · obtain ⟨i, zv, h1, h2, h3, rfl⟩ := zero _ hz
          refine ⟨i, zv, h1, h2, h3, by simp, fun j d v hd hv => ?_⟩
          rw [List.map_map, List.getElem?_map, Option.map_eq_some_iff] at hd
          obtain ⟨u, hu, rfl⟩ := hd
          rw [hv] at hu; cases hu
          show Rv w Z m ((ofConst1 v).dis.up0) v
          rw [ofConst1_up0]
          exact ofConst1_rv _ _ _ _
      obtain ⟨fs, hu, hall⟩ : ∃ fs, P.underlying t = some (.struct fs) ∧ ∀ i, i < fs.size → (fld P t i).isSome = true := by
        unfold fldsOk at hfo
        split at hfo
        · rename_i fs hu; exact ⟨fs, hu, fun i hi => List.all_eq_true.1 hfo i (by simpa using hi)⟩
        · cases hfo
      obtain ⟨i, zv, hi, hzv, hzone, hzl, hzr⟩ := zero2
      have hsz : ∀ i (h : i < fs.size), ∃ k g, tsz P fs[i].type = some k ∧ fld P t i = some (fs[i].offset, k, g) := fun i h => by
        have := hall i h
        obtain ⟨⟨off, k, g⟩, hf⟩ := Option.isSome_iff_exists.1 this
        obtain ⟨fs', fd, hu', hfd, rfl, hk, hg⟩ := fld_spec hf
        rw [hu] at hu'; cases hu'
        have : fd = fs[i] := by rw [Array.getElem?_eq_getElem h] at hfd; exact (Option.some.inj hfd).symm
        subst this
        exact ⟨k, g, hk, hf⟩
      let pls : Array (Nat × Nat) := fs.map fun f => (f.offset, (tsz P f.type).getD 0)
      have hmap : (fs.mapM fun f => do pure (f.offset, ← sizeOf f.type) : Sem (Array (Nat × Nat))).run P w = .ok pls w := by
        have key : ∀ (l : List Field), (∀ f ∈ l, ∃ k, tsz P f.type = some k) → (l.mapM fun f => do pure (f.offset, ← sizeOf f.type) : Sem (List (Nat × Nat))).run P w = .ok (l.map fun f => (f.offset, (tsz P f.type).getD 0)) w := by
          intro l
          induction l with
          | nil => intro _; simp
          | cons f r ih =>
            intro hl
            obtain ⟨k, hk⟩ := hl f (by simp)
            have := ih fun g hg => hl g (by simp [hg])
            rw [List.mapM_cons]
            simp only [Sem.run_bind, run_size hk, Result.andThen_ok, Sem.run_pure]
            rw [this]; simp [hk]
        have hk2 := key fs.toList fun f hf => by
          obtain ⟨q, hq, rfl⟩ := List.getElem_of_mem hf
          obtain ⟨k, g, hk, _⟩ := hsz q (by simpa using hq)
          exact ⟨k, by simpa using hk⟩
        rw [← Array.toArray_toList (xs := fs), List.mapM_toArray, Sem.run_map, hk2]
        show Result.ok _ w = _
        congr 1
        apply Array.ext'
        simp [pls]
      have hq : ∀ i o k g, fld P t i = some (o, k, g) → pls[i]? = some (o, k) := fun i o k g hf => by
        obtain ⟨fs', fd, hu', hfd, rfl, hk, hg⟩ := fld_spec hf
        rw [hu] at hu'; cases hu'
        simp [pls, hfd, hk]
      obtain ⟨us, h1, h2, h3, h4⟩ := fill_rel (fld P t) (pls[·]?) hq hr ps.toList zs zv.cells.toList cs hzl (fun v hv => hzone v (by simpa using hv)) hzr hfill
      refine same (.agg us.toArray) ?_ (.agg _ _ (by simpa using h2) (fun v hv => h3 v (by simpa using hv)) (fun i d v hd hv => h4 i d v hd (by simpa using hv))) (by simp)
      have e1 : (ps.map fun (x : Nat × Operand) => match x with | (i, x) => (i, a.eval x)).toList = ps.toList.map fun p => (p.1, a.eval p.2) := by simp
      rw [Array.toArray_toList] at h1
      simp only [execOp, Instr.build, zeroValue, Sem.run_bind, run_typeInfo w hi, Result.andThen_ok, hzv, Sem.run_pure, run_underlying hu, hmap, e1, h1]
    · obtain ⟨i, zv, hi, hzv, hzone, rfl⟩ := zero zs hz
      obtain ⟨e, ie, hu, hie, hik⟩ := tarr_spec ht
      obtain ⟨us, h1, h2, h3, h4⟩ := fill_rel (fun i => some (i * k, k, true)) (fun i => some (i * k, k)) (fun i o k' g hf => by simp only [Option.some.injEq, Prod.mk.injEq] at hf ⊢; exact ⟨hf.1, hf.2.1⟩) hr ps.toList (zv.cells.toList.map fun v => (ofConst1 v).dis) zv.cells.toList cs (by simp) (fun v hv => hzone v (by simpa using hv))
        (fun i d v hd hv => by
          rw [List.getElem?_map, Option.map_eq_some_iff] at hd
          obtain ⟨u, hu, rfl⟩ := hd
          rw [hv] at hu; cases hu
          exact (ofConst1_rv _ _ _ _).dis) hfill
      refine same (.agg us.toArray) ?_ (.agg _ _ (by simpa using h2) (fun v hv => h3 v (by simpa using hv)) (fun i d v hd hv => h4 i d v hd (by simpa using hv))) (by simp)
      have e1 : (ps.map fun (x : Nat × Operand) => match x with | (i, x) => (i, a.eval x)).toList = ps.toList.map fun p => (p.1, a.eval p.2) := by simp
      rw [Array.toArray_toList] at h1
      simp only [execOp, Instr.build, zeroValue, Sem.run_bind, run_typeInfo w hi, Result.andThen_ok, hzv, Sem.run_pure, run_underlying hu, sizeOf, run_typeInfo w hie, hik, e1, h1]
  case call c =>
    obtain ⟨callee, args, argTypes⟩ := c
    cases callee with
    | invoke r n => exact h.elim
    | value g =>
      simp only at h
      obtain ⟨f, cap, hg, hok, hc, hosl⟩ := h
      have hgv := hr.ev' g
      rw [hg] at hgv
      obtain ⟨us, hge, hcl, hcv⟩ : ∃ us : Array Value, a.eval g = .func (.func f) #[] us ∧ cap.length = us.size ∧ ∀ (i : Nat) (d : D) (v : Value), cap[i]? = some d → us[i]? = some v → Rv w Z m d v := by
        generalize a.eval g = v at hgv
        cases hgv with
        | fn f cap vs hl hv => exact ⟨_, rfl, hl, hv⟩
      obtain ⟨fn, hf, hb, hn⟩ : ∃ fn, P.funcs[f]? = some fn ∧ fn.body.isSome = true ∧ (fn.name == "runtime.NumGoroutine") = false := by
        unfold fnOk at hok
        cases hf : P.funcs[f]? with
        | none => rw [hf] at hok; cases hok
        | some fn => rw [hf] at hok; simp at hok; exact ⟨fn, rfl, hok.1, by simpa using hok.2⟩
      obtain ⟨hl, hv⟩ := map_ev_rv hr args
      have hrun : (execOp a.eval ⟨dst, .call ⟨.value g, args, argTypes⟩, type, pos, after, guard⟩).run P w = .ok (.enter f (args.map a.eval ++ us)) w := by
        simp only [execOp, resolve, hge, Deferred.ofValue, pure_bind, invoke, callFunc, Sem.run_bind, run_program, Result.andThen_ok, hf, hn]
        cases hbb : fn.body with
        | none => rw [hbb] at hb; cases hb
        | some c => simp
      have hargs : ∀ (i : Nat) (d : D) (v : Value), ((args.toList.map fun x => (s.ev x).dis) ++ cap)[i]? = some d → (args.map a.eval ++ us)[i]? = some v → Rv w Z m d v := fun i d v hd hv' => by
        by_cases hi : i < (args.map a.eval).size
        · rw [List.getElem?_append_left (by rw [hl]; exact hi)] at hd
          rw [Array.getElem?_append_left hi] at hv'
          exact hv i d v hd hv'
        · rw [List.getElem?_append_right (by rw [hl]; omega), hl] at hd
          rw [Array.getElem?_append_right (by omega)] at hv'
          exact hcv _ d v hd hv'
      unfold Oper.wp; rw [hrun]
      rcases hc with hc | ⟨hsc, hc⟩
      · refine (hc w Z m (args.map a.eval ++ us) hr.zc hr.mlt (by rw [List.length_append, Array.size_append, hl, hcl]) hargs).mono ?_
        rintro e w' ⟨v, Z', rfl, hrv, q⟩
        exact hk v w' Z' q hrv (not_osl_own hosl)
      · refine (hc w (frzZ Z m s.S) m (args.map a.eval ++ us) (frzZ_zc hr.toRelS) hr.mlt (by rw [List.length_map, List.length_append, Array.size_append, hl, hcl]) (fun i d v hd hv' => ?_)).mono ?_
        · rw [List.getElem?_map, Option.map_eq_some_iff] at hd
          obtain ⟨c, hc, rfl⟩ := hd
          exact frz_rv hr.toRelS (hargs i c v hc hv')
        rintro e w' ⟨v, Z', rfl, hrv, q⟩
        refine hk v w' Z ⟨q.os, q.tape, q.output, q.size, q.heap, fun _ _ h => h, fun _ _ _ h => h, fun b o hz => ?_⟩ (scalar_rv hrv hsc) (not_osl_own hosl)
        obtain ⟨v', hv'⟩ := hr.zc b o hz
        exact ⟨v', by rw [cell_of_heap (q.heap b (cell_lt hv'))]; exact hv'⟩
    | builtin b =>
      cases b <;> simp only at h
      case len =>
        obtain ⟨x, t, hx0, ht0, n, hn, rfl⟩ := h
        have hx := hr.ev' x
        have hargs : (args.map a.eval)[0]? = some (a.eval x) := by simp [hx0]
        have key : (Builtin.len_ argTypes type (args.map a.eval)).run P w = .ok (goInt n) w := by
          have sl : ∀ xs, Rv w Z m (.sl xs) (a.eval x) → (match P.underlying t with | some (.slice _) => some xs.length | _ => none) = some n → (Builtin.len_ argTypes type (args.map a.eval)).run P w = .ok (goInt n) w := by
            intro xs hx hn
            split at hn
            · rename_i e hu
              cases hn
              obtain ⟨p, q, hxe⟩ : ∃ p q, a.eval x = .slice p xs.length q := by
                generalize a.eval x = v at hx
                cases hx <;> exact ⟨_, _, rfl⟩
              rw [hxe] at hargs
              simp only [Builtin.len_, ht0, hargs, Sem.run_bind, run_underlying hu, Result.andThen_ok]
              rfl
            · cases hn
          cases hxd : s.ev x <;> rw [hxd] at hn hx <;> simp only [lenD, reduceCtorEq] at hn
          case str l =>
            split at hn
            · rename_i hu
              cases hn
              rw [hx.str_inv] at hargs
              simp only [Builtin.len_, ht0, hargs, Sem.run_bind, run_underlying hu, Result.andThen_ok, ba_size]
              rfl
            · cases hn
          case sl xs => exact sl xs hx hn
          case osl z xs => exact sl xs hx.dis hn
          case msl i off len =>
            split at hn
            · rename_i e hu
              cases hn
              obtain ⟨p, q, hxe⟩ : ∃ p q, a.eval x = .slice p n q := by
                generalize a.eval x = v at hx
                cases hx; exact ⟨_, _, rfl⟩
              rw [hxe] at hargs
              simp only [Builtin.len_, ht0, hargs, Sem.run_bind, run_underlying hu, Result.andThen_ok]
              rfl
            · cases hn
        refine same (goInt n) ?_ (.int _ _) (by simp)
        simp [execOp, resolve, invoke, builtin, key]
      case min =>
        obtain ⟨x, y, k, p, q, hargs, hx, hy, rfl⟩ : ∃ x y k p q, args.toList = [x, y] ∧ s.ev x = .int k p ∧ s.ev y = .int k q ∧ d = .int k (if q < p then q else p) := by
          cases hl : args.toList with
          | nil => simp [hl, minD] at h
          | cons x r =>
            cases r with
            | nil => rw [hl] at h; simp only [List.map_cons, List.map_nil] at h; unfold minD at h; split at h <;> simp_all
            | cons y r =>
              cases r with
              | cons z r => rw [hl] at h; simp only [List.map_cons] at h; unfold minD at h; split at h <;> simp_all
              | nil =>
                rw [hl] at h; simp only [List.map_cons, List.map_nil] at h
                unfold minD at h
                split at h
                · rename_i k p k' q he
                  simp only [List.cons.injEq, and_true] at he
                  split at h
                  · rename_i hk; subst hk; cases h
                    exact ⟨x, y, _, _, _, rfl, he.1, he.2, rfl⟩
                  · cases h
                · cases h
        have hx' := hr.ev' x
        have hy' := hr.ev' y
        rw [hx] at hx'; rw [hy] at hy'
        have ha : args = #[x, y] := by rw [← Array.toArray_toList (xs := args), hargs]
        refine same _ ?_ (.int _ _) (by simp)
        simp [execOp, resolve, invoke, builtin, ha, hx'.int_inv, hy'.int_inv, run_min_int2]
      case max =>
        obtain ⟨x, y, k, p, q, hargs, hx, hy, rfl⟩ : ∃ x y k p q, args.toList = [x, y] ∧ s.ev x = .int k p ∧ s.ev y = .int k q ∧ d = .int k (if q > p then q else p) := by
          cases hl : args.toList with
          | nil => simp [hl, maxD] at h
          | cons x r =>
            cases r with
            | nil => rw [hl] at h; simp only [List.map_cons, List.map_nil] at h; unfold maxD at h; split at h <;> simp_all
            | cons y r =>
              cases r with
              | cons z r => rw [hl] at h; simp only [List.map_cons] at h; unfold maxD at h; split at h <;> simp_all
              | nil =>
                rw [hl] at h; simp only [List.map_cons, List.map_nil] at h
                unfold maxD at h
                split at h
                · rename_i k p k' q he
                  simp only [List.cons.injEq, and_true] at he
                  split at h
                  · rename_i hk; subst hk; cases h
                    exact ⟨x, y, _, _, _, rfl, he.1, he.2, rfl⟩
                  · cases h
                · cases h
        have hx' := hr.ev' x
        have hy' := hr.ev' y
        rw [hx] at hx'; rw [hy] at hy'
        have ha : args = #[x, y] := by rw [← Array.toArray_toList (xs := args), hargs]
        refine same _ ?_ (.int _ _) (by simp)
        simp [execOp, resolve, invoke, builtin, ha, hx'.int_inv, hy'.int_inv, run_max_int2]
  all_goals exact h.elim

end
end Go.AL
