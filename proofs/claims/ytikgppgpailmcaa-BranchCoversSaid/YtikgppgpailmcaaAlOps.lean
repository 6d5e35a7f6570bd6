/-
  The operations that write nothing, one by one.
-/
import Derived.Test.YtikgppgpailmcaaAlQuiet
import Derived.StringKeys
namespace Go.AL

def tsz (P : Program) (t : Nat) : Option Nat := (P.info? t).map (·.size)
def TypeDesc.agg : TypeDesc → Bool
  | .struct _ | .array _ _ => true
  | _ => false
def tag (P : Program) (t : Nat) : Option Bool := (P.underlying t).map TypeDesc.agg
/-- A slice type's element: its number, its cells, its bytes. -/
def tel (P : Program) (t : Nat) : Option (Nat × Nat × Nat) :=
  match P.underlying t with
  | some (.slice e) => (P.info? e).map fun i => (e, i.size, i.bytes)
  | _ => none
/-- A struct's field: where it lies, its cells, is it a struct or an array. -/
def fld (P : Program) (t i : Nat) : Option (Nat × Nat × Bool) :=
  match P.underlying t with
  | some (.struct fs) => match fs[i]? with
    | some f => match tsz P f.type, tag P f.type with
      | some k, some g => some (f.offset, k, g)
      | _, _ => none
    | none => none
  | _ => none

/-- An array type: its length, and the cells of an element. -/
def tarr (P : Program) (t : Nat) : Option (Nat × Nat) :=
  match P.underlying t with
  | some (.array n e) => (P.info? e).map fun i => (n, i.size)
  | _ => none

def intBin (op : BinOp) (k : IntKind) (x y : Int) : Option D :=
  match op with
  | .add => some (.int k (k.wrap (x + y)))
  | .sub => some (.int k (k.wrap (x - y)))
  | .mul => some (.int k (k.wrap (x * y)))
  | .quo => if y = 0 then none else some (.int k (k.wrap (x.tdiv y)))
  | .rem => if y = 0 then none else some (.int k (x.tmod y))
  | .and => some (.int k (k.wrap (BitVec.ofInt k.bits x &&& BitVec.ofInt k.bits y).toNat))
  | .or => some (.int k (k.wrap (BitVec.ofInt k.bits x ||| BitVec.ofInt k.bits y).toNat))
  | .xor => some (.int k (k.wrap (BitVec.ofInt k.bits x ^^^ BitVec.ofInt k.bits y).toNat))
  | .andNot => some (.int k (k.wrap (BitVec.ofInt k.bits x &&& ~~~(BitVec.ofInt k.bits y)).toNat))
  | .eql => some (.bool (x == y))
  | .neq => some (.bool (x != y))
  | .lss => some (.bool (x < y))
  | .leq => some (.bool (x ≤ y))
  | .gtr => some (.bool (x > y))
  | .geq => some (.bool (x ≥ y))
  | .shl => if y < 0 then none else some (.int k (k.wrap (x * 2 ^ (min y.toNat k.bits))))
  | .shr => if y < 0 then none else some (.int k (x.fdiv (2 ^ (min y.toNat k.bits))))

def strBin (op : BinOp) (x y : List UInt8) : Option D :=
  match op with
  | .add => if ((x.length + y.length : Nat) : Int) > IntKind.i64.max then none else some (.str (x ++ y))
  | .eql => some (.bool (x == y))
  | .neq => some (.bool !(x == y))
  | .lss => some (.bool (Op.bytesLess x y))
  | .leq => some (.bool (Op.bytesLess x y || x == y))
  | .gtr => some (.bool !(Op.bytesLess x y || x == y))
  | .geq => some (.bool !(Op.bytesLess x y))
  | _ => none

def boolBin (op : BinOp) (x y : Bool) : Option D :=
  match op with
  | .eql => some (.bool (x == y))
  | .neq => some (.bool (x != y))
  | _ => none

def isShift : BinOp → Bool
  | .shl | .shr => true
  | _ => false

def binD (op : BinOp) : D → D → Option D
  | .int k a, .int k' b => if k = k' ∨ isShift op = true then intBin op k a b else none
  | .str a, .str b => strBin op a b
  | .bool a, .bool b => boolBin op a b
  | _, _ => none

def unD (op : UnOp) : D → Option D
  | .bool b => match op with | .not => some (.bool !b) | _ => none
  | .int k n => match op with | .neg => some (.int k (k.wrap (0 - n))) | _ => none
  | _ => none

def lenD (u : Option TypeDesc) : D → Option Nat
  | .str s => match u with | some .string => some s.length | _ => none
  | .sl xs | .osl _ xs => match u with | some (.slice _) => some xs.length | _ => none
  | .msl _ _ n => match u with | some (.slice _) => some n | _ => none
  | _ => none

theorem wp_value {P : Program} {o : Oper} {a : Act} {w w' : World} {v : Value} {K Q} (h : (execOp a.eval o).run P w = .ok (.value v) w') (hk : K (a.put o.dst v) w') : o.wp P a w K Q := by
  unfold Oper.wp; rw [h]; exact hk

section
variable {P : Program} {w : World} {Z : Zone} {m : List Nat}

theorem eqGuard_int (op : BinOp) (t : TypeId) (xo yo : Operand) (k k' : IntKind) (n n' : Int) : eqGuard op t xo yo (.int k n) (.int k' n') = pure () := by
  unfold eqGuard; split <;> rfl
theorem eqGuard_str (op : BinOp) (t : TypeId) (xo yo : Operand) (a b : ByteArray) : eqGuard op t xo yo (.string a) (.string b) = pure () := by
  unfold eqGuard; split <;> rfl
theorem eqGuard_bool (op : BinOp) (t : TypeId) (xo yo : Operand) (a b : Bool) : eqGuard op t xo yo (.bool a) (.bool b) = pure () := by
  unfold eqGuard; split <;> rfl

theorem ba_list (l : List UInt8) : (ByteArray.mk l.toArray).toList = l := by rw [ByteArray.toList_eq]
theorem ba_app (a b : List UInt8) : (⟨a.toArray⟩ ++ ⟨b.toArray⟩ : ByteArray) = ⟨(a ++ b).toArray⟩ := by apply ByteArray.ext; simp
theorem ba_size (l : List UInt8) : (ByteArray.mk l.toArray).size = l.length := by simp [ByteArray.size]
theorem ba_ext (l : List UInt8) (i j : Nat) : (ByteArray.mk l.toArray).extract i j = ⟨((l.take j).drop i).toArray⟩ := by
  apply ByteArray.ext; simp [List.drop_take]
theorem ba_get (l : List UInt8) (i : Nat) : (ByteArray.mk l.toArray)[i]? = l[i]? := by
  by_cases h : i < l.length
  · rw [List.getElem?_eq_getElem h]
    have h' : i < (ByteArray.mk l.toArray).size := by simpa [ByteArray.size] using h
    rw [getElem?_pos _ i h']; rfl
  · rw [List.getElem?_eq_none (by omega)]
    have h' : ¬ i < (ByteArray.mk l.toArray).size := by simpa [ByteArray.size] using h
    rw [getElem?_neg _ i h']

theorem intBin_run {op : BinOp} {t : TypeId} {k k' : IntKind} {x y : Int} {d : D} (h : intBin op k x y = some d) (hk : k = k' ∨ isShift op = true) :
    ∃ r, (binOp op t (.int k x) (.int k' y)).run P w = .ok r w ∧ Rv w Z m d r := by
  cases op <;> simp only [isShift, Bool.false_eq_true, or_false, or_true] at hk <;> try subst hk
  case quo =>
    by_cases hy : y = 0
    · simp [intBin, hy] at h
    · simp only [intBin, hy, if_false, Option.some.injEq] at h; subst h
      exact ⟨_, by simp [binOp, Op.intDiv, hy], .int _ _⟩
  case rem =>
    by_cases hy : y = 0
    · simp [intBin, hy] at h
    · simp only [intBin, hy, if_false, Option.some.injEq] at h; subst h
      exact ⟨_, by simp [binOp, Op.intDiv, hy], .int _ _⟩
  case shl =>
    by_cases hy : y < 0
    · simp [intBin, hy] at h
    · simp only [intBin, hy, if_false, Option.some.injEq] at h; subst h
      exact ⟨_, by simp [binOp, Op.shift, hy], .int _ _⟩
  case shr =>
    by_cases hy : y < 0
    · simp [intBin, hy] at h
    · simp only [intBin, hy, if_false, Option.some.injEq] at h; subst h
      exact ⟨_, by simp [binOp, Op.shift, hy], .int _ _⟩
  all_goals
    simp only [intBin, Option.some.injEq] at h; subst h
    first
      | exact ⟨_, by simp only [binOp, Op.intArith, Op.intBits, Op.intCmp, ne_eq, not_true_eq_false, if_false]; rfl, .int _ _⟩
      | exact ⟨_, by simp only [binOp, Op.intCmp, ne_eq, not_true_eq_false, if_false]; rfl, .bool _⟩

theorem strBin_run {op : BinOp} {t : TypeId} {a b : List UInt8} {d : D} (h : strBin op a b = some d) :
    ∃ r, (binOp op t (.string ⟨a.toArray⟩) (.string ⟨b.toArray⟩)).run P w = .ok r w ∧ Rv w Z m d r := by
  have hr : (binOp op t (.string ⟨a.toArray⟩) (.string ⟨b.toArray⟩)) = Op.stringOp op ⟨a.toArray⟩ ⟨b.toArray⟩ := by
    cases op <;> rfl
  rw [hr]
  cases op <;> simp only [strBin, Option.some.injEq, reduceCtorEq] at h
  case add =>
    by_cases hc : ((a.length + b.length : Nat) : Int) > IntKind.i64.max
    · rw [if_pos hc] at h; cases h
    · rw [if_neg hc] at h; cases h
      refine ⟨.string ⟨(a ++ b).toArray⟩, ?_, .str _ (by simp [IntKind.max, IntKind.signed, IntKind.bits] at hc; simp; omega)⟩
      simp only [Op.stringOp, ba_size, ba_app, hc, if_false]
      rfl
  all_goals
    subst h
    exact ⟨_, by simp only [Op.stringOp, ba_list]; rfl, .bool _⟩

theorem binD_run {op : BinOp} {t : TypeId} {x y d : D} {u v : Value} (hu : Rv w Z m x u) (hv : Rv w Z m y v) (h : binD op x y = some d) (ht : (P.underlying t) = some .bool ∨ ∀ b, x ≠ .bool b)
    (xo yo : Operand) : ∃ r, (do eqGuard op t xo yo u v; binOp op t u v : Sem Value).run P w = .ok r w ∧ Rv w Z m d r := by
  cases hu <;> cases hv <;> simp only [binD, reduceCtorEq] at h
  case int.int k n k' n' =>
    rw [eqGuard_int]
    split at h
    case isFalse => cases h
    rename_i hk
    exact intBin_run h hk
  case str.str a b =>
    rw [eqGuard_str]
    exact strBin_run h
  case bool.bool a b =>
    have ht' : P.underlying t = some .bool := ht.resolve_right (fun h => h a rfl)
    rw [eqGuard_bool]
    cases op <;> simp only [boolBin, Option.some.injEq, reduceCtorEq] at h
    · subst h; exact ⟨_, run_eql_bool w t a b ht', .bool _⟩
    · subst h; exact ⟨_, run_neq_bool w t a b ht', .bool _⟩

end
end Go.AL
