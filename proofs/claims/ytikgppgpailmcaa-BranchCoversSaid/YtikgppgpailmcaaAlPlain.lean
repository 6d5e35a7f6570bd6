/-
  The operations of the programs in plain values, and that each gives what is asked.
-/
import Derived.Test.YtikgppgpailmcaaAlProg3
namespace Go.AL

section
variable {P : Program} {τ σ ρ α : Type}
theorem ok_ret {r : τ} : (Prog.ret r).ok P := trivial
theorem ok_fail : (Prog.fail : Prog τ).ok P := trivial
theorem ok_inner {p : Prog τ} (h : p.ok P) : (Prog.inner p).ok P := h
theorem ok_op {κ : Ky} {m : Option α} {e : α → D} {k : α → Prog τ} (h : ∀ a, m = some a → κ.ok P (e a)) (h2 : ∀ a, m = some a → (k a).ok P) : (Prog.op κ m e k).ok P := ⟨h, h2⟩
theorem ok_mem {κ : Ky} {m : Option α} {c : α → Ob} {k : α → Prog τ} (h : ∀ a, m = some a → κ.okO (c a)) (h2 : ∀ a, m = some a → (k a).ok P) : (Prog.mem κ m c k).ok P := ⟨h, h2⟩
theorem ok_fix {i t len k : Nat} {xs : List (List D)} {p : Prog τ} (h : ∀ x ∈ xs, x.length = k) (h2 : p.ok P) : (Prog.fix i t len k xs p).ok P := ⟨h, h2⟩
theorem ok_split {t : Nat} {c : Bool} {x y : Prog τ} (h : c = true → x.ok P) (h2 : c = false → y.ok P) : (Prog.split t c x y).ok P := ⟨h, h2⟩
theorem ok_join {l : List Nat} {A : σ → List (Nat × D) × List Ob} {m : Prog (σ ⊕ τ)} {k : σ → Prog τ} (h : m.ok P) (h2 : ∀ st, (k st).ok P) : (Prog.join l A m k).ok P := ⟨h, h2⟩
theorem ok_loop {l : List Nat} {A : σ → List (Nat × D) × List Ob} {st : σ} {nx : σ → ρ → σ} {body : σ → Prog (ρ ⊕ τ)} (h : ∀ st, (body st).ok P) : (Prog.loop l A st nx body).ok P := h
theorem ok_rng {x tc n : Nat} {l : List Nat} {A : Int → σ → List (Nat × D) × List Ob} {st : σ} {body : Nat → σ → Prog (σ ⊕ τ)} {ex : σ → τ} (h : ∀ i st, i < n → (body i st).ok P) : (Prog.rng x tc n l A st body ex).ok P := h

@[simp] theorem eval_ret (r : τ) : (Prog.ret r).eval = some r := rfl
@[simp] theorem eval_fail : (Prog.fail : Prog τ).eval = none := rfl
@[simp] theorem eval_inner (p : Prog τ) : (Prog.inner p).eval = p.eval := rfl
@[simp] theorem eval_op (κ : Ky) (m : Option α) (e : α → D) (k : α → Prog τ) : (Prog.op κ m e k).eval = m.bind fun a => (k a).eval := rfl
@[simp] theorem eval_mem (κ : Ky) (m : Option α) (c : α → Ob) (k : α → Prog τ) : (Prog.mem κ m c k).eval = m.bind fun a => (k a).eval := rfl
@[simp] theorem eval_fix (i t len k : Nat) (xs : List (List D)) (p : Prog τ) : (Prog.fix i t len k xs p).eval = if xs.length = len then p.eval else none := rfl
@[simp] theorem eval_split (t : Nat) (c : Bool) (x y : Prog τ) : (Prog.split t c x y).eval = if c then x.eval else y.eval := rfl
@[simp] theorem eval_join (l : List Nat) (A : σ → List (Nat × D) × List Ob) (m : Prog (σ ⊕ τ)) (k : σ → Prog τ) : (Prog.join l A m k).eval = joinE m.eval fun st => (k st).eval := rfl
@[simp] theorem eval_loop (l : List Nat) (A : σ → List (Nat × D) × List Ob) (st : σ) (nx : σ → ρ → σ) (body : σ → Prog (ρ ⊕ τ)) : (Prog.loop l A st nx body).eval = loopE nx (fun st => (body st).eval) big st := rfl
@[simp] theorem eval_rng (x tc n : Nat) (l : List Nat) (A : Int → σ → List (Nat × D) × List Ob) (st : σ) (body : Nat → σ → Prog (σ ⊕ τ)) (ex : σ → τ) : (Prog.rng x tc n l A st body ex).eval = rngE (fun i st => (body i st).eval) ex n 0 st := rfl
@[simp] theorem joinE_inl (x : σ) (k : σ → Option τ) : joinE (some (.inl x)) k = k x := rfl
@[simp] theorem joinE_inr (x : τ) (k : σ → Option τ) : joinE (some (.inr x)) k = some x := rfl
@[simp] theorem joinE_none (k : σ → Option τ) : joinE none k = none := rfl
theorem joinE_ite (c : Bool) (x y : Option (σ ⊕ τ)) (k : σ → Option τ) : joinE (if c then x else y) k = if c then joinE x k else joinE y k := by cases c <;> rfl
@[simp] theorem joinE_merge (c : Bool) (x y : σ) (k : σ → Option τ) : joinE (if c then some (.inl x) else some (.inl y)) k = k (if c then x else y) := by cases c <;> rfl

/-- The function's contract, as it is asked for. -/
theorem Ky.of_check {tt : Nat → TE} (hT : TabOk P tt) (hm : P.follows .mixedOrders = true) {f : FuncId} {fn : Func} {c : Code} {args : List D} {rs : List ResultVar} {n : Nat} {muts app : List Nat} {p : Prog τ} {enc : τ → D}
    (hf : P.funcs[f]? = some fn) (hok : fnOk P f = true) (hb : fn.body = some c) (hrs : fn.results.toList = rs) (hn : fn.ntmps = n)
    (h : (checkF tt c args rs n muts app p enc).lhs = (checkF tt c args rs n muts app p enc).rhs) (hno : ∀ r z xs, enc r ≠ .osl z xs) (hp : p.ok P) {r : τ} (hev : p.eval = some r) : (Ky.call f args).ok P (enc r) :=
  ⟨hok, CallsP.of_check hT hm hf hb hrs hn h hp hev, hno r⟩

/-- An element. -/
def at_ (xs : List α) (i : Int) : Option α := if i < 0 then none else xs[i.toNat]?
theorem at_nat (xs : List α) (i : Nat) : at_ xs (i : Int) = xs[i]? := by
  unfold at_; rw [if_neg (by omega), Int.toNat_natCast]
theorem ix {C : α → List D} {S : List α → List (List D)} (hS : ∀ xs, S xs = xs.map C) {k : Nat} (hk : ∀ a, (C a).length = k) {xs : List α} {i : Int} {a : α} (h : at_ xs i = some a) : (Ky.idx k (.sl (S xs)) i).ok P (.iptr (C a)) := by
  unfold at_ at h
  split at h
  · cases h
  · exact ⟨by omega, C a, by rw [hS, List.getElem?_map, h]; rfl, hk a, rfl⟩
theorem ixo {C : α → List D} {S : List α → List (List D)} (hS : ∀ xs, S xs = xs.map C) {k : Nat} (hk : ∀ a, (C a).length = k) {z : Nat} {xs : List α} {i : Int} {a : α} (h : at_ xs i = some a) : (Ky.idx k (.osl z (S xs)) i).ok P (.iptr (C a)) := ix (P := P) hS hk h
theorem ixn {C : α → List D} {S : List α → List (List D)} (hS : ∀ xs, S xs = xs.map C) {k : Nat} (hk : ∀ a, (C a).length = k) {xs : List α} {i : Nat} {a : α} (h : xs[i]? = some a) : (Ky.idx k (.sl (S xs)) (i : Int)).ok P (.iptr (C a)) := ix hS hk (by rw [at_nat]; exact h)
theorem ixon {C : α → List D} {S : List α → List (List D)} (hS : ∀ xs, S xs = xs.map C) {k : Nat} (hk : ∀ a, (C a).length = k) {z : Nat} {xs : List α} {i : Nat} {a : α} (h : xs[i]? = some a) : (Ky.idx k (.osl z (S xs)) (i : Int)).ok P (.iptr (C a)) := ixn (P := P) hS hk h

/-- A byte of a string. -/
def by_ (s : List UInt8) (i : Int) : Option Int := (at_ s i).map fun b => (b.toNat : Int)
def byn (s : List UInt8) (i : Nat) : Option Int := (s[i]?).map fun b => (b.toNat : Int)
theorem sx {s : List UInt8} {i a : Int} (h : by_ s i = some a) : (Ky.stridx (.str s) i).ok P (.int .u8 a) := by
  unfold by_ at_ at h
  split at h
  · cases h
  · simp only [Option.map_eq_some_iff] at h
    obtain ⟨b, hb, rfl⟩ := h
    exact ⟨by omega, b, hb, rfl⟩
theorem sxn {s : List UInt8} {i : Nat} {a : Int} (h : byn s i = some a) : (Ky.stridx (.str s) (i : Int)).ok P (.int .u8 a) := by
  refine sx ?_
  unfold by_; rw [at_nat]; exact h

/-- append -/
def appM (bytes : Nat) (xs ys : List α) : Option (List α) := if (xs.length + ys.length) * bytes ≤ 140737488355328 then some (xs ++ ys) else none
theorem ap {C : α → List D} {S : List α → List (List D)} (hS : ∀ xs, S xs = xs.map C) {k : Nat} (hk : ∀ a, (C a).length = k) {bytes : Nat} (hb : 1 ≤ bytes) {xs ys r : List α} {Y : List (List D)} (hY : Y = S ys) (h : appM bytes xs ys = some r) : (Ky.app k bytes (S xs) Y).ok P (.osl k (S r)) := by
  subst hY
  unfold appM at h
  split at h
  · rename_i hc
    simp only [Option.some.injEq] at h; subst h
    have hlen : ∀ xs, ∀ x ∈ S xs, x.length = k := fun xs x hx => by
      rw [hS] at hx; obtain ⟨a, _, rfl⟩ := List.mem_map.1 hx; exact hk a
    have h2 : xs.length + ys.length ≤ (xs.length + ys.length) * bytes := Nat.le_mul_of_pos_right _ (by omega)
    refine ⟨by rw [hS, hS, hS, List.map_append], by rw [hS, hS, List.length_map, List.length_map]; exact hc, by rw [hS, hS, List.length_map, List.length_map]; omega, hlen xs, hlen ys⟩
  · cases h

/-- Arrays: made, read, written, and sealed. -/
theorem rows {C : α → List D} {S : List α → List (List D)} (hS : ∀ xs, S xs = xs.map C) {k : Nat} (hk : ∀ a, (C a).length = k) {xs : List α} : ∀ x ∈ S xs, x.length = k := fun x hx => by
  rw [hS] at hx; obtain ⟨a, _, rfl⟩ := List.mem_map.1 hx; exact hk a
theorem flat_len {C : α → List D} {k : Nat} (hk : ∀ a, (C a).length = k) : ∀ xs : List α, ((xs.map C).flatten).length = xs.length * k
  | [] => by simp
  | x :: r => by rw [List.map_cons, List.flatten_cons, List.length_append, flat_len hk r, hk, List.length_cons, Nat.add_mul]; omega
theorem flat_split {C : α → List D} {k : Nat} (hk : ∀ a, (C a).length = k) : ∀ (xs : List α) (i : Nat) (a : α), xs[i]? = some a →
    (xs.map C).flatten = ((xs.take i).map C).flatten ++ (C a ++ ((xs.drop (i + 1)).map C).flatten)
  | [], i, a, h => by simp at h
  | x :: r, 0, a, h => by simp at h; subst h; simp
  | x :: r, i + 1, a, h => by
    simp only [List.getElem?_cons_succ] at h
    have := flat_split hk r i a h
    simp only [List.map_cons, List.flatten_cons, List.take_succ_cons, List.drop_succ_cons, List.append_assoc]
    rw [this]
def mkM (bytes : Nat) (n c : Int) (z : α) : Option (List α) := if n = c ∧ 0 ≤ n ∧ (bytes : Int) * c ≤ 281474976710656 ∧ c ≤ 9223372036854775807 then some (List.replicate n.toNat z) else none
theorem mkS_ok {C : α → List D} {S : List α → List (List D)} (hS : ∀ xs, S xs = xs.map C) {k bytes : Nat} {n c : Int} {z : α} {xs : List α} (h : mkM bytes n c z = some xs) : (Ky.mkS k bytes (C z) n c).okO (.arr (S xs).flatten) := by
  unfold mkM at h
  split at h
  · rename_i hc
    simp only [Option.some.injEq] at h; subst h
    refine ⟨hc.1, hc.2.1, hc.2.2.1, hc.2.2.2, ?_⟩
    rw [hS, List.map_replicate]; rfl
  · cases h
def mkoM (bytes : Nat) (n c : Int) (z : α) : Option (List α) := if 0 ≤ n ∧ n ≤ c ∧ (bytes : Int) * c ≤ 281474976710656 ∧ c ≤ 9223372036854775807 then some (List.replicate n.toNat z) else none
theorem mkO_ok {C : α → List D} {S : List α → List (List D)} (hS : ∀ xs, S xs = xs.map C) {k bytes : Nat} {n c : Int} {z : α} {xs : List α} (h : mkoM bytes n c z = some xs) : (Ky.mkO k bytes (C z) n c).ok P (.osl k (S xs)) := by
  unfold mkoM at h
  split at h
  · rename_i hc
    simp only [Option.some.injEq] at h; subst h
    refine ⟨?_, hc⟩
    rw [hS, List.map_replicate]
  · cases h
def inM (n : Int) (len : Nat) : Option Unit := if 0 ≤ n ∧ n < len then some () else none
theorem ixm {i off len k : Nat} {n : Int} {u : Unit} (h : inM n len = some u) : (Ky.idx k (.msl i off len) n).ok P (.eref i (off + n.toNat * k)) := by
  unfold inM at h
  split at h
  · rename_i hc; exact ⟨hc.1, hc.2, rfl⟩
  · cases h
theorem at_some_ {xs : List α} {n : Int} {a : α} (h : at_ xs n = some a) : 0 ≤ n ∧ xs[n.toNat]? = some a := by
  unfold at_ at h
  split at h
  · cases h
  · exact ⟨by omega, h⟩
theorem ld1 {C : α → List D} {S : List α → List (List D)} (hS : ∀ xs, S xs = xs.map C) {k : Nat} (hk : ∀ a, (C a).length = k) {xs : List α} {n : Int} {a : α} {f : Nat} {d : D} (h : at_ xs n = some a) (hd : (C a)[f]? = some d) (hdis : d.dis = d) : (Ky.ld false 1 (S xs).flatten (0 + n.toNat * k + f)).ok P d := by
  obtain ⟨h0, h1⟩ := at_some_ h
  show ∃ c, (S xs).flatten[0 + n.toNat * k + f]? = some c ∧ d = c.dis
  refine ⟨d, ?_, hdis.symm⟩
  have hi : n.toNat < xs.length := (List.getElem?_eq_some_iff.1 h1).1
  have hf : f < (C a).length := (List.getElem?_eq_some_iff.1 hd).1
  rw [hS, flat_split hk xs _ _ h1, List.getElem?_append_right (by rw [flat_len hk, List.length_take]; rw [Nat.min_eq_left (by omega)]; omega), flat_len hk, List.length_take, Nat.min_eq_left (by omega), List.getElem?_append_left (by omega)]
  rw [show 0 + n.toNat * k + f - n.toNat * k = f by omega]; exact hd
theorem ld0 {C : α → List D} {S : List α → List (List D)} (hS : ∀ xs, S xs = xs.map C) {k : Nat} (hk : ∀ a, (C a).length = k) {xs : List α} {n : Int} {a : α} {d : D} (h : at_ xs n = some a) (hd : (C a)[0]? = some d) (hdis : d.dis = d) : (Ky.ld false 1 (S xs).flatten (0 + n.toNat * k)).ok P d := ld1 (f := 0) hS hk h hd hdis
theorem ldk {C : α → List D} {S : List α → List (List D)} (hS : ∀ xs, S xs = xs.map C) {k : Nat} (hk : ∀ a, (C a).length = k) {xs : List α} {n : Int} {a : α} (h : at_ xs n = some a) (hdis : (C a).map D.dis = C a) : (Ky.ld true k (S xs).flatten (0 + n.toNat * k)).ok P (.agg (C a)) := by
  obtain ⟨h0, h1⟩ := at_some_ h
  have hi : n.toNat < xs.length := (List.getElem?_eq_some_iff.1 h1).1
  have hl : (((xs.take n.toNat).map C).flatten).length = n.toNat * k := by rw [flat_len hk, List.length_take, Nat.min_eq_left (by omega)]
  show ldD true k _ _ _
  unfold ldD
  rw [if_pos rfl, hS, flat_split hk xs _ _ h1, Nat.zero_add]
  refine ⟨by simp only [List.length_append, hl, hk]; omega, ?_⟩
  rw [List.drop_append_of_le_length (by omega), List.drop_of_length_le (by omega), List.nil_append, List.take_append_of_le_length (by rw [hk]; exact Nat.le_refl _), List.take_of_length_le (by rw [hk]; exact Nat.le_refl _), hdis]
def setM (xs : List α) (n : Int) (v : α) : Option (List α) := if 0 ≤ n ∧ n < xs.length then some (xs.set n.toNat v) else none
theorem set_split (xs : List α) (i : Nat) (v : α) (h : i < xs.length) : (xs.set i v)[i]? = some v ∧ (xs.set i v).take i = xs.take i ∧ (xs.set i v).drop (i + 1) = xs.drop (i + 1) :=
  ⟨by simp [h], by rw [List.take_set, List.set_eq_of_length_le (by simp; omega)], by rw [List.drop_set]; simp⟩
theorem set1 {C : α → List D} {S : List α → List (List D)} (hS : ∀ xs, S xs = xs.map C) (hk : ∀ a, (C a).length = 1) {xs ys : List α} {n : Int} {v : α} {d : D} (h : setM xs n v = some ys) (hd : C v = [d]) (hdis : d.dis = d) : (Ky.set false 1 (S xs).flatten [d] (0 + n.toNat * 1)).okO (.arr (S ys).flatten) := by
  unfold setM at h
  split at h
  · rename_i hc
    simp only [Option.some.injEq] at h; subst h
    have hi : n.toNat < xs.length := by omega
    obtain ⟨s1, s2, s3⟩ := set_split xs n.toNat v hi
    have e1 := flat_split hk xs n.toNat _ (List.getElem?_eq_getElem hi)
    have e2 := flat_split hk (xs.set n.toNat v) n.toNat v s1
    have hl : (((xs.take n.toNat).map C).flatten).length = n.toNat := by rw [flat_len hk, List.length_take, Nat.min_eq_left (by omega)]; omega
    simp only [Ky.okO, Bool.false_eq_true, if_false, Nat.zero_add, Nat.mul_one]
    refine ⟨by rw [hS, flat_len hk]; omega, d, rfl, ?_⟩
    rw [hS, hS, e2, s2, s3, e1, hd, hdis]
    obtain ⟨q, hq⟩ : ∃ q, C xs[n.toNat] = [q] := by
      have := hk xs[n.toNat]
      match hc : C xs[n.toNat], this with
      | [q], _ => exact ⟨q, rfl⟩
    rw [hq, List.set_append_right _ _ (by omega), hl, Nat.sub_self]
    rfl
  · cases h
theorem setk {C : α → List D} {S : List α → List (List D)} (hS : ∀ xs, S xs = xs.map C) {k : Nat} (hk : ∀ a, (C a).length = k) {xs ys : List α} {n : Int} {v : α} (h : setM xs n v = some ys) (hdis : (C v).map D.dis = C v) : (Ky.set true k (S xs).flatten (C v) (0 + n.toNat * k)).okO (.arr (S ys).flatten) := by
  unfold setM at h
  split at h
  · rename_i hc
    simp only [Option.some.injEq] at h; subst h
    have hi : n.toNat < xs.length := by omega
    obtain ⟨s1, s2, s3⟩ := set_split xs n.toNat v hi
    have e1 := flat_split hk xs n.toNat _ (List.getElem?_eq_getElem hi)
    have e2 := flat_split hk (xs.set n.toNat v) n.toNat v s1
    have hl : (((xs.take n.toNat).map C).flatten).length = n.toNat * k := by rw [flat_len hk, List.length_take, Nat.min_eq_left (by omega)]
    simp only [Ky.okO, if_true, Nat.zero_add]
    refine ⟨by rw [hS, e1]; simp only [List.length_append, hl, hk]; omega, ?_⟩
    have t1 : ((xs.map C).flatten).take (n.toNat * k) = ((xs.take n.toNat).map C).flatten := by
      rw [e1, List.take_append_of_le_length (Nat.le_of_eq hl.symm), List.take_of_length_le (Nat.le_of_eq hl)]
    have t2 : ((xs.map C).flatten).drop (n.toNat * k + k) = ((xs.drop (n.toNat + 1)).map C).flatten := by
      rw [e1, ← List.append_assoc, List.drop_append, List.drop_of_length_le (by rw [List.length_append, hl, hk]; exact Nat.le_refl _), List.nil_append, List.length_append, hl, hk, Nat.sub_self, List.drop_zero]
    rw [hS, hS, e2, s2, s3, t1, t2, hdis, List.append_assoc]
  · cases h

/-- Part of a slice. -/
def bnM (d : Nat) : Option Int → Option Nat
  | none => some d
  | some n => if n < 0 then none else some n.toNat
def slM (xs : List α) (lo hi : Option Int) : Option (List α) :=
  match bnM 0 lo, bnM xs.length hi with
  | some l, some h => if l ≤ h ∧ h ≤ xs.length then some ((xs.take h).drop l) else none
  | _, _ => none
def bd (o : Option Int) : Option D := o.map (D.int .i64)
theorem bnM_ok {d : Nat} {o : Option Int} {l : Nat} (h : bnM d o = some l) : bndE d (bd o) l := by
  cases o with
  | none => simp only [bnM, Option.some.injEq] at h; exact h.symm
  | some n =>
    simp only [bnM] at h
    split at h
    · cases h
    · simp only [Option.some.injEq] at h; exact ⟨by omega, h.symm⟩
theorem sl {C : α → List D} {S : List α → List (List D)} (hS : ∀ xs, S xs = xs.map C) {k : Nat} (hk : ∀ a, (C a).length = k) {xs r : List α} {lo hi : Option Int} (h : slM xs lo hi = some r) : (Ky.slc false k (.sl (S xs)) (bd lo) (bd hi) none).ok P (.sl (S r)) := by
  unfold slM at h
  split at h
  · rename_i l h' h1 h2
    split at h
    · rename_i hc
      simp only [Option.some.injEq] at h; subst h
      refine ⟨l, h', bnM_ok h1, by rw [hS, List.length_map]; exact bnM_ok h2, hc.1, by rw [hS, List.length_map]; exact hc.2, fun x hx => ?_, ?_⟩
      · rw [hS] at hx; obtain ⟨a, _, rfl⟩ := List.mem_map.1 hx; exact hk a
      · show D.sl _ = D.sl _
        rw [hS, hS, List.map_drop, List.map_take]
    · cases h
  · cases h
theorem slo {C : α → List D} {S : List α → List (List D)} (hS : ∀ xs, S xs = xs.map C) {k : Nat} (hk : ∀ a, (C a).length = k) {z : Nat} {xs r : List α} {lo hi : Option Int} (h : slM xs lo hi = some r) : (Ky.slc false k (.osl z (S xs)) (bd lo) (bd hi) none).ok P (.sl (S r)) := sl (P := P) hS hk h
def mslM (len : Nat) (lo hi : Option Int) : Option (Nat × Nat) :=
  match bnM 0 lo, bnM len hi with
  | some l, some h => if (l < h ∨ l = 0) ∧ h ≤ len then some (l, h) else none
  | _, _ => none
theorem slm {i off len k : Nat} {lo hi : Option Int} {p : Nat × Nat} (h : mslM len lo hi = some p) : (Ky.slc false k (.msl i off len) (bd lo) (bd hi) none).ok P (.msl i (off + p.1 * k) (p.2 - p.1)) := by
  unfold mslM at h
  split at h
  · rename_i l h' h1 h2
    split at h
    · rename_i hc
      simp only [Option.some.injEq] at h; subst h
      exact ⟨rfl, l, h', bnM_ok h1, bnM_ok h2, hc.1, hc.2, rfl⟩
    · cases h
  · cases h
theorem ssl {s r : List UInt8} {lo hi : Option Int} (h : slM s lo hi = some r) : (Ky.slc true 0 (.str s) (bd lo) (bd hi) none).ok P (.str r) := by
  unfold slM at h
  split at h
  · rename_i l h' h1 h2
    split at h
    · rename_i hc
      simp only [Option.some.injEq] at h; subst h
      exact ⟨rfl, l, h', bnM_ok h1, bnM_ok h2, hc.1, hc.2, rfl⟩
    · cases h
  · cases h

/-- Maps whose keys are strings. -/
def mpD (c : α → D) (l : List (List UInt8 × α)) : List (D × D) := l.map fun p => (.str p.1, c p.2)
def mpGet (z : α) : List (List UInt8 × α) → List UInt8 → α
  | [], _ => z
  | (k, x) :: r, u => if k = u then x else mpGet z r u
def mpSet : List (List UInt8 × α) → List UInt8 → α → List (List UInt8 × α)
  | [], u, v => [(u, v)]
  | (k, x) :: r, u, v => if k = u then (u, v) :: r else (k, x) :: mpSet r u v
theorem mg_ok {c : α → D} (hc : ∀ a, (c a).dis = c a) {z : α} {d0 : D} (hz : d0.dis = c z) {u : List UInt8} {r : α} : ∀ {l : List (List UInt8 × α)}, some (mpGet z l u) = some r → (Ky.mget (mpD c l) u d0).ok P (c r)
  | [], h => by
    simp only [mpGet, Option.some.injEq] at h
    subst h; exact hz.symm
  | (k, x) :: l, h => by
    simp only [mpGet] at h
    show mgetD ((.str k, c x) :: mpD c l) u d0 (c r)
    unfold mgetD
    split at h
    · rename_i hk
      rw [if_pos hk]
      simp only [Option.some.injEq] at h
      subst h; exact (hc x).symm
    · rename_i hk
      rw [if_neg hk]
      exact mg_ok hc hz h
theorem msetL_mp {c : α → D} (hc : ∀ a, (c a).dis = c a) (u : List UInt8) (v : α) : ∀ (l : List (List UInt8 × α)), msetL (mpD c l) u (c v) = some (mpD c (mpSet l u v))
  | [] => by simp [msetL, mpD, mpSet, hc]
  | (k, x) :: l => by
    show msetL ((.str k, c x) :: mpD c l) u (c v) = _
    unfold msetL
    simp only [mpSet]
    split
    · rw [hc]; rfl
    · rw [msetL_mp hc u v l]; rfl
theorem ms_ok {c : α → D} (hc : ∀ a, (c a).dis = c a) {u : List UInt8} {v : α} {l r : List (List UInt8 × α)} (h : some (mpSet l u v) = some r) : (Ky.mset (mpD c l) u (c v)).okO (.mp (mpD c r)) := by
  simp only [Option.some.injEq] at h
  subst h
  exact msetL_mp hc u v l

/-- A function's contract in the model's words. -/
theorem CallsP.of_calls {f : FuncId} {args : List D} {vs : Array Value} {d : D} {v : Value} (hin : ∀ w Z m (us : Array Value), args.length = us.size → (∀ (i : Nat) (d : D) (v : Value), args[i]? = some d → us[i]? = some v → Rv w Z m d v) → us = vs) (hv : ∀ w Z m, Rv w Z m d v)
    (h : ∀ w, Calls P f vs w fun e w' => e = .returned v ∧ w' = w) : CallsP P f args d := by
  intro w Z m us hz hm hl hr
  rw [hin w Z m us hl hr]
  refine (h w).mono ?_
  rintro e w' ⟨rfl, rfl⟩
  exact ⟨v, Z, rfl, hv _ _ _, ⟨rfl, rfl, rfl, Nat.le_refl _, fun _ _ => rfl, fun _ _ h => h, fun _ _ _ h => h, hz⟩⟩
theorem two_in {w : World} {Z : Zone} {m : List Nat} {a b : D} {x y : Value} {us : Array Value} (hl : [a, b].length = us.size) (hr : ∀ (i : Nat) (d : D) (v : Value), [a, b][i]? = some d → us[i]? = some v → Rv w Z m d v)
    (ha : ∀ v, Rv w Z m a v → v = x) (hb : ∀ v, Rv w Z m b v → v = y) : us = #[x, y] := by
  obtain ⟨l⟩ := us
  match l, hl with
  | [p, q], _ => rw [ha p (hr 0 a p rfl rfl), hb q (hr 1 b q rfl rfl)]

/-- Operations on numbers that may fail. -/
def quoM (k : IntKind) (x y : Int) : Option Int := if y = 0 then none else some (k.wrap (x.tdiv y))
def remM (_ : IntKind) (x y : Int) : Option Int := if y = 0 then none else some (x.tmod y)
def shlM (k : IntKind) (x y : Int) : Option Int := if y < 0 then none else some (k.wrap (x * 2 ^ (min y.toNat k.bits)))
def shrM (k : IntKind) (x y : Int) : Option Int := if y < 0 then none else some (x.fdiv (2 ^ (min y.toNat k.bits)))
def catM (x y : List UInt8) : Option (List UInt8) := if x.length + y.length ≤ 9223372036854775807 then some (x ++ y) else none
theorem bquo {k : IntKind} {x y r : Int} (h : quoM k x y = some r) : (Ky.bin .quo (.int k x) (.int k y)).ok P (.int k r) := by
  unfold quoM at h; split at h
  · cases h
  · rename_i hc; cases h; simp [Ky.ok, binD, intBin, hc]
theorem brem {k : IntKind} {x y r : Int} (h : remM k x y = some r) : (Ky.bin .rem (.int k x) (.int k y)).ok P (.int k r) := by
  unfold remM at h; split at h
  · cases h
  · rename_i hc; cases h; simp [Ky.ok, binD, intBin, hc]
theorem bshl {k k' : IntKind} {x y r : Int} (h : shlM k x y = some r) : (Ky.bin .shl (.int k x) (.int k' y)).ok P (.int k r) := by
  unfold shlM at h; split at h
  · cases h
  · rename_i hc; cases h; simp [Ky.ok, binD, intBin, hc, isShift]
theorem bshr {k k' : IntKind} {x y r : Int} (h : shrM k x y = some r) : (Ky.bin .shr (.int k x) (.int k' y)).ok P (.int k r) := by
  unfold shrM at h; split at h
  · cases h
  · rename_i hc; cases h; simp [Ky.ok, binD, intBin, hc, isShift]
theorem bcat {x y r : List UInt8} (h : catM x y = some r) : (Ky.bin .add (.str x) (.str y)).ok P (.str r) := by
  unfold catM at h; split at h
  · rename_i hc
    cases h
    have : ¬ ((x.length + y.length : Nat) : Int) > IntKind.i64.max := by simp [IntKind.max, IntKind.signed, IntKind.bits]; omega
    simp only [Ky.ok, binD, strBin]
    rw [if_neg this]
  · cases h
def intBits (op : BinOp) (k : IntKind) (x y : Int) : Int :=
  match op with
  | .and => k.wrap (BitVec.ofInt k.bits x &&& BitVec.ofInt k.bits y).toNat
  | .or => k.wrap (BitVec.ofInt k.bits x ||| BitVec.ofInt k.bits y).toNat
  | .xor => k.wrap (BitVec.ofInt k.bits x ^^^ BitVec.ofInt k.bits y).toNat
  | _ => k.wrap (BitVec.ofInt k.bits x &&& ~~~(BitVec.ofInt k.bits y)).toNat
end
end Go.AL
