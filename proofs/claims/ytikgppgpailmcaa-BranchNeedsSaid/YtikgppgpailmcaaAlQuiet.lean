/-
  Operations that write nothing: what they give as abstract values, and that the model gives the like.
-/
import Derived.Test.YtikgppgpailmcaaAlBase
namespace Go.AL

inductive Loc where
  | slot (v : Nat)
  | cell (i j : Nat)
  deriving DecidableEq

/-- The abstract state inside a function: slots, copies that are known to be the same value as a slot or a cell, objects, the number of slots, the slots whose new memory is to be written, the slots that an append starts from. -/
structure AS where
  env : List (Nat × D)
  eqs : List (Nat × Loc)
  S : List Ob
  n : Nat
  muts : List Nat
  app : List Nat

def lk : List (Nat × D) → Nat → D
  | [], _ => .undef
  | (a, d) :: e, t => if a = t then d else lk e t

def AS.get (s : AS) (t : Nat) : D := lk s.env t

def ofConst1 : Value → D
  | .bool b => .bool b
  | .int k n => .int k n
  | .string s => if s.data.toList.length ≤ 9223372036854775807 then .str s.data.toList else .undef
  | .slice none 0 0 => .osl 0 []
  | .pointer none => .nilp
  | .nilFunc => .nilf
  | .nilIface => .nili
  | .map none => .nilmap
  | _ => .undef

def ofConst : Value → D
  | .agg cs => if cs.toList.all Value.oneCell' then .agg (cs.toList.map fun v => (ofConst1 v).dis) else .undef
  | v => ofConst1 v

def AS.ev (s : AS) : Operand → D
  | .tmp t => s.get t
  | .const v => ofConst v
  | .global _ => .undef
  | .func f => .fn f []

theorem ofConst1_rv (w Z m) (v : Value) : Rv w Z m (ofConst1 v) v := by
  unfold ofConst1
  split
  · exact .bool _
  · exact .int _ _
  · rename_i s
    split
    · rename_i hs; exact Rv.str (s := s.data.toList) (w := w) (Z := Z) (m := m) hs
    · exact .undef _
  · exact .osl _ _ _ .slnil (fun _ _ p l c h => by cases h; rfl)
  · exact .nilp
  · exact .nilf
  · exact .nili
  · exact .nilmap
  · exact .undef _

theorem ofConst1_up0 (v : Value) : (ofConst1 v).dis.up0 = ofConst1 v := by
  unfold ofConst1
  split <;> try rfl
  split <;> rfl
theorem ofConst1_osl {v : Value} {z : Nat} {xs : List (List D)} (h : ofConst1 v = .osl z xs) : z = 0 ∧ xs = [] := by
  unfold ofConst1 at h
  split at h <;> try (cases h; done)
  · split at h <;> cases h
  · cases h; exact ⟨rfl, rfl⟩
theorem ofConst_rv (w Z m) (v : Value) : Rv w Z m (ofConst v) v := by
  unfold ofConst
  split
  · rename_i cs
    split
    case isFalse => exact .undef _
    rename_i hone
    refine .agg _ _ (by simp) (fun v hv => List.all_eq_true.1 hone v (by simpa using hv)) fun i d v hd hv => ?_
    simp only [List.getElem?_map, Option.map_eq_some_iff] at hd
    obtain ⟨u, hu, rfl⟩ := hd
    have : u = v := by
      have h1 : cs.toList[i]? = cs[i]? := by simp
      rw [h1, hv] at hu; exact (Option.some.inj hu).symm
    subst this
    exact (ofConst1_rv w Z m u).dis
  · exact ofConst1_rv w Z m v

theorem ofConst_own (w Z cl k) (v : Value) : Own w Z cl k (ofConst v) v := by
  intro sz xs hd b off cap hv hlt
  subst hv
  simp [ofConst, ofConst1] at hd

/-- The machine's frame stands in the abstract state. -/
structure Rel (w : World) (Z : Zone) (m : List Nat) (cl : Cl) (s : AS) (a : Act) : Prop extends RelS w Z m cl s.S where
  sz : a.tmps.size = s.n
  df : a.defers = []
  rv : ∀ t, Rv w Z m (s.get t) (a.tmps.getD t undef)
  ow : ∀ t, Own w Z cl (.slot t) (s.get t) (a.tmps.getD t undef)
  eqv : ∀ t v, (t, Loc.slot v) ∈ s.eqs → a.tmps.getD t undef = a.tmps.getD v undef
  eqc : ∀ t i j cs b vs e fr, (t, Loc.cell i j) ∈ s.eqs → s.S[i]? = some (.cells cs) → m[i]? = some b → w.heap[b]? = some (.cells vs e fr) → vs[j]? = some (a.tmps.getD t undef)

theorem Rel.ev {w Z m cl s a} (h : Rel w Z m cl s a) (x : Operand) (hx : ∀ g, x ≠ .global g) : Rv w Z m (s.ev x) (a.eval x) := by
  cases x with
  | tmp t => exact h.rv t
  | const v => exact ofConst_rv w Z m v
  | global g => exact absurd rfl (hx g)
  | func f => exact .fn f [] #[] rfl (fun i d v hd => by simp at hd)

theorem Rel.ev' {w Z m cl s a} (h : Rel w Z m cl s a) (x : Operand) : Rv w Z m (s.ev x) (a.eval x) := by
  cases x with
  | tmp t => exact h.rv t
  | const v => exact ofConst_rv w Z m v
  | global g => exact .undef _
  | func f => exact .fn f [] #[] rfl (fun i d v hd => by simp at hd)

/-- New memory, and nothing else. -/
structure QStep (w : World) (Z : Zone) (w' : World) (Z' : Zone) : Prop where
  os : w'.os = w.os
  tape : w'.tape = w.tape
  output : w'.output = w.output
  size : w.heap.size ≤ w'.heap.size
  heap : ∀ b, b < w.heap.size → w'.heap[b]? = w.heap[b]?
  zmono : ∀ b o, Z b o → Z' b o
  zold : ∀ b o, b < w.heap.size → Z' b o → Z b o
  zc : ∀ b o, Z' b o → ∃ v, w'.cell? ⟨b, o, none⟩ = some v

theorem QStep.refl {w Z m cl S} (h : RelS w Z m cl S) : QStep w Z w Z :=
  ⟨rfl, rfl, rfl, Nat.le_refl _, fun _ _ => rfl, fun _ _ h => h, fun _ _ _ h => h, h.zc⟩

theorem cell_lt {w : World} {b o : Nat} {v : Value} (h : w.cell? ⟨b, o, none⟩ = some v) : b < w.heap.size := World.block_lt_of_cell? w ⟨b, o, none⟩ h

theorem cell_of_heap {w w' : World} {b : Nat} (h : w'.heap[b]? = w.heap[b]?) (o : Nat) : w'.cell? ⟨b, o, none⟩ = w.cell? ⟨b, o, none⟩ := by
  unfold World.cell?; rw [h]

theorem QStep.step {w Z w' Z' m cl S} (h : RelS w Z m cl S) (q : QStep w Z w' Z') : Step w Z m cl w' Z' m cl :=
  ⟨q.os, q.tape, q.output, q.size, fun b hb _ => q.heap b hb, q.zmono, fun b o hb _ hz => q.zold b o hb hz,
    fun b o hz => (let ⟨_, hv⟩ := h.zc b o hz; cell_of_heap (q.heap b (cell_lt hv)) o), fun k _ h => .inr ⟨k, h⟩⟩

theorem QStep.own {w Z w' Z' m cl S k d v} (h : RelS w Z m cl S) (q : QStep w Z w' Z') (ho : Own w Z cl k d v) : Own w' Z' cl k d v := by
  intro sz xs hd b off cap hv hlt
  obtain ⟨h1, h2, h3, h4, vs, e, h5, h6⟩ := ho sz xs hd b off cap hv hlt
  have hb := h.lt k b h2
  exact ⟨h1, h2, h3, fun o hz => h4 o (q.zold b o hb hz), vs, e, by rw [q.heap b hb]; exact h5, h6⟩

theorem QStep.relS {w Z w' Z' m cl S} (h : RelS w Z m cl S) (q : QStep w Z w' Z') : RelS w' Z' m cl S where
  zc := q.zc
  inj := h.inj
  lt k b hk := Nat.lt_of_lt_of_le (h.lt k b hk) q.size
  ml := h.ml
  mlt i b hm := Nat.lt_of_lt_of_le (h.mlt i b hm) q.size
  obj i cs b hs hm := by
    obtain ⟨h1, h2, vs, e, h3, h4, h6, h5⟩ := h.obj i cs b hs hm
    have hb := h.lt _ b h1
    exact ⟨h1, fun o hz => h2 o (q.zold b o hb hz), vs, e, by rw [q.heap b hb]; exact h3, h4, h6, fun j d v hd hv => ⟨(q.step h).rv (h5 j d v hd hv).1, q.own h (h5 j d v hd hv).2⟩⟩
  aro i cs b hs hm := by
    obtain ⟨h1, h2, vs, e, h3, h4, h6, h5⟩ := h.aro i cs b hs hm
    have hb := h.lt _ b h1
    exact ⟨h1, fun o hz => h2 o (q.zold b o hb hz), vs, e, by rw [q.heap b hb]; exact h3, h4, h6, fun j d v hd hv => (q.step h).rv (h5 j d v hd hv)⟩
  mpo i L b hs hm := by
    obtain ⟨h1, es, c, h3, h4, h5⟩ := h.mpo i L b hs hm
    have hb := h.lt _ b h1
    exact ⟨h1, es, c, by rw [q.heap b hb]; exact h3, h4, fun j p e hp he => ⟨(q.step h).rv (h5 j p e hp he).1, (q.step h).rv (h5 j p e hp he).2⟩⟩
  objlt := h.objlt

theorem QStep.rel {w Z w' Z' m cl s a} (h : Rel w Z m cl s a) (q : QStep w Z w' Z') : Rel w' Z' m cl s a where
  toRelS := q.relS h.toRelS
  sz := h.sz
  df := h.df
  rv t := (q.step h.toRelS).rv (h.rv t)
  ow t := q.own h.toRelS (h.ow t)
  eqv := h.eqv
  eqc t i j cs b vs e fr he hs hm hh := by
    exact h.eqc t i j cs b vs e fr he hs hm (by rw [← q.heap b (h.mlt i b hm)]; exact hh)

/-- A slot is written. -/
def AS.put (s : AS) (dst : Option Nat) (d : D) : AS :=
  match dst with
  | none => s
  | some t => if t < s.n then { s with env := (t, d) :: s.env, eqs := s.eqs.filter fun p => p.1 != t && p.2 != Loc.slot t } else s

theorem AS.get_put (s : AS) (t : Nat) (d : D) (x : Nat) : (s.put (some t) d).get x = if t < s.n then (if t = x then d else s.get x) else s.get x := by
  unfold AS.put AS.get
  by_cases h : t < s.n
  · simp [h, lk]
  · simp [h]

theorem AS.put_S (s : AS) (t : Option Nat) (d : D) : (s.put t d).S = s.S := by
  cases t <;> simp [AS.put]; split <;> rfl
theorem AS.put_n (s : AS) (t : Option Nat) (d : D) : (s.put t d).n = s.n := by
  cases t <;> simp [AS.put]; split <;> rfl

theorem Act.getD_put (a : Act) (t : Nat) (v : Value) (x : Nat) : (a.put (some t) v).tmps.getD x undef = if t < a.tmps.size then (if t = x then v else a.tmps.getD x undef) else a.tmps.getD x undef := by
  unfold Act.put
  simp only [Array.getD_eq_getD_getElem?, Array.getElem?_setIfInBounds]
  by_cases hx : t = x
  · subst hx
    by_cases h : t < a.tmps.size
    · simp [h]
    · simp [h]
  · simp [hx]

theorem Rel.put {w Z m cl s a} (h : Rel w Z m cl s a) (dst : Option Nat) (d : D) (v : Value) (hr : Rv w Z m d v) (ho : ∀ t, dst = some t → Own w Z cl (.slot t) d v) :
    Rel w Z m cl (s.put dst d) (a.put dst v) := by
  cases dst with
  | none => exact h
  | some t =>
    by_cases ht : t < s.n
    case neg =>
      have : (a.put (some t) v) = a := by
        cases a; simp only [Act.put, Act.mk.injEq, and_true]
        apply Array.setIfInBounds_eq_of_size_le; have := h.sz; simp at this; omega
      rw [this]
      have : s.put (some t) d = s := by simp [AS.put, ht]
      rw [this]; exact h
    have ht' : t < a.tmps.size := by rw [h.sz]; exact ht
    exact {
      toRelS := by rw [AS.put_S]; exact h.toRelS
      sz := by rw [AS.put_n]; simp [Act.put]; exact h.sz
      df := h.df
      rv := fun x => by
        rw [AS.get_put, Act.getD_put]; simp only [ht, ht', if_true]
        split
        · exact hr
        · exact h.rv x
      ow := fun x => by
        rw [AS.get_put, Act.getD_put]; simp only [ht, ht', if_true]
        split
        · rename_i e; subst e; exact ho _ rfl
        · exact h.ow x
      eqv := fun x y he => by
        simp only [AS.put, ht, if_true, List.mem_filter, bne_iff_ne, ne_eq, Bool.and_eq_true, Loc.slot.injEq] at he
        obtain ⟨he, h1, h2⟩ := he
        rw [Act.getD_put, Act.getD_put]
        simp only [ht', if_true, if_neg (Ne.symm h1), if_neg (Ne.symm h2)]
        exact h.eqv x y he
      eqc := fun x i j cs b vs e fr he hs hm hh => by
        rw [AS.put_S] at hs
        simp only [AS.put, ht, if_true, List.mem_filter, bne_iff_ne, ne_eq, Bool.and_eq_true] at he
        obtain ⟨he, h1, h2⟩ := he
        rw [Act.getD_put]
        simp only [ht', if_true, if_neg (Ne.symm h1)]
        exact h.eqc x i j cs b vs e fr he hs hm hh }

end Go.AL
