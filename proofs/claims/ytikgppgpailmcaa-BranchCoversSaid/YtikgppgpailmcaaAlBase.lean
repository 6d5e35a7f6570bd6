/-
  A logic of abstract states over the model, in any program: values that are trees of data, memory that a call may read and never sees change ('the zone'), and a short list of blocks that the call itself may write.
-/
import Derived.WalkKit
namespace Go.AL

/-- Abstract values. -/
inductive D where
  | undef
  | bool (b : Bool)
  | int (k : IntKind) (n : Int)
  | str (s : List UInt8)
  | sl (xs : List (List D))
  | osl (sz : Nat) (xs : List (List D))
  | agg (cs : List D)
  | tup (cs : List D)
  | iptr (cs : List D)
  | nilp
  | ref (i off : Nat)
  | eref (i off : Nat)
  | mref (i : Nat)
  | msl (i off len : Nat)
  | fn (f : FuncId) (cap : List D)
  | nilf
  | nili
  | nilmap

/-- Without the right to append. -/
def D.dis : D → D
  | .osl _ xs => .sl xs
  | d => d

abbrev Zone := Nat → Nat → Prop

/-- The value v stands for d, in the world w: what it reads lies in the zone Z, or in the blocks that m gives to the numbers of the store. What lies in the zone names no number of the store. -/
inductive Rv (w : World) (Z : Zone) : List Nat → D → Value → Prop
  | undef {m} (v) : Rv w Z m .undef v
  | bool {m} (b) : Rv w Z m (.bool b) (.bool b)
  | int {m} (k n) : Rv w Z m (.int k n) (.int k n)
  | str {m} (s) (hs : List.length s ≤ 9223372036854775807) : Rv w Z m (.str s) (.string ⟨s.toArray⟩)
  | slnil {m} : Rv w Z m (.sl []) (.slice none 0 0)
  | slz {m} (a) : Rv w Z m (.sl []) (.slice (some a) 0 0)
  | sl {m} (sz xs b off cap) (c : Nat → Nat → Value) (hcap : List.length xs ≤ cap ∧ List.length xs ≤ 9223372036854775807) (hsz : ∀ x, x ∈ xs → List.length x = sz)
      (hc : ∀ (i j : Nat) (x : List D) (d : D), xs[i]? = some x → x[j]? = some d → Z b (off + i * sz + j) ∧ w.cell? ⟨b, off + i * sz + j, none⟩ = some (c i j) ∧ (c i j).oneCell' = true)
      (hv : ∀ (i j : Nat) (x : List D) (d : D), xs[i]? = some x → x[j]? = some d → Rv w Z [] d (c i j)) :
      Rv w Z m (.sl xs) (.slice (some ⟨b, off, none⟩) (List.length xs) cap)
  | osl {m} (sz xs v) (h : Rv w Z m (.sl xs) v) (hz : sz = 0 → xs = [] → ∀ p len cap, v = .slice p len cap → cap = 0) : Rv w Z m (.osl sz xs) v
  | agg {m} (cs vs) (hl : List.length cs = Array.size vs) (ho : ∀ (v : Value), v ∈ vs → v.oneCell' = true) (hv : ∀ (i : Nat) (d : D) (v : Value), cs[i]? = some d → vs[i]? = some v → Rv w Z m d v) : Rv w Z m (.agg cs) (.agg vs)
  | tup {m} (cs vs) (hl : List.length cs = Array.size vs) (hv : ∀ (i : Nat) (d : D) (v : Value), cs[i]? = some d → vs[i]? = some v → Rv w Z m d v) : Rv w Z m (.tup cs) (.tuple vs)
  | iptr {m} (cs b off) (c : Nat → Value) (hc : ∀ (j : Nat) (d : D), cs[j]? = some d → Z b (off + j) ∧ w.cell? ⟨b, off + j, none⟩ = some (c j) ∧ (c j).oneCell' = true)
      (hv : ∀ (j : Nat) (d : D), cs[j]? = some d → Rv w Z [] d (c j)) : Rv w Z m (.iptr cs) (.pointer (some ⟨b, off, none⟩))
  | nilp {m} : Rv w Z m .nilp (.pointer none)
  | ref {m} (i off b) (hm : m[i]? = some b) : Rv w Z m (.ref i off) (.pointer (some ⟨b, off, none⟩))
  | eref {m} (i off b) (hm : m[i]? = some b) : Rv w Z m (.eref i off) (.pointer (some ⟨b, off, none⟩))
  | mref {m} (i b) (hm : m[i]? = some b) : Rv w Z m (.mref i) (.map (some b))
  | msl {m} (i off len cap b) (hcap : len ≤ cap ∧ len ≤ 9223372036854775807) (hm : m[i]? = some b) : Rv w Z m (.msl i off len) (.slice (some ⟨b, off, none⟩) len cap)
  | fn {m} (f cap vs) (hl : List.length cap = Array.size vs) (hv : ∀ (i : Nat) (d : D) (v : Value), cap[i]? = some d → vs[i]? = some v → Rv w Z m d v) : Rv w Z m (.fn f cap) (.func (.func f) #[] vs)
  | nilf {m} : Rv w Z m .nilf .nilFunc
  | nili {m} : Rv w Z m .nili .nilIface
  | nilmap {m} : Rv w Z m .nilmap (.map none)

/-- Without the right to append, but for a slice that is known to have no room. -/
def D.kee : D → D
  | .osl 0 [] => .osl 0 []
  | d => d.dis
/-- An empty slice that is a zero value has no room. -/
def D.up0 : D → D
  | .sl [] => .osl 0 []
  | d => d
theorem D.kee_osl {d : D} {z : Nat} {xs : List (List D)} (h : d.kee = .osl z xs) : z = 0 ∧ xs = [] := by
  unfold D.kee at h
  split at h
  · simp only [D.osl.injEq] at h; exact ⟨h.1.symm, h.2.symm⟩
  · exfalso
    rename_i hd
    clear hd
    cases d <;> simp [D.dis] at h

theorem Rv.dis {w Z m d v} (h : Rv w Z m d v) : Rv w Z m d.dis v := by
  cases h <;> first | assumption | (constructor <;> assumption) | constructor

/-- A later world in which the zone reads as it did. -/
theorem Rv.mono {w w' : World} {Z Z' : Zone} {m m' : List Nat} (hz : ∀ b o, Z b o → Z' b o ∧ w'.cell? ⟨b, o, none⟩ = w.cell? ⟨b, o, none⟩) (hm : ∀ (i : Nat) (b : Nat), m[i]? = some b → m'[i]? = some b)
    {d v} (h : Rv w Z m d v) : Rv w' Z' m' d v := by
  induction h generalizing m' with
  | undef v => exact .undef v
  | bool b => exact .bool b
  | int k n => exact .int k n
  | str s hs => exact .str s hs
  | slnil => exact .slnil
  | slz a => exact .slz a
  | sl sz xs b off cap c hcap hsz hc hv ih =>
    exact .sl sz xs b off cap c hcap hsz (fun i j x d hx hd => ⟨(hz _ _ (hc i j x d hx hd).1).1, by rw [(hz _ _ (hc i j x d hx hd).1).2]; exact (hc i j x d hx hd).2.1, (hc i j x d hx hd).2.2⟩) fun i j x d hx hd => ih i j x d hx hd (by simp)
  | osl sz xs v h hz' ih => exact .osl sz xs v (ih hm) hz'
  | agg cs vs hl ho hv ih => exact .agg cs vs hl ho fun i d v hd hv => ih i d v hd hv hm
  | tup cs vs hl hv ih => exact .tup cs vs hl fun i d v hd hv => ih i d v hd hv hm
  | iptr cs b off c hc hv ih =>
    exact .iptr cs b off c (fun j d hd => ⟨(hz _ _ (hc j d hd).1).1, by rw [(hz _ _ (hc j d hd).1).2]; exact (hc j d hd).2.1, (hc j d hd).2.2⟩) fun j d hd => ih j d hd (by simp)
  | nilp => exact .nilp
  | ref i off b h => exact .ref i off b (hm i b h)
  | eref i off b h => exact .eref i off b (hm i b h)
  | mref i b h => exact .mref i b (hm i b h)
  | msl i off len cap b hcap h => exact .msl i off len cap b hcap (hm i b h)
  | fn f cap vs hl hv ih => exact .fn f cap vs hl fun i d v hd hv => ih i d v hd hv hm
  | nilf => exact .nilf
  | nili => exact .nili
  | nilmap => exact .nilmap

theorem Rv.up {w : World} {Z : Zone} (m : List Nat) {d v} (h : Rv w Z [] d v) : Rv w Z m d v := h.mono (fun _ _ hz => ⟨hz, rfl⟩) (by simp)

mutual
/-- The value names no number of the store from n on. -/
def D.okm (n : Nat) : D → Bool
  | .ref i _ | .eref i _ | .mref i | .msl i _ _ => i.blt n
  | .agg cs => D.okmL n cs
  | .tup cs => D.okmL n cs
  | .fn _ cs => D.okmL n cs
  | _ => true
def D.okmL (n : Nat) : List D → Bool
  | [] => true
  | d :: r => D.okm n d && D.okmL n r
end
theorem D.okmL_mem {n : Nat} : ∀ {l : List D}, D.okmL n l = true → ∀ d ∈ l, d.okm n = true
  | [], _, d, h => by cases h
  | x :: r, h, d, hd => by
    simp only [D.okmL, Bool.and_eq_true] at h
    rcases List.mem_cons.1 hd with rfl | hd
    · exact h.1
    · exact D.okmL_mem h.2 d hd
theorem Rv.okm {w : World} {Z : Zone} {m m' : List Nat} {d v} (h : Rv w Z m d v) {n : Nat} (hm : ∀ (i b : Nat), i < n → m[i]? = some b → m'[i]? = some b) (hd : d.okm n = true) : Rv w Z m' d v := by
  induction h generalizing m' with
  | undef v => exact .undef v
  | bool b => exact .bool b
  | int k n => exact .int k n
  | str s hs => exact .str s hs
  | slnil => exact .slnil
  | slz a => exact .slz a
  | sl sz xs b off cap c hcap hsz hc hv ih => exact .sl sz xs b off cap c hcap hsz hc hv
  | osl sz xs v h hz' ih => exact .osl sz xs v (ih hm (by simp [D.okm])) hz'
  | agg cs vs hl ho hv ih => exact .agg cs vs hl ho fun i d v hx hv => ih i d v hx hv hm (D.okmL_mem (by simpa [D.okm] using hd) d (List.mem_of_getElem? hx))
  | tup cs vs hl hv ih => exact .tup cs vs hl fun i d v hx hv => ih i d v hx hv hm (D.okmL_mem (by simpa [D.okm] using hd) d (List.mem_of_getElem? hx))
  | iptr cs b off c hc hv ih => exact .iptr cs b off c hc hv
  | nilp => exact .nilp
  | ref i off b h => exact .ref i off b (hm i b (by simpa [D.okm] using hd) h)
  | eref i off b h => exact .eref i off b (hm i b (by simpa [D.okm] using hd) h)
  | mref i b h => exact .mref i b (hm i b (by simpa [D.okm] using hd) h)
  | msl i off len cap b hcap h => exact .msl i off len cap b hcap (hm i b (by simpa [D.okm] using hd) h)
  | fn f cap vs hl hv ih => exact .fn f cap vs hl fun i d v hx hv => ih i d v hx hv hm (D.okmL_mem (by simpa [D.okm] using hd) d (List.mem_of_getElem? hx))
  | nilf => exact .nilf
  | nili => exact .nili
  | nilmap => exact .nilmap
theorem Rv.closed {w : World} {Z : Zone} {m : List Nat} (m' : List Nat) {d v} (h : Rv w Z m d v) (hd : d.okm 0 = true) : Rv w Z m' d v := h.okm (fun i b hi => by omega) hd

/-- Objects that the call may write. -/
inductive Ob where
  | cells (cs : List D)
  | arr (cs : List D)
  | mp (L : List (D × D))
  | dead

/-- Who holds a block for writing. -/
inductive Key where
  | slot (t : Nat)
  | cell (i j : Nat)
  | obj (i : Nat)
  deriving DecidableEq

abbrev Cl := Key → Option Nat

/-- The right to write behind the end of a slice. -/
def Own (w : World) (Z : Zone) (cl : Cl) (k : Key) (d : D) (v : Value) : Prop :=
  ∀ sz xs, d = .osl sz xs → ∀ b off cap, v = .slice (some ⟨b, off, none⟩) xs.length cap → xs.length < cap →
    sz ≠ 0 ∧ cl k = some b ∧ (∀ x ∈ xs, x.length = sz) ∧ (∀ o, Z b o → o < off + xs.length * sz) ∧ ∃ vs e, w.heap[b]? = some (.cells vs e (0, 0)) ∧ off + cap * sz ≤ vs.size

theorem Rv.kee {w Z m d v} (h : Rv w Z m d v) : Rv w Z m d.kee v := by
  unfold D.kee
  split
  · exact h
  · exact h.dis
/-- A slice without room may be appended to. -/
theorem Rv.own0 {w : World} {Z : Zone} {m : List Nat} {d : D} {v : Value} (h : Rv w Z m d v) (cl : Cl) (k : Key) (hd : ∀ z xs, d = .osl z xs → z = 0 ∧ xs = []) : Own w Z cl k d v := by
  intro sz xs he b off cap hv hlt
  obtain ⟨rfl, rfl⟩ := hd sz xs he
  subst he
  cases h
  rename_i _ hz
  have := hz rfl rfl _ _ _ hv
  omega
theorem Rv.ownKee {w : World} {Z : Zone} {m : List Nat} {d : D} {v : Value} (h : Rv w Z m d v) (cl : Cl) (k : Key) : Own w Z cl k d.kee v := h.kee.own0 cl k fun _ _ he => D.kee_osl he

theorem Own.of_ne {w Z cl k d v} (h : ∀ sz xs, d ≠ .osl sz xs) : Own w Z cl k d v := fun sz xs hx => absurd hx (h sz xs)
theorem Own.dis {w Z cl k d v} : Own w Z cl k (D.dis d) v := Own.of_ne (by cases d <;> simp [D.dis])

/-- The world, the zone and the blocks of the store belong together. -/
structure RelS (w : World) (Z : Zone) (m : List Nat) (cl : Cl) (S : List Ob) : Prop where
  zc : ∀ b o, Z b o → ∃ v, w.cell? ⟨b, o, none⟩ = some v
  inj : ∀ k k' b, cl k = some b → cl k' = some b → k = k'
  lt : ∀ k b, cl k = some b → b < w.heap.size
  ml : m.length = S.length
  mlt : ∀ (i b : Nat), m[i]? = some b → b < w.heap.size
  obj : ∀ (i : Nat) cs b, S[i]? = some (.cells cs) → m[i]? = some b → cl (.obj i) = some b ∧ (∀ o, ¬ Z b o) ∧
    ∃ vs e, w.heap[b]? = some (.cells vs e (0, 0)) ∧ vs.size = cs.length ∧ (∀ v ∈ vs, v.oneCell' = true) ∧
      ∀ (j : Nat) d v, cs[j]? = some d → vs[j]? = some v → Rv w Z m d v ∧ Own w Z cl (.cell i j) d v
  aro : ∀ (i : Nat) cs b, S[i]? = some (.arr cs) → m[i]? = some b → cl (.obj i) = some b ∧ (∀ o, ¬ Z b o) ∧
    ∃ vs e, w.heap[b]? = some (.cells vs e (0, 0)) ∧ vs.size = cs.length ∧ (∀ v ∈ vs, v.oneCell' = true) ∧ ∀ (j : Nat) d v, cs[j]? = some d → vs[j]? = some v → Rv w Z [] d v
  mpo : ∀ (i : Nat) L b, S[i]? = some (.mp L) → m[i]? = some b → cl (.obj i) = some b ∧
    ∃ es clk, w.heap[b]? = some (.map es clk) ∧ es.size = L.length ∧ ∀ (j : Nat) p e, L[j]? = some p → es[j]? = some e → Rv w Z [] p.1 e.key ∧ Rv w Z [] p.2 e.val
  objlt : ∀ i b, cl (.obj i) = some b → i < S.length

/-- From one moment of a call to a later one. -/
structure Step (w : World) (Z : Zone) (m : List Nat) (cl : Cl) (w' : World) (Z' : Zone) (m' : List Nat) (cl' : Cl) : Prop where
  os : w'.os = w.os
  tape : w'.tape = w.tape
  output : w'.output = w.output
  size : w.heap.size ≤ w'.heap.size
  frame : ∀ b, b < w.heap.size → (∀ k, cl k ≠ some b) → w'.heap[b]? = w.heap[b]?
  zmono : ∀ b o, Z b o → Z' b o
  zold : ∀ b o, b < w.heap.size → (∀ k, cl k ≠ some b) → Z' b o → Z b o
  keep : ∀ b o, Z b o → w'.cell? ⟨b, o, none⟩ = w.cell? ⟨b, o, none⟩
  clm : ∀ k b, cl' k = some b → w.heap.size ≤ b ∨ ∃ k', cl k' = some b

theorem Step.refl (w Z m cl) : Step w Z m cl w Z m cl :=
  ⟨rfl, rfl, rfl, Nat.le_refl _, fun _ _ _ => rfl, fun _ _ h => h, fun _ _ _ _ h => h, fun _ _ _ => rfl, fun k _ h => .inr ⟨k, h⟩⟩

theorem Step.trans {w Z m cl w1 Z1 m1 cl1 w2 Z2 m2 cl2} (h : Step w Z m cl w1 Z1 m1 cl1) (h' : Step w1 Z1 m1 cl1 w2 Z2 m2 cl2) :
    Step w Z m cl w2 Z2 m2 cl2 := by
  have un : ∀ b, b < w.heap.size → (∀ k, cl k ≠ some b) → ∀ k, cl1 k ≠ some b := fun b hb hk k hc => by
    rcases h.clm k b hc with h1 | ⟨k', h1⟩
    · omega
    · exact hk k' h1
  refine ⟨h'.os.trans h.os, h'.tape.trans h.tape, h'.output.trans h.output, Nat.le_trans h.size h'.size, fun b hb hk => ?_, fun b o hz => h'.zmono _ _ (h.zmono _ _ hz), fun b o hb hk hz => ?_, fun b o hz => ?_, fun k b hc => ?_⟩
  · rw [h'.frame b (Nat.lt_of_lt_of_le hb h.size) (un b hb hk), h.frame b hb hk]
  · exact h.zold b o hb hk (h'.zold b o (Nat.lt_of_lt_of_le hb h.size) (un b hb hk) hz)
  · rw [h'.keep b o (h.zmono b o hz), h.keep b o hz]
  · rcases h'.clm k b hc with h1 | ⟨k', h1⟩
    · exact .inl (Nat.le_trans h.size h1)
    · exact h.clm k' b h1

theorem Step.rvm {w Z m cl w' Z' m' cl'} (h : Step w Z m cl w' Z' m' cl') (hm : ∀ (i : Nat) (b : Nat), m[i]? = some b → m'[i]? = some b) {d v} (hv : Rv w Z m d v) : Rv w' Z' m' d v :=
  hv.mono (fun b o hz => ⟨h.zmono b o hz, h.keep b o hz⟩) hm
theorem Step.rv {w Z m cl w' Z' m' cl'} (h : Step w Z m cl w' Z' m' cl') {m2 : List Nat} {d v} (hv : Rv w Z m2 d v) : Rv w' Z' m2 d v :=
  hv.mono (fun b o hz => ⟨h.zmono b o hz, h.keep b o hz⟩) fun _ _ h => h

end Go.AL
