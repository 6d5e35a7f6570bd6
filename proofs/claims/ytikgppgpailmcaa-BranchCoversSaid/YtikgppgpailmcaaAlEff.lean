/-
  Operations that write: append, make, store, and what the model does at each.
-/
import Derived.Test.YtikgppgpailmcaaAlRun
namespace Go.AL

/-- An element type: its zero value is known and has its size. -/
def tze (P : Program) (t : Nat) : Bool :=
  match P.underlying t with
  | some (.slice e) => match P.info? e with
    | some i => match i.zero with
      | some z => z.cells.size == i.size
      | none => false
    | none => false
  | _ => false

theorem tze_spec {P : Program} {t e k by_ : Nat} (h : tze P t = true) (ht : tel P t = some (e, k, by_)) :
    P.underlying t = some (.slice e) ∧ ∃ i z, P.info? e = some i ∧ i.zero = some z ∧ z.cells.size = k ∧ i.size = k ∧ i.bytes = by_ := by
  obtain ⟨hu, i, hi, hk, hb⟩ := tel_spec ht
  unfold tze at h
  rw [hu] at h
  simp only [hi] at h
  cases hz : i.zero with
  | none => rw [hz] at h; cases h
  | some z => rw [hz] at h; exact ⟨hu, i, z, hi, hz, by rw [← hk]; simpa using h, hk, hb⟩

def AS.degO (s : AS) : Option Nat → AS
  | none => s
  | some v => s.degrade v

def give (cl : Cl) (ov : Option Nat) (u : Nat) (nb : Option Nat) : Cl := fun k =>
  if k = .slot u then nb else if ∃ v, ov = some v ∧ k = .slot v then none else cl k

section
variable {P : Program} {w : World} {Z : Zone} {m : List Nat} {cl : Cl} {s : AS} {a : Act}

theorem give_src {ov u nb k b} (h : give cl ov u nb k = some b) : (k = .slot u ∧ nb = some b) ∨ (k ≠ .slot u ∧ cl k = some b ∧ ∀ v, ov = some v → k ≠ .slot v) := by
  unfold give at h
  split at h
  · rename_i hk; exact .inl ⟨hk, h⟩
  · rename_i hk
    split at h
    · cases h
    · rename_i hn; exact .inr ⟨hk, h, fun v hv hkv => hn ⟨v, hv, hkv⟩⟩

theorem degO_get (ov : Option Nat) (x : Nat) : (s.degO ov).get x = s.get x ∨ (ov = some x ∧ (s.degO ov).get x = (s.get x).dis) := by
  cases ov with
  | none => exact .inl rfl
  | some v =>
    simp only [AS.degO, AS.degrade, AS.get, lk]
    by_cases h : v = x
    · subst h; right; simp
    · left; simp [h]

theorem Rel.give (h : Rel w Z m cl s a) (ov : Option Nat) (u : Nat) (hu : u < s.n) (nb : Option Nat)
    (hnb : ∀ b, nb = some b → b < w.heap.size ∧ ∀ k, cl k = some b → k = .slot u ∨ ∃ v, ov = some v ∧ k = .slot v) {d : D} {val : Value} (hrv : Rv w Z m d val)
    (hown : Own w Z (give cl ov u nb) (.slot u) d val) : Rel w Z m (give cl ov u nb) ((s.degO ov).put (some u) d) (a.put (some u) val) := by
  have hu' : u < a.tmps.size := by rw [h.sz]; exact hu
  have hS : (s.degO ov).S = s.S := by cases ov <;> rfl
  have hn : (s.degO ov).n = s.n := by cases ov <;> rfl
  have he : (s.degO ov).eqs = s.eqs := by cases ov <;> rfl
  have hget : ∀ x, ((s.degO ov).put (some u) d).get x = if u = x then d else (s.degO ov).get x := fun x => by
    rw [AS.get_put, hn]; simp only [hu, if_true]
  have keep : ∀ (k : Key) d v, k ≠ .slot u → (∀ v, ov = some v → k ≠ .slot v) → Own w Z cl k d v → Own w Z (AL.give cl ov u nb) k d v := fun k d v h1 h2 ho sz xs hd b off cap hv hlt => by
    obtain ⟨q1, q2, q3⟩ := ho sz xs hd b off cap hv hlt
    refine ⟨q1, ?_, q3⟩
    unfold AL.give; rw [if_neg h1, if_neg (by rintro ⟨v, hv, hk⟩; exact h2 v hv hk)]; exact q2
  exact {
    zc := h.zc
    inj := fun k k' b hk hk' => by
      rcases give_src hk with ⟨e1, e2⟩ | ⟨e1, e2, e3⟩ <;> rcases give_src hk' with ⟨f1, f2⟩ | ⟨f1, f2, f3⟩
      · rw [e1, f1]
      · rcases (hnb b e2).2 k' f2 with g | ⟨v, g1, g2⟩
        · exact absurd g f1
        · exact absurd g2 (f3 v g1)
      · rcases (hnb b f2).2 k e2 with g | ⟨v, g1, g2⟩
        · exact absurd g e1
        · exact absurd g2 (e3 v g1)
      · exact h.inj k k' b e2 f2
    lt := fun k b hk => by
      rcases give_src hk with ⟨_, e2⟩ | ⟨_, e2, _⟩
      · exact (hnb b e2).1
      · exact h.lt k b e2
    ml := by rw [AS.put_S, hS]; exact h.ml
    mlt := h.mlt
    obj := fun i cs b hs hm => by
      rw [AS.put_S, hS] at hs
      obtain ⟨h1, h2, vs, e, h3, h4, h6, h5⟩ := h.obj i cs b hs hm
      refine ⟨by unfold AL.give; rw [if_neg (by simp), if_neg (by rintro ⟨v, _, hk⟩; cases hk)]; exact h1, h2, vs, e, h3, h4, h6, fun j d v hd hv => ⟨(h5 j d v hd hv).1, keep _ _ _ (by simp) (by simp) (h5 j d v hd hv).2⟩⟩
    aro := fun i cs b hs hm => by
      rw [AS.put_S, hS] at hs
      obtain ⟨h1, h2, h3⟩ := h.aro i cs b hs hm
      exact ⟨by unfold AL.give; rw [if_neg (by simp), if_neg (by rintro ⟨v, _, hk⟩; cases hk)]; exact h1, h2, h3⟩
    mpo := fun i L b hs hm => by
      rw [AS.put_S, hS] at hs
      obtain ⟨h1, es, c, h3, h4, h5⟩ := h.mpo i L b hs hm
      exact ⟨by unfold AL.give; rw [if_neg (by simp), if_neg (by rintro ⟨v, _, hk⟩; cases hk)]; exact h1, es, c, h3, h4, h5⟩
    objlt := fun i b hk => by
      rw [AS.put_S, hS]
      rcases give_src hk with ⟨e1, _⟩ | ⟨_, e2, _⟩
      · cases e1
      · exact h.objlt i b e2
    sz := by rw [AS.put_n, hn]; simp [Act.put]; exact h.sz
    df := h.df
    rv := fun x => by
      rw [hget, Act.getD_put]; simp only [hu', if_true]
      split
      · exact hrv
      · rcases degO_get (s := s) ov x with e | ⟨_, e⟩ <;> rw [e]
        · exact h.rv x
        · exact (h.rv x).dis
    ow := fun x => by
      rw [hget, Act.getD_put]; simp only [hu', if_true]
      split
      · rename_i e; subst e; exact hown
      · rename_i hne
        by_cases hov : ov = some x
        · have : (s.degO ov).get x = (s.get x).dis := by subst hov; simp [AS.degO, AS.degrade, AS.get, lk]
          rw [this]; exact Own.dis
        · rcases degO_get (s := s) ov x with e | ⟨e1, _⟩
          · rw [e]
            refine keep _ _ _ (by simpa using fun e => hne e.symm) (fun v hv hk => ?_) (h.ow x)
            simp at hk; subst hk; exact hov hv
          · exact absurd e1 hov
    eqv := fun x y hxy => by
      simp only [AS.put, hn, hu, if_true, he, List.mem_filter, bne_iff_ne, ne_eq, Bool.and_eq_true, Loc.slot.injEq] at hxy
      obtain ⟨hxy, h1, h2⟩ := hxy
      rw [Act.getD_put, Act.getD_put]
      simp only [hu', if_true, if_neg (Ne.symm h1), if_neg (Ne.symm h2)]
      exact h.eqv x y hxy
    eqc := fun x i j cs b vs e fr hxy hs hm hh => by
      rw [AS.put_S, hS] at hs
      simp only [AS.put, hn, hu, if_true, he, List.mem_filter, bne_iff_ne, ne_eq, Bool.and_eq_true] at hxy
      obtain ⟨hxy, h1, h2⟩ := hxy
      rw [Act.getD_put]
      simp only [hu', if_true, if_neg (Ne.symm h1)]
      exact h.eqc x i j cs b vs e fr hxy hs hm hh }

theorem Step.withCl {w' Z' m' cl' cl''} (h : Step w Z m cl w' Z' m' cl') (hc : ∀ k b, cl'' k = some b → w.heap.size ≤ b ∨ ∃ k', cl k' = some b) : Step w Z m cl w' Z' m' cl'' :=
  { h with clm := hc }

/-- A claimed block is written where nothing of the zone lies. -/
structure Upd (w : World) (Z : Zone) (cl : Cl) (κ : Key) (b : Nat) (vs vs' : Array Value) (e : TypeId) (Zn : Nat → Prop) : Prop where
  cl : cl κ = some b
  hp : w.heap[b]? = some (.cells vs e (0, 0))
  sz : vs'.size = vs.size
  hz : ∀ o, Z b o → vs'[o]? = vs[o]?
  zn : ∀ o, Zn o → o < vs.size

def zUp (Z : Zone) (b : Nat) (Zn : Nat → Prop) : Zone := fun b' o => Z b' o ∨ (b' = b ∧ Zn o)

theorem Upd.cell {κ b vs vs' e Zn} (u : Upd w Z cl κ b vs vs' e Zn) (b' o : Nat) (hz : Z b' o) : (w.setRow b vs').cell? ⟨b', o, none⟩ = w.cell? ⟨b', o, none⟩ := by
  by_cases hb : b' = b
  · subst hb
    rw [cell_setRow_same w b' o vs vs' e (0, 0) u.hp, u.hz o hz]
    simp [World.cell?, u.hp]
  · exact cell_setRow_other w b vs' ⟨b', o, none⟩ hb

theorem Upd.step {κ b vs vs' e Zn} (u : Upd w Z cl κ b vs vs' e Zn) : Step w Z m cl (w.setRow b vs') (zUp Z b Zn) m cl where
  os := rfl
  tape := rfl
  output := rfl
  size := by simp
  frame b' _ hk := setRow_other w b b' vs' fun e => hk κ (by rw [e]; exact u.cl)
  zmono _ _ h := .inl h
  zold b' o _ hk h := h.resolve_right fun ⟨e, _⟩ => hk κ (by rw [e]; exact u.cl)
  keep b' o hz := u.cell b' o hz
  clm k b' h := .inr ⟨k, h⟩

theorem Upd.own {κ b vs vs' e Zn S} (h : RelS w Z m cl S) (u : Upd w Z cl κ b vs vs' e Zn) {k : Key} (hne : k ≠ κ) {d v} (ho : Own w Z cl k d v) : Own (w.setRow b vs') (zUp Z b Zn) cl k d v := by
  intro sz xs hd b' off cap hv hlt
  obtain ⟨q1, q2, q3, q4, vs2, e2, q5, q6⟩ := ho sz xs hd b' off cap hv hlt
  have hb : b' ≠ b := fun e => hne (h.inj k κ b (by rw [← e]; exact q2) u.cl)
  exact ⟨q1, q2, q3, fun o hz => q4 o (hz.resolve_right fun ⟨e, _⟩ => hb e), vs2, e2, by rw [setRow_other w b b' vs' hb]; exact q5, q6⟩

/-- The block of a slot is written: the objects are as they were. -/
theorem Upd.rel {t b vs vs' e Zn} (h : Rel w Z m cl s a) (u : Upd w Z cl (.slot t) b vs vs' e Zn) (hd : ∀ z xs, s.get t ≠ .osl z xs) : Rel (w.setRow b vs') (zUp Z b Zn) m cl s a where
  zc b' o hz := by
    rcases hz with hz | ⟨rfl, hz⟩
    · obtain ⟨v, hv⟩ := h.zc b' o hz; exact ⟨v, by rw [u.cell b' o hz]; exact hv⟩
    · have := u.zn o hz
      exact ⟨vs'[o]'(by rw [u.sz]; exact this), by rw [cell_setRow_same w b' o vs vs' e (0, 0) u.hp]; simp [u.sz, this]⟩
  inj := h.inj
  lt k b' hk := by simp; exact h.lt k b' hk
  ml := h.ml
  mlt i b' hm := by simp; exact h.mlt i b' hm
  obj i cs b' hs hm := by
    obtain ⟨h1, h2, vs2, e2, h3, h4, h6, h5⟩ := h.obj i cs b' hs hm
    have hb : b' ≠ b := fun e => by have := h.inj _ _ b (by rw [← e]; exact h1) u.cl; cases this
    exact ⟨h1, fun o hz => hz.elim (h2 o) fun ⟨e, _⟩ => hb e, vs2, e2, by rw [setRow_other w b b' vs' hb]; exact h3, h4, h6, fun j d v hd hv => ⟨(u.step (m := m)).rv (h5 j d v hd hv).1, u.own h.toRelS (by simp) (h5 j d v hd hv).2⟩⟩
  aro i cs b' hs hm := by
    obtain ⟨h1, h2, vs2, e2, h3, h4, h6, h5⟩ := h.aro i cs b' hs hm
    have hb : b' ≠ b := fun e => by have := h.inj _ _ b (by rw [← e]; exact h1) u.cl; cases this
    exact ⟨h1, fun o hz => hz.elim (h2 o) fun ⟨e, _⟩ => hb e, vs2, e2, by rw [setRow_other w b b' vs' hb]; exact h3, h4, h6, fun j d v hd hv => (u.step (m := m)).rv (h5 j d v hd hv)⟩
  mpo i L b' hs hm := by
    obtain ⟨h1, es, c, h3, h4, h5⟩ := h.mpo i L b' hs hm
    have hb : b' ≠ b := fun e => by have := h.inj _ _ b (by rw [← e]; exact h1) u.cl; cases this
    exact ⟨h1, es, c, by rw [setRow_other w b b' vs' hb]; exact h3, h4, fun j p e hp he => ⟨(u.step (m := m)).rv (h5 j p e hp he).1, (u.step (m := m)).rv (h5 j p e hp he).2⟩⟩
  objlt := h.objlt
  sz := h.sz
  df := h.df
  rv x := (u.step (m := m)).rv (h.rv x)
  ow x := by
    by_cases hx : x = t
    · subst hx; exact Own.of_ne hd
    · exact u.own h.toRelS (by simpa using hx) (h.ow x)
  eqv := h.eqv
  eqc x i j cs b' vs2 e2 fr hxy hs hm hh := by
    have h1 := (h.obj i cs b' hs hm).1
    have hb : b' ≠ b := fun e => by have := h.inj _ _ b (by rw [← e]; exact h1) u.cl; cases this
    rw [setRow_other w b b' vs' hb] at hh
    exact h.eqc x i j cs b' vs2 e2 fr hxy hs hm hh

end
end Go.AL
