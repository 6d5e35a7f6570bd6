/-
  New objects, and stores into them.
-/
import Derived.Test.YtikgppgpailmcaaAlApp
namespace Go.AL

section
variable {P : Program} {w : World} {Z : Zone} {m : List Nat} {cl : Cl} {s : AS} {a : Act}

def clObj (cl : Cl) (n b : Nat) : Cl := fun k => if k = .obj n then some b else cl k

/-- A new object. -/
theorem Rel.newObj (h : Rel w Z m cl s a) {ds : List D} {vs : Array Value} (e : TypeId) (hl : ds.length = vs.size) (ho : ∀ v ∈ vs, v.oneCell' = true)
    (hv : ∀ (i : Nat) (d : D) (v : Value), ds[i]? = some d → vs[i]? = some v → Rv w Z m d v) (hosl : ∀ d ∈ ds, ∀ z xs, d = .osl z xs → z = 0 ∧ xs = []) :
    Rel (w.alloc (.cells vs e)) Z (m ++ [w.heap.size]) (clObj cl s.S.length w.heap.size) { s with S := s.S ++ [.cells ds], eqs := [] } a ∧
    Step w Z m cl (w.alloc (.cells vs e)) Z (m ++ [w.heap.size]) (clObj cl s.S.length w.heap.size) := by
  have src : ∀ k b, clObj cl s.S.length w.heap.size k = some b → (k = .obj s.S.length ∧ b = w.heap.size) ∨ (k ≠ .obj s.S.length ∧ cl k = some b) := fun k b hk => by
    unfold clObj at hk
    split at hk
    · exact .inl ⟨by assumption, by cases hk; rfl⟩
    · exact .inr ⟨by assumption, hk⟩
  have oldcell : ∀ b o, Z b o → (w.alloc (.cells vs e)).cell? ⟨b, o, none⟩ = w.cell? ⟨b, o, none⟩ := fun b o hz => by
    obtain ⟨v, hv⟩ := h.zc b o hz
    exact World.cell?_alloc_lt w _ ⟨b, o, none⟩ (cell_lt hv)
  have hst : Step w Z m cl (w.alloc (.cells vs e)) Z (m ++ [w.heap.size]) (clObj cl s.S.length w.heap.size) := {
    os := rfl, tape := rfl, output := rfl, size := by simp
    frame := fun b hb _ => Go.RowKit.Below.heap_alloc w _ b hb
    zmono := fun _ _ h => h
    zold := fun _ _ _ _ h => h
    keep := oldcell
    clm := fun k b hk => by
      rcases src k b hk with ⟨_, rfl⟩ | ⟨_, hk⟩
      · exact .inl (Nat.le_refl _)
      · exact .inr ⟨k, hk⟩ }
  have own : ∀ k d v, k ≠ .obj s.S.length → Own w Z cl k d v → Own (w.alloc (.cells vs e)) Z (clObj cl s.S.length w.heap.size) k d v := fun k d v hk ho sz xs hd b off cap hv hlt => by
    obtain ⟨q1, q2, q3, q4, vs2, e2, q5, q6⟩ := ho sz xs hd b off cap hv hlt
    exact ⟨q1, by unfold clObj; rw [if_neg hk]; exact q2, q3, q4, vs2, e2, by rw [Go.RowKit.Below.heap_alloc w _ b (h.lt _ _ q2)]; exact q5, q6⟩
  have mm : ∀ (i b : Nat), m[i]? = some b → (m ++ [w.heap.size])[i]? = some b := fun i b hm => by
    rw [List.getElem?_append_left (List.getElem?_eq_some_iff.1 hm).1]; exact hm
  refine ⟨?_, hst⟩
  exact {
    zc := fun b o hz => by obtain ⟨v, hv⟩ := h.zc b o hz; exact ⟨v, by rw [oldcell b o hz]; exact hv⟩
    inj := fun k k' b hk hk' => by
      rcases src k b hk with ⟨e1, e2⟩ | ⟨e1, e2⟩ <;> rcases src k' b hk' with ⟨f1, f2⟩ | ⟨f1, f2⟩
      · rw [e1, f1]
      · have := h.lt _ _ f2; omega
      · have := h.lt _ _ e2; omega
      · exact h.inj k k' b e2 f2
    lt := fun k b hk => by
      rcases src k b hk with ⟨_, rfl⟩ | ⟨_, hk⟩
      · simp
      · have := h.lt _ _ hk; simp; omega
    ml := by simp [h.ml]
    mlt := fun i b hm => by
      simp only [World.size_alloc]
      by_cases hi : i < m.length
      · rw [List.getElem?_append_left hi] at hm; have := h.mlt i b hm; omega
      · rw [List.getElem?_append_right (by omega)] at hm
        have := (List.getElem?_eq_some_iff.1 hm).1
        have hi0 : i - m.length = 0 := by simpa using this
        rw [hi0] at hm; simp at hm; omega
    obj := fun i cs b hs hm => by
      by_cases hi : i < s.S.length
      · rw [List.getElem?_append_left hi] at hs
        rw [List.getElem?_append_left (by rw [h.ml]; exact hi)] at hm
        obtain ⟨h1, h2, vs2, e2, h3, h4, h6, h5⟩ := h.obj i cs b hs hm
        refine ⟨by unfold clObj; rw [if_neg (by simp; omega)]; exact h1, h2, vs2, e2, by rw [Go.RowKit.Below.heap_alloc w _ b (h.lt _ _ h1)]; exact h3, h4, h6, fun j d v hd hv => ⟨hst.rvm mm (h5 j d v hd hv).1, own _ _ _ (by simp) (h5 j d v hd hv).2⟩⟩
      · rw [List.getElem?_append_right (by omega)] at hs
        rw [List.getElem?_append_right (by rw [h.ml]; omega), h.ml] at hm
        have hi0 : i - s.S.length = 0 := by have := (List.getElem?_eq_some_iff.1 hs).1; simpa using this
        have hi' : i = s.S.length := by omega
        rw [hi0] at hs hm
        simp at hs hm; subst hs; subst hm; subst hi'
        refine ⟨by simp [clObj], fun o hz => ?_, vs, e, heap_new w _, hl.symm, ho, fun j d v hd hv' => ⟨hst.rvm mm (hv j d v hd hv'), (hst.rvm mm (hv j d v hd hv')).own0 _ _ (hosl d (List.mem_of_getElem? hd))⟩⟩
        obtain ⟨v, hv⟩ := h.zc _ _ hz
        have := cell_lt hv; omega
    aro := fun i cs b hs hm => by
      by_cases hi : i < s.S.length
      · rw [List.getElem?_append_left hi] at hs
        rw [List.getElem?_append_left (by rw [h.ml]; exact hi)] at hm
        obtain ⟨h1, h2, vs2, e2, h3, h4, h6, h5⟩ := h.aro i cs b hs hm
        exact ⟨by unfold clObj; rw [if_neg (by simp; omega)]; exact h1, h2, vs2, e2, by rw [Go.RowKit.Below.heap_alloc w _ b (h.lt _ _ h1)]; exact h3, h4, h6, fun j d v hd hv => hst.rv (h5 j d v hd hv)⟩
      · rw [List.getElem?_append_right (by omega)] at hs
        have hi0 : i - s.S.length = 0 := by have := (List.getElem?_eq_some_iff.1 hs).1; simpa using this
        rw [hi0] at hs
        simp at hs
    mpo := fun i L b hs hm => by
      by_cases hi : i < s.S.length
      · rw [List.getElem?_append_left hi] at hs
        rw [List.getElem?_append_left (by rw [h.ml]; exact hi)] at hm
        obtain ⟨h1, es, c, h3, h4, h5⟩ := h.mpo i L b hs hm
        exact ⟨by unfold clObj; rw [if_neg (by simp; omega)]; exact h1, es, c, by rw [Go.RowKit.Below.heap_alloc w _ b (h.lt _ _ h1)]; exact h3, h4, fun j p e hp he => ⟨hst.rv (h5 j p e hp he).1, hst.rv (h5 j p e hp he).2⟩⟩
      · rw [List.getElem?_append_right (by omega)] at hs
        have hi0 : i - s.S.length = 0 := by have := (List.getElem?_eq_some_iff.1 hs).1; simpa using this
        rw [hi0] at hs
        simp at hs
    objlt := fun i b hk => by
      rcases src _ b hk with ⟨e1, _⟩ | ⟨_, hk⟩
      · simp at e1; simp; omega
      · have := h.objlt i b hk; simp; omega
    sz := h.sz
    df := h.df
    rv := fun t => hst.rvm mm (h.rv t)
    ow := fun t => own _ _ _ (by simp) (h.ow t)
    eqv := fun x y hxy => by cases hxy
    eqc := fun x i j cs b vs2 e2 fr hxy hs hm hh => by cases hxy }

/-- A cell list of an object is replaced. -/
theorem Rel.storeObj (h : Rel w Z m cl s a) {i b : Nat} {cs cs' : List D} {vs vs' : Array Value} {e : TypeId} (hs : s.S[i]? = some (.cells cs)) (hm : m[i]? = some b) (hh : w.heap[b]? = some (.cells vs e (0, 0)))
    (hsz : vs'.size = vs.size) (hl : cs'.length = vs.size) (ho : ∀ v ∈ vs', v.oneCell' = true)
    (hv : ∀ (j : Nat) d v, cs'[j]? = some d → vs'[j]? = some v → Rv w Z m d v ∧ Own w Z cl (.cell i j) d v) :
    Rel (w.setRow b vs') Z m cl { s with S := s.S.set i (.cells cs'), eqs := [] } a ∧ Step w Z m cl (w.setRow b vs') Z m cl := by
  obtain ⟨h1, h2, vs0, e0, h3, h4, h6, h5⟩ := h.obj i cs b hs hm
  have hilt : i < s.S.length := (List.getElem?_eq_some_iff.1 hs).1
  have hcell : ∀ b' o, Z b' o → (w.setRow b vs').cell? ⟨b', o, none⟩ = w.cell? ⟨b', o, none⟩ := fun b' o hz =>
    cell_setRow_other w b vs' ⟨b', o, none⟩ fun e => h2 o (by simp only at e; rw [← e]; exact hz)
  have hst : Step w Z m cl (w.setRow b vs') Z m cl := {
    os := rfl, tape := rfl, output := rfl, size := by simp
    frame := fun b' _ hk => setRow_other w b b' vs' fun e => hk (.obj i) (by rw [e]; exact h1)
    zmono := fun _ _ h => h
    zold := fun _ _ _ _ h => h
    keep := hcell
    clm := fun k b h => .inr ⟨k, h⟩ }
  have own : ∀ k d v, Own w Z cl k d v → (∀ b', cl k = some b' → b' ≠ b) → Own (w.setRow b vs') Z cl k d v := fun k d v ho hne sz xs hd b' off cap hv hlt => by
    obtain ⟨q1, q2, q3, q4, vs2, e2, q5, q6⟩ := ho sz xs hd b' off cap hv hlt
    exact ⟨q1, q2, q3, q4, vs2, e2, by rw [setRow_other w b b' vs' (hne b' q2)]; exact q5, q6⟩
  have ne : ∀ k, k ≠ .obj i → ∀ b', cl k = some b' → b' ≠ b := fun k hk b' hb e => hk (h.inj k (.obj i) b (by rw [← e]; exact hb) h1)
  refine ⟨?_, hst⟩
  exact {
    zc := fun b' o hz => by obtain ⟨v, hv⟩ := h.zc b' o hz; exact ⟨v, by rw [hcell b' o hz]; exact hv⟩
    inj := h.inj
    lt := fun k b' hk => by simp; exact h.lt k b' hk
    ml := by simp [h.ml]
    mlt := fun j b' hm => by simp; exact h.mlt j b' hm
    obj := fun j cs2 b2 hs2 hm2 => by
      by_cases hj : i = j
      · subst hj
        rw [hm] at hm2; cases hm2
        rw [List.getElem?_set_self hilt] at hs2; cases hs2
        exact ⟨h1, h2, vs', e, setRow_heap w b vs vs' e (0, 0) hh, by rw [hsz, hl], ho, fun j d v hd hv' => ⟨hst.rv (hv j d v hd hv').1, own _ _ _ (hv j d v hd hv').2 (ne _ (by simp))⟩⟩
      · rw [List.getElem?_set_ne hj] at hs2
        obtain ⟨g1, g2, vs2, e2, g3, g4, g6, g5⟩ := h.obj j cs2 b2 hs2 hm2
        have hb : b2 ≠ b := ne _ (by simpa using fun e => hj e.symm) b2 g1
        exact ⟨g1, g2, vs2, e2, by rw [setRow_other w b b2 vs' hb]; exact g3, g4, g6, fun j d v hd hv' => ⟨hst.rv (g5 j d v hd hv').1, own _ _ _ (g5 j d v hd hv').2 (ne _ (by simp))⟩⟩
    aro := fun j cs2 b2 hs2 hm2 => by
      by_cases hj : i = j
      · subst hj
        rw [List.getElem?_set_self hilt] at hs2; cases hs2
      · rw [List.getElem?_set_ne hj] at hs2
        obtain ⟨g1, g2, vs2, e2, g3, g4, g6, g5⟩ := h.aro j cs2 b2 hs2 hm2
        have hb : b2 ≠ b := ne _ (by simpa using fun e => hj e.symm) b2 g1
        exact ⟨g1, g2, vs2, e2, by rw [setRow_other w b b2 vs' hb]; exact g3, g4, g6, fun j d v hd hv' => hst.rv (g5 j d v hd hv')⟩
    mpo := fun j L b2 hs2 hm2 => by
      by_cases hj : i = j
      · subst hj
        rw [List.getElem?_set_self hilt] at hs2; cases hs2
      · rw [List.getElem?_set_ne hj] at hs2
        obtain ⟨g1, es, c, g3, g4, g5⟩ := h.mpo j L b2 hs2 hm2
        have hb : b2 ≠ b := ne _ (by simpa using fun e => hj e.symm) b2 g1
        exact ⟨g1, es, c, by rw [setRow_other w b b2 vs' hb]; exact g3, g4, fun j p e hp he => ⟨hst.rv (g5 j p e hp he).1, hst.rv (g5 j p e hp he).2⟩⟩
    objlt := fun j b' hk => by simp; exact h.objlt j b' hk
    sz := h.sz
    df := h.df
    rv := fun t => hst.rv (h.rv t)
    ow := fun t => own _ _ _ (h.ow t) (ne _ (by simp))
    eqv := fun x y hxy => by cases hxy
    eqc := fun x i j cs b vs2 e2 fr hxy hs hm hh => by cases hxy }

/-- The right to append to a cell's slice goes to a slot that holds the same. -/
theorem Rel.takeCell (h : Rel w Z m cl s a) {t i j : Nat} {cs : List D} {z : Nat} {xs : List (List D)} (he : (t, Loc.cell i j) ∈ s.eqs) (hS : s.S[i]? = some (.cells cs)) (hj : cs[j]? = some (.osl z xs)) :
    ∃ cl', Rel w Z m cl' { s with env := (t, .osl z xs) :: s.env, S := s.S.set i (.cells (cs.set j (.sl xs))) } a ∧ ∀ k b, cl' k = some b → ∃ k', cl k' = some b := by
  have hilt : i < s.S.length := (List.getElem?_eq_some_iff.1 hS).1
  have hjlt : j < cs.length := (List.getElem?_eq_some_iff.1 hj).1
  obtain ⟨b, hm⟩ : ∃ b, m[i]? = some b := ⟨m[i]'(by rw [h.ml]; exact hilt), List.getElem?_eq_getElem (by rw [h.ml]; exact hilt)⟩
  obtain ⟨h1, h2, vs, e, h3, h4, h6, h5⟩ := h.obj i cs b hS hm
  have hval := h.eqc t i j cs b vs e (0, 0) he hS hm h3
  obtain ⟨hrv, hown⟩ := h5 j _ _ hj hval
  let cl' : Cl := fun k => if k = .slot t then cl (.cell i j) else if k = .cell i j then none else cl k
  have src : ∀ k b, cl' k = some b → (k = .slot t ∧ cl (.cell i j) = some b) ∨ (k ≠ .slot t ∧ k ≠ .cell i j ∧ cl k = some b) := fun k b hk => by
    simp only [cl'] at hk
    split at hk
    · rename_i e; exact .inl ⟨e, hk⟩
    · rename_i e1
      split at hk
      · cases hk
      · rename_i e2; exact .inr ⟨e1, e2, hk⟩
  have same : ∀ k, k ≠ .slot t → k ≠ .cell i j → cl' k = cl k := fun k e1 e2 => by simp only [cl', if_neg e1, if_neg e2]
  have keep : ∀ k d v, k ≠ .slot t → k ≠ .cell i j → Own w Z cl k d v → Own w Z cl' k d v := fun k d v e1 e2 ho sz ys hd b off cap hv hlt => by
    obtain ⟨q1, q2, q3⟩ := ho sz ys hd b off cap hv hlt
    exact ⟨q1, by rw [same k e1 e2]; exact q2, q3⟩
  have hget : ∀ x, AS.get { s with env := (t, .osl z xs) :: s.env, S := s.S.set i (.cells (cs.set j (.sl xs))) } x = if t = x then .osl z xs else s.get x := fun x => by simp only [AS.get, lk]
  refine ⟨cl', ?_, fun k b hk => ?_⟩
  · exact {
      zc := h.zc
      inj := fun k k' b hk hk' => by
        rcases src k b hk with ⟨e1, e2⟩ | ⟨e1, e2, e3⟩ <;> rcases src k' b hk' with ⟨f1, f2⟩ | ⟨f1, f2, f3⟩
        · rw [e1, f1]
        · exact absurd (h.inj _ _ b e2 f3).symm f2
        · exact absurd (h.inj _ _ b e3 f2) e2
        · exact h.inj _ _ b e3 f3
      lt := fun k b hk => by
        rcases src k b hk with ⟨_, e2⟩ | ⟨_, _, e3⟩
        · exact h.lt _ b e2
        · exact h.lt _ b e3
      ml := by simp [h.ml]
      mlt := h.mlt
      obj := fun i' cs' b' hs hm' => by
        by_cases hi : i = i'
        · subst hi
          rw [hm] at hm'; cases hm'
          rw [List.getElem?_set_self hilt] at hs; cases hs
          refine ⟨by rw [same _ (by simp) (by simp)]; exact h1, h2, vs, e, h3, by simp [h4], h6, fun j' d v hd hv => ?_⟩
          by_cases hjj : j = j'
          · subst hjj
            rw [List.getElem?_set_self hjlt] at hd; cases hd
            rw [hval] at hv; cases hv
            exact ⟨hrv.dis, Own.of_ne (by simp)⟩
          · rw [List.getElem?_set_ne hjj] at hd
            obtain ⟨g1, g2⟩ := h5 j' d v hd hv
            exact ⟨g1, keep _ _ _ (by simp) (by simpa using fun e => hjj e.symm) g2⟩
        · rw [List.getElem?_set_ne hi] at hs
          obtain ⟨g1, g2, vs', e', g3, g4, g6, g5⟩ := h.obj i' cs' b' hs hm'
          exact ⟨by rw [same _ (by simp) (by simp)]; exact g1, g2, vs', e', g3, g4, g6, fun j' d v hd hv => ⟨(g5 j' d v hd hv).1, keep _ _ _ (by simp) (by simp only [ne_eq, Key.cell.injEq, not_and]; intro e; exact absurd e.symm hi) (g5 j' d v hd hv).2⟩⟩
      aro := fun i' cs' b' hs hm' => by
        by_cases hi : i = i'
        · subst hi; rw [List.getElem?_set_self hilt] at hs; cases hs
        · rw [List.getElem?_set_ne hi] at hs
          obtain ⟨g1, g2⟩ := h.aro i' cs' b' hs hm'
          exact ⟨by rw [same _ (by simp) (by simp)]; exact g1, g2⟩
      mpo := fun i' L b' hs hm' => by
        by_cases hi : i = i'
        · subst hi; rw [List.getElem?_set_self hilt] at hs; cases hs
        · rw [List.getElem?_set_ne hi] at hs
          obtain ⟨g1, g2⟩ := h.mpo i' L b' hs hm'
          exact ⟨by rw [same _ (by simp) (by simp)]; exact g1, g2⟩
      objlt := fun i' b' hk => by
        rw [same _ (by simp) (by simp)] at hk
        simp; exact h.objlt i' b' hk
      sz := h.sz
      df := h.df
      rv := fun x => by
        rw [hget]; split
        · rename_i e; subst e; exact hrv
        · exact h.rv x
      ow := fun x => by
        rw [hget]; split
        · rename_i e; subst e
          intro sz ys hd b off cap hv hlt
          obtain ⟨q1, q2, q3⟩ := hown sz ys hd b off cap hv hlt
          exact ⟨q1, by simp only [cl', if_true]; exact q2, q3⟩
        · rename_i hne; exact keep _ _ _ (by simpa using fun e => hne e.symm) (by simp) (h.ow x)
      eqv := h.eqv
      eqc := fun x i' j' cs' b' vs' e' fr hx hs hm' hh => by
        by_cases hi : i = i'
        · subst hi; exact h.eqc x i j' cs b' vs' e' fr hx hS hm' hh
        · rw [List.getElem?_set_ne hi] at hs; exact h.eqc x i' j' cs' b' vs' e' fr hx hs hm' hh }
  · rcases src k b hk with ⟨_, e2⟩ | ⟨_, _, e3⟩
    · exact ⟨_, e2⟩
    · exact ⟨_, e3⟩

/-- The right to append to a slot's slice goes to a cell that holds the same. -/
theorem Rel.giveCell (h : Rel w Z m cl s a) {u i j : Nat} {cs : List D} {z : Nat} {xs : List (List D)} (hu : s.get u = .osl z xs) (hS : s.S[i]? = some (.cells cs)) (hjlt : j < cs.length)
    (hval : ∀ b vs e fr, m[i]? = some b → w.heap[b]? = some (.cells vs e fr) → vs[j]? = some (a.tmps.getD u Go.undef)) :
    ∃ cl', Rel w Z m cl' { s with env := (u, .sl xs) :: s.env, S := s.S.set i (.cells (cs.set j (.osl z xs))) } a ∧ ∀ k b, cl' k = some b → ∃ k', cl k' = some b := by
  have hilt : i < s.S.length := (List.getElem?_eq_some_iff.1 hS).1
  obtain ⟨b, hm⟩ : ∃ b, m[i]? = some b := ⟨m[i]'(by rw [h.ml]; exact hilt), List.getElem?_eq_getElem (by rw [h.ml]; exact hilt)⟩
  obtain ⟨h1, h2, vs, e, h3, h4, h6, h5⟩ := h.obj i cs b hS hm
  have hval := hval b vs e (0, 0) hm h3
  have hrv := h.rv u
  have hown := h.ow u
  rw [hu] at hrv hown
  let cl' : Cl := fun k => if k = .cell i j then cl (.slot u) else if k = .slot u then none else cl k
  have src : ∀ k b, cl' k = some b → (k = .cell i j ∧ cl (.slot u) = some b) ∨ (k ≠ .cell i j ∧ k ≠ .slot u ∧ cl k = some b) := fun k b hk => by
    simp only [cl'] at hk
    split at hk
    · rename_i e; exact .inl ⟨e, hk⟩
    · rename_i e1
      split at hk
      · cases hk
      · rename_i e2; exact .inr ⟨e1, e2, hk⟩
  have same : ∀ k, k ≠ .slot u → k ≠ .cell i j → cl' k = cl k := fun k e1 e2 => by simp only [cl', if_neg e1, if_neg e2]
  have keep : ∀ k d v, k ≠ .slot u → k ≠ .cell i j → Own w Z cl k d v → Own w Z cl' k d v := fun k d v e1 e2 ho sz ys hd b off cap hv hlt => by
    obtain ⟨q1, q2, q3⟩ := ho sz ys hd b off cap hv hlt
    exact ⟨q1, by rw [same k e1 e2]; exact q2, q3⟩
  have hget : ∀ x, AS.get { s with env := (u, .sl xs) :: s.env, S := s.S.set i (.cells (cs.set j (.osl z xs))) } x = if u = x then .sl xs else s.get x := fun x => by simp only [AS.get, lk]
  refine ⟨cl', ?_, fun k b hk => ?_⟩
  · exact {
      zc := h.zc
      inj := fun k k' b hk hk' => by
        rcases src k b hk with ⟨e1, e2⟩ | ⟨e1, e2, e3⟩ <;> rcases src k' b hk' with ⟨f1, f2⟩ | ⟨f1, f2, f3⟩
        · rw [e1, f1]
        · exact absurd (h.inj _ _ b e2 f3).symm f2
        · exact absurd (h.inj _ _ b e3 f2) e2
        · exact h.inj _ _ b e3 f3
      lt := fun k b hk => by
        rcases src k b hk with ⟨_, e2⟩ | ⟨_, _, e3⟩
        · exact h.lt _ b e2
        · exact h.lt _ b e3
      ml := by simp [h.ml]
      mlt := h.mlt
      obj := fun i' cs' b' hs hm' => by
        by_cases hi : i = i'
        · subst hi
          rw [hm] at hm'; cases hm'
          rw [List.getElem?_set_self hilt] at hs; cases hs
          refine ⟨by rw [same _ (by simp) (by simp)]; exact h1, h2, vs, e, h3, by simp [h4], h6, fun j' d v hd hv => ?_⟩
          by_cases hjj : j = j'
          · subst hjj
            rw [List.getElem?_set_self hjlt] at hd; cases hd
            rw [hval] at hv; cases hv
            refine ⟨hrv, fun sz ys hd b off cap hv hlt => ?_⟩
            obtain ⟨q1, q2, q3⟩ := hown sz ys hd b off cap hv hlt
            exact ⟨q1, by simp only [cl', if_true]; exact q2, q3⟩
          · rw [List.getElem?_set_ne hjj] at hd
            obtain ⟨g1, g2⟩ := h5 j' d v hd hv
            exact ⟨g1, keep _ _ _ (by simp) (by simpa using fun e => hjj e.symm) g2⟩
        · rw [List.getElem?_set_ne hi] at hs
          obtain ⟨g1, g2, vs', e', g3, g4, g6, g5⟩ := h.obj i' cs' b' hs hm'
          exact ⟨by rw [same _ (by simp) (by simp)]; exact g1, g2, vs', e', g3, g4, g6, fun j' d v hd hv => ⟨(g5 j' d v hd hv).1, keep _ _ _ (by simp) (by simp only [ne_eq, Key.cell.injEq, not_and]; intro e; exact absurd e.symm hi) (g5 j' d v hd hv).2⟩⟩
      aro := fun i' cs' b' hs hm' => by
        by_cases hi : i = i'
        · subst hi; rw [List.getElem?_set_self hilt] at hs; cases hs
        · rw [List.getElem?_set_ne hi] at hs
          obtain ⟨g1, g2⟩ := h.aro i' cs' b' hs hm'
          exact ⟨by rw [same _ (by simp) (by simp)]; exact g1, g2⟩
      mpo := fun i' L b' hs hm' => by
        by_cases hi : i = i'
        · subst hi; rw [List.getElem?_set_self hilt] at hs; cases hs
        · rw [List.getElem?_set_ne hi] at hs
          obtain ⟨g1, g2⟩ := h.mpo i' L b' hs hm'
          exact ⟨by rw [same _ (by simp) (by simp)]; exact g1, g2⟩
      objlt := fun i' b' hk => by
        rw [same _ (by simp) (by simp)] at hk
        simp; exact h.objlt i' b' hk
      sz := h.sz
      df := h.df
      rv := fun x => by
        rw [hget]; split
        · rename_i e; subst e; exact hrv.dis
        · exact h.rv x
      ow := fun x => by
        rw [hget]; split
        · exact Own.of_ne (by simp)
        · rename_i hne; exact keep _ _ _ (by simpa using fun e => hne e.symm) (by simp) (h.ow x)
      eqv := h.eqv
      eqc := fun x i' j' cs' b' vs' e' fr hx hs hm' hh => by
        by_cases hi : i = i'
        · subst hi; exact h.eqc x i j' cs b' vs' e' fr hx hS hm' hh
        · rw [List.getElem?_set_ne hi] at hs; exact h.eqc x i' j' cs' b' vs' e' fr hx hs hm' hh }
  · rcases src k b hk with ⟨_, e2⟩ | ⟨_, _, e3⟩
    · exact ⟨_, e2⟩
    · exact ⟨_, e3⟩

/-- A new array. -/
theorem Rel.newArr (h : Rel w Z m cl s a) {ds : List D} {vs : Array Value} (e : TypeId) (hl : ds.length = vs.size) (ho : ∀ v ∈ vs, v.oneCell' = true)
    (hv : ∀ (i : Nat) (d : D) (v : Value), ds[i]? = some d → vs[i]? = some v → Rv w Z [] d v) :
    Rel (w.alloc (.cells vs e)) Z (m ++ [w.heap.size]) (clObj cl s.S.length w.heap.size) { s with S := s.S ++ [.arr ds], eqs := [] } a ∧
    Step w Z m cl (w.alloc (.cells vs e)) Z (m ++ [w.heap.size]) (clObj cl s.S.length w.heap.size) := by
  have src : ∀ k b, clObj cl s.S.length w.heap.size k = some b → (k = .obj s.S.length ∧ b = w.heap.size) ∨ (k ≠ .obj s.S.length ∧ cl k = some b) := fun k b hk => by
    unfold clObj at hk
    split at hk
    · exact .inl ⟨by assumption, by cases hk; rfl⟩
    · exact .inr ⟨by assumption, hk⟩
  have oldcell : ∀ b o, Z b o → (w.alloc (.cells vs e)).cell? ⟨b, o, none⟩ = w.cell? ⟨b, o, none⟩ := fun b o hz => by
    obtain ⟨v, hv⟩ := h.zc b o hz
    exact World.cell?_alloc_lt w _ ⟨b, o, none⟩ (cell_lt hv)
  have hst : Step w Z m cl (w.alloc (.cells vs e)) Z (m ++ [w.heap.size]) (clObj cl s.S.length w.heap.size) := {
    os := rfl, tape := rfl, output := rfl, size := by simp
    frame := fun b hb _ => Go.RowKit.Below.heap_alloc w _ b hb
    zmono := fun _ _ h => h
    zold := fun _ _ _ _ h => h
    keep := oldcell
    clm := fun k b hk => by
      rcases src k b hk with ⟨_, rfl⟩ | ⟨_, hk⟩
      · exact .inl (Nat.le_refl _)
      · exact .inr ⟨k, hk⟩ }
  have own : ∀ k d v, k ≠ .obj s.S.length → Own w Z cl k d v → Own (w.alloc (.cells vs e)) Z (clObj cl s.S.length w.heap.size) k d v := fun k d v hk ho sz xs hd b off cap hv hlt => by
    obtain ⟨q1, q2, q3, q4, vs2, e2, q5, q6⟩ := ho sz xs hd b off cap hv hlt
    exact ⟨q1, by unfold clObj; rw [if_neg hk]; exact q2, q3, q4, vs2, e2, by rw [Go.RowKit.Below.heap_alloc w _ b (h.lt _ _ q2)]; exact q5, q6⟩
  have mm : ∀ (i b : Nat), m[i]? = some b → (m ++ [w.heap.size])[i]? = some b := fun i b hm => by
    rw [List.getElem?_append_left (List.getElem?_eq_some_iff.1 hm).1]; exact hm
  refine ⟨?_, hst⟩
  exact {
    zc := fun b o hz => by obtain ⟨v, hv⟩ := h.zc b o hz; exact ⟨v, by rw [oldcell b o hz]; exact hv⟩
    inj := fun k k' b hk hk' => by
      rcases src k b hk with ⟨e1, e2⟩ | ⟨e1, e2⟩ <;> rcases src k' b hk' with ⟨f1, f2⟩ | ⟨f1, f2⟩
      · rw [e1, f1]
      · have := h.lt _ _ f2; omega
      · have := h.lt _ _ e2; omega
      · exact h.inj k k' b e2 f2
    lt := fun k b hk => by
      rcases src k b hk with ⟨_, rfl⟩ | ⟨_, hk⟩
      · simp
      · have := h.lt _ _ hk; simp; omega
    ml := by simp [h.ml]
    mlt := fun i b hm => by
      simp only [World.size_alloc]
      by_cases hi : i < m.length
      · rw [List.getElem?_append_left hi] at hm; have := h.mlt i b hm; omega
      · rw [List.getElem?_append_right (by omega)] at hm
        have := (List.getElem?_eq_some_iff.1 hm).1
        have hi0 : i - m.length = 0 := by simpa using this
        rw [hi0] at hm; simp at hm; omega
    obj := fun i cs b hs hm => by
      by_cases hi : i < s.S.length
      · rw [List.getElem?_append_left hi] at hs
        rw [List.getElem?_append_left (by rw [h.ml]; exact hi)] at hm
        obtain ⟨h1, h2, vs2, e2, h3, h4, h6, h5⟩ := h.obj i cs b hs hm
        refine ⟨by unfold clObj; rw [if_neg (by simp; omega)]; exact h1, h2, vs2, e2, by rw [Go.RowKit.Below.heap_alloc w _ b (h.lt _ _ h1)]; exact h3, h4, h6, fun j d v hd hv => ⟨hst.rvm mm (h5 j d v hd hv).1, own _ _ _ (by simp) (h5 j d v hd hv).2⟩⟩
      · rw [List.getElem?_append_right (by omega)] at hs
        have hi0 : i - s.S.length = 0 := by have := (List.getElem?_eq_some_iff.1 hs).1; simpa using this
        rw [hi0] at hs
        simp at hs
    aro := fun i cs b hs hm => by
      by_cases hi : i < s.S.length
      · rw [List.getElem?_append_left hi] at hs
        rw [List.getElem?_append_left (by rw [h.ml]; exact hi)] at hm
        obtain ⟨h1, h2, vs2, e2, h3, h4, h6, h5⟩ := h.aro i cs b hs hm
        exact ⟨by unfold clObj; rw [if_neg (by simp; omega)]; exact h1, h2, vs2, e2, by rw [Go.RowKit.Below.heap_alloc w _ b (h.lt _ _ h1)]; exact h3, h4, h6, fun j d v hd hv => hst.rv (h5 j d v hd hv)⟩
      · rw [List.getElem?_append_right (by omega)] at hs
        rw [List.getElem?_append_right (by rw [h.ml]; omega), h.ml] at hm
        have hi0 : i - s.S.length = 0 := by have := (List.getElem?_eq_some_iff.1 hs).1; simpa using this
        have hi' : i = s.S.length := by omega
        rw [hi0] at hs hm
        simp at hs hm; subst hs; subst hm; subst hi'
        refine ⟨by simp [clObj], fun o hz => ?_, vs, e, heap_new w _, hl.symm, ho, fun j d v hd hv' => hst.rv (hv j d v hd hv')⟩
        obtain ⟨v, hv⟩ := h.zc _ _ hz
        have := cell_lt hv; omega
    mpo := fun i L b hs hm => by
      by_cases hi : i < s.S.length
      · rw [List.getElem?_append_left hi] at hs
        rw [List.getElem?_append_left (by rw [h.ml]; exact hi)] at hm
        obtain ⟨h1, es, c, h3, h4, h5⟩ := h.mpo i L b hs hm
        exact ⟨by unfold clObj; rw [if_neg (by simp; omega)]; exact h1, es, c, by rw [Go.RowKit.Below.heap_alloc w _ b (h.lt _ _ h1)]; exact h3, h4, fun j p e hp he => ⟨hst.rv (h5 j p e hp he).1, hst.rv (h5 j p e hp he).2⟩⟩
      · rw [List.getElem?_append_right (by omega)] at hs
        have hi0 : i - s.S.length = 0 := by have := (List.getElem?_eq_some_iff.1 hs).1; simpa using this
        rw [hi0] at hs
        simp at hs
    objlt := fun i b hk => by
      rcases src _ b hk with ⟨e1, _⟩ | ⟨_, hk⟩
      · simp at e1; simp; omega
      · have := h.objlt i b hk; simp; omega
    sz := h.sz
    df := h.df
    rv := fun t => hst.rvm mm (h.rv t)
    ow := fun t => own _ _ _ (by simp) (h.ow t)
    eqv := fun x y hxy => by cases hxy
    eqc := fun x i j cs b vs2 e2 fr hxy hs hm hh => by cases hxy }

/-- A new map. -/
theorem Rel.newMap (h : Rel w Z m cl s a) :
    Rel (w.alloc (.map #[] 0)) Z (m ++ [w.heap.size]) (clObj cl s.S.length w.heap.size) { s with S := s.S ++ [.mp []], eqs := [] } a ∧
    Step w Z m cl (w.alloc (.map #[] 0)) Z (m ++ [w.heap.size]) (clObj cl s.S.length w.heap.size) := by
  have src : ∀ k b, clObj cl s.S.length w.heap.size k = some b → (k = .obj s.S.length ∧ b = w.heap.size) ∨ (k ≠ .obj s.S.length ∧ cl k = some b) := fun k b hk => by
    unfold clObj at hk
    split at hk
    · exact .inl ⟨by assumption, by cases hk; rfl⟩
    · exact .inr ⟨by assumption, hk⟩
  have oldcell : ∀ b o, Z b o → (w.alloc (.map #[] 0)).cell? ⟨b, o, none⟩ = w.cell? ⟨b, o, none⟩ := fun b o hz => by
    obtain ⟨v, hv⟩ := h.zc b o hz
    exact World.cell?_alloc_lt w _ ⟨b, o, none⟩ (cell_lt hv)
  have hst : Step w Z m cl (w.alloc (.map #[] 0)) Z (m ++ [w.heap.size]) (clObj cl s.S.length w.heap.size) := {
    os := rfl, tape := rfl, output := rfl, size := by simp
    frame := fun b hb _ => Go.RowKit.Below.heap_alloc w _ b hb
    zmono := fun _ _ h => h
    zold := fun _ _ _ _ h => h
    keep := oldcell
    clm := fun k b hk => by
      rcases src k b hk with ⟨_, rfl⟩ | ⟨_, hk⟩
      · exact .inl (Nat.le_refl _)
      · exact .inr ⟨k, hk⟩ }
  have own : ∀ k d v, k ≠ .obj s.S.length → Own w Z cl k d v → Own (w.alloc (.map #[] 0)) Z (clObj cl s.S.length w.heap.size) k d v := fun k d v hk ho sz xs hd b off cap hv hlt => by
    obtain ⟨q1, q2, q3, q4, vs2, e2, q5, q6⟩ := ho sz xs hd b off cap hv hlt
    exact ⟨q1, by unfold clObj; rw [if_neg hk]; exact q2, q3, q4, vs2, e2, by rw [Go.RowKit.Below.heap_alloc w _ b (h.lt _ _ q2)]; exact q5, q6⟩
  have mm : ∀ (i b : Nat), m[i]? = some b → (m ++ [w.heap.size])[i]? = some b := fun i b hm => by
    rw [List.getElem?_append_left (List.getElem?_eq_some_iff.1 hm).1]; exact hm
  refine ⟨?_, hst⟩
  exact {
    zc := fun b o hz => by obtain ⟨v, hv⟩ := h.zc b o hz; exact ⟨v, by rw [oldcell b o hz]; exact hv⟩
    inj := fun k k' b hk hk' => by
      rcases src k b hk with ⟨e1, e2⟩ | ⟨e1, e2⟩ <;> rcases src k' b hk' with ⟨f1, f2⟩ | ⟨f1, f2⟩
      · rw [e1, f1]
      · have := h.lt _ _ f2; omega
      · have := h.lt _ _ e2; omega
      · exact h.inj k k' b e2 f2
    lt := fun k b hk => by
      rcases src k b hk with ⟨_, rfl⟩ | ⟨_, hk⟩
      · simp
      · have := h.lt _ _ hk; simp; omega
    ml := by simp [h.ml]
    mlt := fun i b hm => by
      simp only [World.size_alloc]
      by_cases hi : i < m.length
      · rw [List.getElem?_append_left hi] at hm; have := h.mlt i b hm; omega
      · rw [List.getElem?_append_right (by omega)] at hm
        have := (List.getElem?_eq_some_iff.1 hm).1
        have hi0 : i - m.length = 0 := by simpa using this
        rw [hi0] at hm; simp at hm; omega
    obj := fun i cs b hs hm => by
      by_cases hi : i < s.S.length
      · rw [List.getElem?_append_left hi] at hs
        rw [List.getElem?_append_left (by rw [h.ml]; exact hi)] at hm
        obtain ⟨h1, h2, vs2, e2, h3, h4, h6, h5⟩ := h.obj i cs b hs hm
        refine ⟨by unfold clObj; rw [if_neg (by simp; omega)]; exact h1, h2, vs2, e2, by rw [Go.RowKit.Below.heap_alloc w _ b (h.lt _ _ h1)]; exact h3, h4, h6, fun j d v hd hv => ⟨hst.rvm mm (h5 j d v hd hv).1, own _ _ _ (by simp) (h5 j d v hd hv).2⟩⟩
      · rw [List.getElem?_append_right (by omega)] at hs
        have hi0 : i - s.S.length = 0 := by have := (List.getElem?_eq_some_iff.1 hs).1; simpa using this
        rw [hi0] at hs
        simp at hs
    aro := fun i cs b hs hm => by
      by_cases hi : i < s.S.length
      · rw [List.getElem?_append_left hi] at hs
        rw [List.getElem?_append_left (by rw [h.ml]; exact hi)] at hm
        obtain ⟨h1, h2, vs2, e2, h3, h4, h6, h5⟩ := h.aro i cs b hs hm
        exact ⟨by unfold clObj; rw [if_neg (by simp; omega)]; exact h1, h2, vs2, e2, by rw [Go.RowKit.Below.heap_alloc w _ b (h.lt _ _ h1)]; exact h3, h4, h6, fun j d v hd hv => hst.rv (h5 j d v hd hv)⟩
      · rw [List.getElem?_append_right (by omega)] at hs
        have hi0 : i - s.S.length = 0 := by have := (List.getElem?_eq_some_iff.1 hs).1; simpa using this
        rw [hi0] at hs
        simp at hs
    mpo := fun i L b hs hm => by
      by_cases hi : i < s.S.length
      · rw [List.getElem?_append_left hi] at hs
        rw [List.getElem?_append_left (by rw [h.ml]; exact hi)] at hm
        obtain ⟨h1, es, c, h3, h4, h5⟩ := h.mpo i L b hs hm
        exact ⟨by unfold clObj; rw [if_neg (by simp; omega)]; exact h1, es, c, by rw [Go.RowKit.Below.heap_alloc w _ b (h.lt _ _ h1)]; exact h3, h4, fun j p e hp he => ⟨hst.rv (h5 j p e hp he).1, hst.rv (h5 j p e hp he).2⟩⟩
      · rw [List.getElem?_append_right (by omega)] at hs
        rw [List.getElem?_append_right (by rw [h.ml]; omega), h.ml] at hm
        have hi0 : i - s.S.length = 0 := by have := (List.getElem?_eq_some_iff.1 hs).1; simpa using this
        have hi' : i = s.S.length := by omega
        rw [hi0] at hs hm
        simp at hs hm; subst hs; subst hm; subst hi'
        exact ⟨by simp [clObj], #[], 0, heap_new w _, rfl, fun j p e hp => by simp at hp⟩
    objlt := fun i b hk => by
      rcases src _ b hk with ⟨e1, _⟩ | ⟨_, hk⟩
      · simp at e1; simp; omega
      · have := h.objlt i b hk; simp; omega
    sz := h.sz
    df := h.df
    rv := fun t => hst.rvm mm (h.rv t)
    ow := fun t => own _ _ _ (by simp) (h.ow t)
    eqv := fun x y hxy => by cases hxy
    eqc := fun x i j cs b vs2 e2 fr hxy hs hm hh => by cases hxy }

/-- The cells of an array are replaced. -/
theorem Rel.storeArr (h : Rel w Z m cl s a) {i b : Nat} {cs cs' : List D} {vs vs' : Array Value} {e : TypeId} (hs : s.S[i]? = some (.arr cs)) (hm : m[i]? = some b) (hh : w.heap[b]? = some (.cells vs e (0, 0)))
    (hsz : vs'.size = vs.size) (hl : cs'.length = vs.size) (ho : ∀ v ∈ vs', v.oneCell' = true)
    (hv : ∀ (j : Nat) d v, cs'[j]? = some d → vs'[j]? = some v → Rv w Z [] d v) :
    Rel (w.setRow b vs') Z m cl { s with S := s.S.set i (.arr cs'), eqs := [] } a ∧ Step w Z m cl (w.setRow b vs') Z m cl := by
  obtain ⟨h1, h2, vs0, e0, h3, h4, h6, h5⟩ := h.aro i cs b hs hm
  have hilt : i < s.S.length := (List.getElem?_eq_some_iff.1 hs).1
  have hcell : ∀ b' o, Z b' o → (w.setRow b vs').cell? ⟨b', o, none⟩ = w.cell? ⟨b', o, none⟩ := fun b' o hz =>
    cell_setRow_other w b vs' ⟨b', o, none⟩ fun e => h2 o (by simp only at e; rw [← e]; exact hz)
  have hst : Step w Z m cl (w.setRow b vs') Z m cl := {
    os := rfl, tape := rfl, output := rfl, size := by simp
    frame := fun b' _ hk => setRow_other w b b' vs' fun e => hk (.obj i) (by rw [e]; exact h1)
    zmono := fun _ _ h => h
    zold := fun _ _ _ _ h => h
    keep := hcell
    clm := fun k b h => .inr ⟨k, h⟩ }
  have own : ∀ k d v, Own w Z cl k d v → (∀ b', cl k = some b' → b' ≠ b) → Own (w.setRow b vs') Z cl k d v := fun k d v ho hne sz xs hd b' off cap hv hlt => by
    obtain ⟨q1, q2, q3, q4, vs2, e2, q5, q6⟩ := ho sz xs hd b' off cap hv hlt
    exact ⟨q1, q2, q3, q4, vs2, e2, by rw [setRow_other w b b' vs' (hne b' q2)]; exact q5, q6⟩
  have ne : ∀ k, k ≠ .obj i → ∀ b', cl k = some b' → b' ≠ b := fun k hk b' hb e => hk (h.inj k (.obj i) b (by rw [← e]; exact hb) h1)
  refine ⟨?_, hst⟩
  exact {
    zc := fun b' o hz => by obtain ⟨v, hv⟩ := h.zc b' o hz; exact ⟨v, by rw [hcell b' o hz]; exact hv⟩
    inj := h.inj
    lt := fun k b' hk => by simp; exact h.lt k b' hk
    ml := by simp [h.ml]
    mlt := fun j b' hm => by simp; exact h.mlt j b' hm
    obj := fun j cs2 b2 hs2 hm2 => by
      by_cases hj : i = j
      · subst hj
        rw [List.getElem?_set_self hilt] at hs2; cases hs2
      · rw [List.getElem?_set_ne hj] at hs2
        obtain ⟨g1, g2, vs2, e2, g3, g4, g6, g5⟩ := h.obj j cs2 b2 hs2 hm2
        have hb : b2 ≠ b := ne _ (by simpa using fun e => hj e.symm) b2 g1
        exact ⟨g1, g2, vs2, e2, by rw [setRow_other w b b2 vs' hb]; exact g3, g4, g6, fun j d v hd hv' => ⟨hst.rv (g5 j d v hd hv').1, own _ _ _ (g5 j d v hd hv').2 (ne _ (by simp))⟩⟩
    aro := fun j cs2 b2 hs2 hm2 => by
      by_cases hj : i = j
      · subst hj
        rw [hm] at hm2; cases hm2
        rw [List.getElem?_set_self hilt] at hs2; cases hs2
        exact ⟨h1, h2, vs', e, setRow_heap w b vs vs' e (0, 0) hh, by rw [hsz, hl], ho, fun j d v hd hv' => hst.rv (hv j d v hd hv')⟩
      · rw [List.getElem?_set_ne hj] at hs2
        obtain ⟨g1, g2, vs2, e2, g3, g4, g6, g5⟩ := h.aro j cs2 b2 hs2 hm2
        have hb : b2 ≠ b := ne _ (by simpa using fun e => hj e.symm) b2 g1
        exact ⟨g1, g2, vs2, e2, by rw [setRow_other w b b2 vs' hb]; exact g3, g4, g6, fun j d v hd hv' => hst.rv (g5 j d v hd hv')⟩
    mpo := fun j L b2 hs2 hm2 => by
      by_cases hj : i = j
      · subst hj
        rw [List.getElem?_set_self hilt] at hs2; cases hs2
      · rw [List.getElem?_set_ne hj] at hs2
        obtain ⟨g1, es, c, g3, g4, g5⟩ := h.mpo j L b2 hs2 hm2
        have hb : b2 ≠ b := ne _ (by simpa using fun e => hj e.symm) b2 g1
        exact ⟨g1, es, c, by rw [setRow_other w b b2 vs' hb]; exact g3, g4, fun j p e hp he => ⟨hst.rv (g5 j p e hp he).1, hst.rv (g5 j p e hp he).2⟩⟩
    objlt := fun j b' hk => by simp; exact h.objlt j b' hk
    sz := h.sz
    df := h.df
    rv := fun t => hst.rv (h.rv t)
    ow := fun t => own _ _ _ (h.ow t) (ne _ (by simp))
    eqv := fun x y hxy => by cases hxy
    eqc := fun x i j cs b vs2 e2 fr hxy hs hm hh => by cases hxy }

/-- A map's entries are replaced. -/
theorem Rel.storeMap (h : Rel w Z m cl s a) {i b : Nat} {L L' : List (D × D)} {es' : Array MapEntry} {es : Array MapEntry} {clk clk' : Nat} (hs : s.S[i]? = some (.mp L)) (hm : m[i]? = some b) (hh : w.heap[b]? = some (.map es clk))
    (hl : es'.size = L'.length) (hv : ∀ (j : Nat) p e, L'[j]? = some p → es'[j]? = some e → Rv w Z [] p.1 e.key ∧ Rv w Z [] p.2 e.val) :
    Rel { w with heap := w.heap.setIfInBounds b (.map es' clk') } Z m cl { s with S := s.S.set i (.mp L'), eqs := [] } a ∧ Step w Z m cl { w with heap := w.heap.setIfInBounds b (.map es' clk') } Z m cl := by
  obtain ⟨h1, es0, clk0, h3, h4, h5⟩ := h.mpo i L b hs hm
  have hilt : i < s.S.length := (List.getElem?_eq_some_iff.1 hs).1
  have other : ∀ b', b' ≠ b → (w.heap.setIfInBounds b (.map es' clk'))[b']? = w.heap[b']? := fun b' hb => by
    rw [Array.getElem?_setIfInBounds]; rw [if_neg (Ne.symm hb)]
  have hblt : b < w.heap.size := h.lt _ _ h1
  have self : (w.heap.setIfInBounds b (.map es' clk'))[b]? = some (.map es' clk') := by
    rw [Array.getElem?_setIfInBounds]; simp [hblt]
  have hcell : ∀ b' o, Z b' o → World.cell? { w with heap := w.heap.setIfInBounds b (.map es' clk') } ⟨b', o, none⟩ = w.cell? ⟨b', o, none⟩ := fun b' o hz => by
    have hne : b' ≠ b := fun e => by
      obtain ⟨v, hv⟩ := h.zc b' o hz
      rw [e] at hv; simp [World.cell?, hh] at hv
    unfold World.cell?
    simp only [other b' hne]
  have hst : Step w Z m cl { w with heap := w.heap.setIfInBounds b (.map es' clk') } Z m cl := {
    os := rfl, tape := rfl, output := rfl, size := by simp
    frame := fun b' _ hk => other b' fun e => hk (.obj i) (by rw [e]; exact h1)
    zmono := fun _ _ h => h
    zold := fun _ _ _ _ h => h
    keep := hcell
    clm := fun k b h => .inr ⟨k, h⟩ }
  have own : ∀ k d v, Own w Z cl k d v → (∀ b', cl k = some b' → b' ≠ b) → Own { w with heap := w.heap.setIfInBounds b (.map es' clk') } Z cl k d v := fun k d v ho hne sz xs hd b' off cap hv hlt => by
    obtain ⟨q1, q2, q3, q4, vs2, e2, q5, q6⟩ := ho sz xs hd b' off cap hv hlt
    exact ⟨q1, q2, q3, q4, vs2, e2, by simp only [other b' (hne b' q2)]; exact q5, q6⟩
  have ne : ∀ k, k ≠ .obj i → ∀ b', cl k = some b' → b' ≠ b := fun k hk b' hb e => hk (h.inj k (.obj i) b (by rw [← e]; exact hb) h1)
  refine ⟨?_, hst⟩
  exact {
    zc := fun b' o hz => by obtain ⟨v, hv⟩ := h.zc b' o hz; exact ⟨v, by rw [hcell b' o hz]; exact hv⟩
    inj := h.inj
    lt := fun k b' hk => by simp; exact h.lt k b' hk
    ml := by simp [h.ml]
    mlt := fun j b' hm => by simp; exact h.mlt j b' hm
    obj := fun j cs2 b2 hs2 hm2 => by
      by_cases hj : i = j
      · subst hj
        rw [List.getElem?_set_self hilt] at hs2; cases hs2
      · rw [List.getElem?_set_ne hj] at hs2
        obtain ⟨g1, g2, vs2, e2, g3, g4, g6, g5⟩ := h.obj j cs2 b2 hs2 hm2
        have hb : b2 ≠ b := ne _ (by simpa using fun e => hj e.symm) b2 g1
        exact ⟨g1, g2, vs2, e2, by simp only [other b2 hb]; exact g3, g4, g6, fun j d v hd hv' => ⟨hst.rv (g5 j d v hd hv').1, own _ _ _ (g5 j d v hd hv').2 (ne _ (by simp))⟩⟩
    aro := fun j cs2 b2 hs2 hm2 => by
      by_cases hj : i = j
      · subst hj
        rw [List.getElem?_set_self hilt] at hs2; cases hs2
      · rw [List.getElem?_set_ne hj] at hs2
        obtain ⟨g1, g2, vs2, e2, g3, g4, g6, g5⟩ := h.aro j cs2 b2 hs2 hm2
        have hb : b2 ≠ b := ne _ (by simpa using fun e => hj e.symm) b2 g1
        exact ⟨g1, g2, vs2, e2, by simp only [other b2 hb]; exact g3, g4, g6, fun j d v hd hv' => hst.rv (g5 j d v hd hv')⟩
    mpo := fun j L2 b2 hs2 hm2 => by
      by_cases hj : i = j
      · subst hj
        rw [hm] at hm2; cases hm2
        rw [List.getElem?_set_self hilt] at hs2; cases hs2
        exact ⟨h1, es', clk', self, hl, fun j p e hp he => ⟨hst.rv (hv j p e hp he).1, hst.rv (hv j p e hp he).2⟩⟩
      · rw [List.getElem?_set_ne hj] at hs2
        obtain ⟨g1, es2, c2, g3, g4, g5⟩ := h.mpo j L2 b2 hs2 hm2
        have hb : b2 ≠ b := ne _ (by simpa using fun e => hj e.symm) b2 g1
        exact ⟨g1, es2, c2, by simp only [other b2 hb]; exact g3, g4, fun j p e hp he => ⟨hst.rv (g5 j p e hp he).1, hst.rv (g5 j p e hp he).2⟩⟩
    objlt := fun j b' hk => by simp; exact h.objlt j b' hk
    sz := h.sz
    df := h.df
    rv := fun t => hst.rv (h.rv t)
    ow := fun t => own _ _ _ (h.ow t) (ne _ (by simp))
    eqv := fun x y hxy => by cases hxy
    eqc := fun x i j cs b vs e fr hxy hs hm hh => by cases hxy }

end
end Go.AL
