/-
  The rules for code: what must be shown of abstract states so that the code, run in the model, ends as asked.
-/
import Derived.Test.YtikgppgpailmcaaAlAv
namespace Go.AL

/-- Give up the right to append that a slot holds. -/
def AS.degrade (s : AS) (t : Nat) : AS := { s with env := (t, (s.get t).dis) :: s.env }

section
variable {P : Program} {w : World} {Z : Zone} {m : List Nat} {cl : Cl} {s : AS} {a : Act}

theorem Rel.transfer (h : Rel w Z m cl s a) (t : Nat) (u : Nat) (_hne : u ≠ t) : ∃ cl', Rel w Z m cl' ((s.degrade t).put (some u) (s.get t)) (a.put (some u) (a.tmps.getD t undef)) ∧ Step w Z m cl w Z m cl' := by
  let cl' : Cl := fun k => match k with
    | .slot x => if x = u then cl (.slot t) else if x = t then none else cl (.slot x)
    | k => cl k
  have src : ∀ k b, cl' k = some b → ∃ k', cl k' = some b := fun k b hk => by
    cases k with
    | slot x => simp only [cl'] at hk; split at hk
                · exact ⟨_, hk⟩
                · split at hk
                  · cases hk
                  · exact ⟨_, hk⟩
    | cell i j => exact ⟨_, hk⟩
    | obj i => exact ⟨_, hk⟩
  have inj : ∀ k k' b, cl' k = some b → cl' k' = some b → k = k' := fun k k' b hk hk' => by
    cases k <;> cases k' <;> simp only [cl'] at hk hk'
    case slot.slot x y =>
      by_cases hx : x = u <;> by_cases hy : y = u
      · rw [hx, hy]
      · simp only [hx, hy, if_true, if_false] at hk hk'
        by_cases hyt : y = t
        · simp [hyt] at hk'
        · simp only [hyt, if_false] at hk'
          have := h.inj _ _ _ hk hk'; simp at this; exact absurd this.symm hyt
      · simp only [hx, hy, if_true, if_false] at hk hk'
        by_cases hxt : x = t
        · simp [hxt] at hk
        · simp only [hxt, if_false] at hk
          have := h.inj _ _ _ hk hk'; simp at this; exact absurd this hxt
      · simp only [hx, hy, if_false] at hk hk'
        by_cases hxt : x = t
        · simp [hxt] at hk
        · by_cases hyt : y = t
          · simp [hyt] at hk'
          · simp only [hxt, hyt, if_false] at hk hk'
            exact h.inj _ _ _ hk hk'
    case slot.cell x i j =>
      exfalso
      split at hk
      · exact absurd (h.inj _ _ _ hk hk') (by simp)
      · split at hk
        · cases hk
        · exact absurd (h.inj _ _ _ hk hk') (by simp)
    case slot.obj x i =>
      exfalso
      split at hk
      · exact absurd (h.inj _ _ _ hk hk') (by simp)
      · split at hk
        · cases hk
        · exact absurd (h.inj _ _ _ hk hk') (by simp)
    case cell.slot i j x =>
      exfalso
      split at hk'
      · exact absurd (h.inj _ _ _ hk hk') (by simp)
      · split at hk'
        · cases hk'
        · exact absurd (h.inj _ _ _ hk hk') (by simp)
    case obj.slot i x =>
      exfalso
      split at hk'
      · exact absurd (h.inj _ _ _ hk hk') (by simp)
      · split at hk'
        · cases hk'
        · exact absurd (h.inj _ _ _ hk hk') (by simp)
    all_goals exact h.inj _ _ _ hk hk'
  have relS : RelS w Z m cl' s.S := {
    zc := h.zc
    inj := inj
    lt := fun k b hk => (let ⟨k', hk'⟩ := src k b hk; h.lt k' b hk')
    ml := h.ml
    mlt := h.mlt
    obj := fun i cs b hs hm => by
      obtain ⟨h1, h2, vs, e, h3, h4, h6, h5⟩ := h.obj i cs b hs hm
      exact ⟨h1, h2, vs, e, h3, h4, h6, fun j d v hd hv => ⟨(h5 j d v hd hv).1, (h5 j d v hd hv).2⟩⟩
    aro := fun i L b hs hm => h.aro i L b hs hm
    mpo := fun i L b hs hm => h.mpo i L b hs hm
    objlt := h.objlt }
  have base : Rel w Z m cl' (s.degrade t) a → Rel w Z m cl' ((s.degrade t).put (some u) (s.get t)) (a.put (some u) (a.tmps.getD t undef)) := fun hb =>
    hb.put (some u) _ _ (h.rv t) fun x hx => by
      cases hx
      intro sz xs hd b off cap hv hlt
      obtain ⟨h1, h2, h3⟩ := h.ow t sz xs hd b off cap hv hlt
      exact ⟨h1, by simp only [cl', if_true]; exact h2, h3⟩
  by_cases hu : u < s.n
  · -- the old content of u is overwritten: its right is let go
    refine ⟨cl', ?_, ⟨rfl, rfl, rfl, Nat.le_refl _, fun _ _ _ => rfl, fun _ _ h => h, fun _ _ _ _ h => h, fun _ _ _ => rfl, fun k b hk => .inr (src k b hk)⟩⟩
    have hu' : u < a.tmps.size := by rw [h.sz]; exact hu
    have hget : ∀ x, ((s.degrade t).put (some u) (s.get t)).get x = if u = x then s.get t else if t = x then (s.get t).dis else s.get x := by
      intro x
      rw [AS.get_put]
      simp only [AS.degrade, hu, if_true]
      split
      · rfl
      · simp only [AS.get, lk]
    exact {
      toRelS := by rw [AS.put_S]; exact relS
      sz := by rw [AS.put_n]; simp [Act.put, AS.degrade]; exact h.sz
      df := h.df
      rv := fun x => by
        rw [hget, Act.getD_put]; simp only [hu', if_true]
        split
        · exact h.rv t
        · split
          · rename_i e; subst e; exact (h.rv _).dis
          · exact h.rv x
      ow := fun x => by
        rw [hget, Act.getD_put]; simp only [hu', if_true]
        split
        · rename_i e; subst e
          intro sz xs hd b off cap hv hlt
          obtain ⟨h1, h2, h3⟩ := h.ow t sz xs hd b off cap hv hlt
          exact ⟨h1, by simp only [cl', if_true]; exact h2, h3⟩
        · rename_i hne'
          split
          · exact Own.dis
          · rename_i hnt
            intro sz xs hd b off cap hv hlt
            obtain ⟨h1, h2, h3⟩ := h.ow x sz xs hd b off cap hv hlt
            exact ⟨h1, by simp only [cl', if_neg (Ne.symm hne'), if_neg (Ne.symm hnt)]; exact h2, h3⟩
      eqv := fun x y he => by
        simp only [AS.put, AS.degrade, hu, if_true, List.mem_filter, bne_iff_ne, ne_eq, Bool.and_eq_true, Loc.slot.injEq] at he
        obtain ⟨he, h1, h2⟩ := he
        rw [Act.getD_put, Act.getD_put]
        simp only [hu', if_true, if_neg (Ne.symm h1), if_neg (Ne.symm h2)]
        exact h.eqv x y he
      eqc := fun x i j cs b vs e fr he hs hm hh => by
        rw [AS.put_S] at hs
        simp only [AS.put, AS.degrade, hu, if_true, List.mem_filter, bne_iff_ne, ne_eq, Bool.and_eq_true] at he
        obtain ⟨he, h1, h2⟩ := he
        rw [Act.getD_put]
        simp only [hu', if_true, if_neg (Ne.symm h1)]
        exact h.eqc x i j cs b vs e fr he hs hm hh }
  · refine ⟨cl, ?_, Step.refl _ _ _ _⟩
    have hu' : ¬ u < a.tmps.size := by rw [h.sz]; exact hu
    have e1 : (a.put (some u) (a.tmps.getD t undef)) = a := by
      cases a; simp only [Act.put, Act.mk.injEq, and_true]
      apply Array.setIfInBounds_eq_of_size_le; simp at hu'; omega
    have e2 : (s.degrade t).put (some u) (s.get t) = s.degrade t := by simp [AS.put, AS.degrade, hu]
    rw [e1, e2]
    have hget : ∀ x, (s.degrade t).get x = if t = x then (s.get t).dis else s.get x := fun x => by simp only [AS.degrade, AS.get, lk]
    exact {
      toRelS := h.toRelS
      sz := h.sz
      df := h.df
      rv := fun x => by
        rw [hget]; split
        · rename_i e; subst e; exact (h.rv _).dis
        · exact h.rv x
      ow := fun x => by
        rw [hget]; split
        · exact Own.dis
        · exact h.ow x
      eqv := h.eqv
      eqc := h.eqc }

end
end Go.AL
