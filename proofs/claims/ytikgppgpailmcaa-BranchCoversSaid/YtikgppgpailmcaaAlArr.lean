/-
  Arrays that are written in place.
-/
import Derived.Test.YtikgppgpailmcaaAlAop
namespace Go.AL

section
variable {P : Program} {w : World} {Z : Zone} {m : List Nat} {cl : Cl} {s : AS} {a : Act}

def storeArrD (P : Program) (t : Nat) (x v : Operand) (dst : Option Nat) (s : AS) (K : AS → Prop) : Prop :=
  dst = none ∧ match refOf (s.ev x) with
  | some (i, off) => ∃ cs g k, s.S[i]? = some (.arr cs) ∧ tag P t = some g ∧ tsz P t = some k ∧
      if g then ∃ ds, s.ev v = .agg ds ∧ ds.length = k ∧ off + k ≤ cs.length ∧ D.okmL 0 ds = true ∧ K { s with S := s.S.set i (Ob.arr (cs.take off ++ ds.map D.dis ++ cs.drop (off + k))), eqs := [] }
      else off < cs.length ∧ k = 1 ∧ (s.ev v).one = true ∧ (s.ev v).okm 0 = true ∧ K { s with S := s.S.set i (Ob.arr (cs.set off (s.ev v).dis)), eqs := [] }
  | _ => False

theorem storeArr_sound {o : Oper} {t : Nat} {x v : Operand} {K : AS → Prop} {K' : Act → World → Prop} {Q : Exit → Act → World → Prop} (ho : o.op = .store t x v) (h : storeArrD P t x v o.dst s K) (hr : Rel w Z m cl s a)
    (hk : ∀ s' a' w' Z' m' cl', K s' → Rel w' Z' m' cl' s' a' → Step w Z m cl w' Z' m' cl' → K' a' w') : o.wp P a w K' Q := by
  obtain ⟨hd, h⟩ := h
  have hx := hr.ev' x
  cases hxd : refOf (s.ev x) <;> rw [hxd] at h <;> simp only at h
  rename_i io
  obtain ⟨i, off⟩ := io
  simp only at h
  obtain ⟨cs, g, k, hs, hg, hsz, h⟩ := h
  obtain ⟨b, hm, hxe⟩ := refOf_rv hx hxd
  obtain ⟨h1, h2, vs, e, h3, h4, h6, h5⟩ := hr.aro i cs b hs hm
  have hput : ∀ (a' : Act), a'.put o.dst Go.undef = a' := fun a' => by rw [hd]; rfl
  have run : ∀ vs', (storeVar t ⟨b, off, none⟩ (a.eval v)).run P w = .ok () (w.setRow b vs') → K' a (w.setRow b vs') → o.wp P a w K' Q := fun vs' hrun hK => by
    unfold Oper.wp
    have : (execOp a.eval o).run P w = .ok .skip (w.setRow b vs') := by
      simp [execOp, ho, Instr.storeAt, hxe, Instr.sureAddr, hrun]
    rw [this]
    simp only [Oper.upon_skip, hput]
    exact hK
  cases g with
  | true =>
    simp only [if_true] at h
    obtain ⟨ds, hds, hdl, hle, hcl, hK⟩ := h
    have hv := hr.ev' v
    rw [hds] at hv
    obtain ⟨us, hve, hul, hone, hur⟩ : ∃ us : Array Value, a.eval v = .agg us ∧ ds.length = us.size ∧ (∀ u ∈ us, u.oneCell' = true) ∧ ∀ (j : Nat) (d : D) (u : Value), ds[j]? = some d → us[j]? = some u → Rv w Z m d u := by
      generalize a.eval v = u at hv
      cases hv; exact ⟨_, rfl, by assumption, by assumption, by assumption⟩
    let vs' : Array Value := (vs.toList.take (off + 0) ++ us.toList ++ vs.toList.drop (off + 0 + us.toList.length)).toArray
    have hul' : us.toList.length = us.size := rfl
    have hvl : vs.toList.length = vs.size := rfl
    have hrun : (storeVar t ⟨b, off, none⟩ (a.eval v)).run P w = .ok () (w.setRow b vs') := by
      have := run_storeCells_at P b off e us.toList 0 vs w h3 (by omega) (fun u hu => hone u (by simpa using hu))
      simp [storeVar, hve, Value.cells, run_size hsz, show us.size = k by omega, this, vs']
    have htl : (vs.toList.take (off + 0)).length = off := by rw [List.length_take]; omega
    have hctl : (cs.take off).length = off := by rw [List.length_take]; omega
    obtain ⟨r1, r2⟩ := hr.storeArr (cs' := cs.take off ++ ds.map D.dis ++ cs.drop (off + k)) (vs' := vs') hs hm h3 (by simp [vs']; omega) (by simp; omega)
      (fun u hu => by
        have hu' : u ∈ vs.toList.take (off + 0) ++ us.toList ++ vs.toList.drop (off + 0 + us.toList.length) := by simpa [vs'] using hu
        simp only [List.mem_append] at hu'
        rcases hu' with (hu' | hu') | hu'
        · exact h6 u (by simpa using List.mem_of_mem_take hu')
        · exact hone u (by simpa using hu')
        · exact h6 u (by simpa using List.mem_of_mem_drop hu'))
      (fun j d u hd hu => by
        have hu' : (vs.toList.take (off + 0) ++ us.toList ++ vs.toList.drop (off + 0 + us.toList.length))[j]? = some u := by simpa [vs'] using hu
        rw [List.append_assoc] at hd hu'
        by_cases hj : j < off
        · rw [List.getElem?_append_left (by omega), List.getElem?_take, if_pos hj] at hd
          rw [List.getElem?_append_left (by omega), List.getElem?_take, if_pos (by omega)] at hu'
          exact h5 j d u hd (by simpa using hu')
        · rw [List.getElem?_append_right (by omega), hctl] at hd
          rw [List.getElem?_append_right (by omega), htl] at hu'
          by_cases hj2 : j - off < k
          · rw [List.getElem?_append_left (by simp; omega), List.getElem?_map, Option.map_eq_some_iff] at hd
            rw [List.getElem?_append_left (by omega)] at hu'
            obtain ⟨d', hd', rfl⟩ := hd
            exact ((hur (j - off) d' u hd' (by simpa using hu')).closed [] (D.okmL_mem hcl d' (List.mem_of_getElem? hd'))).dis
          · rw [List.getElem?_append_right (by simp; omega), List.getElem?_drop, List.length_map] at hd
            rw [List.getElem?_append_right (by omega), List.getElem?_drop] at hu'
            have e1 : off + k + (j - off - ds.length) = j := by omega
            have e2 : off + 0 + us.toList.length + (j - off - us.toList.length) = j := by omega
            rw [e1] at hd; rw [e2] at hu'
            exact h5 j d u hd (by simpa using hu'))
    exact run vs' hrun (hk _ _ _ _ _ _ hK r1 r2)
  | false =>
    simp only [Bool.false_eq_true, if_false] at h
    obtain ⟨hlt, hk1, hone, hcl, hK⟩ := h
    have hv := hr.ev' v
    obtain ⟨ho1, hcells⟩ := one_cell hv hone
    have hrun : (storeVar t ⟨b, off, none⟩ (a.eval v)).run P w = .ok () (w.setRow b (vs.setIfInBounds off (a.eval v))) := by
      simp [storeVar, hcells, run_size hsz, hk1, setCell_one h3 (show off < vs.size by omega) ho1]
    obtain ⟨r1, r2⟩ := hr.storeArr (cs' := cs.set off (s.ev v).dis) (vs' := vs.setIfInBounds off (a.eval v)) hs hm h3 (by simp) (by simp [h4])
      (fun u hu => by
        rcases Array.mem_or_eq_of_mem_setIfInBounds hu with hu | hu
        · exact h6 u hu
        · rw [hu]; exact ho1)
      (fun j d u hd hu => by
        by_cases hj : off = j
        · subst hj
          rw [List.getElem?_set_self hlt] at hd
          rw [Array.getElem?_setIfInBounds_self_of_lt (by omega)] at hu
          cases hd; cases hu
          exact (hv.closed [] hcl).dis
        · rw [List.getElem?_set_ne hj] at hd
          rw [Array.getElem?_setIfInBounds_ne hj] at hu
          exact h5 j d u hd hu)
    exact run _ hrun (hk _ _ _ _ _ _ hK r1 r2)


end
end Go.AL
