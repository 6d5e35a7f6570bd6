/-
  An operation, quiet or not: what must hold behind it.
-/
import Derived.Test.YtikgppgpailmcaaAlMem
namespace Go.AL

/-- An operation, and what must hold behind it. -/
def D.one : D → Bool
  | .agg _ | .tup _ | .undef => false
  | _ => true

def mkCells (n : Nat) (zs : List D) : List D := (List.replicate n zs).flatten

/-- Where the right lies to write behind the slice in the slot t: in that slot, or in the one that it is a copy of. -/
def AS.owner (s : AS) (t : Nat) : Nat :=
  match s.eqs.find? (fun p => p.1 == t) with
  | some (_, .slot v) => v
  | _ => t

def srcD : D → Option (List (List D))
  | .sl xs | .osl _ xs => some xs
  | _ => none

def appendD (P : Program) (b x : Operand) (T T2 : Nat) (dst : Option Nat) (s : AS) (K : AS → Prop) : Prop :=
  ∃ e k by_ d ys, dst = some d ∧ d < s.n ∧ tel P T = some (e, k, by_) ∧ tze P T = true ∧ k ≠ 0 ∧ tel P T2 ≠ none ∧ srcD (s.ev x) = some ys ∧ (∀ y ∈ ys, y.length = k) ∧
    match b with
    | .tmp t => ∃ z xs, s.get (s.owner t) = .osl z xs ∧ s.owner t ≠ d ∧ (z = k ∨ (xs = [] ∧ z = 0)) ∧ (∀ x ∈ xs, x.length = k) ∧
        (xs.length + ys.length) * by_ ≤ 140737488355328 ∧ xs.length + ys.length ≤ 9223372036854775807 ∧ K ((s.degrade (s.owner t)).put (some d) (.osl k (xs ++ ys)))
    | .const v => ofConst v = .osl 0 [] ∧ ys.length * by_ ≤ 140737488355328 ∧ ys.length ≤ 9223372036854775807 ∧ K (s.put (some d) (.osl k ys))
    | _ => False

def refOf : D → Option (Nat × Nat)
  | .ref i off | .eref i off => some (i, off)
  | _ => none
theorem refOf_rv {w Z m} {d : D} {v : Value} {i off : Nat} (h : Rv w Z m d v) (hd : refOf d = some (i, off)) : ∃ b, m[i]? = some b ∧ v = .pointer (some ⟨b, off, none⟩) := by
  cases h <;> simp only [refOf, Option.some.injEq, Prod.mk.injEq, reduceCtorEq] at hd
  · obtain ⟨rfl, rfl⟩ := hd; exact ⟨_, by assumption, rfl⟩
  · obtain ⟨rfl, rfl⟩ := hd; exact ⟨_, by assumption, rfl⟩

def storeD (P : Program) (t : Nat) (x v : Operand) (dst : Option Nat) (s : AS) (K : AS → Prop) : Prop :=
  dst = none ∧ match refOf (s.ev x) with
  | some (i, off) => ∃ cs g k, s.S[i]? = some (.cells cs) ∧ tag P t = some g ∧ tsz P t = some k ∧
      if g then ∃ ds, s.ev v = .agg ds ∧ ds.length = k ∧ off + k ≤ cs.length ∧ K { s with S := s.S.set i (Ob.cells (cs.take off ++ ds.map D.kee ++ cs.drop (off + k))), eqs := [] }
      else off < cs.length ∧ k = 1 ∧ (s.ev v).one = true ∧ K { s with S := s.S.set i (Ob.cells (cs.set off (s.ev v).kee)), eqs := [] }
  | _ => False

def makeD (P : Program) (t : Nat) (l c : Operand) (dst : Option Nat) (s : AS) (K : AS → Prop) : Prop :=
  ∃ e k by_ d zs n kd cp kd', dst = some d ∧ d < s.n ∧ tel P t = some (e, k, by_) ∧ tz0 P e = some zs ∧ zs.length = k ∧ k ≠ 0 ∧ s.ev l = .int kd n ∧ s.ev c = .int kd' cp ∧ 0 ≤ n ∧ n ≤ cp ∧
    (by_ : Int) * cp ≤ 281474976710656 ∧ cp ≤ 9223372036854775807 ∧
    if d ∈ s.muts then n = cp ∧ K ({ s with S := s.S ++ [Ob.arr (mkCells n.toNat zs)], eqs := [] }.put (some d) (.msl s.S.length 0 n.toNat))
    else K (s.put (some d) (.osl k (List.replicate n.toNat zs)))

def boxD (x : D) (dst : Option Nat) (s : AS) (K : AS → Prop) : Prop :=
  ∃ d, dst = some d ∧ d < s.n ∧ (∀ cs, x ≠ .tup cs) ∧ x ≠ .undef ∧ (∀ c ∈ x.cellsD, ∀ z xs, c = .osl z xs → z = 0 ∧ xs = []) ∧ K ({ s with S := s.S ++ [Ob.cells x.cellsD], eqs := [] }.put (some d) (.ref s.S.length 0))

def aop0 (P : Program) (o : Oper) (s : AS) (K : AS → Prop) : Prop :=
  match o.op with
  | .assign (.tmp t) => o.dst ≠ some t ∧ K ((s.degrade t).put o.dst (s.get t))
  | .assign (.const v) => K (s.put o.dst (ofConst v))
  | .move (.tmp t) =>
    match o.dst with
    | some u => if u ∈ s.app then u ≠ t ∧ u < s.n ∧ K { (s.put (some u) (s.get t).dis) with eqs := (u, .slot t) :: (s.put (some u) (s.get t).dis).eqs } else K (s.put o.dst (s.get t).dis)
    | none => K s
  | .store t x v => storeD P t x v o.dst s K
  | .makeSlice t l c => makeD P t l c o.dst s K
  | .box _t x => if s.muts.any (fun d => o.dst == some d) then boxD (s.ev x) o.dst s K else ∃ d, AV P o s d ∧ K (s.put o.dst d)
  | .call c =>
    match c.callee with
    | .builtin .append => match c.args.toList, c.argTypes.toList with
      | [b, x], [T, T2] => appendD P b x T T2 o.dst s K
      | _, _ => False
    | _ => ∃ d, AV P o s d ∧ K (s.put o.dst d)
  | _ => ∃ d, AV P o s d ∧ K (s.put o.dst d)


section
variable {P : Program} {w : World} {Z : Zone} {m : List Nat} {cl : Cl} {s : AS} {a : Act}

theorem aop_default {o : Oper} {K : AS → Prop} {K' : Act → World → Prop} {Q : Exit → Act → World → Prop} (h : ∃ d, AV P o s d ∧ K (s.put o.dst d)) (hr : Rel w Z m cl s a)
    (hk : ∀ s' a' w' Z' m' cl', K s' → Rel w' Z' m' cl' s' a' → Step w Z m cl w' Z' m' cl' → K' a' w') : o.wp P a w K' Q := by
  obtain ⟨d, hav, hK⟩ := h
  refine av_sound hav hr fun v w' Z' q hrv hown => ?_
  exact hk _ _ _ _ _ _ hK ((q.rel hr).put o.dst d v hrv fun t _ => hown cl t) (q.step hr.toRelS)

theorem one_cell {d : D} {v : Value} (h : Rv w Z m d v) (h1 : d.one = true) : v.oneCell' = true ∧ v.cells = #[v] := by
  have sl : ∀ xs v, Rv w Z m (.sl xs) v → v.oneCell' = true ∧ v.cells = #[v] := fun xs v h => by cases h <;> exact ⟨rfl, rfl⟩
  cases h
  case osl => rename_i _ h; exact sl _ _ h
  all_goals first | exact ⟨rfl, rfl⟩ | (simp [D.one] at h1)

theorem setCell_one {b i : Nat} {vs : Array Value} {t : TypeId} {v : Value} (h : w.heap[b]? = some (.cells vs t (0, 0))) (hi : i < vs.size) (hv : v.oneCell' = true) :
    (storeCells ⟨b, i, none⟩ [v]).run P w = .ok () (w.setRow b (vs.setIfInBounds i v)) := by
  have := run_storeCells_at P b i t [v] 0 vs w h (by simp; omega) (by simpa using hv)
  rw [this]
  congr 2
  apply Array.ext'
  simp only [Nat.add_zero, List.length_singleton, Array.toList_setIfInBounds]
  rw [List.set_eq_take_append_cons_drop]
  simp [hi]

theorem store_sound {o : Oper} {t : Nat} {x v : Operand} {K : AS → Prop} {K' : Act → World → Prop} {Q : Exit → Act → World → Prop} (ho : o.op = .store t x v) (h : storeD P t x v o.dst s K) (hr : Rel w Z m cl s a)
    (hk : ∀ s' a' w' Z' m' cl', K s' → Rel w' Z' m' cl' s' a' → Step w Z m cl w' Z' m' cl' → K' a' w') : o.wp P a w K' Q := by
  obtain ⟨hd, h⟩ := h
  have hx := hr.ev' x
  cases hxd : refOf (s.ev x) <;> rw [hxd] at h <;> simp only at h
  rename_i io
  obtain ⟨i, off⟩ := io
  simp only at h
  obtain ⟨cs, g, k, hs, hg, hsz, h⟩ := h
  obtain ⟨b, hm, hxe⟩ := refOf_rv hx hxd
  obtain ⟨h1, h2, vs, e, h3, h4, h6, h5⟩ := hr.obj i cs b hs hm
  have hput : ∀ (a' : Act), a'.put o.dst Go.undef = a' := fun a' => by rw [hd]; rfl
  have run : ∀ vs', (storeVar t ⟨b, off, none⟩ (a.eval v)).run P w = .ok () (w.setRow b vs') → K' a (w.setRow b vs') → o.wp P a w K' Q := fun vs' hrun hK => by
    unfold Oper.wp
    have : (execOp a.eval o).run P w = .ok .skip (w.setRow b vs') := by
      simp [execOp, ho, Instr.storeAt, hxe, Instr.sureAddr, hrun]
    rw [this]
    simp only [Oper.upon_skip, hput]
    exact hK
  cases g with
  | true =>
    simp only [if_true] at h
    obtain ⟨ds, hds, hdl, hle, hK⟩ := h
    have hv := hr.ev' v
    rw [hds] at hv
    obtain ⟨us, hve, hul, hone, hur⟩ : ∃ us : Array Value, a.eval v = .agg us ∧ ds.length = us.size ∧ (∀ u ∈ us, u.oneCell' = true) ∧ ∀ (j : Nat) (d : D) (u : Value), ds[j]? = some d → us[j]? = some u → Rv w Z m d u := by
      generalize a.eval v = u at hv
      cases hv; exact ⟨_, rfl, by assumption, by assumption, by assumption⟩
    let vs' : Array Value := (vs.toList.take (off + 0) ++ us.toList ++ vs.toList.drop (off + 0 + us.toList.length)).toArray
    have hul' : us.toList.length = us.size := rfl
    have hvl : vs.toList.length = vs.size := rfl
    have hrun : (storeVar t ⟨b, off, none⟩ (a.eval v)).run P w = .ok () (w.setRow b vs') := by
      have := run_storeCells_at P b off e us.toList 0 vs w h3 (by omega) (fun u hu => hone u (by simpa using hu))
      simp [storeVar, hve, Value.cells, run_size hsz, show us.size = k by omega, this, vs']
    have htl : (vs.toList.take (off + 0)).length = off := by rw [List.length_take]; omega
    have hctl : (cs.take off).length = off := by rw [List.length_take]; omega
    obtain ⟨r1, r2⟩ := hr.storeObj (cs' := cs.take off ++ ds.map D.kee ++ cs.drop (off + k)) (vs' := vs') hs hm h3 (by simp [vs']; omega) (by simp; omega)
      (fun u hu => by
        have hu' : u ∈ vs.toList.take (off + 0) ++ us.toList ++ vs.toList.drop (off + 0 + us.toList.length) := by simpa [vs'] using hu
        simp only [List.mem_append] at hu'
        rcases hu' with (hu' | hu') | hu'
        · exact h6 u (by simpa using List.mem_of_mem_take hu')
        · exact hone u (by simpa using hu')
        · exact h6 u (by simpa using List.mem_of_mem_drop hu'))
      (fun j d u hd hu => by
        have hu' : (vs.toList.take (off + 0) ++ us.toList ++ vs.toList.drop (off + 0 + us.toList.length))[j]? = some u := by simpa [vs'] using hu
        rw [List.append_assoc] at hd hu'
        by_cases hj : j < off
        · rw [List.getElem?_append_left (by omega), List.getElem?_take, if_pos hj] at hd
          rw [List.getElem?_append_left (by omega), List.getElem?_take, if_pos (by omega)] at hu'
          exact h5 j d u hd (by simpa using hu')
        · rw [List.getElem?_append_right (by omega), hctl] at hd
          rw [List.getElem?_append_right (by omega), htl] at hu'
          by_cases hj2 : j - off < k
          · rw [List.getElem?_append_left (by simp; omega), List.getElem?_map, Option.map_eq_some_iff] at hd
            rw [List.getElem?_append_left (by omega)] at hu'
            obtain ⟨d', hd', rfl⟩ := hd
            exact ⟨(hur (j - off) d' u hd' (by simpa using hu')).kee, (hur (j - off) d' u hd' (by simpa using hu')).ownKee _ _⟩
          · rw [List.getElem?_append_right (by simp; omega), List.getElem?_drop, List.length_map] at hd
            rw [List.getElem?_append_right (by omega), List.getElem?_drop] at hu'
            have e1 : off + k + (j - off - ds.length) = j := by omega
            have e2 : off + 0 + us.toList.length + (j - off - us.toList.length) = j := by omega
            rw [e1] at hd; rw [e2] at hu'
            exact h5 j d u hd (by simpa using hu'))
    exact run vs' hrun (hk _ _ _ _ _ _ hK r1 r2)
  | false =>
    simp only [Bool.false_eq_true, if_false] at h
    obtain ⟨hlt, hk1, hone, hK⟩ := h
    have hv := hr.ev' v
    obtain ⟨ho1, hcells⟩ := one_cell hv hone
    have hrun : (storeVar t ⟨b, off, none⟩ (a.eval v)).run P w = .ok () (w.setRow b (vs.setIfInBounds off (a.eval v))) := by
      simp [storeVar, hcells, run_size hsz, hk1, setCell_one h3 (show off < vs.size by omega) ho1]
    obtain ⟨r1, r2⟩ := hr.storeObj (cs' := cs.set off (s.ev v).kee) (vs' := vs.setIfInBounds off (a.eval v)) hs hm h3 (by simp) (by simp [h4])
      (fun u hu => by
        rcases Array.mem_or_eq_of_mem_setIfInBounds hu with hu | hu
        · exact h6 u hu
        · rw [hu]; exact ho1)
      (fun j d u hd hu => by
        by_cases hj : off = j
        · subst hj
          rw [List.getElem?_set_self hlt] at hd
          rw [Array.getElem?_setIfInBounds_self_of_lt (by omega)] at hu
          cases hd; cases hu
          exact ⟨hv.kee, hv.ownKee _ _⟩
        · rw [List.getElem?_set_ne hj] at hd
          rw [Array.getElem?_setIfInBounds_ne hj] at hu
          exact h5 j d u hd hu)
    exact run _ hrun (hk _ _ _ _ _ _ hK r1 r2)

/-- A slot's slice is stored, and the right to append to it goes along. -/
theorem storeOwn_sound {o : Oper} {t u i off z : Nat} {x : Operand} {cs : List D} {xs : List (List D)} {K' : Act → World → Prop} {Q : Exit → Act → World → Prop} (ho : o.op = .store t x (.tmp u)) (hd : o.dst = none) (hx : s.ev x = .ref i off)
    (hS : s.S[i]? = some (.cells cs)) (hk1 : tsz P t = some 1) (hlt : off < cs.length) (hu : s.get u = .osl z xs) (hr : Rel w Z m cl s a)
    (hk : ∀ a' w' Z' m' cl', Rel w' Z' m' cl' { s with env := (u, .sl xs) :: s.env, S := s.S.set i (.cells (cs.set off (.osl z xs))), eqs := [] } a' → Step w Z m cl w' Z' m' cl' → K' a' w') : o.wp P a w K' Q := by
  have hxv := hr.ev' x
  obtain ⟨b, hm, hxe⟩ := refOf_rv hxv (show refOf (s.ev x) = some (i, off) by rw [hx]; rfl)
  obtain ⟨h1, h2, vs, e, h3, h4, h6, h5⟩ := hr.obj i cs b hS hm
  have hput : ∀ (a' : Act), a'.put o.dst Go.undef = a' := fun a' => by rw [hd]; rfl
  have hv : Rv w Z m (.osl z xs) (a.eval (.tmp u)) := by rw [← hu]; exact hr.rv u
  obtain ⟨ho1, hcells⟩ : (a.eval (.tmp u)).oneCell' = true ∧ (a.eval (.tmp u)).cells = #[a.eval (.tmp u)] := one_cell hv rfl
  have hrun : (storeVar t ⟨b, off, none⟩ (a.eval (.tmp u))).run P w = .ok () (w.setRow b (vs.setIfInBounds off (a.eval (.tmp u)))) := by
    simp [storeVar, hcells, run_size hk1, setCell_one h3 (show off < vs.size by omega) ho1]
  obtain ⟨r1, r2⟩ := hr.storeObj (cs' := cs.set off (.sl xs)) (vs' := vs.setIfInBounds off (a.eval (.tmp u))) hS hm h3 (by simp) (by simp [h4])
    (fun y hy => by
      rcases Array.mem_or_eq_of_mem_setIfInBounds hy with hy | hy
      · exact h6 y hy
      · rw [hy]; exact ho1)
    (fun j d y hd hy => by
      by_cases hj : off = j
      · subst hj
        rw [List.getElem?_set_self hlt] at hd
        rw [Array.getElem?_setIfInBounds_self_of_lt (by omega)] at hy
        cases hd; cases hy
        exact ⟨hv.dis, Own.of_ne (by simp)⟩
      · rw [List.getElem?_set_ne hj] at hd
        rw [Array.getElem?_setIfInBounds_ne hj] at hy
        exact h5 j d y hd hy)
  have hilt : i < s.S.length := (List.getElem?_eq_some_iff.1 hS).1
  obtain ⟨cl', r3, r4⟩ := r1.giveCell (u := u) (i := i) (j := off) (cs := cs.set off (.sl xs)) (z := z) (xs := xs) hu (by show (s.S.set i _)[i]? = _; rw [List.getElem?_set_self hilt]) (by simpa using hlt)
    (fun b' vs' e' fr hm' hh => by
      rw [hm] at hm'; cases hm'
      rw [setRow_heap w b vs _ e (0, 0) h3] at hh
      simp only [Option.some.injEq, Obj.cells.injEq] at hh
      rw [← hh.1]
      exact Array.getElem?_setIfInBounds_self_of_lt (by omega))
  unfold Oper.wp
  have : (execOp a.eval o).run P w = .ok .skip (w.setRow b (vs.setIfInBounds off (a.eval (.tmp u)))) := by
    simp [execOp, ho, Instr.storeAt, hxe, Instr.sureAddr, hrun]
  rw [this]
  simp only [Oper.upon_skip, hput]
  simp only [List.set_set] at r3
  exact hk _ _ _ _ _ r3 (r2.withCl fun k b hkb => by
    obtain ⟨k', h⟩ := r4 k b hkb
    exact r2.clm k' b h)

theorem make_sound {o : Oper} {t : Nat} {l c : Operand} {K : AS → Prop} {K' : Act → World → Prop} {Q : Exit → Act → World → Prop} (ho : o.op = .makeSlice t l c) (h : makeD P t l c o.dst s K) (hr : Rel w Z m cl s a)
    (hk : ∀ s' a' w' Z' m' cl', K s' → Rel w' Z' m' cl' s' a' → Step w Z m cl w' Z' m' cl' → K' a' w') : o.wp P a w K' Q := by
  obtain ⟨e, k, by_, d, zs, n, kd, cp, kd', hd, hdn, ht, hz, hzl, hk0, hl, hc, h0, hncp, hroom, h63, h⟩ := h
  obtain ⟨hu, i, hi, hik, hib⟩ := tel_spec ht
  have hle : a.eval l = .int kd n := by have := hr.ev' l; rw [hl] at this; exact this.int_inv
  have hce : a.eval c = .int kd' cp := by have := hr.ev' c; rw [hc] at this; exact this.int_inv
  obtain ⟨zv, hzv, hzone, hzs⟩ : ∃ zv, i.zero = some zv ∧ (∀ v ∈ zv.cells, v.oneCell' = true) ∧ zs = zv.cells.toList.map fun v => (ofConst1 v).dis := by
    unfold tz0 at hz
    rw [hi] at hz
    simp only [Option.bind_some] at hz
    cases hzz : i.zero with
    | none => rw [hzz] at hz; cases hz
    | some zv =>
      rw [hzz] at hz
      simp only at hz
      split at hz
      · rename_i hall; exact ⟨zv, rfl, fun v hv => List.all_eq_true.1 hall v (by simpa using hv), (Option.some.inj hz).symm⟩
      · cases hz
  have hzvs : zv.cells.size = k := by rw [← hzl, hzs]; simp
  have hkp : 0 < k := Nat.pos_of_ne_zero hk0
  obtain ⟨N, rfl⟩ := Int.eq_ofNat_of_zero_le h0
  obtain ⟨C, rfl⟩ := Int.eq_ofNat_of_zero_le (Int.le_trans h0 hncp)
  have hNC : N ≤ C := by omega
  have w1 : IntKind.i64.wrap (N : Int) = N := by rw [IntKind.wrap_i64]; omega
  have w2 : IntKind.i64.wrap (C : Int) = C := by rw [IntKind.wrap_i64]; omega
  let cells : Array Value := (Array.range (C * k)).map (zv.cells[· % zv.cells.size]!)
  have hcs : cells.size = C * k := by simp [cells]
  have hrun : (Instr.makeSlice t (a.eval l) (a.eval c)).run P w = .ok (.slice (some ⟨w.heap.size, 0, none⟩) N C) (w.alloc (.cells cells e)) := by
    rw [hle, hce]
    have e0 : ¬ ((C : Int) < (N : Int)) := by omega
    have e1 : ¬ ((281474976710656 : Int) < (by_ : Int) * (C : Int)) := by omega
    have e2 : ¬ ((C : Int) < 0) := by omega
    have e3 : ¬ ((N : Int) < 0) := by omega
    by_cases hC : C = 0
    · subst hC
      have hN0 : N = 0 := by omega
      subst hN0
      have w0 : IntKind.i64.wrap 0 = 0 := by rw [IntKind.wrap_i64]; rfl
      simp [Instr.makeSlice, run_underlying hu, asInt, asIntOf, typeInfo, hi, w0, sizeOf, newRow, cells, hzvs]
      have hr0 : Array.range 0 = #[] := rfl
      rw [hr0, Array.map_empty, Array.map_empty]
    · have hne : ¬ (C * k = 0) := Nat.mul_ne_zero hC hk0
      simp [Instr.makeSlice, run_underlying hu, asInt, asIntOf, typeInfo, hi, hib, w1, w2, e0, e1, e2, e3, sizeOf, hik, hne, zeroValue, hzv, newRow, cells]
  have hget : ∀ q, q < C * k → cells[q]? = some (zv.cells[q % k]'(by rw [hzvs]; exact Nat.mod_lt _ hkp)) := fun q hq => by
    have hm : q % k < zv.cells.size := by rw [hzvs]; exact Nat.mod_lt _ hkp
    show (Array.map (fun x => zv.cells[x % zv.cells.size]!) (Array.range (C * k)))[q]? = _
    rw [Array.getElem?_map]
    simp [hq, hzvs]
    rw [getElem!_pos zv.cells (q % k) hm]
  have hone : ∀ v ∈ cells, v.oneCell' = true := fun v hv => by
    obtain ⟨q, hq, rfl⟩ := Array.getElem_of_mem hv
    have h1 := hget q (by rw [← hcs]; exact hq)
    rw [Array.getElem?_eq_getElem hq] at h1
    rw [Option.some.inj h1]; exact hzone _ (Array.getElem_mem _)
  have hzrv : ∀ (w' : World) (Z' : Zone) (m : List Nat) (q : Nat) (hq : q < C * k) (x : D), zs[q % k]? = some x → Rv w' Z' m x (zv.cells[q % k]'(by rw [hzvs]; exact Nat.mod_lt _ hkp)) := fun w' Z' m q hq x hx => by
    rw [hzs, List.getElem?_map, Option.map_eq_some_iff] at hx
    obtain ⟨v, hv, rfl⟩ := hx
    have hm : q % k < zv.cells.size := by rw [hzvs]; exact Nat.mod_lt _ hkp
    have : v = zv.cells[q % k] := by simpa [hm] using hv.symm
    rw [this]; exact (ofConst1_rv _ _ _ _).dis
  have fin : ∀ (K2 : Prop), (K2 → K' (a.put o.dst (.slice (some ⟨w.heap.size, 0, none⟩) N C)) (w.alloc (.cells cells e))) → K2 → o.wp P a w K' Q := fun K2 h1 h2 =>
    wp_value (v := .slice (some ⟨w.heap.size, 0, none⟩) N C) (w' := w.alloc (.cells cells e)) (by simp [execOp, ho, hrun]) (h1 h2)
  split at h
  · obtain ⟨hnc, hK⟩ := h
    have hNC' : N = C := by omega
    subst hNC'
    simp only [Int.toNat_natCast] at hK
    have hlen : (mkCells N zs).length = N * k := by simp [mkCells, hzl]
    have hgetD : ∀ (q : Nat) x, (mkCells N zs)[q]? = some x → q < N * k ∧ zs[q % k]? = some x := by
      have key : ∀ (M q : Nat) x, ((List.replicate M zs).flatten)[q]? = some x → q < M * k ∧ zs[q % k]? = some x := by
        intro M
        induction M with
        | zero => intro q x h; simp at h
        | succ M ih =>
          intro q x h
          rw [List.replicate_succ, List.flatten_cons] at h
          by_cases hq : q < k
          · rw [List.getElem?_append_left (by omega)] at h
            refine ⟨by rw [Nat.add_mul]; omega, by rw [Nat.mod_eq_of_lt hq]; exact h⟩
          · rw [List.getElem?_append_right (by omega), hzl] at h
            obtain ⟨h1, h2⟩ := ih _ _ h
            refine ⟨by rw [Nat.add_mul]; omega, ?_⟩
            rw [Nat.mod_eq_sub_mod (by omega)]; exact h2
      exact key N
    obtain ⟨r1, r2⟩ := hr.newArr (ds := mkCells N zs) (vs := cells) e (by rw [hlen, hcs]) hone
      (fun q x v hx hv => by
        obtain ⟨h1, h2⟩ := hgetD q x hx
        rw [hget q h1] at hv
        cases hv
        exact hzrv _ _ _ q h1 x h2)
    refine fin _ (fun hK => ?_) hK
    rw [hd]
    refine hk _ _ _ _ _ _ hK (r1.put (some d) _ _ (.msl _ _ _ _ _ ⟨Nat.le_refl _, by omega⟩ ?_) fun _ _ => Own.of_ne (by simp)) r2
    rw [← hr.ml]; simp
  · rename_i hmut
    have hK := h
    simp only [Int.toNat_natCast] at hK
    have hnk : N * k ≤ cells.size := by rw [hcs]; exact Nat.mul_le_mul_right _ hNC
    have q := QStep.allocN hr.toRelS cells e (N * k) hnk
    have hrn := q.rel hr
    have hst := q.step hr.toRelS
    have hrv : Rv (w.alloc (.cells cells e)) (fun b o => Z b o ∨ (b = w.heap.size ∧ o < N * k)) m (.sl (List.replicate N zs)) (.slice (some ⟨w.heap.size, 0, none⟩) (List.replicate N zs).length C) := by
      refine Rv.ofLaid (k := k) (vs := cells.toList.take (N * k)) (fun x hx => by rw [List.eq_of_mem_replicate hx]; exact hzl) (by simpa using hNC) (by rw [List.length_replicate]; omega) (fun q' u hq => ?_) (fun i j x y hx hy => ?_)
      · rw [List.getElem?_take] at hq
        split at hq
        · rename_i hlt
          have hq2 : cells[q']? = some u := by simpa using hq
          refine ⟨.inr ⟨rfl, by omega⟩, ?_, hone u (Array.mem_of_getElem? hq2)⟩
          rw [Nat.zero_add, World.cell?_alloc_new]; exact hq2
        · cases hq
      · have hi' : i < N := by have := (List.getElem?_eq_some_iff.1 hx).1; simpa using this
        have hx' : x = zs := List.eq_of_mem_replicate (List.mem_of_getElem? hx)
        subst hx'
        have hj : j < k := by rw [← hzl]; exact (List.getElem?_eq_some_iff.1 hy).1
        have hlt : i * k + j < N * k := by
          have : (i + 1) * k ≤ N * k := Nat.mul_le_mul_right _ hi'
          rw [Nat.add_mul] at this; omega
        have hlt2 : i * k + j < C * k := Nat.lt_of_lt_of_le hlt (Nat.mul_le_mul_right _ hNC)
        have hmod : (i * k + j) % k = j := by rw [Nat.mul_comm, Nat.mul_add_mod, Nat.mod_eq_of_lt hj]
        refine ⟨_, by rw [List.getElem?_take, if_pos hlt]; simpa using hget _ hlt2, hzrv _ _ [] _ hlt2 y (by rw [hmod]; exact hy)⟩
    have hg := hrn.give none d hdn (some w.heap.size) (fun b hb => by
        cases hb
        refine ⟨by simp, fun k' hk' => ?_⟩
        have := hr.lt k' _ hk'; omega) (.osl k _ _ hrv (fun e => absurd e hk0)) (fun sz zs' hdd b off c hval hlt => by
          simp only [D.osl.injEq] at hdd
          obtain ⟨rfl, rfl⟩ := hdd
          simp only [Value.slice.injEq, Option.some.injEq, Addr.mk.injEq, and_true] at hval
          obtain ⟨⟨rfl, rfl⟩, _, rfl⟩ := hval
          refine ⟨hk0, by simp [AL.give], fun x hx => by rw [List.eq_of_mem_replicate hx]; exact hzl, fun o ho => ?_, cells, e, heap_new w _, by rw [hcs]; omega⟩
          rcases ho with ho | ⟨_, ho⟩
          · obtain ⟨v', hv'⟩ := hr.zc _ _ ho
            have := cell_lt hv'; omega
          · simpa using ho)
    have hx : (List.replicate N zs).length = N := by simp
    rw [hx] at hg
    refine fin _ (fun hK => ?_) hK
    rw [hd]
    refine hk _ _ _ _ _ _ hK (by simpa [AS.degO] using hg) (hst.withCl fun k' b hk' => ?_)
    rcases give_src hk' with ⟨_, e2⟩ | ⟨_, e2, _⟩
    · cases e2; exact .inl (Nat.le_refl _)
    · exact .inr ⟨k', e2⟩

theorem box_sound {o : Oper} {t : Nat} {x : Operand} {K : AS → Prop} {K' : Act → World → Prop} {Q : Exit → Act → World → Prop} (ho : o.op = .box t x) (h : boxD (s.ev x) o.dst s K) (hr : Rel w Z m cl s a)
    (hk : ∀ s' a' w' Z' m' cl', K s' → Rel w' Z' m' cl' s' a' → Step w Z m cl w' Z' m' cl' → K' a' w') : o.wp P a w K' Q := by
  obtain ⟨d, hd, hdn, h1, h2, hosl, hK⟩ := h
  obtain ⟨hl, hone, hv⟩ := (hr.ev' x).cellsD h1 h2
  obtain ⟨r1, r2⟩ := hr.newObj (e := t) hl hone hv hosl
  refine wp_value (v := .pointer (some ⟨w.heap.size, 0, none⟩)) (w' := w.alloc (.cells (a.eval x).cells t)) (by simp [execOp, ho, Instr.box, newVar, newRow]) ?_
  rw [hd] at *
  refine hk _ _ _ _ _ _ hK (r1.put (some d) _ _ (.ref _ _ _ ?_) fun _ _ => Own.of_ne (by simp)) r2
  rw [← hr.ml]; simp

theorem app_sound {o : Oper} {b x : Operand} {T T2 : Nat} {K : AS → Prop} {K' : Act → World → Prop} {Q : Exit → Act → World → Prop} (ho : o.op = .call { callee := .builtin .append, args := #[b, x], argTypes := #[T, T2] }) (h : appendD P b x T T2 o.dst s K) (hr : Rel w Z m cl s a)
    (hk : ∀ s' a' w' Z' m' cl', K s' → Rel w' Z' m' cl' s' a' → Step w Z m cl w' Z' m' cl' → K' a' w') : o.wp P a w K' Q := by
  obtain ⟨e, k, by_, d, ys, hd, hdn, ht, hz, hk0, hT2, hys, hyk, h⟩ := h
  have hy : Rv w Z m (.sl ys) (a.eval x) := by
    have hx := hr.ev' x
    cases hxd : s.ev x <;> rw [hxd] at hys hx <;> simp only [srcD, Option.some.injEq, reduceCtorEq] at hys
    · subst hys; exact hx
    · subst hys; exact hx.dis
  have fin : ∀ v w', (Builtin.append_ #[T, T2] o.type #[a.eval b, a.eval x]).run P w = .ok v w' → K' (a.put o.dst v) w' → o.wp P a w K' Q := fun v w' hrun hK =>
    wp_value (v := v) (w' := w') (by simp [execOp, ho, resolve, invoke, builtin, hrun]) hK
  cases b with
  | tmp t =>
    obtain ⟨z, xs, hget, hne, hzk, hxk, hroom, h63, hK⟩ := h
    have heq : a.tmps.getD t Go.undef = a.tmps.getD (s.owner t) Go.undef := by
      unfold AS.owner
      split
      · rename_i q v hf
        have h1 := List.find?_some hf
        have h2 := List.mem_of_find?_eq_some hf
        simp at h1; subst h1
        exact hr.eqv _ _ h2
      · rfl
    have hrv := hr.rv (s.owner t)
    have how := hr.ow (s.owner t)
    rw [hget, ← heq] at hrv how
    have hb : Rv w Z m (.sl xs) (a.eval (.tmp t)) := hrv.dis
    obtain ⟨v, w', hrun, hK2⟩ := append_sound (P := P) (ty := o.type) (b := .tmp t) (some (s.owner t)) hr ht hz hk0 hT2 hb how (fun h => by cases h) hzk hxk hy hyk hroom h63 hdn (fun h => hne (by simpa using h))
      (K := K') (fun v w' Z' cl' h1 h2 => hk _ _ _ _ _ _ hK h1 h2)
    exact fin v w' hrun (by rw [hd]; exact hK2)
  | const u =>
    obtain ⟨hc, hroom, h63, hK⟩ := h
    have hrv := ofConst_rv w Z m u
    have how := ofConst_own w Z cl (.slot 0) u
    rw [hc] at hrv how
    obtain ⟨v, w', hrun, hK2⟩ := append_sound (P := P) (ty := o.type) (b := .const u) none hr ht hz hk0 hT2 (xs := []) (z := 0) hrv.dis how (fun _ => ⟨rfl, rfl⟩) (.inr ⟨rfl, rfl⟩) (by simp) hy hyk (by simpa using hroom) (by simpa using h63) hdn (by simp)
      (K := K') (fun v w' Z' cl' h1 h2 => hk _ _ _ _ _ _ hK (by simpa [AS.degO] using h1) h2)
    exact fin v w' hrun (by rw [hd]; exact hK2)
  | global g => exact h.elim
  | func f => exact h.elim

theorem aop0_sound {o : Oper} {K : AS → Prop} {K' : Act → World → Prop} {Q : Exit → Act → World → Prop} (h : aop0 P o s K) (hr : Rel w Z m cl s a)
    (hk : ∀ s' a' w' Z' m' cl', K s' → Rel w' Z' m' cl' s' a' → Step w Z m cl w' Z' m' cl' → K' a' w') : o.wp P a w K' Q := by
  unfold aop0 at h
  split at h
  · rename_i t ho
    obtain ⟨hne, h⟩ := h
    refine wp_value (v := a.tmps.getD t undef) (w' := w) (by simp [execOp, ho, Act.eval]) ?_
    cases hd : o.dst with
    | none =>
      rw [hd] at h
      refine hk _ _ _ _ _ _ h ?_ (Step.refl w Z m cl)
      have hget : ∀ x, (s.degrade t).get x = if t = x then (s.get t).dis else s.get x := fun x => by simp only [AS.degrade, AS.get, lk]
      exact {
        toRelS := hr.toRelS
        sz := hr.sz
        df := hr.df
        rv := fun x => by
          show Rv w Z m ((s.degrade t).get x) _
          rw [hget]; split
          · rename_i e; subst e; exact (hr.rv _).dis
          · exact hr.rv x
        ow := fun x => by
          show Own w Z cl _ ((s.degrade t).get x) _
          rw [hget]; split
          · exact Own.dis
          · exact hr.ow x
        eqv := hr.eqv
        eqc := hr.eqc }
    | some u =>
      rw [hd] at h hne
      obtain ⟨cl', h1, h2⟩ := hr.transfer t u (fun e => hne (by rw [e]))
      exact hk _ _ _ _ _ _ h h1 h2
  · rename_i v ho
    refine wp_value (v := v) (w' := w) (by simp [execOp, ho, Act.eval]) ?_
    exact hk _ _ _ _ _ _ h (hr.put o.dst _ _ (ofConst_rv _ _ _ v) fun t _ => ofConst_own _ _ _ _ v) (Step.refl w Z m cl)
  · rename_i t ho
    refine wp_value (v := a.tmps.getD t undef) (w' := w) (by simp [execOp, ho, Act.eval]) ?_
    cases hd : o.dst with
    | none => rw [hd] at h; exact hk _ _ _ _ _ _ h hr (Step.refl w Z m cl)
    | some u =>
      rw [hd] at h
      simp only at h
      have hp : Rel w Z m cl (s.put (some u) (s.get t).dis) (a.put (some u) (a.tmps.getD t undef)) := hr.put (some u) _ _ (hr.rv t).dis fun _ _ => Own.dis
      split at h
      · obtain ⟨hne, hlt, h⟩ := h
        refine hk _ _ _ _ _ _ h ?_ (Step.refl w Z m cl)
        exact {
          toRelS := hp.toRelS
          sz := hp.sz
          df := hp.df
          rv := hp.rv
          ow := hp.ow
          eqv := fun x y he => by
            simp only [List.mem_cons, Prod.mk.injEq, Loc.slot.injEq] at he
            rcases he with ⟨rfl, rfl⟩ | he
            · have hlt' : x < a.tmps.size := by rw [hr.sz]; exact hlt
              rw [Act.getD_put, Act.getD_put]; simp only [hlt', if_true, if_neg hne]
            · exact hp.eqv x y he
          eqc := fun x i j cs b vs e fr he hs hm hh => by
            simp only [List.mem_cons, Prod.mk.injEq, reduceCtorEq, and_false, false_or] at he
            exact hp.eqc x i j cs b vs e fr he hs hm hh }
      · exact hk _ _ _ _ _ _ h hp (Step.refl w Z m cl)
  · rename_i t x v ho
    exact store_sound ho h hr hk
  · rename_i t l c ho
    exact make_sound ho h hr hk
  · rename_i t x ho
    split at h
    · exact box_sound ho h hr hk
    · exact aop_default h hr hk
  · rename_i c ho
    split at h
    · rename_i hc
      split at h
      · rename_i b x T T2 h1 h2
        refine app_sound (b := b) (x := x) (T := T) (T2 := T2) ?_ h hr hk
        obtain ⟨callee, args, argTypes⟩ := c
        simp only at hc h1 h2
        have e1 : args = #[b, x] := by rw [← Array.toArray_toList (xs := args), h1]
        have e2 : argTypes = #[T, T2] := by rw [← Array.toArray_toList (xs := argTypes), h2]
        rw [ho, hc, e1, e2]
      · exact h.elim
    · exact aop_default h hr hk
  · exact aop_default h hr hk


/-- What an operation that is passed over leaves. -/
def skD : D := .tup []
theorem skD_rv : Rv w Z m skD Go.undef := .tup _ _ rfl fun i d v hd => by simp at hd
theorem skD_own {k : Key} {v : Value} : Own w Z cl k skD v := Own.of_ne (by simp [skD])

/-- What hangs on a statement is not looked into by the simplifier. -/
def Dep.{u} {α : Sort u} (_ : α) : Type := Unit
def dep.{u} {α : Sort u} (x : α) : Dep x := ()
/-- Something that is found, and what must hold of it: the second is not looked into before the first is found. -/
def pst {α : Type} (K : α → Prop) (_u : Dep K) (c : α → Prop) : Prop := ∃ x, c x ∧ K x
theorem pst_eq {α : Type} (a : α) (K : α → Prop) (u : Dep K) : pst K u (fun x => x = a) = K a := by simp [pst]
theorem pst_eq' {α : Type} (a : α) (K : α → Prop) (u : Dep K) : pst K u (fun x => a = x) = K a := by simp [pst]
theorem pst_and {α : Type} (p : Prop) (c : α → Prop) (K : α → Prop) (u : Dep K) : pst K u (fun x => p ∧ c x) = (p ∧ pst K u c) := by
  simp only [pst, eq_iff_iff]; constructor
  · rintro ⟨x, ⟨h1, h2⟩, k⟩; exact ⟨h1, x, h2, k⟩
  · rintro ⟨h1, x, h2, k⟩; exact ⟨x, ⟨h1, h2⟩, k⟩
theorem pst_eq_and {α : Type} (p : α → Prop) (a : α) (K : α → Prop) (u : Dep K) : pst K u (fun x => x = a ∧ p x) = (p a ∧ K a) := by
  simp only [pst, eq_iff_iff]; constructor
  · rintro ⟨x, ⟨rfl, h⟩, k⟩; exact ⟨h, k⟩
  · rintro ⟨h, k⟩; exact ⟨a, ⟨rfl, h⟩, k⟩
theorem pst_eq_and' {α : Type} (p : α → Prop) (a : α) (K : α → Prop) (u : Dep K) : pst K u (fun x => a = x ∧ p x) = (p a ∧ K a) := by
  simp only [pst, eq_iff_iff]; constructor
  · rintro ⟨x, ⟨rfl, h⟩, k⟩; exact ⟨h, k⟩
  · rintro ⟨h, k⟩; exact ⟨a, ⟨rfl, h⟩, k⟩
theorem pst_of {α : Type} {K : α → Prop} {u : Dep K} {c : α → Prop} (x : α) (h : c x) (k : K x) : pst K u c := ⟨x, h, k⟩

def isEff (o : Oper) (s : AS) : Bool :=
  match o.op with
  | .assign (.tmp _) | .assign (.const _) | .move (.tmp _) | .store .. | .makeSlice .. => true
  | .box .. => s.muts.any fun d => o.dst == some d
  | .call c => match c.callee with
    | .builtin .append => true
    | _ => false
  | _ => false

/-- An operation, and what must hold behind it. -/
def aop (P : Program) (o : Oper) (s : AS) (K : AS → Prop) : Prop :=
  match isEff o s with
  | true => pst K (dep K) fun s' => aop0 P o s fun x => x = s'
  | false => pst (fun d => K (s.put o.dst d)) (dep _) fun d => AV P o s d

theorem aop_sound {o : Oper} {K : AS → Prop} {K' : Act → World → Prop} {Q : Exit → Act → World → Prop} (h : aop P o s K) (hr : Rel w Z m cl s a)
    (hk : ∀ s' a' w' Z' m' cl', K s' → Rel w' Z' m' cl' s' a' → Step w Z m cl w' Z' m' cl' → K' a' w') : o.wp P a w K' Q := by
  unfold aop at h
  split at h
  · obtain ⟨s', h1, h2⟩ := h
    exact aop0_sound h1 hr fun s2 a' w' Z' m' cl' he h3 h4 => by subst he; exact hk _ _ _ _ _ _ h2 h3 h4
  · exact aop_default h hr hk

end
end Go.AL
