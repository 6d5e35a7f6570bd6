/-
  From the rules for code to a function's contract.
-/
import Derived.Test.YtikgppgpailmcaaAlTail
namespace Go.AL

theorem loc_bne (a b : Nat) : (Loc.slot a != Loc.slot b) = (a != b) := by
  rw [Bool.eq_iff_iff]; simp
theorem loc_bne' (i j b : Nat) : (Loc.cell i j != Loc.slot b) = true := by simp

/-- A value that hangs on no object of the store. -/
def Cld (d : D) : Prop := ∀ w Z m m' v, Rv w Z m d v → Rv w Z m' d v

theorem Cld.bool (b) : Cld (.bool b) := fun w Z m m' v h => by rw [h.bool_inv]; exact .bool b
theorem Cld.int (k n) : Cld (.int k n) := fun w Z m m' v h => by rw [h.int_inv]; exact .int k n
theorem Cld.str (s) : Cld (.str s) := fun w Z m m' v h => by rw [h.str_inv]; exact .str s h.str_len
theorem Cld.nilp : Cld .nilp := fun w Z m m' v h => by cases h; exact .nilp
theorem Cld.sl {xs : List (List D)} (hx : ∀ x ∈ xs, ∀ d ∈ x, Cld d) : Cld (.sl xs) := fun w Z m m' v h => by
  cases h
  case slnil => exact .slnil
  case slz a => exact .slz a
  case sl sz b off cap c hcap hsz hc hv =>
    exact .sl sz xs b off cap c hcap hsz hc fun i j x d h1 h2 => hx x (List.mem_of_getElem? h1) d (List.mem_of_getElem? h2) _ _ _ _ _ (hv i j x d h1 h2)
theorem Cld.agg {cs : List D} (hx : ∀ d ∈ cs, Cld d) : Cld (.agg cs) := fun w Z m m' v h => by
  cases h
  case agg vs ho hl hv => exact .agg _ _ hl ho fun i d v h1 h2 => hx d (List.mem_of_getElem? h1) _ _ _ _ _ (hv i d v h1 h2)
theorem Cld.tup {cs : List D} (hx : ∀ d ∈ cs, Cld d) : Cld (.tup cs) := fun w Z m m' v h => by
  cases h
  case tup vs hl hv => exact .tup _ _ hl fun i d v h1 h2 => hx d (List.mem_of_getElem? h1) _ _ _ _ _ (hv i d v h1 h2)
theorem Cld.iptr {cs : List D} (hx : ∀ d ∈ cs, Cld d) : Cld (.iptr cs) := fun w Z m m' v h => by
  cases h
  case iptr b off c hc hv => exact .iptr _ _ _ c hc fun j d h1 => hx d (List.mem_of_getElem? h1) _ _ _ _ _ (hv j d h1)

/-- One result. -/
def res1 (P : Program) (s : AS) : ResultVar → D → Prop
  | .tmp t, d => d = (s.get t).dis
  | .cell x t, d => ∃ g k, tag P t = some g ∧ tsz P t = some k ∧ loadD s.S g k (s.get x) d ∧ ∀ z xs, d ≠ .osl z xs
def resL (P : Program) (s : AS) : List ResultVar → List D → Prop
  | [], ds => ds = []
  | x :: r, ds => ∃ d e, res1 P s x d ∧ resL P s r e ∧ ds = d :: e

def resOf : List D → D
  | [d] => d
  | ds => .tup ds

/-- At the end of the body the results are r. -/
def Ret (P : Program) (rs : List ResultVar) (r : D) : Exit → AS → Prop
  | .normal, s | .ret, s => ∃ ds, resL P s rs ds ∧ r = resOf ds
  | _, _ => False

def resRun (a : Act) : ResultVar → Sem Value
  | .tmp t => pure (a.tmps.getD t Go.undef)
  | .cell x t => do loadVar t (← asAddr (a.tmps.getD x Go.undef))

theorem results_eq (fn : Func) (a : Act) : results fn a.tmps = (fn.results.mapM (resRun a) >>= fun vs => pure (if h : vs.size = 1 then vs[0] else .tuple vs)) := by
  unfold results
  congr 1

def start (args : List D) (n : Nat) (muts app : List Nat) : AS :=
  { env := args.zipIdx.map fun p => (p.2, p.1), eqs := [], S := [], n, muts, app }

section
variable {P : Program} {w : World} {Z : Zone} {m : List Nat} {cl : Cl} {s : AS} {a : Act}

theorem res1_run {x : ResultVar} {d : D} (h : res1 P s x d) (hr : Rel w Z m cl s a) :
    ∃ v, (resRun a x).run P w = .ok v w ∧ Rv w Z m d v := by
  cases x with
  | tmp t => simp only [res1] at h; subst h; exact ⟨_, rfl, (hr.rv t).dis⟩
  | cell x t =>
    obtain ⟨g, k, hg, hk, hd, _⟩ := h
    have hx := hr.rv x
    obtain ⟨v, h1, h2, _⟩ := loadD_sound hr.toRelS hx hg hk hd
    refine ⟨v, ?_, h2⟩
    have hp : ∃ p, a.tmps.getD x Go.undef = .pointer (some p) := by
      generalize a.tmps.getD x Go.undef = u at hx
      cases hs : s.get x <;> rw [hs] at hd hx <;> simp only [loadD] at hd <;> cases hx <;> exact ⟨_, rfl⟩
    obtain ⟨p, hp⟩ := hp
    rw [hp] at h1
    simp only [resRun, hp]
    simpa [asAddr, Instr.loadAt, Instr.sureAddr] using h1

theorem resL_run : ∀ (xs : List ResultVar) (ds : List D), resL P s xs ds → Rel w Z m cl s a →
    ∃ vs : List Value, (xs.mapM (resRun a)).run P w = .ok vs w ∧ ds.length = vs.length ∧
      ∀ (i : Nat) (d : D) (v : Value), ds[i]? = some d → vs[i]? = some v → Rv w Z m d v
  | [], ds, h, hr => by
    simp only [resL] at h; subst h
    exact ⟨[], by simp, rfl, fun i d v hd => by simp at hd⟩
  | x :: r, ds, h, hr => by
    obtain ⟨d, e, h1, h2, rfl⟩ := h
    obtain ⟨v, hv1, hv2⟩ := res1_run h1 hr
    obtain ⟨vs, h3, h4, h5⟩ := resL_run r e h2 hr
    refine ⟨v :: vs, ?_, by simp [h4], fun i d' v' hd hv => ?_⟩
    · rw [List.mapM_cons, Sem.run_bind, hv1, Result.andThen_ok, Sem.run_bind, h3]
      rfl
    · cases i with
      | zero => simp at hd hv; subst hd; subst hv; exact hv2
      | succ i => exact h5 i d' v' (by simpa using hd) (by simpa using hv)

theorem results_run {fn : Func} {rs : List ResultVar} {r : D} (hrs : fn.results.toList = rs) {ds : List D} (h : resL P s rs ds) (hrd : r = resOf ds) (hr : Rel w Z m cl s a) :
    ∃ v, (results fn a.tmps).run P w = .ok v w ∧ Rv w Z m r v := by
  obtain ⟨vs, h1, h2, h3⟩ := resL_run rs ds h hr
  have hm : (fn.results.mapM (resRun a)).run P w = .ok vs.toArray w := by
    rw [← Array.toArray_toList (xs := fn.results), hrs, List.mapM_toArray, Sem.run_map, h1]
    rfl
  have hgen : (results fn a.tmps).run P w = .ok (if h : vs.toArray.size = 1 then vs.toArray[0] else .tuple vs.toArray) w := by
    rw [results_eq, Sem.run_bind, hm]
    rfl
  refine ⟨_, hgen, ?_⟩
  subst hrd
  cases ds with
  | nil =>
    cases vs with
    | nil => simp; exact .tup _ _ rfl fun i d v hd => by simp at hd
    | cons v t => simp at h2
  | cons d e =>
    cases vs with
    | nil => simp at h2
    | cons v t =>
      cases e with
      | nil =>
        cases t with
        | nil => simp; exact h3 0 d v rfl rfl
        | cons x t => simp at h2
      | cons d2 e =>
        cases t with
        | nil => simp at h2
        | cons x t =>
          rw [dif_neg (by simp)]
          exact .tup _ _ (by simpa using h2) fun i d' v' hd hv => h3 i d' v' hd (by simpa using hv)

theorem lk_start : ∀ (args : List D) (k t : Nat), lk ((args.zipIdx k).map fun p => (p.2, p.1)) t = if k ≤ t then (args[t - k]?).getD .undef else .undef
  | [], k, t => by simp [lk]
  | d :: r, k, t => by
    simp only [List.zipIdx_cons, List.map_cons, lk]
    rw [lk_start r (k + 1) t]
    by_cases h : k = t
    · subst h; simp
    · rw [if_neg h]
      by_cases hk : k ≤ t
      · rw [if_pos hk, if_pos (by omega)]
        obtain ⟨q, rfl⟩ : ∃ q, t = k + 1 + q := ⟨t - (k + 1), by omega⟩
        rw [show k + 1 + q - (k + 1) = q by omega, show k + 1 + q - k = q + 1 by omega]; simp
      · rw [if_neg hk, if_neg (by omega)]

/-- A body that is walked gives the function's contract. -/
theorem CallsP.of_body {f : FuncId} {fn : Func} {c : Code} {args : List D} {r : D} (rs : List ResultVar) (n : Nat) (muts app : List Nat) (hf : P.funcs[f]? = some fn) (hb : fn.body = some c) (hrs : fn.results.toList = rs) (hn : fn.ntmps = n)
    (hargs : args.length ≤ n) (hosl : ∀ d ∈ args, ∀ z xs, d ≠ .osl z xs) (hcldA : ∀ d ∈ args, Cld d) (hcld : Cld r) (h : AWp P c (Ret P rs r) (start args n muts app)) : CallsP P f args r := by
  intro w Z m vs hz hm hl hv
  refine calls_of_wp hf hb ?_
  let a : Act := { tmps := vs ++ Array.replicate (fn.ntmps - vs.size) Go.undef, defers := [] }
  have hget : ∀ t, (start args n muts app).get t = (args[t]?).getD .undef := fun t => by
    have := lk_start args 0 t
    simpa [start, AS.get] using this
  have hrel : Rel w Z [] (fun _ => none) (start args n muts app) a := {
    zc := hz
    inj := fun k k' b h => by cases h
    lt := fun k b h => by cases h
    ml := by simp [start]
    mlt := fun i b h => by simp at h
    obj := fun i cs b h => by simp [start] at h
    aro := fun i cs b h => by simp [start] at h
    mpo := fun i cs b h => by simp [start] at h
    objlt := fun i b h => by cases h
    sz := by simp [start, a]; omega
    df := rfl
    rv := fun t => by
      rw [hget]
      cases ht : args[t]? with
      | none => exact .undef _
      | some d =>
        have hlt : t < args.length := (List.getElem?_eq_some_iff.1 ht).1
        have hlt' : t < vs.size := by omega
        have : a.tmps.getD t Go.undef = vs[t] := by simp [a, Array.getD_eq_getD_getElem?, Array.getElem?_append, hlt']
        rw [this]
        exact hcldA d (List.mem_of_getElem? ht) _ _ _ _ _ (hv t d _ ht (by simp [hlt']))
    ow := fun t => by
      rw [hget]
      cases ht : args[t]? with
      | none => exact Own.of_ne (by simp)
      | some d => exact Own.of_ne (hosl d (List.mem_of_getElem? ht))
    eqv := fun t v h => by cases h
    eqc := fun t i j cs b vs e fr h => by cases h }
  refine wp_mono (h w Z [] (fun _ => none) a hrel) ?_
  have fin : ∀ s' Z' m' cl' (a' : Act) w', (∃ ds, resL P s' rs ds ∧ r = resOf ds) → Rel w' Z' m' cl' s' a' → Step w Z [] (fun _ => none) w' Z' m' cl' →
      a'.defers = [] ∧ ∃ v, (results fn a'.tmps).run P w' = .ok v w' ∧ ∃ v' Z', Ending.returned v = .returned v' ∧ Rv w' Z' m r v' ∧ QStep w Z w' Z' := by
    rintro s' Z' m' cl' a' w' ⟨ds, h1, h2⟩ h3 h4
    obtain ⟨v, h5, h6⟩ := results_run hrs h1 h2 h3
    exact ⟨h3.df, v, h5, v, Z', rfl, hcld _ _ _ _ _ h6, ⟨h4.os, h4.tape, h4.output, h4.size, fun b hb => h4.frame b hb (by simp), h4.zmono, fun b o hb => h4.zold b o hb (by simp), h3.zc⟩⟩
  rintro e a' w' ⟨s', Z', m', cl', h1, h2, h3⟩
  cases e with
  | normal => exact fin _ _ _ _ _ _ h1 h2 h3
  | ret => exact fin _ _ _ _ _ _ h1 h2 h3
  | _ => exact h1.elim

end

/-- What is said of each slot is so. -/
def EnvLe : List (Nat × D) → AS → Prop
  | [], _ => True
  | (t, d) :: e, s => d = s.get t ∧ EnvLe e s
/-- s' says no more than s. -/
def Sub (s' s : AS) : Prop := s'.S = s.S ∧ s'.n = s.n ∧ s'.eqs = [] ∧ EnvLe s'.env s

theorem EnvLe.get {s : AS} : ∀ {e : List (Nat × D)}, EnvLe e s → ∀ t, lk e t = .undef ∨ lk e t = s.get t
  | [], _, t => .inl rfl
  | (x, d) :: e, h, t => by
    simp only [lk]
    split
    · rename_i hx; subst hx; exact .inr h.1
    · exact EnvLe.get h.2 t

theorem Sub.le {s' s : AS} (h : Sub s' s) : s'.Le s :=
  ⟨h.1, h.2.1, h.2.2.1, fun t => by rcases h.2.2.2.get t with e | e <;> simp [AS.get] at e ⊢ <;> simp [e]⟩

theorem AWp.sub {P : Program} {c : Code} {Q : Exit → AS → Prop} {s : AS} (s' : AS) (h : Sub s' s) (hw : AWp P c Q s') : AWp P c Q s := hw.weaken h.le

/-- A loop whose state is given by x: at every round's head it is 'st x'. -/
theorem AWp.loopOn {P : Program} {c : Code} {Q : Exit → AS → Prop} {s : AS} {σ : Type} (st : σ → AS) (I : σ → Prop) (μ : σ → Nat) (x0 : σ) (h0 : I x0) (hs : Sub (st x0) s)
    (round : ∀ x, I x → AWp P c (Then (fun s' => ∃ y, I y ∧ μ y < μ x ∧ Sub (st y) s') Q) (st x)) : AWp P (.loop c) Q s := by
  have key : ∀ n x w Z m cl a, μ x = n → I x → Rel w Z m cl (st x) a → ∀ (b : Frame) (k : List Item) (cs : List Frame),
      ∃ e a' w', Lift w Z m cl Q e a' w' ∧ Arrives P (lone (b.at a (.code c :: .inLoop c :: k)) cs w) b k cs e a' w' := by
    intro n
    induction n using Nat.strongRecOn with
    | _ n ih =>
      intro x w Z m cl a hn hI hr b k cs
      obtain ⟨e, a₁, w₁, ⟨s1, Z1, m1, cl1, hq, hr1, hst⟩, harr⟩ := round x hI w Z m cl a hr b (.inLoop c :: k) cs
      cases e with
      | normal =>
        obtain ⟨y, hI₁, hlt, hsub⟩ := hq
        obtain ⟨e₂, a₂, w₂, ⟨s2, Z2, m2, cl2, hq₂, hr2, hst2⟩, harr₂⟩ := ih (μ y) (hn ▸ hlt) y w₁ Z1 m1 cl1 a₁ rfl hI₁ (hr1.le hsub.le) b k cs
        exact ⟨e₂, a₂, w₂, ⟨s2, Z2, m2, cl2, hq₂, hr2, hst.trans hst2⟩, .of_steps (Steps.trans harr (.one step_inLoop)) harr₂⟩
      | exit id => exact ⟨_, a₁, w₁, ⟨s1, Z1, m1, cl1, hq, hr1, hst⟩, .pass (x := .inLoop c) rfl (fun _ _ => .inl (by simp)) harr⟩
      | goto l => exact ⟨_, a₁, w₁, ⟨s1, Z1, m1, cl1, hq, hr1, hst⟩, .pass (x := .inLoop c) rfl (fun _ _ => .inl (by simp)) harr⟩
      | ret => exact ⟨_, a₁, w₁, ⟨s1, Z1, m1, cl1, hq, hr1, hst⟩, .pass (x := .inLoop c) rfl (fun _ _ => .inl (by simp)) harr⟩
      | panic ch => exact ⟨_, a₁, w₁, ⟨s1, Z1, m1, cl1, hq, hr1, hst⟩, .pass (x := .inLoop c) rfl (fun _ _ => .inl (by simp)) harr⟩
      | outgrown => exact ⟨_, a₁, w₁, ⟨s1, Z1, m1, cl1, hq, hr1, hst⟩, .pass (x := .inLoop c) rfl (fun _ _ => .inl (by simp)) harr⟩
  intro w Z m cl a hr b k cs
  obtain ⟨e, a', w', hq, harr⟩ := key _ x0 w Z m cl a rfl h0 (hr.le hs.le) b k cs
  exact ⟨e, a', w', hq, .of_steps (.one step_loop) harr⟩

end Go.AL
