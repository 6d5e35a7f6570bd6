/-
  What the check finds holds: code that passes it does what its program says.
-/
import Derived.Test.YtikgppgpailmcaaAlProg
namespace Go.AL

def clTake (cl : Cl) (L : Nat) : Cl := fun k => match k with
  | .obj i => if i < L then cl (.obj i) else none
  | .cell i j => if i < L then cl (.cell i j) else none
  | .slot t => cl (.slot t)
theorem clTake_some {cl L k b} (h : clTake cl L k = some b) : cl k = some b := by
  unfold clTake at h
  split at h
  · split at h
    · exact h
    · cases h
  · split at h
    · exact h
    · cases h
  · exact h

section
variable {P : Program} {tt : Nat → TE} {w : World} {Z : Zone} {m : List Nat} {cl : Cl} {s : AS} {a : Act}

/-- The last objects are let go. -/
theorem Rel.forget (h : Rel w Z m cl s a) {s' : AS} (L : Nat) (hS : s'.S = s.S.take L) (hn : s'.n = s.n) (he : s'.eqs = []) (hg : ∀ t, s'.get t = .undef ∨ s'.get t = s.get t) (hk : ∀ t, (s'.get t).okm L = true)
    (ho : ∀ (i : Nat) cs, s'.S[i]? = some (.cells cs) → D.okmL L cs = true) : Rel w Z (m.take L) (clTake cl L) s' a ∧ Step w Z m cl w Z (m.take L) (clTake cl L) := by
  have hm : ∀ (i b : Nat), i < L → m[i]? = some b → (m.take L)[i]? = some b := fun i b hi hb => by rw [List.getElem?_take, if_pos hi]; exact hb
  have own : ∀ k d v, clTake cl L k = cl k → Own w Z cl k d v → Own w Z (clTake cl L) k d v := fun k d v hk ho sz xs hd b off cap hv hlt => by
    obtain ⟨q1, q2, q3⟩ := ho sz xs hd b off cap hv hlt
    exact ⟨q1, by rw [hk]; exact q2, q3⟩
  refine ⟨?_, ⟨rfl, rfl, rfl, Nat.le_refl _, fun _ _ _ => rfl, fun _ _ h => h, fun _ _ _ _ h => h, fun _ _ _ => rfl, fun k b hk => .inr ⟨k, clTake_some hk⟩⟩⟩
  exact {
    zc := h.zc
    inj := fun k k' b h1 h2 => h.inj k k' b (clTake_some h1) (clTake_some h2)
    lt := fun k b h1 => h.lt k b (clTake_some h1)
    ml := by rw [hS, List.length_take, List.length_take, h.ml]
    mlt := fun i b hb => by
      rw [List.getElem?_take] at hb
      split at hb
      · exact h.mlt i b hb
      · cases hb
    obj := fun i cs b hs hb => by
      have hok := ho i cs hs
      rw [hS, List.getElem?_take] at hs
      rw [List.getElem?_take] at hb
      split at hs
      case isFalse => cases hs
      rename_i hi
      rw [if_pos hi] at hb
      obtain ⟨h1, h2, vs, e, h3, h4, h6, h5⟩ := h.obj i cs b hs hb
      exact ⟨by unfold clTake; simp only [hi, if_true]; exact h1, h2, vs, e, h3, h4, h6, fun j d v hd hv => ⟨(h5 j d v hd hv).1.okm hm (D.okmL_mem hok d (List.mem_of_getElem? hd)), own _ _ _ (by unfold clTake; simp only [hi, if_true]) (h5 j d v hd hv).2⟩⟩
    aro := fun i cs b hs hb => by
      rw [hS, List.getElem?_take] at hs
      rw [List.getElem?_take] at hb
      split at hs
      case isFalse => cases hs
      rename_i hi
      rw [if_pos hi] at hb
      obtain ⟨h1, h2⟩ := h.aro i cs b hs hb
      exact ⟨by unfold clTake; simp only [hi, if_true]; exact h1, h2⟩
    mpo := fun i L' b hs hb => by
      rw [hS, List.getElem?_take] at hs
      rw [List.getElem?_take] at hb
      split at hs
      case isFalse => cases hs
      rename_i hi
      rw [if_pos hi] at hb
      obtain ⟨h1, h2⟩ := h.mpo i L' b hs hb
      exact ⟨by unfold clTake; simp only [hi, if_true]; exact h1, h2⟩
    objlt := fun i b hb => by
      have h1 := h.objlt i b (clTake_some hb)
      have h2 : i < L := by
        unfold clTake at hb
        simp only at hb
        split at hb
        · assumption
        · cases hb
      rw [hS, List.length_take]; omega
    sz := by rw [hn]; exact h.sz
    df := h.df
    rv := fun t => by
      rcases hg t with e | e
      · rw [e]; exact .undef _
      · have := hk t
        rw [e] at this ⊢
        exact (h.rv t).okm hm this
    ow := fun t => by
      rcases hg t with e | e
      · rw [e]; exact Own.of_ne (by simp)
      · rw [e]; exact own _ _ _ rfl (h.ow t)
    eqv := fun x y hxy => by rw [he] at hxy; cases hxy
    eqc := fun x i j cs b vs e fr hxy hs hm hh => by rw [he] at hxy; cases hxy }

/-- Where s holds, s' holds too. -/
def Wk (s' s : AS) : Prop := ∀ (w : World) (Z : Zone) (m : List Nat) (cl : Cl) (a : Act), Rel w Z m cl s a → ∃ Z' m' cl', Rel w Z' m' cl' s' a ∧ Step w Z m cl w Z' m' cl'

theorem Wk.refl (s : AS) : Wk s s := fun _w Z m cl _ h => ⟨Z, m, cl, h, Step.refl _ _ _ _⟩
theorem Wk.trans {s1 s2 s3 : AS} (h : Wk s1 s2) (h' : Wk s2 s3) : Wk s1 s3 := fun w Z m cl a hr => by
  obtain ⟨Z1, m1, cl1, h1, h2⟩ := h' w Z m cl a hr
  obtain ⟨Z2, m2, cl2, h3, h4⟩ := h w Z1 m1 cl1 a h1
  exact ⟨Z2, m2, cl2, h3, h2.trans h4⟩
theorem AWp.wk {c : Code} {Q : Exit → AS → Prop} {s s' : AS} (hw : Wk s' s) (h : AWp P c Q s') : AWp P c Q s := fun w Z m cl a hr => by
  obtain ⟨Z1, m1, cl1, h1, h2⟩ := hw w Z m cl a hr
  refine wp_mono (h w Z1 m1 cl1 a h1) ?_
  rintro e a' w' ⟨s2, Z2, m2, cl2, h3, h4, h5⟩
  exact ⟨s2, Z2, m2, cl2, h3, h4, h2.trans h5⟩

theorem Wk.lit {s : AS} {t : Nat} {b : Bool} (h : s.get t = .bool b) : Wk (lit s t b) s := fun w Z m cl a hr =>
  ⟨Z, m, cl, hr.ext rfl rfl rfl fun x => by
    show (if t = x then D.bool b else s.get x) = s.get x
    split
    · rename_i e; subst e; exact h.symm
    · rfl, Step.refl _ _ _ _⟩

theorem lk_map (f : Nat → D) : ∀ (l : List Nat) (t : Nat), lk (l.map fun t => (t, f t)) t = .undef ∨ lk (l.map fun t => (t, f t)) t = f t := lk_keep f

theorem lk_app (x y : List (Nat × D)) (t : Nat) : (∃ p ∈ x, p.1 = t ∧ lk (x ++ y) t = p.2) ∨ lk (x ++ y) t = lk y t := by
  induction x with
  | nil => exact .inr rfl
  | cons p r ih =>
    obtain ⟨u, d⟩ := p
    simp only [List.cons_append, lk]
    split
    · rename_i e; exact .inl ⟨(u, d), by simp, e, rfl⟩
    · rcases ih with ⟨p, hp, h1, h2⟩ | h
      · exact .inl ⟨p, by simp [hp], h1, h2⟩
      · exact .inr h

theorem obsOk_get {n : Nat} : ∀ {l : List Ob}, obsOk n l = true → ∀ (i : Nat) cs, l[i]? = some (.cells cs) → D.okmL n cs = true
  | [], _, i, cs, h => by simp at h
  | .cells c :: r, ho, i, cs, h => by
    simp only [obsOk, Bool.and_eq_true] at ho
    cases i with
    | zero => simp at h; subst h; exact ho.1
    | succ i => exact obsOk_get ho.2 i cs (by simpa using h)
  | .dead :: r, ho, i, cs, h => by
    simp only [obsOk] at ho
    cases i with
    | zero => simp at h
    | succ i => exact obsOk_get ho i cs (by simpa using h)
  | .arr L :: r, ho, i, cs, h => by
    simp only [obsOk] at ho
    cases i with
    | zero => simp at h
    | succ i => exact obsOk_get ho i cs (by simpa using h)
  | .mp L :: r, ho, i, cs, h => by
    simp only [obsOk] at ho
    cases i with
    | zero => simp at h
    | succ i => exact obsOk_get ho i cs (by simpa using h)

theorem mp_inj : ∀ {x y : List (D × D)}, (x.map fun p => D.tup [p.1, p.2]) = (y.map fun p => D.tup [p.1, p.2]) → x = y
  | [], [], _ => rfl
  | [], b :: y, h => by simp at h
  | a :: x, [], h => by simp at h
  | (a, b) :: x, (c, d) :: y, h => by
    simp only [List.map_cons, List.cons.injEq, D.tup.injEq, and_true] at h
    rw [h.1.1, h.1.2, mp_inj h.2]

theorem obD_inj : ∀ {x y : List Ob}, x.map obD = y.map obD → x = y
  | [], [], _ => rfl
  | [], b :: y, h => by simp at h
  | a :: x, [], h => by simp at h
  | a :: x, b :: y, h => by
    simp only [List.map_cons, List.cons.injEq] at h
    have h1 : a = b := by
      have := h.1
      cases a <;> cases b <;> simp only [obD, D.agg.injEq, D.tup.injEq, reduceCtorEq, D.iptr.injEq] at this
      · rw [this]
      · rw [this]
      · rw [mp_inj this]
      · rfl
    rw [h1, obD_inj h.2]

/-- Forgotten. -/
theorem fitD_rv {m : List Nat} {a b : D} {v : Value} (h : Rv w Z m a v) : Rv w Z m (fitD a b) v := by
  unfold fitD
  split
  · split
    · exact h.dis
    · split
      · cases h
        rename_i h hz
        exact .osl _ _ _ h (fun _ _ => hz rfl rfl)
      · exact h
    · exact h
  · exact h
theorem fitD_own {m : List Nat} {cl : Cl} {κ : Key} {a b : D} {v : Value} (hr : Rv w Z m a v) (h : Own w Z cl κ a v) : Own w Z cl κ (fitD a b) v := by
  unfold fitD
  split
  · split
    · exact Own.of_ne (by simp)
    · split
      · intro sz xs he b off cap hv hlt
        simp only [D.osl.injEq] at he
        obtain ⟨rfl, rfl⟩ := he
        cases hr
        rename_i _ hz
        have := hz rfl rfl _ _ _ hv
        omega
      · exact h
    · exact h
  · exact h
theorem fitL_get : ∀ (a b : List D) (j : Nat) (d : D), (fitL a b)[j]? = some d → ∃ x y, a[j]? = some x ∧ (d = x ∨ d = fitD x y)
  | [], b, j, d, h => by simp [fitL] at h
  | x :: r, [], j, d, h => by simp only [fitL] at h; exact ⟨d, .undef, h, .inl rfl⟩
  | x :: r, y :: q, j, d, h => by
    simp only [fitL] at h
    cases j with
    | zero => simp at h; exact ⟨x, y, rfl, .inr h.symm⟩
    | succ j => exact fitL_get r q j d (by simpa using h)
theorem fitL_len : ∀ (a b : List D), (fitL a b).length = a.length
  | [], b => by simp [fitL]
  | x :: r, [] => by simp [fitL]
  | x :: r, y :: q => by simp [fitL, fitL_len r q]
theorem fitS_len : ∀ (a b : List Ob), (fitS a b).length = a.length
  | [], b => by simp [fitS]
  | x :: r, [] => by simp [fitS]
  | x :: r, y :: q => by simp [fitS, fitS_len r q]
theorem fitS_get : ∀ (a b : List Ob) (i : Nat) (o : Ob), (fitS a b)[i]? = some o → ∃ x, a[i]? = some x ∧ (o = x ∨ ∃ cs ds, x = .cells cs ∧ o = .cells (fitL cs ds))
  | [], b, i, o, h => by simp [fitS] at h
  | x :: r, [], i, o, h => by simp only [fitS] at h; exact ⟨o, h, .inl rfl⟩
  | x :: r, y :: q, i, o, h => by
    simp only [fitS] at h
    cases i with
    | zero =>
      simp only [List.getElem?_cons_zero, Option.some.injEq] at h
      refine ⟨x, rfl, ?_⟩
      subst h
      unfold fitO
      split
      · split
        · exact .inr ⟨_, _, rfl, rfl⟩
        · exact .inl rfl
      · exact .inl rfl
    | succ i => exact fitS_get r q i o (by simpa using h)
theorem fitAS_get (s : AS) (A : List (Nat × D) × List Ob) (t : Nat) : (fitAS s A).get t = s.get t ∨ ∃ b, (fitAS s A).get t = fitD (s.get t) b := by
  show lk ((A.1.map fun p => (p.1, fitD (s.get p.1) p.2)) ++ s.env) t = s.get t ∨ _
  rcases lk_app (A.1.map fun p => (p.1, fitD (s.get p.1) p.2)) s.env t with ⟨p, hp, e1, e2⟩ | e
  · right
    obtain ⟨q, hq, rfl⟩ := List.mem_map.1 hp
    subst e1
    exact ⟨q.2, e2⟩
  · exact .inl e
theorem Wk.fit (s : AS) (A : List (Nat × D) × List Ob) : Wk (fitAS s A) s := fun w Z m cl a h => by
  refine ⟨Z, m, cl, ?_, Step.refl _ _ _ _⟩
  exact {
    zc := h.zc
    inj := h.inj
    lt := h.lt
    ml := by show m.length = (fitS s.S A.2).length; rw [fitS_len]; exact h.ml
    mlt := h.mlt
    obj := fun i cs b hs hm => by
      obtain ⟨x, hx, hor⟩ := fitS_get _ _ i _ hs
      rcases hor with rfl | ⟨cs0, ds, rfl, he⟩
      · exact h.obj i cs b hx hm
      · simp only [Ob.cells.injEq] at he
        subst he
        obtain ⟨h1, h2, vs, e, h3, h4, h6, h5⟩ := h.obj i cs0 b hx hm
        refine ⟨h1, h2, vs, e, h3, by rw [fitL_len]; exact h4, h6, fun j d v hd hv => ?_⟩
        obtain ⟨c, y, hc, hor⟩ := fitL_get _ _ j d hd
        obtain ⟨g1, g2⟩ := h5 j c v hc hv
        rcases hor with rfl | rfl
        · exact ⟨g1, g2⟩
        · exact ⟨fitD_rv g1, fitD_own g1 g2⟩
    aro := fun i cs b hs hm => by
      obtain ⟨x, hx, hor⟩ := fitS_get _ _ i _ hs
      rcases hor with rfl | ⟨cs0, ds, rfl, he⟩
      · exact h.aro i cs b hx hm
      · cases he
    mpo := fun i L b hs hm => by
      obtain ⟨x, hx, hor⟩ := fitS_get _ _ i _ hs
      rcases hor with rfl | ⟨cs0, ds, rfl, he⟩
      · exact h.mpo i L b hx hm
      · cases he
    objlt := fun i b hk => by show i < (fitS s.S A.2).length; rw [fitS_len]; exact h.objlt i b hk
    sz := h.sz
    df := h.df
    rv := fun t => by
      rcases fitAS_get s A t with e | ⟨b, e⟩ <;> rw [e]
      · exact h.rv t
      · exact fitD_rv (h.rv t)
    ow := fun t => by
      rcases fitAS_get s A t with e | ⟨b, e⟩ <;> rw [e]
      · exact h.ow t
      · exact fitD_own (h.rv t) (h.ow t)
    eqv := h.eqv
    eqc := fun x i j cs b vs e fr hxy hs hm hh => by
      obtain ⟨o, ho, hor⟩ := fitS_get _ _ i _ hs
      rcases hor with rfl | ⟨cs0, ds, rfl, he⟩
      · exact h.eqc x i j cs b vs e fr hxy ho hm hh
      · exact h.eqc x i j cs0 b vs e fr hxy ho hm hh }

theorem mat0_wk {s' s : AS} {l : List Nat} {A : List (Nat × D) × List Ob} {r : T} (h : (mat0 s' s l A r).holds) : Wk (mk s l A) s' ∧ r.holds := by
  obtain ⟨h1, h2, h3, h4, h5⟩ := h
  refine ⟨fun w Z m cl a hr => ?_, h5⟩
  simp only [List.cons.injEq, D.bool.injEq, Bool.and_eq_true, and_true] at h4
  obtain ⟨⟨⟨hn, hk1⟩, hk2⟩, hk3⟩ := h4
  have hS : s'.S.take A.2.length = A.2 := obD_inj h3
  have hl : ∀ t ∈ l, s'.get t = s.get t := fun t ht => by
    obtain ⟨i, hi, rfl⟩ := List.getElem_of_mem ht
    have := congrArg (fun x : List D => x[i]?) h1
    simpa [hi] using this
  have hA : ∀ p ∈ A.1, s'.get p.1 = p.2 := fun p hp => by
    obtain ⟨i, hi, rfl⟩ := List.getElem_of_mem hp
    have := congrArg (fun x : List D => x[i]?) h2
    simpa [hi] using this
  have hget : ∀ t, ((mk s l A).get t = .undef ∨ (mk s l A).get t = s'.get t) ∧ ((mk s l A).get t).okm A.2.length = true := fun t => by
    show ((lk (A.1 ++ l.map fun t => (t, s.get t)) t) = .undef ∨ (lk (A.1 ++ l.map fun t => (t, s.get t)) t) = s'.get t) ∧ (lk (A.1 ++ l.map fun t => (t, s.get t)) t).okm A.2.length = true
    rcases lk_app A.1 (l.map fun t => (t, s.get t)) t with ⟨p, hp, e1, e2⟩ | e
    · rw [e2]
      exact ⟨.inr (by rw [← e1]; exact (hA p hp).symm), D.okmL_mem hk2 _ (List.mem_map_of_mem hp)⟩
    · rw [e]
      have key : ∀ (l' : List Nat), (∀ x ∈ l', x ∈ l) → (lk (l'.map fun t => (t, s.get t)) t = .undef ∨ lk (l'.map fun t => (t, s.get t)) t = s'.get t) ∧ (lk (l'.map fun t => (t, s.get t)) t).okm A.2.length = true := by
        intro l'
        induction l' with
        | nil => intro _; exact ⟨.inl rfl, rfl⟩
        | cons x r ih =>
          intro hx
          simp only [List.map_cons, lk]
          split
          · rename_i e; subst e
            exact ⟨.inr (hl x (hx x (by simp))).symm, D.okmL_mem hk1 _ (List.mem_map_of_mem (hx x (by simp)))⟩
          · exact ih fun y hy => hx y (by simp [hy])
      exact key l fun _ h => h
  obtain ⟨r1, r2⟩ := hr.forget (s' := mk s l A) A.2.length hS.symm (Nat.eq_of_beq_eq_true hn).symm rfl (fun t => (hget t).1) (fun t => (hget t).2) (fun i cs hs => obsOk_get hk3 i cs hs)
  exact ⟨_, _, _, r1, r2⟩

theorem mat_wk {s' s : AS} {l : List Nat} {A : List (Nat × D) × List Ob} {r : T} (h : (mat s' s l A r).holds) : Wk (mk s l A) s' ∧ r.holds := by
  obtain ⟨h1, h2⟩ := mat0_wk h
  exact ⟨h1.trans (Wk.fit s' A), h2⟩

/-- What holds at the end of code in step with a program that has the value r. -/
def Sat (P : Program) {τ : Type} (K : Exit → AS → Prog τ → T) (r : τ) (e : Exit) (s : AS) : Prop := ∃ p : Prog τ, (K e s p).holds ∧ p.ok P ∧ p.eval = some r

theorem at_some {τ : Type} {t : Nat} {p : Prog τ} {c : Bool} {x y : Prog τ} (h : p.at t = some (c, x, y)) : p = .split t c x y := by
  cases p <;> simp only [Prog.at, reduceCtorEq] at h
  split at h
  · rename_i hb
    simp only [Option.some.injEq, Prod.mk.injEq] at h
    obtain ⟨rfl, rfl, rfl⟩ := h
    rw [Nat.eq_of_beq_eq_true hb]
  · cases h

theorem awant_bool {all : Array Oper} {o : Oper} {j : Nat} {want v : Bool} {t : Nat} (hg : o.guard = some (j, want)) (ht : (all[j]?).bind (·.dst) = some t) (hv : s.get t = .bool v) : awant all s o = some (v == want) := by
  unfold awant; rw [hg]; simp only [ht, hv]
theorem awant_tup {all : Array Oper} {o : Oper} {j : Nat} {want : Bool} {t : Nat} {cs : List D} (hg : o.guard = some (j, want)) (ht : (all[j]?).bind (·.dst) = some t) (hv : s.get t = .tup cs) : awant all s o = some false := by
  unfold awant; rw [hg]; simp only [ht, hv]

theorem Wk.sealed {s : AS} {i t len k : Nat} {cs : List D} {xs : List (List D)} (hs : s.S[i]? = some (.arr cs)) (ht : s.get t = .msl i 0 len) (hx : cs = xs.flatten) (hxl : xs.length = len) (hk : ∀ x ∈ xs, x.length = k) (htn : t < s.n) :
    Wk { s with S := s.S.set i .dead, env := (t, .sl xs) :: s.env, eqs := [] } s := fun w Z m cl a hr => by
  obtain ⟨Z', cl', h1, h2⟩ := hr.sealed hs ht hx hxl hk htn
  exact ⟨Z', m, cl', h1, h2⟩

theorem seals_sound {τ : Type} {r : τ} {K : AS → Prog τ → T} : ∀ (p : Prog τ) (s : AS), (seals p s K).holds → p.ok P → p.eval = some r → ∃ s' p', Wk s' s ∧ (K s' p').holds ∧ p'.ok P ∧ p'.eval = some r
  | .fix i t len k xs p, s, h, hok, hev => by
    obtain ⟨h1, h2⟩ := h
    simp only [List.cons.injEq, D.bool.injEq, and_true] at h1
    obtain ⟨e1, e2, e3⟩ := h1
    simp only [Prog.eval] at hev
    split at hev
    case isFalse => cases hev
    rename_i hl
    have hS : s.S[i]? = some (.arr xs.flatten) := by
      cases ho : s.S[i]? with
      | none => rw [ho] at e1; cases e1
      | some ob =>
        rw [ho] at e1
        cases ob <;> simp only [obO, obD, D.iptr.injEq, reduceCtorEq] at e1
        rw [e1]
    obtain ⟨s', p', w1, w2⟩ := seals_sound p _ h2 hok.2 hev
    exact ⟨s', p', w1.trans (Wk.sealed hS e2 rfl hl hok.1 (Nat.lt_of_succ_le (by simpa [Nat.blt] using e3))), w2⟩
  | .ret _, s, h, hok, hev => ⟨s, _, Wk.refl s, h, hok, hev⟩
  | .fail, s, h, hok, hev => ⟨s, _, Wk.refl s, h, hok, hev⟩
  | .inner _, s, h, hok, hev => ⟨s, _, Wk.refl s, h, hok, hev⟩
  | .op .., s, h, hok, hev => ⟨s, _, Wk.refl s, h, hok, hev⟩
  | .mem .., s, h, hok, hev => ⟨s, _, Wk.refl s, h, hok, hev⟩
  | .split .., s, h, hok, hev => ⟨s, _, Wk.refl s, h, hok, hev⟩
  | .join .., s, h, hok, hev => ⟨s, _, Wk.refl s, h, hok, hev⟩
  | .loop .., s, h, hok, hev => ⟨s, _, Wk.refl s, h, hok, hev⟩
  | .rng .., s, h, hok, hev => ⟨s, _, Wk.refl s, h, hok, hev⟩

/-- Operations in the order of the text. -/
theorem xops_sound (hT : TabOk P tt) {all : Array Oper} {τ : Type} {r : τ} {Q' : Exit → Act → World → Prop} : ∀ (l : List Oper) (k : Nat) (s : AS) (p : Prog τ) (K : AS → Prog τ → T) (w : World) (Z : Zone) (m : List Nat) (cl : Cl) (a : Act),
    (∀ j : Nat, l[j]? = all[k + j]?) → (xops tt all l s p K).holds → p.ok P → p.eval = some r → Rel w Z m cl s a →
    (∀ s' a' w' Z' m' cl', (∃ p' : Prog τ, (K s' p').holds ∧ p'.ok P ∧ p'.eval = some r) → Rel w' Z' m' cl' s' a' → Step w Z m cl w' Z' m' cl' → Q' .normal a' w') →
    wpOps P all Q' (List.range' k l.length) a w
  | [], k, s, p, K, w, Z, m, cl, a, _, h, hok, hev, hr, hq => by
    simp only [List.length_nil, List.range'_zero, wpOps]
    exact hq _ _ _ _ _ _ ⟨p, h, hok, hev⟩ hr (Step.refl _ _ _ _)
  | o :: t, k, s, p, K, w, Z, m, cl, a, hl, h, hok, hev, hr, hq => by
    have h0 : all[k]? = some o := by have := hl 0; simpa using this.symm
    have hl' : ∀ j : Nat, t[j]? = all[k + 1 + j]? := fun j => by have := hl (j + 1); simp at this; rw [this]; congr 1; omega
    have rest : ∀ (s' : AS) (p' : Prog τ) a' w' Z' m' cl', (xops tt all t s' p' K).holds → p'.ok P → p'.eval = some r → Rel w' Z' m' cl' s' a' → Step w Z m cl w' Z' m' cl' → wpOps P all Q' (List.range' (k + 1) t.length) a' w' :=
      fun s' p' a' w' Z' m' cl' h1 h2 h3 h4 h5 => xops_sound hT t (k + 1) s' p' K w' Z' m' cl' a' hl' h1 h2 h3 h4 fun s2 a2 w2 Z2 m2 cl2 g1 g2 g3 => hq s2 a2 w2 Z2 m2 cl2 g1 g2 (h5.trans g3)
    have skip : ∀ (s' : AS) (p' : Prog τ), (xops tt all t (s'.put o.dst skD) p' K).holds → p'.ok P → p'.eval = some r → Rel w Z m cl s' a → Region.wanted o (yielded all a.tmps) = false → wpOps P all Q' (List.range' k (o :: t).length) a w :=
      fun s' p' h1 h2 h3 h4 h5 => by
        simp only [List.length_cons, List.range'_succ, wpOps, h0]
        rw [if_neg (by rw [h5]; simp)]
        exact rest _ p' _ w Z m cl h1 h2 h3 (h4.put o.dst skD Go.undef skD_rv fun _ _ => skD_own) (Step.refl _ _ _ _)
    have go : ∀ (s' : AS) (p' : Prog τ), T.holds (match look tt o s' with
      | .val d => xops tt all t (s'.put o.dst d) p' K
      | .st s2 => xops tt all t s2 p' K
      | .key κ => match p' with
        | .op κ' _ e k => .key κ κ' (.all fun a => xops tt all t (s'.put o.dst (e a)) (k a) K)
        | _ => .bad
      | .eff κ s2 => match p' with
        | .op κ' _ e k => .key κ κ' (.all fun a => xops tt all t (s2.put o.dst (e a)) (k a) K)
        | _ => .bad
      | .mem κ f => match p' with
        | .mem κ' _ c k => .key κ κ' (.all fun a => xops tt all t (f (c a)) (k a) K)
        | _ => .bad
      | .bad => .bad) → p'.ok P → p'.eval = some r → Rel w Z m cl s' a → Region.wanted o (yielded all a.tmps) = true → wpOps P all Q' (List.range' k (o :: t).length) a w := by
      intro s' p' h1 h2 h3 h4 h5
      simp only [List.length_cons, List.range'_succ, wpOps, h0]
      rw [if_pos h5]
      refine .inl ?_
      split at h1
      · rename_i d hlook
        refine av_sound (look_val hT hlook) h4 fun v w' Z' q hrv hown => ?_
        exact rest _ p' _ w' Z' m cl h1 h2 h3 ((q.rel h4).put o.dst d v hrv fun t _ => hown cl t) (q.step h4.toRelS)
      · rename_i s2 hlook
        exact look_st hT hlook h4 fun a' w' Z' m' cl' g1 g2 => rest _ p' _ w' Z' m' cl' h1 h2 h3 g1 g2
      · rename_i κ hlook
        split at h1
        · rename_i α κ' mm e kk
          obtain ⟨rfl, h1⟩ := h1
          simp only [Prog.eval, Option.bind_eq_some_iff] at h3
          obtain ⟨x, hx, h3⟩ := h3
          refine av_sound (look_key hT hlook (h2.1 x hx)) h4 fun v w' Z' q hrv hown => ?_
          exact rest _ _ _ w' Z' m cl (h1 x) (h2.2 x hx) h3 ((q.rel h4).put o.dst _ v hrv fun t _ => hown cl t) (q.step h4.toRelS)
        · exact h1.elim
      · rename_i κ s2 hlook
        split at h1
        · rename_i α κ' mm e kk
          obtain ⟨rfl, h1⟩ := h1
          simp only [Prog.eval, Option.bind_eq_some_iff] at h3
          obtain ⟨x, hx, h3⟩ := h3
          exact look_eff hT hlook (h2.1 x hx) h4 fun a' w' Z' m' cl' g1 g2 => rest _ _ _ w' Z' m' cl' (h1 x) (h2.2 x hx) h3 g1 g2
        · exact h1.elim
      · rename_i κ f hlook
        split at h1
        · rename_i α κ' mm e kk
          obtain ⟨rfl, h1⟩ := h1
          simp only [Prog.eval, Option.bind_eq_some_iff] at h3
          obtain ⟨x, hx, h3⟩ := h3
          exact look_mem hT hlook (h2.1 x hx) h4 fun a' w' Z' m' cl' g1 g2 => rest _ _ _ w' Z' m' cl' (h1 x) (h2.2 x hx) h3 g1 g2
        · exact h1.elim
      · exact h1.elim
    simp only [xops] at h
    split at h
    · rename_i hg
      exact go s p h hok hev hr (awant_true hr (by unfold awant; rw [hg]))
    · rename_i j want hg
      split at h
      · exact h.elim
      · rename_i u hu
        split at h
        · rename_i c x y hat
          have hp := at_some hat
          subst hp
          obtain ⟨hc, hx, hy⟩ := h
          simp only [List.cons.injEq, and_true] at hc
          have hcw := awant_true hr (awant_bool hg hu hc)
          cases c with
          | true =>
            have hr1 : Rel w Z m cl (lit s u true) a := hr.ext rfl rfl rfl fun z => by
              show (if u = z then D.bool true else s.get z) = s.get z
              split
              · rename_i e; subst e; exact hc.symm
              · rfl
            simp only [Prog.eval, if_true] at hev
            cases want with
            | true => exact go _ x hx (hok.1 rfl) hev hr1 hcw
            | false => exact skip _ x hx (hok.1 rfl) hev hr1 hcw
          | false =>
            have hr1 : Rel w Z m cl (lit s u false) a := hr.ext rfl rfl rfl fun z => by
              show (if u = z then D.bool false else s.get z) = s.get z
              split
              · rename_i e; subst e; exact hc.symm
              · rfl
            simp only [Prog.eval, Bool.false_eq_true, if_false] at hev
            cases want with
            | true => exact skip _ y hy (hok.2 rfl) hev hr1 hcw
            | false => exact go _ y hy (hok.2 rfl) hev hr1 hcw
        · split at h
          · rename_i v hv
            have hcw := awant_true hr (awant_bool hg hu hv)
            split at h
            · rename_i hvw; exact go s p h hok hev hr (by rw [hcw]; exact hvw)
            · rename_i hvw; exact skip s p h hok hev hr (by rw [hcw]; exact hvw)
          · rename_i cs hv
            exact skip s p h hok hev hr (awant_true hr (awant_tup hg hu hv))
          · exact h.elim

/-- The same slots hold the same. -/
structure Ext (s s' : AS) : Prop where
  S : s'.S = s.S
  n : s'.n = s.n
  eqs : s'.eqs = s.eqs
  get : ∀ t, s'.get t = s.get t

theorem Ext.ev {s s' : AS} (h : Ext s s') (x : Operand) : s'.ev x = s.ev x := by
  cases x <;> simp [AS.ev, h.get]
theorem Ext.put {s s' : AS} (h : Ext s s') (dst : Option Nat) (d : D) : Ext (s.put dst d) (s'.put dst d) := by
  refine ⟨by rw [AS.put_S, AS.put_S]; exact h.S, by rw [AS.put_n, AS.put_n]; exact h.n, ?_, fun t => ?_⟩
  · cases dst with
    | none => exact h.eqs
    | some u => rw [put_eqs, put_eqs, h.n, h.eqs]
  · cases dst with
    | none => exact h.get t
    | some u => rw [AS.get_put, AS.get_put, h.n, h.get]
theorem Ext.lit {s s' : AS} (h : Ext s s') {t : Nat} {b : Bool} (hb : s'.get t = .bool b) : Ext s (lit s' t b) :=
  ⟨h.S, h.n, h.eqs, fun x => by
    show (if t = x then D.bool b else s'.get x) = s.get x
    rw [← h.get x]
    split
    · rename_i e; subst e; exact hb.symm
    · rfl⟩

theorem lookQ_val (hT : TabOk P tt) {o : Oper} {d : D} (h : lookQ tt o s = .val d) : AV P o s d := by
  unfold lookQ at h
  split at h
  · rename_i x ho; simp only [Out.val.injEq] at h; unfold AV; rw [ho]; exact h.symm
  · rename_i x ho; simp only [Out.val.injEq] at h; unfold AV; rw [ho]; exact h.symm
  · rename_i t x ho; unfold AV; rw [ho]; exact loadP_val hT h
  · exact look_val hT h
theorem lookQ_key (hT : TabOk P tt) {o : Oper} {κ : Ky} {d : D} (h : lookQ tt o s = .key κ) (hk : κ.ok P d) : AV P o s d := by
  unfold lookQ at h
  split at h
  · cases h
  · cases h
  · rename_i t x ho; unfold AV; rw [ho]; exact loadP_key hT h hk
  · exact look_key hT h hk

/-- Quiet operations, in the order of the text. -/
theorem xopsQ_sound (hT : TabOk P tt) {all : Array Oper} {τ : Type} {r : τ} {K : AS → Prog τ → T} : ∀ (l : List Oper) (s s' : AS) (p : Prog τ), Ext s s' → (xopsQ tt all l s' p K).holds → p.ok P → p.eval = some r →
    qopl P all l s fun s2 => ∃ s2', Ext s2 s2' ∧ ∃ p' : Prog τ, (K s2' p').holds ∧ p'.ok P ∧ p'.eval = some r
  | [], s, s', p, he, h, hok, hev => ⟨s', he, p, h, hok, hev⟩
  | o :: t, s, s', p, he, h, hok, hev => by
    have aw : ∀ s2, Ext s s2 → awant all s o = awant all s2 o := fun s2 h2 => (awant_congr fun t _ => h2.get t).symm
    have skip : ∀ (s2 : AS) (p' : Prog τ), Ext s s2 → (xopsQ tt all t (s2.put o.dst skD) p' K).holds → p'.ok P → p'.eval = some r → awant all s2 o = some false → qopl P all (o :: t) s fun s2 => ∃ s2', Ext s2 s2' ∧ ∃ p' : Prog τ, (K s2' p').holds ∧ p'.ok P ∧ p'.eval = some r :=
      fun s2 p' h0 h1 h2 h3 h4 => by
        simp only [qopl, aw s2 h0, h4, aguard]
        exact xopsQ_sound hT t _ _ p' (h0.put _ _) h1 h2 h3
    have go : ∀ (s2 : AS) (p' : Prog τ), Ext s s2 → T.holds (match lookQ tt o s2 with
      | .val d => xopsQ tt all t (s2.put o.dst d) p' K
      | .key κ => match p' with
        | .op κ' _ e k => .key κ κ' (.all fun a => xopsQ tt all t (s2.put o.dst (e a)) (k a) K)
        | _ => .bad
      | _ => .bad) → p'.ok P → p'.eval = some r → awant all s2 o = some true → qopl P all (o :: t) s fun s2 => ∃ s2', Ext s2 s2' ∧ ∃ p' : Prog τ, (K s2' p').holds ∧ p'.ok P ∧ p'.eval = some r := by
      intro s2 p' h0 h1 h2 h3 h4
      simp only [qopl, aw s2 h0, h4, aguard]
      have av : ∀ d, AV P o s2 d → AV P o s d := fun d h => AV_congr h0.S.symm (fun x _ => (h0.ev x).symm) h
      split at h1
      · rename_i d hlook
        exact ⟨d, av d (lookQ_val hT hlook), xopsQ_sound hT t _ _ p' (h0.put _ _) h1 h2 h3⟩
      · rename_i κ hlook
        split at h1
        · rename_i α κ' mm e kk
          obtain ⟨rfl, h1⟩ := h1
          simp only [Prog.eval, Option.bind_eq_some_iff] at h3
          obtain ⟨x, hx, h3⟩ := h3
          exact ⟨e x, av _ (lookQ_key hT hlook (h2.1 x hx)), xopsQ_sound hT t _ _ _ (h0.put _ _) (h1 x) (h2.2 x hx) h3⟩
        · exact h1.elim
      · exact h1.elim
    simp only [xopsQ] at h
    split at h
    · rename_i hg
      exact go s' p he h hok hev (by unfold awant; rw [hg])
    · rename_i j want hg
      split at h
      · exact h.elim
      · rename_i u hu
        split at h
        · rename_i c x y hat
          have hp := at_some hat
          subst hp
          obtain ⟨hc, hx, hy⟩ := h
          simp only [List.cons.injEq, and_true] at hc
          cases c with
          | true =>
            have he1 := he.lit hc
            have hcw : awant all (lit s' u true) o = some (true == want) := awant_bool hg hu (by show (if u = u then D.bool true else _) = _; simp)
            simp only [Prog.eval, if_true] at hev
            cases want with
            | true => exact go _ x he1 hx (hok.1 rfl) hev hcw
            | false => exact skip _ x he1 hx (hok.1 rfl) hev hcw
          | false =>
            have he1 := he.lit hc
            have hcw : awant all (lit s' u false) o = some (false == want) := awant_bool hg hu (by show (if u = u then D.bool false else _) = _; simp)
            simp only [Prog.eval, Bool.false_eq_true, if_false] at hev
            cases want with
            | true => exact skip _ y he1 hy (hok.2 rfl) hev hcw
            | false => exact go _ y he1 hy (hok.2 rfl) hev hcw
        · split at h
          · rename_i v hv
            have hcw : awant all s' o = some (v == want) := awant_bool hg hu hv
            split at h
            · rename_i hvw; exact go s' p he h hok hev (by rw [hcw, hvw])
            · rename_i hvw; exact skip s' p he h hok hev (by rw [hcw, hvw])
          · rename_i cs hv
            exact skip s' p he h hok hev (awant_tup hg hu hv)
          · exact h.elim

end
end Go.AL
