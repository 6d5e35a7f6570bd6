/-
  The rules for code: sequence, test, block, loop, region.
-/
import Derived.Test.YtikgppgpailmcaaAlArr
namespace Go.AL

def awant (all : Array Oper) (s : AS) (o : Oper) : Option Bool :=
  match o.guard with
  | none => some true
  | some (j, b) =>
    match (all[j]?).bind (·.dst) with
    | some t => match s.get t with
      | .bool v => some (v == b)
      | .tup _ => some false
      | _ => none
    | none => none

/-- By a guard: the operation is carried out, or passed over. -/
def aguard (A B : Prop) (_a : Dep A) (_b : Dep B) (v : Option Bool) : Prop :=
  match v with
  | some true => A
  | some false => B
  | none => False
theorem aguard_true (A B : Prop) (a : Dep A) (b : Dep B) : aguard A B a b (some true) = A := rfl
theorem aguard_false (A B : Prop) (a : Dep A) (b : Dep B) : aguard A B a b (some false) = B := rfl
theorem aguard_split {v : Bool} {A B : Prop} {a : Dep A} {b : Dep B} (h1 : v = true → A) (h2 : v = false → B) : aguard A B a b (some v) := by
  cases v
  · exact h2 rfl
  · exact h1 rfl

/-- Operations one behind the other, in the order of the text. -/
def aopl (P : Program) (all : Array Oper) : List Oper → AS → (AS → Prop) → Prop
  | [], s, K => K s
  | o :: r, s, K =>
    aguard (aop P o s fun s' => aopl P all r s' K) (aopl P all r (s.put o.dst skD) K) (dep _) (dep _) (awant all s o)

def Lift (w : World) (Z : Zone) (m : List Nat) (cl : Cl) (Q : Exit → AS → Prop) : Exit → Act → World → Prop :=
  fun e a' w' => ∃ s' Z' m' cl', Q e s' ∧ Rel w' Z' m' cl' s' a' ∧ Step w Z m cl w' Z' m' cl'

/-- From the abstract state s, the code ends as Q says. -/
def AWp (P : Program) (c : Code) (Q : Exit → AS → Prop) (s : AS) : Prop :=
  ∀ (w : World) (Z : Zone) (m : List Nat) (cl : Cl) (a : Act), Rel w Z m cl s a → c.wp P (Lift w Z m cl Q) a w

def Then (K : AS → Prop) (Q : Exit → AS → Prop) : Exit → AS → Prop
  | .normal, s => K s
  | e, s => Q e s

section
variable {P : Program} {Q : Exit → AS → Prop} {s : AS}

theorem awant_true {all : Array Oper} {o : Oper} {b : Bool} {w Z m cl a} (hr : Rel w Z m cl s a) (h : awant all s o = some b) : Region.wanted o (yielded all a.tmps) = b := by
  unfold awant at h
  unfold Region.wanted
  cases hg : o.guard with
  | none => rw [hg] at h; simp at h; simp [← h]
  | some jb =>
    obtain ⟨j, want⟩ := jb
    rw [hg] at h
    simp only at h
    cases ht : (all[j]?).bind (·.dst) with
    | none => rw [ht] at h; cases h
    | some t =>
      rw [ht] at h
      simp only at h
      have hrv := hr.rv t
      cases hd : s.get t <;> rw [hd] at h hrv <;> simp only [reduceCtorEq, Option.some.injEq] at h
      case tup cs =>
        subst h
        obtain ⟨vs, hv, _⟩ := hrv.tup_inv
        have : yielded all a.tmps j = none := by
          unfold yielded
          rw [ht]
          simp only [Array.getD_eq_getD_getElem?] at hv
          cases hh : a.tmps[t]? with
          | none => simp [hh]
          | some u => rw [hh] at hv; simp at hv; simp [hh, hv]
        simp only [this]
        cases want <;> rfl
      rename_i v
      have hv := hrv.bool_inv
      have : yielded all a.tmps j = some v := by
        unfold yielded
        rw [ht]
        have : a.tmps[t]? = some (.bool v) := by
          simp only [Array.getD_eq_getD_getElem?] at hv
          cases hh : a.tmps[t]? with
          | none => rw [hh] at hv; simp [Go.undef] at hv
          | some u => rw [hh] at hv; simp at hv; rw [hv]
        simp [this]
      simp only [this]
      rw [← h]
      cases v <;> cases want <;> rfl

theorem aopl_sound {all : Array Oper} : ∀ (l : List Oper) (k : Nat) (s : AS) (K : AS → Prop) (w : World) (Z : Zone) (m : List Nat) (cl : Cl) (a : Act) (Q' : Exit → Act → World → Prop),
    (∀ j : Nat, l[j]? = all[k + j]?) → aopl P all l s K → Rel w Z m cl s a →
    (∀ s' a' w' Z' m' cl', K s' → Rel w' Z' m' cl' s' a' → Step w Z m cl w' Z' m' cl' → Q' .normal a' w') →
    wpOps P all Q' (List.range' k l.length) a w
  | [], k, s, K, w, Z, m, cl, a, Q', _, h, hr, hq => by
    simp only [List.length_nil, List.range'_zero, wpOps]
    exact hq _ _ _ _ _ _ h hr (Step.refl _ _ _ _)
  | o :: r, k, s, K, w, Z, m, cl, a, Q', hl, h, hr, hq => by
    have h0 : all[k]? = some o := by have := hl 0; simpa using this.symm
    have hl' : ∀ j : Nat, r[j]? = all[k + 1 + j]? := fun j => by have := hl (j + 1); simp at this; rw [this]; congr 1; omega
    simp only [List.length_cons, List.range'_succ, wpOps, h0]
    simp only [aopl, aguard] at h
    cases hw : awant all s o with
    | none => rw [hw] at h; exact h.elim
    | some b =>
      rw [hw] at h
      have hwant := awant_true hr hw
      cases b with
      | true =>
        simp only at h
        rw [if_pos hwant]
        refine .inl (aop_sound h hr fun s' a' w' Z' m' cl' hK hr' hst => ?_)
        exact aopl_sound r (k + 1) s' K w' Z' m' cl' a' Q' hl' hK hr' fun s2 a2 w2 Z2 m2 cl2 hK2 hr2 hst2 => hq s2 a2 w2 Z2 m2 cl2 hK2 hr2 (hst.trans hst2)
      | false =>
        simp only at h
        rw [if_neg (by rw [hwant]; simp)]
        exact aopl_sound r (k + 1) _ K w Z m cl _ Q' hl' h (hr.put o.dst skD Go.undef skD_rv fun _ _ => skD_own) hq

theorem AWp.mono {c : Code} {Q' : Exit → AS → Prop} (h : AWp P c Q s) (hq : ∀ e s, Q e s → Q' e s) : AWp P c Q' s :=
  fun w Z m cl a hr => wp_mono (h w Z m cl a hr) fun _e _a' _w' ⟨s', Z', m', cl', h1, h2⟩ => ⟨s', Z', m', cl', hq _ _ h1, h2⟩

theorem AWp.skip (h : Q .normal s) : AWp P .skip Q s := fun _w Z m cl _ hr => wp_skip ⟨s, Z, m, cl, h, hr, Step.refl _ _ _ _⟩
theorem AWp.ret (h : Q .ret s) : AWp P .ret Q s := fun _w Z m cl _ hr => wp_ret ⟨s, Z, m, cl, h, hr, Step.refl _ _ _ _⟩
theorem AWp.exit {id : Nat} (h : Q (.exit id) s) : AWp P (.exit id) Q s := fun _w Z m cl _ hr => wp_exit ⟨s, Z, m, cl, h, hr, Step.refl _ _ _ _⟩
theorem AWp.label {l : Nat} (h : Q .normal s) : AWp P (.label l) Q s := fun _w Z m cl _ hr => wp_label ⟨s, Z, m, cl, h, hr, Step.refl _ _ _ _⟩

theorem AWp.seq {x y : Code} (h : AWp P x (Then (AWp P y Q) Q) s) : AWp P (.seq x y) Q s := by
  intro w Z m cl a hr
  refine wp_seq (wp_mono (h w Z m cl a hr) ?_)
  rintro e a' w' ⟨s', Z', m', cl', h1, h2, h3⟩
  cases e with
  | normal =>
    refine wp_mono (h1 w' Z' m' cl' a' h2) ?_
    rintro e a2 w2 ⟨s2, Z2, m2, cl2, h4, h5, h6⟩
    exact ⟨s2, Z2, m2, cl2, h4, h5, h3.trans h6⟩
  | _ => exact ⟨s', Z', m', cl', h1, h2, h3⟩

/-- The code behind is kept out of sight. -/
theorem AWp.seq_k {x y : Code} (h : ∀ K : AS → Prop, (∀ s, AWp P y Q s → K s) → AWp P x (Then K Q) s) : AWp P (.seq x y) Q s := AWp.seq (h _ fun _ h => h)

theorem AWp.cond {c : Operand} {x y : Code} {b : Bool} (hc : s.ev c = .bool b) (h1 : b = true → AWp P x Q s) (h2 : b = false → AWp P y Q s) : AWp P (.cond c x y) Q s := by
  intro w Z m cl a hr
  have hv := hr.ev' c
  rw [hc] at hv
  refine wp_cond (t := b) hv.bool_inv ?_
  cases b
  · exact h2 rfl w Z m cl a hr
  · exact h1 rfl w Z m cl a hr

def InBlock (id : Nat) (Q : Exit → AS → Prop) : Exit → AS → Prop
  | .exit id', s => if id' = id then Q .normal s else Q (.exit id') s
  | e, s => Q e s

theorem AWp.block {id : Nat} {c : Code} (h : AWp P c (InBlock id Q) s) : AWp P (.block id c) Q s := by
  intro w Z m cl a hr
  refine wp_block (wp_mono (h w Z m cl a hr) ?_)
  rintro e a' w' ⟨s', Z', m', cl', h1, h2, h3⟩
  cases e with
  | exit id' =>
    simp only [Exit.inBlock, InBlock] at h1 ⊢
    split at h1 <;> rename_i hid
    · rw [if_pos hid]; exact ⟨s', Z', m', cl', h1, h2, h3⟩
    · rw [if_neg hid]; exact ⟨s', Z', m', cl', h1, h2, h3⟩
  | _ => exact ⟨s', Z', m', cl', h1, h2, h3⟩

def NoGoto (Q : Exit → AS → Prop) : Exit → AS → Prop
  | .goto _, _ => False
  | e, s => Q e s

theorem AWp.scope {c : Code} (h : AWp P c (NoGoto Q) s) : AWp P (.scope c) Q s := by
  intro w Z m cl a hr
  refine wp_scope_straight (wp_mono (h w Z m cl a hr) ?_)
  rintro e a' w' ⟨s', Z', m', cl', h1, h2, h3⟩
  cases e with
  | goto l => exact h1.elim
  | _ => exact ⟨s', Z', m', cl', h1, h2, h3⟩

/-- A loop: what holds at every round's head, and a number that every round lowers. -/
theorem AWp.loop {c : Code} (I : AS → Prop) (μ : AS → Nat) (h0 : I s) (round : ∀ s, I s → AWp P c (Then (fun s' => I s' ∧ μ s' < μ s) Q) s) : AWp P (.loop c) Q s := by
  have key : ∀ n s w Z m cl a, μ s = n → I s → Rel w Z m cl s a → ∀ (b : Frame) (k : List Item) (cs : List Frame),
      ∃ e a' w', Lift w Z m cl Q e a' w' ∧ Arrives P (lone (b.at a (.code c :: .inLoop c :: k)) cs w) b k cs e a' w' := by
    intro n
    induction n using Nat.strongRecOn with
    | _ n ih =>
      intro s w Z m cl a hn hI hr b k cs
      obtain ⟨e, a₁, w₁, ⟨s1, Z1, m1, cl1, hq, hr1, hst⟩, harr⟩ := round s hI w Z m cl a hr b (.inLoop c :: k) cs
      cases e with
      | normal =>
        obtain ⟨hI₁, hlt⟩ := hq
        obtain ⟨e₂, a₂, w₂, ⟨s2, Z2, m2, cl2, hq₂, hr2, hst2⟩, harr₂⟩ := ih (μ s1) (hn ▸ hlt) s1 w₁ Z1 m1 cl1 a₁ rfl hI₁ hr1 b k cs
        exact ⟨e₂, a₂, w₂, ⟨s2, Z2, m2, cl2, hq₂, hr2, hst.trans hst2⟩, .of_steps (Steps.trans harr (.one step_inLoop)) harr₂⟩
      | exit id => exact ⟨_, a₁, w₁, ⟨s1, Z1, m1, cl1, hq, hr1, hst⟩, .pass (x := .inLoop c) rfl (fun _ _ => .inl (by simp)) harr⟩
      | goto l => exact ⟨_, a₁, w₁, ⟨s1, Z1, m1, cl1, hq, hr1, hst⟩, .pass (x := .inLoop c) rfl (fun _ _ => .inl (by simp)) harr⟩
      | ret => exact ⟨_, a₁, w₁, ⟨s1, Z1, m1, cl1, hq, hr1, hst⟩, .pass (x := .inLoop c) rfl (fun _ _ => .inl (by simp)) harr⟩
      | panic ch => exact ⟨_, a₁, w₁, ⟨s1, Z1, m1, cl1, hq, hr1, hst⟩, .pass (x := .inLoop c) rfl (fun _ _ => .inl (by simp)) harr⟩
      | outgrown => exact ⟨_, a₁, w₁, ⟨s1, Z1, m1, cl1, hq, hr1, hst⟩, .pass (x := .inLoop c) rfl (fun _ _ => .inl (by simp)) harr⟩
  intro w Z m cl a hr b k cs
  obtain ⟨e, a', w', hq, harr⟩ := key _ s w Z m cl a rfl h0 hr b k cs
  exact ⟨e, a', w', hq, .of_steps (.one step_loop) harr⟩

/-- Less is known. -/
def AS.Le (s' s : AS) : Prop := s'.S = s.S ∧ s'.n = s.n ∧ s'.eqs = [] ∧ ∀ t, s'.get t = .undef ∨ s'.get t = s.get t ∨ s'.get t = (s.get t).dis

theorem Rel.le {w Z m cl a} {s' : AS} (h : Rel w Z m cl s a) (hle : s'.Le s) : Rel w Z m cl s' a := by
  obtain ⟨h1, h2, h3, h4⟩ := hle
  exact {
    toRelS := by rw [h1]; exact h.toRelS
    sz := by rw [h2]; exact h.sz
    df := h.df
    rv := fun t => by
      rcases h4 t with e | e | e <;> rw [e]
      · exact .undef _
      · exact h.rv t
      · exact (h.rv t).dis
    ow := fun t => by
      rcases h4 t with e | e | e <;> rw [e]
      · exact Own.of_ne (by simp)
      · exact h.ow t
      · exact Own.dis
    eqv := fun x y he => by rw [h3] at he; cases he
    eqc := fun x i j cs b vs e fr he hs hm hh => by rw [h3] at he; cases he }

theorem AWp.weaken {c : Code} {s' : AS} (hle : s'.Le s) (h : AWp P c Q s') : AWp P c Q s := fun w Z m cl a hr => h w Z m cl a (hr.le hle)

/-- Keep these slots alone. -/
def AS.keep (s : AS) (l : List Nat) : AS := { s with env := l.map fun t => (t, s.get t), eqs := [] }

theorem lk_keep (f : Nat → D) : ∀ (l : List Nat) (t : Nat), lk (l.map fun t => (t, f t)) t = .undef ∨ lk (l.map fun t => (t, f t)) t = f t
  | [], t => .inl rfl
  | x :: l, t => by
    simp only [List.map_cons, lk]
    split
    · rename_i e; subst e; exact .inr rfl
    · exact lk_keep f l t

theorem AS.keep_le (s : AS) (l : List Nat) : (s.keep l).Le s :=
  ⟨rfl, rfl, rfl, fun t => by rcases lk_keep s.get l t with h | h <;> simp [AS.keep, AS.get] at h ⊢ <;> simp [h]⟩

/-- A region in the order of the text. -/
theorem AWp.region {id : Nat} {ops : Array Oper} {K : AS → Prop} (h : aopl P ops ops.toList s K) (hk : ∀ s, K s → Q .normal s) : AWp P (.region id ops false) Q s := by
  intro w Z m cl a hr
  refine wp_region ?_
  rw [List.range_eq_range', show ops.size = ops.toList.length by simp]
  exact aopl_sound ops.toList 0 s K w Z m cl a _ (fun j => by simp) h hr fun s' a' w' Z' m' cl' hK hr' hst => ⟨s', Z', m', cl', hk _ hK, hr', hst⟩

end
end Go.AL
