/-
  What the function 'look' says of an operation holds in the model.
-/
import Derived.Test.YtikgppgpailmcaaAlLook
namespace Go.AL

section
variable {P : Program} {tt : Nat → TE} {w : World} {Z : Zone} {m : List Nat} {cl : Cl} {s : AS} {a : Act}

theorem ofO_val {x : Option D} {d : D} (h : Out.ofO x = .val d) : x = some d := by
  cases x <;> simp [Out.ofO] at h; rw [h]
theorem ofO_key {x : Option D} {κ : Ky} (h : Out.ofO x = .key κ) : False := by cases x <;> simp [Out.ofO] at h
theorem ofO_st {x : Option D} {s' : AS} (h : Out.ofO x = .st s') : False := by cases x <;> simp [Out.ofO] at h
theorem ofO_eff {x : Option D} {κ : Ky} {s' : AS} (h : Out.ofO x = .eff κ s') : False := by cases x <;> simp [Out.ofO] at h

theorem drop_cons {α : Type} {l : List α} {i : Nat} {c : α} {r : List α} (h : l.drop i = c :: r) : l[i]? = some c := by
  have := congrArg (fun x : List α => x[0]?) h
  simpa using this

theorem ofO_mem {x : Option D} {κ : Ky} {f : Ob → AS} (h : Out.ofO x = .mem κ f) : False := by cases x <;> simp [Out.ofO] at h

theorem loadO_ok {S : List Ob} {g : Bool} {k : Nat} {x d : D} (h : loadO S g k x = some d) : loadD S g k x d := by
  unfold loadO at h
  unfold loadD
  split at h
  · rename_i cs
    cases g <;> simp only at h
    · cases cs with
      | nil => cases h
      | cons c r => simp only [Option.some.injEq] at h; subst h; exact ⟨c, rfl, rfl⟩
    · split at h
      · rename_i hb; simp only [Option.some.injEq] at h; subst h
        exact ⟨Nat.le_of_ble_eq_true hb, rfl⟩
      · cases h
  · rename_i i off
    split at h
    · rename_i cs hS
      refine ⟨cs, hS, ?_⟩
      cases g <;> simp only at h
      · split at h
        · rename_i c r hc
          simp only [Option.some.injEq] at h; subst h
          exact ⟨c, drop_cons hc, rfl⟩
        · cases h
      · split at h
        · rename_i hb; simp only [Option.some.injEq] at h; subst h
          exact ⟨Nat.le_of_ble_eq_true hb, rfl⟩
        · cases h
    · cases h
  · cases h

theorem fieldAddrO_ok {off : Nat} {x d : D} (h : fieldAddrO off x = some d) : fieldAddrD off x d := by
  unfold fieldAddrO at h
  split at h <;> simp only [Option.some.injEq, reduceCtorEq] at h <;> exact h.symm

theorem fieldO_ok {off k : Nat} {g : Bool} {x d : D} (h : fieldO off k g x = some d) : fieldD off k g x d := by
  unfold fieldO at h
  split at h
  · cases g <;> simp only at h
    · split at h
      · rename_i c r hc
        simp only [Option.some.injEq] at h; subst h
        exact ⟨c, drop_cons hc, rfl⟩
      · cases h
    · split at h
      · rename_i hb; simp only [Option.some.injEq] at h; subst h
        exact ⟨Nat.le_of_ble_eq_true hb, rfl⟩
      · cases h
  · cases h

theorem arrO_ok {len k : Nat} {x i d : D} (h : arrO len k x i = some d) : ∃ kd n, i = .int kd (Int.ofNat n) ∧ n < len ∧ fieldAddrD (n * k) x d := by
  unfold arrO at h
  split at h
  · rename_i kd n
    split at h
    · rename_i n
      split at h
      · rename_i hb
        exact ⟨kd, n, rfl, Nat.lt_of_succ_le (by simpa [Nat.blt] using hb), fieldAddrO_ok h⟩
      · cases h
    · cases h
  · cases h
theorem buildArrO_ok {n k : Nat} {zs : Option (List D)} {ps : List (Nat × Operand)} {t : Nat} {d : D} (ha : tarr P t = some (n, k)) (hz : ∀ z, zs = some z → tz0 P t = some z) (h : buildArrO k zs s ps = some d) : buildA P t ps s d := by
  unfold buildArrO at h
  split at h
  · split at h
    · rename_i cs hcs
      simp only [Option.some.injEq] at h
      exact ⟨n, k, _, cs, ha, hz _ rfl, hcs, h.symm⟩
    · cases h
  · cases h

theorem pickD_ok (t : Bool) (x y : D) : pickD t x y = if t then x else y := by
  cases t <;> cases x <;> cases y <;> rfl

theorem loadP_val (hT : TabOk P tt) {t : Nat} {x : Operand} {d : D} (h : loadP tt t x s = .val d) : ∃ g k, tag P t = some g ∧ tsz P t = some k ∧ loadD s.S g k (s.ev x) d := by
  unfold loadP at h
  split at h
  · rename_i g k hg hk
    split at h
    · split at h <;> cases h
    · exact ⟨g, k, hT.ag hg, hT.sz hk, loadO_ok (ofO_val h)⟩
  · cases h
theorem loadP_key (hT : TabOk P tt) {t : Nat} {x : Operand} {κ : Ky} {d : D} (h : loadP tt t x s = .key κ) (hk' : κ.ok P d) : ∃ g k, tag P t = some g ∧ tsz P t = some k ∧ loadD s.S g k (s.ev x) d := by
  unfold loadP at h
  split at h
  · rename_i g k hg hk2
    split at h
    · rename_i i off hx
      split at h
      · rename_i cs hS
        cases h
        refine ⟨g, k, hT.ag hg, hT.sz hk2, ?_⟩
        rw [hx]
        exact ⟨cs, hS, hk'⟩
      · cases h
    · exact (ofO_key h).elim
  · cases h
theorem loadP_st {t : Nat} {x : Operand} {s' : AS} (h : loadP tt t x s = .st s') : False := by
  unfold loadP at h
  split at h
  · split at h
    · split at h <;> cases h
    · exact ofO_st h
  · cases h
theorem loadP_eff {t : Nat} {x : Operand} {κ : Ky} {s' : AS} (h : loadP tt t x s = .eff κ s') : False := by
  unfold loadP at h
  split at h
  · split at h
    · split at h <;> cases h
    · exact ofO_eff h
  · cases h
theorem loadP_mem {t : Nat} {x : Operand} {κ : Ky} {f : Ob → AS} (h : loadP tt t x s = .mem κ f) : False := by
  unfold loadP at h
  split at h
  · split at h
    · split at h <;> cases h
    · exact ofO_mem h
  · cases h

theorem partsB_ok {k : Nat} : ∀ {ps : List (Nat × Operand)} {i : Nat}, partsB s k i ps = true → partsOk s k i ps
  | [], _, _ => trivial
  | (q, x) :: r, i, h => by
    simp only [partsB, Bool.and_eq_true] at h
    exact ⟨Nat.eq_of_beq_eq_true h.1, Nat.eq_of_beq_eq_true h.2.1, ⟨h.2.2.1, h.2.2.2.1⟩, partsB_ok h.2.2.2.2⟩

theorem convO_ok (hT : TabOk P tt) {src dst : Nat} {x d : D} (h : convO (tt src).sh (tt dst).sh x = some d) : convD P src dst x d := by
  unfold convO at h
  split at h
  · cases h
  · rename_i sa k k' n hs hk
    obtain ⟨u, hu⟩ := hT.some (t := src) (by assumption)
    simp only [Option.some.injEq] at h
    unfold convD
    rw [hu, hT.int (by assumption)]
    exact h.symm
  · rename_i u h1 h2
    simp only [Option.some.injEq] at h
    unfold convD
    rw [hT.str (by assumption), hT.str (by assumption)]
    exact h.symm
  · cases h

theorem binD_nb {op : BinOp} {y : Operand} {x v d : D} (hp : partBin op y x = true) (h : binD op x v = some d) : ∀ b, x ≠ .bool b := by
  intro b hb
  subst hb
  cases v <;> simp only [binD, reduceCtorEq] at h
  cases op <;> simp [boolBin] at h
  · cases y <;> simp [partBin] at hp
  · cases y <;> simp [partBin] at hp

theorem look_val (hT : TabOk P tt) {o : Oper} {d : D} (h : look tt o s = .val d) : AV P o s d := by
  obtain ⟨dst, op, type, pos, after, guard⟩ := o
  unfold look at h
  unfold AV
  cases op <;> simp only at h ⊢
  case move x =>
    cases x <;> simp only at h
    · split at h
      · split at h
        · split at h <;> cases h
        · cases h; rfl
      · cases h
    all_goals cases h; rfl
  case assign x =>
    cases x <;> simp only at h
    · split at h
      · split at h <;> cases h
      · cases h
    · cases h
    all_goals cases h; rfl
  case pick c x y =>
    split at h
    · rename_i t ht
      cases h
      exact ⟨t, ht, pickD_ok _ _ _⟩
    · cases h
  case box t x =>
    split at h
    · rename_i hs
      simp only [Bool.and_eq_true] at hs
      split at h
      · split at h
        · split at h <;> cases h
        · split at h
          · rename_i hk
            cases h
            exact ⟨rfl, fun cs e => (by rw [e] at hs; exact absurd hs.1 (by simp [D.simple])), fun e => (by rw [e] at hs; exact absurd hs.1 (by simp [D.simple])), hk⟩
          · cases h
      · cases h
    · cases h
  case alloc t =>
    split at h
    · split at h <;> cases h
    · cases h
  case load t x =>
    split at h
    · split at h
      · split at h
        · cases h
        · exact loadP_val hT h
      · exact loadP_val hT h
    · exact loadP_val hT h
  case fieldAddr t x f =>
    split at h
    · rename_i off k g hf
      split at h
      · cases h
      · rename_i hk
        exact ⟨off, k, g, hT.fl hf, (fun e => by rw [e] at hk; cases hk), fieldAddrO_ok (ofO_val h)⟩
    · cases h
  case field t x f =>
    split at h
    · rename_i off k g hf
      exact ⟨off, k, g, hT.fl hf, fieldO_ok (ofO_val h)⟩
    · cases h
  case indexAddr t x i =>
    split at h
    · rename_i len k ha
      obtain ⟨kd, n, h1, h2, h3⟩ := arrO_ok (ofO_val h)
      exact .inr ⟨len, k, kd, n, hT.ar ha, h1, h2, h3⟩
    · split at h <;> cases h
  case index t x i => split at h <;> cases h
  case binOp op t x y yt =>
    split at h
    · cases h
    · split at h
      · rename_i hb
        refine ⟨ofO_val h, ?_⟩
        simp only [Bool.or_eq_true, Bool.not_eq_true'] at hb
        rcases hb with hb | hb
        · right; intro b hx; rw [hx] at hb; cases hb
        · left
          apply hT.bool
          cases hs : (tt t).sh <;> rw [hs] at hb <;> first | rfl | cases hb
      · cases h
  case unOp op t x => exact ofO_val h
  case convert src dst x => exact convO_ok hT (ofO_val h)
  case extract x i =>
    split at h
    · rename_i cs hx
      rw [hx]
      split at h
      · rename_i c r hc
        cases h
        exact ⟨c, drop_cons hc, rfl⟩
      · cases h
    · cases h
  case makeFunc fn first captured =>
    split at h
    · rename_i f hf
      cases h
      exact ⟨f, rfl, by rw [← Array.toArray_toList (xs := first), hf], rfl⟩
    · cases h
  case slice t x lo hi mx => split at h <;> cases h
  case buildSlice t n ps =>
    split at h
    · rename_i e k b he
      split at h
      · rename_i hc
        simp only [Bool.and_eq_true] at hc
        cases h
        exact ⟨e, k, b, hT.el he, hT.zk hc.1.1.1.1, Nat.eq_of_beq_eq_true hc.1.1.1.2, partsB_ok hc.1.1.2, ⟨Nat.le_of_ble_eq_true hc.1.2, Nat.le_of_ble_eq_true hc.2⟩, rfl⟩
      · cases h
    · cases h
  case build t ps =>
    split at h
    · rename_i n k ha
      exact .inr (buildArrO_ok (hT.ar ha) (fun z hz => hT.z0 hz) (ofO_val h))
    · split at h
      · rename_i zs hz hall
        simp only [Bool.and_eq_true] at hall
        have hne : (tt t).fl ≠ [] := fun e => by rw [e] at hall; simp at hall
        split at h
        · rename_i cs hcs
          cases h
          have key : ∀ (l : List (Nat × Operand)) zs cs, fillD (fun i => ((tt t).fl[i]?).join) s l zs = some cs → fillD (fld P t) s l zs = some cs := by
            intro l
            induction l with
            | nil => intro zs cs h; exact h
            | cons p r ih =>
              obtain ⟨i, x⟩ := p
              intro zs cs h
              simp only [fillD] at h ⊢
              split at h
              · rename_i off k g hp
                rw [hT.fl (Option.join_eq_some_iff.1 hp)]
                split at h
                · rename_i hb; simp only [hb]; exact ih _ _ h
                · cases h
              · cases h
          refine .inl ⟨hT.flAll hall.1 hne, _, cs, ?_, key _ _ _ hcs, rfl⟩
          split
          · exact .inr ⟨zs, hT.z0 hz, rfl⟩
          · exact .inl (hT.z0 hz)
        · cases h
      · cases h
  case nilCheck x =>
    split at h
    · rename_i hx; cases h; rw [hx]
    · rename_i hx; cases h; rw [hx]
    · cases h
  case makeSlice t l c =>
    split at h
    · split at h
      · split at h
        · split at h <;> cases h
        · cases h
      · cases h
    · cases h
  case store t x v =>
    split at h
    · split at h
      · split at h
        · split at h
          · split at h <;> cases h
          · cases h
        · split at h <;> cases h
      · cases h
    · split at h
      · split at h
        · split at h
          · split at h <;> cases h
          · cases h
        · split at h
          · split at h
            · cases h
            · split at h <;> cases h
          · cases h
      · cases h
    · cases h
  case call c =>
    split at h
    · rename_i hc
      rw [hc]
      simp only
      split at h
      · rename_i x t hx ht
        have h := ofO_val h
        have e1 : c.args = #[x] := by rw [← Array.toArray_toList (xs := c.args), hx]
        have e2 : c.argTypes = #[t] := by rw [← Array.toArray_toList (xs := c.argTypes), ht]
        refine ⟨x, t, by rw [e1]; rfl, by rw [e2]; rfl, ?_⟩
        unfold lenO at h
        split at h
        · rename_i u hu
          split at h
          · cases h; rename_i hs; exact ⟨_, by simp [lenD, hu, hT.str hs], rfl⟩
          · cases h
        · rename_i xs hu
          split at h
          · cases h; rename_i hs; obtain ⟨e, he⟩ := hT.sl hs; exact ⟨xs.length, by simp [lenD, hu, he], rfl⟩
          · cases h
        · rename_i z xs hu
          split at h
          · cases h; rename_i hs; obtain ⟨e, he⟩ := hT.sl hs; exact ⟨xs.length, by simp [lenD, hu, he], rfl⟩
          · cases h
        · rename_i i off n hu
          split at h
          · cases h; rename_i hs; obtain ⟨e, he⟩ := hT.sl hs; exact ⟨n, by simp [lenD, hu, he], rfl⟩
          · cases h
        · cases h
      · cases h
    · rename_i hc; rw [hc]; exact ofO_val h
    · rename_i hc; rw [hc]; exact ofO_val h
    · split at h
      · split at h
        · split at h <;> cases h
        · cases h
      · cases h
    · split at h
      · split at h <;> cases h
      · cases h
    · cases h
  case makeMap t r =>
    split at h
    · split at h <;> cases h
    · cases h
  case lookup t x k ok =>
    split at h
    · split at h <;> cases h
    · cases h
  case mapUpdate t x k v =>
    split at h
    · split at h <;> cases h
    · cases h
  all_goals cases h

theorem bndE_ok {dflt l : Nat} {b : Option Operand} (h : bndE dflt (s.evO b) l) : bndD s dflt b l := by
  cases b with
  | none => exact h
  | some o =>
    simp only [AS.evO] at h
    unfold bndE at h
    split at h
    · rename_i he; cases he
    · rename_i k n he; simp only [Option.some.injEq] at he; exact ⟨k, n, he, h.1, h.2⟩
    · exact h.elim

theorem mxE_ok {k h : Nat} {hi mx : Option Operand} {ys : List (List D)} {d : D} (hh : mxE k (s.evO hi) (s.evO mx) h ys d) : mxD s k hi mx h ys d := by
  cases mx with
  | none => exact hh
  | some o =>
    obtain ⟨h1, h2, h3⟩ := hh
    refine ⟨fun e => h1 (by rw [e]; rfl), bndE_ok h2, h3⟩

theorem look_key (hT : TabOk P tt) {o : Oper} {κ : Ky} {d : D} (h : look tt o s = .key κ) (hk : κ.ok P d) : AV P o s d := by
  have hok := hk
  obtain ⟨dst, op, type, pos, after, guard⟩ := o
  unfold look at h
  unfold AV
  cases op <;> simp only at h ⊢
  case move x =>
    cases x <;> simp only at h
    · split at h
      · split at h
        · split at h <;> cases h
        · cases h
      · cases h
    all_goals cases h
  case assign x =>
    cases x <;> simp only at h
    · split at h
      · split at h <;> cases h
      · cases h
    all_goals cases h
  case pick c x y => split at h <;> cases h
  case box t x =>
    split at h
    · split at h
      · split at h
        · split at h <;> cases h
        · split at h <;> cases h
      · cases h
    · cases h
  case alloc t =>
    split at h
    · split at h <;> cases h
    · cases h
  case load t x =>
    split at h
    · split at h
      · split at h
        · cases h
        · exact loadP_key hT h hok
      · exact loadP_key hT h hok
    · exact loadP_key hT h hok
  case makeSlice t l c =>
    split at h
    · split at h
      · split at h
        · split at h <;> cases h
        · cases h
      · cases h
    · cases h
  case fieldAddr t x f =>
    split at h
    · split at h
      · cases h
      · exact (ofO_key h).elim
    · cases h
  case field t x f =>
    split at h
    · exact (ofO_key h).elim
    · cases h
  case indexAddr t x i =>
    split at h
    · exact (ofO_key h).elim
    · split at h
      · rename_i e k b kd n he hi
        cases h
        exact .inl ⟨e, k, b, kd, n, hT.el he, hi, hk⟩
      · cases h
  case index t x i =>
    split at h
    · rename_i kd n he hi
      cases h
      exact ⟨hT.str he, kd, n, hi, hk⟩
    · cases h
  case binOp op t x y yt =>
    split at h
    · rename_i hp
      cases h
      exact ⟨hk, .inr (binD_nb hp hk)⟩
    · split at h
      · exact (ofO_key h).elim
      · cases h
  case unOp op t x => exact (ofO_key h).elim
  case convert src dst x => exact (ofO_key h).elim
  case extract x i =>
    split at h
    · split at h <;> cases h
    · cases h
  case makeFunc fn first captured => split at h <;> cases h
  case slice t x lo hi mx =>
    split at h
    · have hs := ‹(tt t).sh = Sh.str›
      cases h
      cases hx : s.ev x <;> rw [hx] at hk <;> simp only [Ky.ok, slcE] at hk
      obtain ⟨h0, l, h', h1, h2, h3, h4, h5⟩ := hk
      refine ⟨hT.str hs, ?_, l, h', bndE_ok h1, bndE_ok h2, h3, h4, h5⟩
      cases mx with
      | none => rfl
      | some o => cases h0
    · rename_i e k b hs he
      cases h
      cases hx : s.ev x <;> rw [hx] at hk <;> simp only [Ky.ok, slcE] at hk
      · obtain ⟨l, h', h1, h2, h3, h4, h5, h6⟩ := hk
        exact ⟨e, k, b, l, h', hT.el he, bndE_ok h1, bndE_ok h2, h3, h4, h5, mxE_ok h6⟩
      · obtain ⟨l, h', h1, h2, h3, h4, h5, h6⟩ := hk
        exact ⟨e, k, b, l, h', hT.el he, bndE_ok h1, bndE_ok h2, h3, h4, h5, mxE_ok h6⟩
      · obtain ⟨h0, l, h', h1, h2, h3, h4, h5⟩ := hk
        refine ⟨?_, e, k, b, l, h', hT.el he, bndE_ok h1, bndE_ok h2, h3, h4, h5⟩
        cases mx with
        | none => rfl
        | some o => cases h0
    · cases h
  case buildSlice t n ps =>
    split at h
    · split at h <;> cases h
    · cases h
  case build t ps =>
    split at h
    · exact (ofO_key h).elim
    · split at h
      · split at h <;> cases h
      · cases h
  case nilCheck x => split at h <;> cases h
  case store t x v =>
    split at h
    · split at h
      · split at h
        · split at h
          · split at h <;> cases h
          · cases h
        · split at h <;> cases h
      · cases h
    · split at h
      · split at h
        · split at h
          · split at h <;> cases h
          · cases h
        · split at h
          · split at h
            · cases h
            · split at h <;> cases h
          · cases h
      · cases h
    · cases h
  case call c =>
    split at h
    · split at h
      · exact (ofO_key h).elim
      · cases h
    · exact (ofO_key h).elim
    · exact (ofO_key h).elim
    · split at h
      · split at h
        · split at h <;> cases h
        · cases h
      · cases h
    · rename_i g hc
      split at h
      · rename_i f cap hg
        rw [hc]
        split at h
        · cases h
          exact ⟨f, cap, hg, hk.1.1, .inr ⟨hk.2, hk.1.2.1⟩, hk.1.2.2⟩
        · cases h
          exact ⟨f, cap, hg, hk.1, .inl hk.2.1, hk.2.2⟩
      · cases h
    · cases h
  case makeMap t r =>
    split at h
    · split at h <;> cases h
    · cases h
  case lookup t x k ok =>
    split at h
    · rename_i z i u hz hx hk'
      split at h
      · rename_i L hS
        cases h
        exact ⟨rfl, z, i, L, u, hT.mp hz, hx, hS, hk', hok⟩
      · cases h
    · cases h
  case mapUpdate t x k v =>
    split at h
    · split at h <;> cases h
    · cases h
  all_goals cases h

theorem cstD_rv (w Z m) (ty : Nat) (v : Value) : Rv w Z m (cstD tt ty v) v := by
  unfold cstD
  split
  · split
    · exact .osl _ _ _ .slnil (fun _ _ p l c h => by cases h; rfl)
    · exact .osl _ _ _ .slnil (fun _ _ p l c h => by cases h; rfl)
  · exact ofConst_rv w Z m v
theorem cstD_own (w Z cl k) (ty : Nat) (v : Value) : Own w Z cl k (cstD tt ty v) v := by
  unfold cstD
  split
  · intro sz xs hd b off cap hv; cases hv
  · exact ofConst_own w Z cl k v

theorem owner_eq (hr : Rel w Z m cl s a) (t : Nat) : a.tmps.getD t Go.undef = a.tmps.getD (s.owner t) Go.undef := by
  unfold AS.owner
  split
  · rename_i q v hf
    have h1 := List.find?_some hf
    have h2 := List.mem_of_find?_eq_some hf
    simp at h1; subst h1
    exact hr.eqv _ _ h2
  · rfl

theorem baseO_ok {k d : Nat} {b : Operand} {xs : List (List D)} {s' : AS} (h : baseO s k d b = some (xs, s')) :
    ((∃ t z, b = .tmp t ∧ s.get (s.owner t) = .osl z xs ∧ s.owner t ≠ d ∧ z = k ∧ s' = s.degrade (s.owner t)) ∨ ∃ v, b = .const v ∧ ofConst v = .osl 0 [] ∧ xs = [] ∧ s' = s) ∨
    ∃ t i j cs z, b = .tmp t ∧ (t, Loc.cell i j) ∈ s.eqs ∧ s.S[i]? = some (.cells cs) ∧ cs[j]? = some (.osl z xs) ∧ (z = k ∨ (xs = [] ∧ z = 0)) ∧ t ≠ d ∧ s' = { s with env := (t, .osl z xs) :: s.env, S := s.S.set i (Ob.cells (cs.set j (.sl xs))) }.degrade t := by
  have hc : ∀ t, baseC s k d t = some (xs, s') → ∃ i j cs z, (t, Loc.cell i j) ∈ s.eqs ∧ s.S[i]? = some (.cells cs) ∧ cs[j]? = some (.osl z xs) ∧ (z = k ∨ (xs = [] ∧ z = 0)) ∧ t ≠ d ∧ s' = { s with env := (t, .osl z xs) :: s.env, S := s.S.set i (Ob.cells (cs.set j (.sl xs))) }.degrade t := by
    intro t h
    unfold baseC at h
    split at h
    · rename_i q i j hf
      have h1 := List.find?_some hf
      have h2 := List.mem_of_find?_eq_some hf
      simp only [beq_iff_eq] at h1
      subst h1
      split at h
      · rename_i cs hS
        split at h
        · rename_i z ys hj
          split at h
          · rename_i hb
            simp only [Bool.and_eq_true, Bool.or_eq_true, Bool.not_eq_true'] at hb
            simp only [Option.some.injEq, Prod.mk.injEq] at h
            obtain ⟨rfl, rfl⟩ := h
            refine ⟨i, j, cs, z, h2, hS, hj, ?_, fun e => (by rw [e] at hb; simp at hb), rfl⟩
            rcases hb.1 with hb | hb
            · exact .inl (Nat.eq_of_beq_eq_true hb)
            · exact .inr ⟨by simpa using hb.2, Nat.eq_of_beq_eq_true hb.1⟩
          · cases h
        · cases h
      · cases h
    · cases h
  unfold baseO at h
  split at h
  · rename_i t
    split at h
    · rename_i z zs hg
      split at h
      · rename_i hzk
        simp only [Bool.and_eq_true, Bool.not_eq_true'] at hzk
        simp only [Option.some.injEq, Prod.mk.injEq] at h
        obtain ⟨rfl, rfl⟩ := h
        exact .inl (.inl ⟨t, z, rfl, hg, fun e => (by rw [e] at hzk; simp at hzk), Nat.eq_of_beq_eq_true hzk.1, rfl⟩)
      · cases h
    · obtain ⟨i, j, cs, z, g⟩ := hc t h
      exact .inr ⟨t, i, j, cs, z, rfl, g⟩
  · rename_i v
    split at h
    · rename_i hv
      simp only [Option.some.injEq, Prod.mk.injEq] at h
      obtain ⟨rfl, rfl⟩ := h
      exact .inl (.inr ⟨v, rfl, hv, rfl, rfl⟩)
    · cases h
  · cases h
theorem Step.ofCl {cl' cl'' : Cl} {w' : World} {Z' : Zone} {m' : List Nat} (h : Step w Z m cl' w' Z' m' cl'') (hc : ∀ k b, cl' k = some b → ∃ k', cl k' = some b) : Step w Z m cl w' Z' m' cl'' := by
  have un : ∀ b, (∀ k, cl k ≠ some b) → ∀ k, cl' k ≠ some b := fun b h k hk => by
    obtain ⟨k', hk'⟩ := hc k b hk; exact h k' hk'
  exact ⟨h.os, h.tape, h.output, h.size, fun b hb hk => h.frame b hb (un b hk), h.zmono, fun b o hb hk => h.zold b o hb (un b hk), h.keep, fun k b hk => (h.clm k b hk).imp_right fun ⟨k', hk'⟩ => hc k' b hk'⟩

theorem look_eff (hT : TabOk P tt) {o : Oper} {κ : Ky} {d : D} {s' : AS} (h : look tt o s = .eff κ s') (hk : κ.ok P d) (hr : Rel w Z m cl s a) {K' : Act → World → Prop} {Q : Exit → Act → World → Prop}
    (hK : ∀ a' w' Z' m' cl', Rel w' Z' m' cl' (s'.put o.dst d) a' → Step w Z m cl w' Z' m' cl' → K' a' w') : o.wp P a w K' Q := by
  obtain ⟨dst, op, type, pos, after, guard⟩ := o
  unfold look at h
  cases op <;> simp only at h hK
  case call c =>
    split at h
    · split at h
      · exact (ofO_eff h).elim
      · cases h
    · exact (ofO_eff h).elim
    · exact (ofO_eff h).elim
    · rename_i hc
      split at h
      · rename_i b x T T2 u hx ht
        split at h
        · rename_i e k bytes z2 ys hel htz hel2 hys
          split at h
          · rename_i xs s2 hc1 hb
            cases h
            simp only [Bool.and_eq_true, Bool.not_eq_true'] at hc1
            obtain ⟨hk0, hdn⟩ := hc1
            have hdn' : u < s.n := Nat.lt_of_succ_le (by simpa [Nat.blt] using hdn)
            have hk0' : k ≠ 0 := fun e => by subst e; cases hk0
            obtain ⟨rfl, hroom, h63, hxk, hyk⟩ := hk
            obtain ⟨callee, args, argTypes⟩ := c
            simp only at hc hx ht
            subst hc
            have e1 : args = #[b, x] := by rw [← Array.toArray_toList (xs := args), hx]
            have e2 : argTypes = #[T, T2] := by rw [← Array.toArray_toList (xs := argTypes), ht]
            subst e1; subst e2
            rcases baseO_ok hb with hb | ⟨q, i, j, cs, z, rfl, he, hS, hj, hz, hqu, rfl⟩
            rotate_left
            · have hy : Rv w Z m (.sl ys) (a.eval x) := by
                have hx := hr.ev' x
                cases hxd : s.ev x <;> rw [hxd] at hys hx <;> simp only [srcD, Option.some.injEq, reduceCtorEq] at hys
                · subst hys; exact hx
                · subst hys; exact hx.dis
              obtain ⟨cl', r1, r2⟩ := hr.takeCell he hS hj
              have hget : AS.get { s with env := (q, .osl z xs) :: s.env, S := s.S.set i (Ob.cells (cs.set j (.sl xs))) } q = .osl z xs := by simp [AS.get, lk]
              have g1 := r1.rv q
              have g2 := r1.ow q
              rw [hget] at g1 g2
              have hb2 : Rv w Z m (.sl xs) (a.eval (.tmp q)) := g1.dis
              obtain ⟨v, w', hrun, hK2⟩ := append_sound (P := P) (T := T) (T2 := T2) (ty := type) (b := .tmp q) (x := x) (some q) r1 (hT.el hel) (hT.tz htz) hk0' (by rw [hT.el hel2]; simp) hb2 g2 (fun h => by cases h) hz hxk hy hyk hroom h63 hdn' (fun h => hqu (by simpa using h))
                (K := K') (fun v w' Z' cl2 h1 h2 => hK _ _ _ _ _ h1 (h2.ofCl r2))
              exact wp_value (v := v) (w' := w') (by simp [execOp, resolve, invoke, builtin, hrun]) hK2
            refine app_sound (K := fun s2 => s2 = s'.put (some u) (.osl k (xs ++ ys))) (T := T) (T2 := T2) rfl ?_ hr fun s2 a' w' Z' m' cl' he h1 h2 => hK a' w' Z' m' cl' (by rw [← he]; exact h1) h2
            refine ⟨e, k, bytes, u, ys, rfl, hdn', hT.el hel, hT.tz htz, hk0', by rw [hT.el hel2]; simp, hys, hyk, ?_⟩
            rcases hb with ⟨q, z, rfl, hg, hne, hzk, rfl⟩ | ⟨v, rfl, hv, rfl, rfl⟩
            · exact ⟨z, xs, hg, hne, .inl hzk, hxk, hroom, h63, rfl⟩
            · exact ⟨hv, by simpa using hroom, by simpa using h63, by simp⟩
          · cases h
        · cases h
      · cases h
    · split at h
      · split at h <;> cases h
      · cases h
    · cases h
  case move x =>
    cases x <;> simp only at h
    · split at h
      · split at h
        · split at h <;> cases h
        · cases h
      · cases h
    all_goals cases h
  case assign x =>
    cases x <;> simp only at h
    · split at h
      · split at h <;> cases h
      · cases h
    all_goals cases h
  case pick c x y => split at h <;> cases h
  case box t x =>
    split at h
    · split at h
      · split at h
        · split at h <;> cases h
        · split at h <;> cases h
      · cases h
    · cases h
  case alloc t =>
    split at h
    · split at h <;> cases h
    · cases h
  case load t x =>
    split at h
    · split at h
      · split at h
        · cases h
        · exact (loadP_eff h).elim
      · exact (loadP_eff h).elim
    · exact (loadP_eff h).elim
  case fieldAddr t x f =>
    split at h
    · split at h
      · cases h
      · exact (ofO_eff h).elim
    · cases h
  case field t x f =>
    split at h
    · exact (ofO_eff h).elim
    · cases h
  case indexAddr t x i =>
    split at h
    · exact (ofO_eff h).elim
    · split at h <;> cases h
  case index t x i => split at h <;> cases h
  case binOp op t x y yt =>
    split at h
    · cases h
    · split at h
      · exact (ofO_eff h).elim
      · cases h
  case unOp op t x => exact (ofO_eff h).elim
  case convert src dst x => exact (ofO_eff h).elim
  case extract x i =>
    split at h
    · split at h <;> cases h
    · cases h
  case makeFunc fn first captured => split at h <;> cases h
  case slice t x lo hi mx => split at h <;> cases h
  case buildSlice t n ps =>
    split at h
    · split at h <;> cases h
    · cases h
  case build t ps =>
    split at h
    · exact (ofO_eff h).elim
    · split at h
      · split at h <;> cases h
      · cases h
  case nilCheck x => split at h <;> cases h
  case makeSlice t l c =>
    split at h
    · rename_i e k bytes kd n kd' cp d0 hel hl hc
      split at h
      · rename_i zs hz
        split at h
        · rename_i hb
          simp only [Bool.and_eq_true, Bool.not_eq_true'] at hb
          split at h
          · cases h
          · rename_i hmut
            cases h
            obtain ⟨rfl, h0, hnc, hroom, h63⟩ := hk
            have hdn : d0 < s.n := Nat.lt_of_succ_le (by simpa [Nat.blt] using hb.2)
            have hk0 : k ≠ 0 := fun e => by rw [e] at hb; simp at hb
            refine make_sound (K := fun s2 => s2 = s.put (some d0) (.osl k (List.replicate n.toNat zs))) rfl ?_ hr fun s2 a' w' Z' m' cl' he h1 h2 => hK a' w' Z' m' cl' (by rw [← he]; exact h1) h2
            refine ⟨e, k, bytes, d0, zs, n, kd, cp, kd', rfl, hdn, hT.el hel, hT.z0 hz, Nat.eq_of_beq_eq_true hb.1.1, hk0, hl, hc, h0, hnc, hroom, h63, ?_⟩
            rw [if_neg (by simpa using hmut)]
        · cases h
      · cases h
    · cases h
  case store t x v =>
    split at h
    · split at h
      · split at h
        · split at h
          · split at h <;> cases h
          · cases h
        · split at h <;> cases h
      · cases h
    · split at h
      · split at h
        · split at h
          · split at h <;> cases h
          · cases h
        · split at h
          · split at h
            · cases h
            · split at h <;> cases h
          · cases h
      · cases h
    · cases h
  case makeMap t r =>
    split at h
    · split at h <;> cases h
    · cases h
  case lookup t x k ok =>
    split at h
    · split at h <;> cases h
    · cases h
  case mapUpdate t x k v =>
    split at h
    · split at h <;> cases h
    · cases h
  all_goals cases h

theorem look_st (hT : TabOk P tt) {o : Oper} {s' : AS} (h : look tt o s = .st s') (hr : Rel w Z m cl s a) {K' : Act → World → Prop} {Q : Exit → Act → World → Prop}
    (hK : ∀ a' w' Z' m' cl', Rel w' Z' m' cl' s' a' → Step w Z m cl w' Z' m' cl' → K' a' w') : o.wp P a w K' Q := by
  obtain ⟨dst, op, type, pos, after, guard⟩ := o
  unfold look at h
  cases op <;> simp only at h
  case move x =>
    cases x <;> simp only at h
    · rename_i t
      split at h
      · rename_i u
        split at h
        · rename_i happ
          split at h
          · rename_i hc
            simp only [Bool.and_eq_true, Bool.not_eq_true'] at hc
            refine aop0_sound (K := fun s2 => s2 = s') ?_ hr fun s2 a' w' Z' m' cl' he h1 h2 => hK a' w' Z' m' cl' (by rw [← he]; exact h1) h2
            cases h
            unfold aop0
            simp only
            rw [if_pos (by simpa using happ)]
            exact ⟨fun e => (by rw [e] at hc; simp at hc), Nat.lt_of_succ_le (by simpa [Nat.blt] using hc.2), trivial⟩
          · cases h
        · cases h
      · cases h
        exact aop0_sound (K := fun s2 => s2 = s) (by unfold aop0; rfl) hr fun s2 a' w' Z' m' cl' he h1 h2 => hK a' w' Z' m' cl' (by rw [← he]; exact h1) h2
    all_goals cases h
  case assign x =>
    cases x <;> simp only at h
    · rename_i t
      split at h
      · rename_i u
        split at h
        · cases h
        · rename_i hc
          cases h
          refine aop0_sound (K := fun s2 => s2 = ((s.degrade t).put (some u) (s.get t))) ?_ hr fun s2 a' w' Z' m' cl' he h1 h2 => hK a' w' Z' m' cl' (by rw [← he]; exact h1) h2
          unfold aop0
          exact ⟨fun e => (by cases e; simp at hc), rfl⟩
      · cases h
    · rename_i v
      cases h
      refine wp_value (v := v) (w' := w) (by simp [execOp, Act.eval]) ?_
      exact hK _ _ _ _ _ (hr.put dst _ _ (cstD_rv _ _ _ _ v) fun t _ => cstD_own _ _ _ _ _ v) (Step.refl w Z m cl)
    all_goals cases h
  case pick c x y => split at h <;> cases h
  case box t x =>
    split at h
    · rename_i hs
      simp only [Bool.and_eq_true] at hs
      split at h
      · rename_i u
        split at h
        · split at h
          · rename_i hb
            cases h
            have hu : u < s.n := Nat.lt_of_succ_le (by simpa [Nat.blt] using hb)
            obtain ⟨c1, c2, c3⟩ := simple_cells (hr.ev' x) hs.1
            obtain ⟨r1, r2⟩ := hr.newObj (ds := (s.ev x).cellsD.map D.dis) (e := t) (by simpa using c1) c2 (fun i d v hd hv => by
              rw [List.getElem?_map, Option.map_eq_some_iff] at hd
              obtain ⟨d', hd, rfl⟩ := hd
              exact (c3 i d' v hd hv).dis) (fun d hd z xs e => by
                exfalso
                obtain ⟨d', _, rfl⟩ := List.mem_map.1 hd
                cases d' <;> simp [D.dis] at e)
            refine wp_value (v := .pointer (some ⟨w.heap.size, 0, none⟩)) (w' := w.alloc (.cells (a.eval x).cells t)) (by simp [execOp, Instr.box, newVar, newRow]) ?_
            refine hK _ _ _ _ _ (r1.put (some u) _ _ (.ref _ _ _ ?_) fun _ _ => Own.of_ne (by simp)) r2
            rw [← hr.ml]; simp
          · cases h
        · split at h <;> cases h
      · cases h
    · cases h
  case alloc t =>
    split at h
    · rename_i zs u hz
      split at h
      · rename_i hb
        cases h
        have hu : u < s.n := Nat.lt_of_succ_le (by simpa [Nat.blt] using hb)
        have hz := hT.z0 hz
        obtain ⟨i, zv, hi, hzv, hzone, rfl⟩ : ∃ i zv, P.info? t = some i ∧ i.zero = some zv ∧ (∀ v ∈ zv.cells, v.oneCell' = true) ∧ zs = zv.cells.toList.map fun v => (ofConst1 v).dis := by
          unfold tz0 at hz
          cases hi : P.info? t with
          | none => rw [hi] at hz; cases hz
          | some i =>
            rw [hi] at hz
            simp only [Option.bind_some] at hz
            cases hzz : i.zero with
            | none => rw [hzz] at hz; cases hz
            | some zv =>
              rw [hzz] at hz
              simp only at hz
              split at hz
              · rename_i hall'; exact ⟨i, zv, rfl, hzz, fun v hv => List.all_eq_true.1 hall' v (by simpa using hv), (Option.some.inj hz).symm⟩
              · cases hz
        have hmap : (zv.cells.toList.map fun v => (ofConst1 v).dis).map D.up0 = zv.cells.toList.map ofConst1 := by
          rw [List.map_map]; exact List.map_congr_left fun v _ => ofConst1_up0 v
        rw [hmap] at hK
        obtain ⟨r1, r2⟩ := hr.newObj (ds := zv.cells.toList.map ofConst1) (vs := zv.cells) (e := t) (by simp) hzone (fun i d v hd hv => by
          rw [List.getElem?_map, Option.map_eq_some_iff] at hd
          obtain ⟨u, hu, rfl⟩ := hd
          have : u = v := by
            have h1 : zv.cells.toList[i]? = zv.cells[i]? := by simp
            rw [h1, hv] at hu; exact (Option.some.inj hu).symm
          subst this
          exact ofConst1_rv _ _ _ _) (fun d hd z xs e => by
            obtain ⟨d', _, rfl⟩ := List.mem_map.1 hd
            exact ofConst1_osl e)
        refine wp_value (v := .pointer (some ⟨w.heap.size, 0, none⟩)) (w' := w.alloc (.cells zv.cells t)) (by simp [execOp, Instr.alloc, zeroValue, run_typeInfo w hi, hzv, newVar, newRow]) ?_
        refine hK _ _ _ _ _ (r1.put (some u) _ _ (.ref _ _ _ ?_) fun _ _ => Own.of_ne (by simp)) r2
        rw [← hr.ml]; simp
      · cases h
    · cases h
  case load t x =>
    split at h
    · rename_i u
      split at h
      · split at h
        · rename_i s2 hl
          cases h
          unfold loadC at hl
          split at hl
          · rename_i y
            split at hl
            · rename_i i off d hg hy hv
              split at hl
              · rename_i hb
                simp only [Option.some.injEq] at hl
                subst hl
                have hu : u < s.n := Nat.lt_of_succ_le (by simpa [Nat.blt] using hb)
                have hu' : u < a.tmps.size := by rw [hr.sz]; exact hu
                obtain ⟨g, k, h1, h2, h3⟩ := loadP_val hT hv
                have hav : AV P ⟨some u, .load t (.tmp y), type, pos, after, guard⟩ s d := ⟨g, k, h1, h2, h3⟩
                refine load_cell (x := y) (i := i) (off := off) (d := d) rfl hav hy (hT.ag hg) hr fun v hrv hosl hcell => ?_
                have hp : Rel w Z m cl (s.put (some u) d) (a.put (some u) v) := hr.put (some u) _ _ hrv fun _ _ => Own.of_ne hosl
                refine hK _ _ Z m cl ?_ (Step.refl _ _ _ _)
                exact { hp with
                  eqv := fun p q he => by
                    simp only [List.mem_cons, Prod.mk.injEq, reduceCtorEq, and_false, false_or] at he
                    exact hp.eqv p q he
                  eqc := fun p i' j' cs b vs e fr he hs hm hh => by
                    simp only [List.mem_cons, Prod.mk.injEq, Loc.cell.injEq] at he
                    rcases he with ⟨rfl, rfl, rfl⟩ | he
                    · rw [hcell b vs e fr hm hh, Act.getD_put, if_pos hu', if_pos rfl]
                    · exact hp.eqc p i' j' cs b vs e fr he hs hm hh }
              · cases hl
            · cases hl
          · cases hl
        · exact (loadP_st h).elim
      · exact (loadP_st h).elim
    · exact (loadP_st h).elim
  case fieldAddr t x f =>
    split at h
    · split at h
      · cases h
      · exact (ofO_st h).elim
    · cases h
  case field t x f =>
    split at h
    · exact (ofO_st h).elim
    · cases h
  case indexAddr t x i =>
    split at h
    · exact (ofO_st h).elim
    · split at h <;> cases h
  case index t x i => split at h <;> cases h
  case binOp op t x y yt =>
    split at h
    · cases h
    · split at h
      · exact (ofO_st h).elim
      · cases h
  case unOp op t x => exact (ofO_st h).elim
  case convert src dst x => exact (ofO_st h).elim
  case extract x i =>
    split at h
    · split at h <;> cases h
    · cases h
  case makeFunc fn first captured => split at h <;> cases h
  case slice t x lo hi mx => split at h <;> cases h
  case buildSlice t n ps =>
    split at h
    · split at h <;> cases h
    · cases h
  case build t ps =>
    split at h
    · exact (ofO_st h).elim
    · split at h
      · split at h <;> cases h
      · cases h
  case nilCheck x => split at h <;> cases h
  case makeSlice t l c =>
    split at h
    · split at h
      · split at h
        · split at h <;> cases h
        · cases h
      · cases h
    · cases h
  case store t x v =>
    split at h
    · split at h
      · split at h
        · split at h
          · split at h <;> cases h
          · cases h
        · split at h <;> cases h
      · cases h
    · rename_i i off g k hxe hg hk
      split at h
      · rename_i cs hS
        have plain : storeD P t x v none s (fun s2 => s2 = s') → Oper.wp P ⟨none, .store t x v, type, pos, after, guard⟩ a w K' Q := fun hd =>
          store_sound (K := fun s2 => s2 = s') rfl hd hr fun s2 a' w' Z' m' cl' he h1 h2 => hK a' w' Z' m' cl' (by rw [← he]; exact h1) h2
        split at h
        · split at h
          · rename_i ds hv
            split at h
            · rename_i hb
              simp only [Bool.and_eq_true] at hb
              cases h
              refine plain ⟨rfl, ?_⟩
              rw [hxe]
              simp only [refOf]
              exact ⟨cs, true, k, hS, hT.ag hg, hT.sz hk, by rw [if_pos rfl]; exact ⟨ds, hv, Nat.eq_of_beq_eq_true hb.1, Nat.le_of_ble_eq_true hb.2, rfl⟩⟩
            · cases h
          · cases h
        · split at h
          · rename_i hk1
            have hk1 := Nat.eq_of_beq_eq_true hk1
            subst hk1
            split at h
            · rename_i s2 hc
              cases h
              unfold storeC at hc
              split at hc
              · rename_i u
                split at hc
                · rename_i z xs hu
                  split at hc
                  · rename_i hb
                    simp only [Option.some.injEq] at hc
                    subst hc
                    exact storeOwn_sound rfl rfl hxe hS (hT.sz hk) (Nat.lt_of_succ_le (by simpa [Nat.blt] using hb)) hu hr hK
                  · cases hc
                · cases hc
              · cases hc
            · split at h
              · rename_i hb
                simp only [Bool.and_eq_true] at hb
                cases h
                refine plain ⟨rfl, ?_⟩
                rw [hxe]
                simp only [refOf]
                exact ⟨cs, false, 1, hS, hT.ag hg, hT.sz hk, by rw [if_neg (by simp)]; exact ⟨Nat.lt_of_succ_le (by simpa [Nat.blt] using hb.1), rfl, hb.2, rfl⟩⟩
              · cases h
          · cases h
      · cases h
    · cases h
  case call c =>
    split at h
    · split at h
      · exact (ofO_st h).elim
      · cases h
    · exact (ofO_st h).elim
    · exact (ofO_st h).elim
    · split at h
      · split at h
        · split at h <;> cases h
        · cases h
      · cases h
    · split at h
      · split at h <;> cases h
      · cases h
    · cases h
  case makeMap t r =>
    split at h
    · rename_i d
      split at h
      · rename_i hb
        cases h
        obtain ⟨r1, r2⟩ := hr.newMap
        refine wp_value (v := .map (some w.heap.size)) (w' := w.alloc (.map #[] 0)) (by simp [execOp, Instr.makeMap]) ?_
        refine hK _ _ _ _ _ (r1.put (some d) _ _ (.mref _ _ ?_) fun _ _ => Own.of_ne (by simp)) r2
        rw [← hr.ml]; simp
      · cases h
    · cases h
  case lookup t x k ok =>
    split at h
    · split at h <;> cases h
    · cases h
  case mapUpdate t x k v =>
    split at h
    · split at h <;> cases h
    · cases h
  all_goals cases h

theorem look_mem (hT : TabOk P tt) {o : Oper} {κ : Ky} {f : Ob → AS} {ob : Ob} (h : look tt o s = .mem κ f) (hk : κ.okO ob) (hr : Rel w Z m cl s a) {K' : Act → World → Prop} {Q : Exit → Act → World → Prop}
    (hK : ∀ a' w' Z' m' cl', Rel w' Z' m' cl' (f ob) a' → Step w Z m cl w' Z' m' cl' → K' a' w') : o.wp P a w K' Q := by
  obtain ⟨dst, op, type, pos, after, guard⟩ := o
  unfold look at h
  cases op <;> simp only at h
  case makeSlice t l c =>
    split at h
    · rename_i e k bytes kd n kd' cp d0 hel hl hc
      split at h
      · rename_i zs hz
        split at h
        · rename_i hb
          simp only [Bool.and_eq_true, Bool.not_eq_true'] at hb
          split at h
          · rename_i hmut
            cases h
            cases ob <;> simp only [Ky.okO] at hk
            rename_i cs
            obtain ⟨hnc, h0, hroom, h63, rfl⟩ := hk
            have hdn : d0 < s.n := Nat.lt_of_succ_le (by simpa [Nat.blt] using hb.2)
            have hk0 : k ≠ 0 := fun e => by rw [e] at hb; simp at hb
            refine make_sound (K := fun s2 => s2 = ({ s with S := s.S ++ [Ob.arr (mkCells n.toNat zs)], eqs := [] }.put (some d0) (.msl s.S.length 0 n.toNat))) rfl ?_ hr fun s2 a' w' Z' m' cl' he h1 h2 => hK a' w' Z' m' cl' (by subst he; exact h1) h2
            refine ⟨e, k, bytes, d0, zs, n, kd, cp, kd', rfl, hdn, hT.el hel, hT.z0 hz, Nat.eq_of_beq_eq_true hb.1.1, hk0, hl, hc, h0, by omega, hroom, h63, ?_⟩
            rw [if_pos (by simpa using hmut)]
            exact ⟨hnc, rfl⟩
          · cases h
        · cases h
      · cases h
    · cases h
  case store t x v =>
    split at h
    · rename_i i off g k hxe hg hk2
      split at h
      · rename_i cs hS
        split at h
        · split at h
          · rename_i ds hv
            split at h
            · rename_i hb
              simp only [Bool.and_eq_true] at hb
              cases h
              cases ob <;> simp only [Ky.okO, if_true] at hk
              rename_i cs'
              refine storeArr_sound (K := fun s2 => s2 = { s with S := s.S.set i (Ob.arr cs'), eqs := [] }) rfl ?_ hr fun s2 a' w' Z' m' cl' he h1 h2 => hK a' w' Z' m' cl' (by subst he; exact h1) h2
              refine ⟨rfl, ?_⟩
              rw [hxe]
              simp only [refOf]
              refine ⟨cs, true, k, hS, hT.ag hg, hT.sz hk2, ?_⟩
              simp only [if_true]
              exact ⟨ds, hv, Nat.eq_of_beq_eq_true hb.1, hk.1, hb.2, by rw [hk.2]⟩
            · cases h
          · cases h
        · split at h
          · rename_i hb
            simp only [Bool.and_eq_true] at hb
            cases h
            cases ob <;> simp only [Ky.okO, Bool.false_eq_true, if_false] at hk
            rename_i cs'
            obtain ⟨hlt, d, hd, rfl⟩ := hk
            simp only [List.cons.injEq, and_true] at hd
            subst hd
            refine storeArr_sound (K := fun s2 => s2 = { s with S := s.S.set i (Ob.arr (cs.set off (s.ev v).dis)), eqs := [] }) rfl ?_ hr fun s2 a' w' Z' m' cl' he h1 h2 => hK a' w' Z' m' cl' (by subst he; exact h1) h2
            refine ⟨rfl, ?_⟩
            rw [hxe]
            simp only [refOf]
            refine ⟨cs, false, k, hS, hT.ag hg, hT.sz hk2, ?_⟩
            rw [if_neg (by simp)]
            exact ⟨hlt, Nat.eq_of_beq_eq_true hb.1.1, hb.1.2, hb.2, rfl⟩
          · cases h
      · cases h
    · split at h
      · split at h
        · split at h
          · split at h <;> cases h
          · cases h
        · split at h
          · split at h
            · cases h
            · split at h <;> cases h
          · cases h
      · cases h
    · cases h
  case move x =>
    cases x <;> simp only at h
    · split at h
      · split at h
        · split at h <;> cases h
        · cases h
      · cases h
    all_goals cases h
  case assign x =>
    cases x <;> simp only at h
    · split at h
      · split at h <;> cases h
      · cases h
    all_goals cases h
  case pick c x y => split at h <;> cases h
  case box t x =>
    split at h
    · split at h
      · split at h
        · split at h <;> cases h
        · split at h <;> cases h
      · cases h
    · cases h
  case alloc t =>
    split at h
    · split at h <;> cases h
    · cases h
  case load t x =>
    split at h
    · split at h
      · split at h
        · cases h
        · exact (loadP_mem h).elim
      · exact (loadP_mem h).elim
    · exact (loadP_mem h).elim
  case fieldAddr t x f =>
    split at h
    · split at h
      · cases h
      · exact (ofO_mem h).elim
    · cases h
  case field t x f =>
    split at h
    · exact (ofO_mem h).elim
    · cases h
  case indexAddr t x i =>
    split at h
    · exact (ofO_mem h).elim
    · split at h <;> cases h
  case index t x i => split at h <;> cases h
  case binOp op t x y yt =>
    split at h
    · cases h
    · split at h
      · exact (ofO_mem h).elim
      · cases h
  case unOp op t x => exact (ofO_mem h).elim
  case convert src dst x => exact (ofO_mem h).elim
  case extract x i =>
    split at h
    · split at h <;> cases h
    · cases h
  case makeFunc fn first captured => split at h <;> cases h
  case slice t x lo hi mx => split at h <;> cases h
  case buildSlice t n ps =>
    split at h
    · split at h <;> cases h
    · cases h
  case build t ps =>
    split at h
    · exact (ofO_mem h).elim
    · split at h
      · split at h <;> cases h
      · cases h
  case nilCheck x => split at h <;> cases h
  case call c =>
    split at h
    · split at h
      · exact (ofO_mem h).elim
      · cases h
    · exact (ofO_mem h).elim
    · exact (ofO_mem h).elim
    · split at h
      · split at h
        · split at h <;> cases h
        · cases h
      · cases h
    · split at h
      · split at h <;> cases h
      · cases h
    · cases h
  case makeMap t r =>
    split at h
    · split at h <;> cases h
    · cases h
  case lookup t x k ok =>
    split at h
    · split at h <;> cases h
    · cases h
  case mapUpdate t x k v =>
    split at h
    · rename_i z i u hz hx hk'
      split at h
      · rename_i L hS hb
        cases h
        simp only [Bool.and_eq_true] at hb
        cases ob <;> simp only [Ky.okO] at hk
        rename_i L'
        have hxv := hr.ev' x
        rw [hx] at hxv
        obtain ⟨b, hmb, hxe⟩ : ∃ b, m[i]? = some b ∧ a.eval x = .map (some b) := by
          generalize a.eval x = v at hxv
          cases hxv; exact ⟨_, by assumption, rfl⟩
        have hkv := hr.ev' k
        rw [hk'] at hkv
        obtain ⟨h1, es, clk, h3, h4, h5⟩ := hr.mpo i L b hS hmb
        have hvv : Rv w Z [] (s.ev v).dis (a.eval v) := ((hr.ev' v).closed [] hb.2).dis
        obtain ⟨es', clk', hrun, hrel⟩ := mapUpdate_rel (hT.mp hz) h3 ⟨h4, fun j p e hp he => h5 j p e hp (by simpa using he)⟩ hk hkv.str_len hvv
        obtain ⟨r1, r2⟩ := hr.storeMap (es' := es') (clk' := clk') hS hmb h3 (by simpa using hrel.1) fun j p e hp he => hrel.2 j p e hp (by simpa using he)
        unfold Oper.wp
        have : (execOp a.eval ⟨none, .mapUpdate t x k v, type, pos, after, guard⟩).run P w = .ok .skip { w with heap := w.heap.setIfInBounds b (.map es' clk') } := by
          simp [execOp, hxe, hkv.str_inv, hrun]
        rw [this]
        simp only [Oper.upon_skip, Act.put]
        exact hK _ _ _ _ _ r1 r2
      · cases h
    · cases h
  all_goals cases h

end
end Go.AL
