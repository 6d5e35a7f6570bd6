/-
  A function's contract from one equation, which the kernel checks.
-/
import Derived.Test.YtikgppgpailmcaaAlProg2
namespace Go.AL

section
variable {P : Program} {tt : Nat → TE} {s : AS}

theorem xlast_sound (hT : TabOk P tt) {o : Oper} {τ : Type} {r : τ} {p : Prog τ} {K : AS → Prog τ → T} (h : (xlast tt [o] s p K).holds) (hok : p.ok P) (hev : p.eval = some r) :
    o.guard = none ∧ LastOk P o s fun s' => ∃ p' : Prog τ, (K s' p').holds ∧ p'.ok P ∧ p'.eval = some r := by
  simp only [xlast] at h
  split at h
  · exact h.elim
  · rename_i hg
    refine ⟨hg, fun w Z m cl a K' Q hr hk => ?_⟩
    split at h
    · rename_i d hlook
      refine av_sound (look_val hT hlook) hr fun v w' Z' q hrv hown => ?_
      exact hk _ _ _ _ _ _ ⟨p, h, hok, hev⟩ ((q.rel hr).put o.dst d v hrv fun t _ => hown cl t) (q.step hr.toRelS)
    · rename_i s2 hlook
      exact look_st hT hlook hr fun a' w' Z' m' cl' g1 g2 => hk _ _ _ _ _ _ ⟨p, h, hok, hev⟩ g1 g2
    · rename_i κ hlook
      split at h
      · rename_i α κ' mm e kk
        obtain ⟨rfl, h⟩ := h
        simp only [Prog.eval, Option.bind_eq_some_iff] at hev
        obtain ⟨x, hx, hev⟩ := hev
        refine av_sound (look_key hT hlook (hok.1 x hx)) hr fun v w' Z' q hrv hown => ?_
        exact hk _ _ _ _ _ _ ⟨_, h x, hok.2 x hx, hev⟩ ((q.rel hr).put o.dst _ v hrv fun t _ => hown cl t) (q.step hr.toRelS)
      · exact h.elim
    · rename_i κ s2 hlook
      split at h
      · rename_i α κ' mm e kk
        obtain ⟨rfl, h⟩ := h
        simp only [Prog.eval, Option.bind_eq_some_iff] at hev
        obtain ⟨x, hx, hev⟩ := hev
        exact look_eff hT hlook (hok.1 x hx) hr fun a' w' Z' m' cl' g1 g2 => hk _ _ _ _ _ _ ⟨_, h x, hok.2 x hx, hev⟩ g1 g2
      · exact h.elim
    · rename_i κ f hlook
      split at h
      · rename_i α κ' mm e kk
        obtain ⟨rfl, h⟩ := h
        simp only [Prog.eval, Option.bind_eq_some_iff] at hev
        obtain ⟨x, hx, hev⟩ := hev
        exact look_mem hT hlook (hok.1 x hx) hr fun a' w' Z' m' cl' g1 g2 => hk _ _ _ _ _ _ ⟨_, h x, hok.2 x hx, hev⟩ g1 g2
      · exact h.elim
    · exact h.elim

theorem TailsOk.mono' {l : List Oper} : ∀ {s : AS} {K K' : AS → Prop}, TailsOk P l s K → (∀ s, K s → K' s) → TailsOk P l s K' := by
  induction l with
  | nil => intro s K K' h hk; exact hk _ h
  | cons o r ih =>
    intro s K K' h hk
    exact ⟨h.1, fun w Z m cl a K2 Q hr hk2 => h.2 w Z m cl a K2 Q hr fun s' a' w' Z' m' cl' g1 g2 g3 => hk2 s' a' w' Z' m' cl' (ih g1 hk) g2 g3⟩

theorem xtail_sound (hT : TabOk P tt) {τ : Type} {r : τ} {K : AS → Prog τ → T} : ∀ (l : List Oper) (s : AS) (p : Prog τ), (xtail tt l s p K).holds → p.ok P → p.eval = some r →
    TailsOk P l s fun s' => ∃ p' : Prog τ, (K s' p').holds ∧ p'.ok P ∧ p'.eval = some r
  | [], s, p, h, hok, hev => ⟨p, h, hok, hev⟩
  | o :: t, s, p, h, hok, hev => by
    obtain ⟨hg, hl⟩ := xlast_sound hT h hok hev
    exact ⟨hg, fun w Z m cl a K' Q hr hk => hl w Z m cl a K' Q hr fun s' a' w' Z' m' cl' ⟨p', g1, g2, g3⟩ h2 h3 => hk s' a' w' Z' m' cl' (xtail_sound hT t s' p' g1 g2 g3) h2 h3⟩

theorem TailsOk.ext {l : List Oper} {s s' : AS} {K : AS → Prop} (he : Ext s s') (h : TailsOk P l s' fun s2 => K s2) : TailsOk P l s fun s2 => ∃ s3, Ext s2 s3 ∧ K s3 := by
  cases l with
  | nil => exact ⟨s', he, h⟩
  | cons o r =>
    refine ⟨h.1, fun w Z m cl a K' Q hr hk => h.2 w Z m cl a K' Q (hr.ext he.S he.n he.eqs he.get) fun s2 a' w' Z' m' cl' g1 g2 g3 => hk s2 a' w' Z' m' cl' ?_ g2 g3⟩
    exact g1.mono' fun s hs => ⟨s, ⟨rfl, rfl, rfl, fun _ => rfl⟩, hs⟩

theorem dstNe_ok {o : Oper} {u : Nat} (h : dstNe o u = true) : o.dst ≠ some u := by
  unfold dstNe at h
  intro he
  rw [he] at h
  simp at h

theorem ldEqs_ok (hT : TabOk P tt) {all : Array Oper} {T : Nat} (hTs : T ≤ all.size) : ∀ (l : List Oper) (k : Nat), (all.toList.take T).drop k = l → k ≤ T → ∀ p ∈ ldEqs tt s l, ∃ k u x i off, GoodLd P all T s k u x i off ∧ p = (u, Loc.cell i off)
  | [], k, hl, hk, p, hp => by simp [ldEqs] at hp
  | o :: r, k, hl, hk, p, hp => by
    have hlen := congrArg List.length hl
    simp only [List.length_drop, List.length_take, Array.length_toList, List.length_cons] at hlen
    have hkT : k < T := by omega
    have h0 : all[k]? = some o := by
      have := congrArg (fun l : List Oper => l[0]?) hl
      simp only [List.getElem?_drop, Nat.add_zero, List.getElem?_take, if_pos hkT, List.getElem?_cons_zero] at this
      simpa using this
    have hr1 : (all.toList.take T).drop (k + 1) = r := by
      have := congrArg List.tail hl
      simpa using this
    have rest : ∀ p ∈ ldEqs tt s r, ∃ k u x i off, GoodLd P all T s k u x i off ∧ p = (u, Loc.cell i off) := ldEqs_ok hT hTs r (k + 1) hr1 (by omega)
    simp only [ldEqs] at hp
    split at hp
    · rename_i t x u hop hd hg
      split at hp
      · rename_i hc
        simp only [Bool.and_eq_true, Bool.not_eq_true', List.all_eq_true] at hc
        obtain ⟨_, hux, hno⟩ := hc
        split at hp
        · rename_i i off hag hx
          rcases List.mem_cons.1 hp with rfl | hp
          · refine ⟨k, u, x, i, off, ⟨o, t, hkT, h0, hop, hd, hg, hT.ag hag, hx, fun e => (by subst e; simp at hux), fun j o' h1 h2 h3 => ?_⟩, rfl⟩
            have hm : o' ∈ r := by
              rw [← hr1]
              refine List.mem_of_getElem? (i := j - (k + 1)) ?_
              rw [List.getElem?_drop, List.getElem?_take, show k + 1 + (j - (k + 1)) = j by omega, if_pos h2]
              simpa using h3
            have := hno o' hm
            exact ⟨dstNe_ok this.1, dstNe_ok this.2⟩
          · exact rest p hp
        · exact rest p hp
      · exact rest p hp
    · exact rest p hp

theorem LastOk.ext {o : Oper} {s s' : AS} {K : AS → Prop} (he : Ext s s') (h : LastOk P o s' K) : LastOk P o s K := fun w Z m cl a K' Q hr hk =>
  h w Z m cl a K' Q (hr.ext he.S he.n he.eqs he.get) hk

theorem AWp.extMono {c : Code} {Q Q' : Exit → AS → Prop} (h : AWp P c Q s) (hq : ∀ e s, Q e s → ∃ s', Ext s s' ∧ Q' e s') : AWp P c Q' s := fun w Z m cl a hr =>
  wp_mono (h w Z m cl a hr) fun e a' w' ⟨s', Z', m', cl', h1, h2, h3⟩ => by
    obtain ⟨s2, he, h4⟩ := hq e s' h1
    exact ⟨s2, Z', m', cl', h4, h2.ext he.S he.n he.eqs he.get, h3⟩

/-- A loop, whose state at each round's head holds what is said. -/
theorem AWp.loopWk {c : Code} {Q : Exit → AS → Prop} {s : AS} {σ : Type} (st : σ → AS) (I : σ → Prop) (μ : σ → Nat) (x0 : σ) (h0 : I x0) (hs : Wk (st x0) s)
    (round : ∀ x, I x → AWp P c (Then (fun s' => ∃ y, I y ∧ μ y < μ x ∧ Wk (st y) s') Q) (st x)) : AWp P (.loop c) Q s := by
  have key : ∀ n x w Z m cl a, μ x = n → I x → Rel w Z m cl (st x) a → ∀ (b : Frame) (k : List Item) (cs : List Frame),
      ∃ e a' w', Lift w Z m cl Q e a' w' ∧ Arrives P (lone (b.at a (.code c :: .inLoop c :: k)) cs w) b k cs e a' w' := by
    intro n
    induction n using Nat.strongRecOn with
    | _ n ih =>
      intro x w Z m cl a hn hI hr b k cs
      obtain ⟨e, a₁, w₁, ⟨s1, Z1, m1, cl1, hq, hr1, hst⟩, harr⟩ := round x hI w Z m cl a hr b (.inLoop c :: k) cs
      cases e with
      | normal =>
        obtain ⟨y, hI₁, hlt, hwk⟩ := hq
        obtain ⟨Z3, m3, cl3, hr3, hst3⟩ := hwk w₁ Z1 m1 cl1 a₁ hr1
        obtain ⟨e₂, a₂, w₂, ⟨s2, Z2, m2, cl2, hq₂, hr2, hst2⟩, harr₂⟩ := ih (μ y) (hn ▸ hlt) y w₁ Z3 m3 cl3 a₁ rfl hI₁ hr3 b k cs
        exact ⟨e₂, a₂, w₂, ⟨s2, Z2, m2, cl2, hq₂, hr2, (hst.trans hst3).trans hst2⟩, .of_steps (Steps.trans harr (.one step_inLoop)) harr₂⟩
      | exit id => exact ⟨_, a₁, w₁, ⟨s1, Z1, m1, cl1, hq, hr1, hst⟩, .pass (x := .inLoop c) rfl (fun _ _ => .inl (by simp)) harr⟩
      | goto l => exact ⟨_, a₁, w₁, ⟨s1, Z1, m1, cl1, hq, hr1, hst⟩, .pass (x := .inLoop c) rfl (fun _ _ => .inl (by simp)) harr⟩
      | ret => exact ⟨_, a₁, w₁, ⟨s1, Z1, m1, cl1, hq, hr1, hst⟩, .pass (x := .inLoop c) rfl (fun _ _ => .inl (by simp)) harr⟩
      | panic ch => exact ⟨_, a₁, w₁, ⟨s1, Z1, m1, cl1, hq, hr1, hst⟩, .pass (x := .inLoop c) rfl (fun _ _ => .inl (by simp)) harr⟩
      | outgrown => exact ⟨_, a₁, w₁, ⟨s1, Z1, m1, cl1, hq, hr1, hst⟩, .pass (x := .inLoop c) rfl (fun _ _ => .inl (by simp)) harr⟩
  intro w Z m cl a hr b k cs
  obtain ⟨Z3, m3, cl3, hr3, hst3⟩ := hs w Z m cl a hr
  obtain ⟨e, a', w', ⟨s2, Z2, m2, cl2, hq₂, hr2, hst2⟩, harr⟩ := key _ x0 w Z3 m3 cl3 a rfl h0 hr3 b k cs
  exact ⟨e, a', w', ⟨s2, Z2, m2, cl2, hq₂, hr2, hst3.trans hst2⟩, .of_steps (.one step_loop) harr⟩

theorem lenAny_rv {w Z m} {d : D} {v : Value} {n : Nat} (h : Rv w Z m d v) (hd : lenAny d = .int .i64 n) : n ≤ 9223372036854775807 := by
  have sl : ∀ xs v, Rv w Z m (.sl xs) v → xs.length ≤ 9223372036854775807 := fun xs v h => by
    cases h
    · simp
    · simp
    · rename_i hcap _ _ _; exact hcap.2
  cases d <;> simp only [lenAny, D.int.injEq, true_and, reduceCtorEq] at hd
  · have := h.str_len; omega
  · have := sl _ _ h; omega
  · cases h; rename_i h _; have := sl _ _ h; omega
  · cases h; rename_i hcap _; omega

/-- The kernel's check, and what it means. -/
theorem exec_sound (hT : TabOk P tt) (hm : P.follows .mixedOrders = true) : ∀ (c : Code) {τ : Type} (s : AS) (p : Prog τ) (K : Exit → AS → Prog τ → T) (r : τ), (exec tt c s p K).holds → p.ok P → p.eval = some r → AWp P c (Sat P K r) s := by
  intro c
  induction c with
  | skip => intro τ s p K r h hok hev; exact AWp.skip ⟨p, h, hok, hev⟩
  | label l => intro τ s p K r h hok hev; exact AWp.label ⟨p, h, hok, hev⟩
  | ret => intro τ s p K r h hok hev; exact AWp.ret ⟨p, h, hok, hev⟩
  | exit id => intro τ s p K r h hok hev; exact AWp.exit ⟨p, h, hok, hev⟩
  | goto l => intro τ s p K r h hok hev; exact h.elim
  | refuse why => intro τ s p K r h hok hev; exact h.elim
  | rangeFunc f params x y _ _ => intro τ s p K r h hok hev; exact h.elim
  | scope c ih =>
    intro τ s p K r h hok hev
    refine AWp.scope ((ih s p _ r h hok hev).mono fun e s' hs => ?_)
    obtain ⟨p', h1, h2, h3⟩ := hs
    cases e <;> first | exact h1.elim | exact ⟨p', h1, h2, h3⟩
  | block id c ih =>
    intro τ s p K r h hok hev
    refine AWp.block ((ih s p _ r h hok hev).mono fun e s' hs => ?_)
    obtain ⟨p', h1, h2, h3⟩ := hs
    cases e with
    | exit id' =>
      simp only at h1
      simp only [InBlock]
      split at h1
      · rename_i hb; rw [if_pos (Nat.eq_of_beq_eq_true hb)]; exact ⟨p', h1, h2, h3⟩
      · rename_i hb; rw [if_neg (Nat.ne_of_beq_eq_false hb)]; exact ⟨p', h1, h2, h3⟩
    | _ => exact ⟨p', h1, h2, h3⟩
  | seq x y ihx ihy =>
    intro τ s p K r h hok hev
    simp only [exec] at h
    obtain ⟨s0, p0, hw0, h, hok, hev⟩ := seals_sound p s h hok hev
    refine AWp.wk hw0 ?_
    clear hw0
    revert h hok hev
    generalize s0 = s
    generalize p0 = p
    intro h hok hev
    have plain : ∀ (p : Prog τ), (exec tt x s p fun e s' p' => match e with
      | .normal => exec tt y s' p' K
      | e => K e s' p').holds → p.ok P → p.eval = some r → AWp P (.seq x y) (Sat P K r) s := fun p h hok hev => by
      refine AWp.seq ((ihx s p _ r h hok hev).mono fun e s' hs => ?_)
      obtain ⟨p', h1, h2, h3⟩ := hs
      cases e with
      | normal => exact ihy s' p' K r h1 h2 h3
      | _ => exact ⟨p', h1, h2, h3⟩
    cases p with
    | join l A m k =>
      obtain ⟨h1, h2⟩ := h
      simp only [Prog.eval] at hev
      obtain ⟨o1, o2⟩ := hok
      cases hme : m.eval with
      | none => rw [hme] at hev; simp [joinE] at hev
      | some v =>
        rw [hme] at hev
        refine AWp.seq ((ihx s m _ v h1 o1 hme).mono fun e s' hs => ?_)
        obtain ⟨p', g1, g2, g3⟩ := hs
        simp only [joinK] at g1
        split at g1
        · rename_i z
          simp only [Prog.eval, Option.some.injEq] at g3
          subst g3
          split at g1
          · split at g1
            · obtain ⟨hw, _⟩ := mat_wk g1
              simp only [joinE] at hev
              exact AWp.wk hw (ihy _ _ K r (h2 _) (o2 _) hev)
            · exact g1.elim
          · simp only [joinE, Option.some.injEq] at hev
            subst hev
            split at g1
            · exact g1.elim
            · rename_i e' hne
              cases e with
              | normal => exact absurd rfl hne
              | _ => exact ⟨_, g1, trivial, rfl⟩
        · exact g1.elim
    | inner p => exact plain p h hok hev
    | ret r => exact plain _ h hok hev
    | fail => exact plain _ h hok hev
    | op κ m e k => exact plain _ h hok hev
    | mem κ m e k => exact plain _ h hok hev
    | fix i t len k xs p => exact plain _ h hok hev
    | split t c x y => exact plain _ h hok hev
    | loop l A st nx body => exact plain _ h hok hev
    | rng x tc n l A st body ex => exact plain _ h hok hev
  | cond c x y ihx ihy =>
    intro τ s p K r h hok hev
    simp only [exec] at h
    obtain ⟨s0, p0, hw0, h, hok, hev⟩ := seals_sound p s h hok hev
    refine AWp.wk hw0 ?_
    clear hw0
    revert h hok hev
    generalize s0 = s
    generalize p0 = p
    intro h hok hev
    split at h
    · rename_i t
      split at h
      · rename_i b px py hat
        have hp := at_some hat
        subst hp
        obtain ⟨hc, hx, hy⟩ := h
        simp only [List.cons.injEq, and_true] at hc
        refine AWp.cond (b := b) hc (fun hb => ?_) (fun hb => ?_)
        · subst hb
          simp only [Prog.eval, if_true] at hev
          exact AWp.wk (Wk.lit hc) (ihx _ px K r hx (hok.1 rfl) hev)
        · subst hb
          simp only [Prog.eval, Bool.false_eq_true, if_false] at hev
          exact AWp.wk (Wk.lit hc) (ihy _ py K r hy (hok.2 rfl) hev)
      · split at h
        · rename_i b hb
          refine AWp.cond (b := b) hb (fun e => ?_) (fun e => ?_)
          · subst e; exact ihx s p K r h hok hev
          · subst e; exact ihy s p K r h hok hev
        · exact h.elim
    · exact h.elim
  | loop c ih =>
    intro τ s p K r h hok hev
    simp only [exec] at h
    obtain ⟨s0, p0, hw0, h, hok, hev⟩ := seals_sound p s h hok hev
    refine AWp.wk hw0 ?_
    clear hw0
    revert h hok hev
    generalize s0 = s
    generalize p0 = p
    intro h hok hev
    split at h
    · rename_i σ ρ l A st nx body
      obtain ⟨hw, hbody⟩ := mat_wk h
      simp only [Prog.eval] at hev
      refine AWp.loopWk (σ := Nat × σ) (fun x => mk s l (A x.2)) (fun x => loopE nx (fun st => (body st).eval) x.1 x.2 = some r) (fun x => x.1) (big, st) hev hw ?_
      rintro ⟨n, z⟩ hI
      simp only at hI ⊢
      cases n with
      | zero => cases hI
      | succ n =>
        simp only [loopE] at hI
        cases hb : (body z).eval with
        | none => rw [hb] at hI; cases hI
        | some v =>
          rw [hb] at hI
          refine (ih _ (body z) _ v (hbody z) (hok z) hb).mono fun e s' hs => ?_
          obtain ⟨p', g1, g2, g3⟩ := hs
          simp only [joinK] at g1
          split at g1
          · rename_i q
            simp only [Prog.eval, Option.some.injEq] at g3
            subst g3
            split at g1
            · rename_i y
              split at g1
              · obtain ⟨hw2, _⟩ := mat_wk g1
                simp only at hI
                exact ⟨(n, nx z y), hI, by simp, hw2⟩
              · exact g1.elim
            · rename_i r'
              simp only [Option.some.injEq] at hI
              subst hI
              split at g1
              · exact g1.elim
              · rename_i e' hne
                cases e with
                | normal => exact absurd rfl hne
                | _ => exact ⟨_, g1, trivial, rfl⟩
          · exact g1.elim
    · rename_i σ x tc n l A st body ex
      obtain ⟨hlen, h⟩ := h
      simp only [List.cons.injEq, and_true] at hlen
      obtain ⟨hw, hbody⟩ := mat_wk h
      simp only [Prog.eval] at hev
      intro w Z m cl a hr
      have hn := lenAny_rv (hr.rv x) hlen
      refine (AWp.loopWk (σ := Nat × Nat × σ) (fun x => mk s l (A x.2.1 x.2.2)) (fun x => x.1 + x.2.1 = n ∧ rngE (fun i st => (body i st).eval) ex x.1 x.2.1 x.2.2 = some r) (fun x => x.1) (n, 0, st) ⟨rfl, hev⟩ hw ?_) w Z m cl a hr
      rintro ⟨k, i, z⟩ ⟨hki, hI⟩
      simp only at hki hI ⊢
      cases k with
      | zero =>
        have hin : ¬ ((i : Int) < n) := by omega
        simp only [rngE, Option.some.injEq] at hI
        subst hI
        refine (ih _ _ _ (.inr (ex z)) (hbody i z) ⟨fun h => (by simp [hin] at h), fun _ => trivial⟩ (by simp [Prog.eval, hin])).mono fun e s' hs => ?_
        obtain ⟨p', g1, g2, g3⟩ := hs
        simp only [joinK] at g1
        split at g1
        · rename_i q
          simp only [Prog.eval, Option.some.injEq] at g3
          cases q with
          | inl y => cases g3
          | inr r' =>
            simp only [Sum.inr.injEq] at g3
            subst g3
            simp only at g1
            split at g1
            · exact g1.elim
            · rename_i e' hne
              cases e with
              | normal => exact absurd rfl hne
              | _ => exact ⟨_, g1, trivial, rfl⟩
        · exact g1.elim
      | succ k =>
        have hin : (i : Int) < n := by omega
        simp only [rngE] at hI
        cases hb : (body i z).eval with
        | none => rw [hb] at hI; cases hI
        | some v =>
          rw [hb] at hI
          refine (ih _ _ _ v (hbody i z) ⟨fun _ => hok i z (by omega), fun _ => trivial⟩ (by simp [Prog.eval, hin, hb])).mono fun e s' hs => ?_
          obtain ⟨p', g1, g2, g3⟩ := hs
          simp only [joinK] at g1
          split at g1
          · rename_i q
            simp only [Prog.eval, Option.some.injEq] at g3
            subst g3
            split at g1
            · rename_i y
              split at g1
              · obtain ⟨hw2, _⟩ := mat_wk g1
                simp only at hI
                refine ⟨(k, i + 1, y), ⟨by show k + (i + 1) = n; omega, hI⟩, by simp, ?_⟩
                have hwrap : IntKind.i64.wrap ((i : Int) + 1) = ((i + 1 : Nat) : Int) := by rw [IntKind.wrap_i64]; omega
                rw [hwrap] at hw2
                exact hw2
              · exact g1.elim
            · rename_i r'
              simp only [Option.some.injEq] at hI
              subst hI
              split at g1
              · exact g1.elim
              · rename_i e' hne
                cases e with
                | normal => exact absurd rfl hne
                | _ => exact ⟨_, g1, trivial, rfl⟩
          · exact g1.elim
    · exact h.elim
  | region id ops draw =>
    intro τ s p K r h hok hev
    simp only [exec] at h
    obtain ⟨s0, p0, hw0, h, hok, hev⟩ := seals_sound p s h hok hev
    refine AWp.wk hw0 ?_
    clear hw0
    revert h hok hev
    generalize s0 = s
    generalize p0 = p
    intro h hok hev
    split at h
    · intro w Z m cl a hr
      refine wp_region ?_
      rw [List.range_eq_range', show ops.size = ops.toList.length by simp]
      exact xops_sound hT ops.toList 0 s p _ w Z m cl a (fun j => by simp) h hok hev hr fun s' a' w' Z' m' cl' hK hr' hst => ⟨s', Z', m', cl', hK, hr', hst⟩
    · split at h
      · rename_i htl
        have hq := xopsQ_sound hT (ops.toList.take (firstEff ops.toList)) { s with eqs := [] } { s with eqs := [] } p ⟨rfl, rfl, rfl, fun _ => rfl⟩ h hok hev
        have hTs : firstEff ops.toList ≤ ops.size := by
          unfold tailsOk at htl
          simp only [Bool.and_eq_true] at htl
          exact Nat.le_of_ble_eq_true htl.2.1
        have hmono : ∀ (l : List Oper) (s : AS) (K1 K2 : AS → Prop), (∀ s, K1 s → K2 s) → qopl P ops l s K1 → qopl P ops l s K2 := by
          intro l
          induction l with
          | nil => intro s K1 K2 h h1; exact h _ h1
          | cons o r ih =>
            intro s K1 K2 h h1
            simp only [qopl, aguard] at h1 ⊢
            split at h1
            · obtain ⟨d, h2, h3⟩ := h1; exact ⟨d, h2, ih _ _ _ h h3⟩
            · exact ih _ _ _ h h1
            · exact h1
        refine AWp.extMono (AWp.drawTails (K := fun s2 => ∃ s2', Ext s2 s2' ∧ Sat P K r .normal s2') (Q := fun e s2 => ∃ s2', Ext s2 s2' ∧ Sat P K r e s2') (firstEff ops.toList) hm htl (hmono _ _ _ _ (fun s2 hs2 => ?_) hq) fun s h => h) fun e s h => h
        obtain ⟨s3, he, p', g1, g2, g3⟩ := hs2
        refine ⟨ldEqs tt s3 (ops.toList.take (firstEff ops.toList)), fun q hq => ?_, ?_⟩
        · obtain ⟨k, u, x, i, off, ⟨o, t, a1, a2, a3, a4, a5, a6, a7, a8⟩, e⟩ := ldEqs_ok hT hTs _ 0 rfl (Nat.zero_le _) q hq
          exact ⟨k, u, x, i, off, ⟨o, t, a1, a2, a3, a4, a5, a6, by rw [← he.get]; exact a7, a8⟩, e⟩
        · exact TailsOk.ext (s' := { s3 with eqs := ldEqs tt s3 (ops.toList.take (firstEff ops.toList)) }) ⟨he.S, he.n, rfl, he.get⟩ (xtail_sound hT _ _ _ g1 g2 g3)
      split at h
      · rename_i hl
        obtain ⟨h1, h2⟩ := h
        simp only [List.cons.injEq, D.bool.injEq, and_true] at h1
        have hq := xopsQ_sound hT (ops.toList.take (ops.size - 1)) { s with eqs := [] } { s with eqs := [] } p ⟨rfl, rfl, rfl, fun _ => rfl⟩ h2 hok hev
        have hsz : ops.size - 1 + 1 = ops.size := by
          unfold tailOk at h1; simp only [Bool.and_eq_true, beq_iff_eq] at h1; exact h1.1.2
        have hT1 : ops.size - 1 < ops.size := by omega
        have hdrop : ops.toList.drop (ops.size - 1) = [ops[ops.size - 1]] := by
          rw [List.drop_eq_getElem_cons (by simp; omega), List.drop_eq_nil_of_le (by simp; omega)]
          simp
        refine AWp.drawTailL (K := Sat P K r .normal) (ops.size - 1) hm h1 ops[ops.size - 1] (by simp [hT1]) ?_ (fun s h => h)
        have hmono : ∀ (l : List Oper) (s : AS) (K1 K2 : AS → Prop), (∀ s, K1 s → K2 s) → qopl P ops l s K1 → qopl P ops l s K2 := by
          intro l
          induction l with
          | nil => intro s K1 K2 h h1; exact h _ h1
          | cons o r ih =>
            intro s K1 K2 h h1
            simp only [qopl, aguard] at h1 ⊢
            split at h1
            · obtain ⟨d, h2, h3⟩ := h1; exact ⟨d, h2, ih _ _ _ h h3⟩
            · exact ih _ _ _ h h1
            · exact h1
        refine hmono _ _ _ _ (fun s2 hs2 => ?_) hq
        obtain ⟨s3, he, p', g1, g2, g3⟩ := hs2
        rw [hdrop] at g1
        obtain ⟨hg, hlast⟩ := xlast_sound hT g1 g2 g3
        exact ⟨by unfold awant; rw [hg], hlast.ext he⟩
      · obtain ⟨h1, h2⟩ := h
        simp only [List.cons.injEq, D.bool.injEq, and_true] at h1
        have hq := xopsQ_sound hT ops.toList { s with eqs := [] } { s with eqs := [] } p ⟨rfl, rfl, rfl, fun _ => rfl⟩ h2 hok hev
        refine AWp.extMono (AWp.draw (K := fun s2 => ∃ s2', Ext s2 s2' ∧ Sat P K r .normal s2') (Q := fun e s2 => ∃ s2', Ext s2 s2' ∧ Sat P K r e s2') hm h1 hq fun s h => h) fun e s h => h

def resO (tt : Nat → TE) (s : AS) : List ResultVar → Option (List D)
  | [] => some []
  | .tmp t :: r => match resO tt s r with
    | some ds => some ((s.get t).dis :: ds)
    | none => none
  | .cell x t :: r => match (tt t).ag, (tt t).sz with
    | some g, some k => match loadO s.S g k (s.get x) with
      | some d => match resO tt s r with
        | some ds => some (d :: ds)
        | none => none
      | none => none
    | _, _ => none

theorem loadO_ne {S : List Ob} {g : Bool} {k : Nat} {x d : D} (h : loadO S g k x = some d) : ∀ z xs, d ≠ .osl z xs := by
  have hd : ∀ c : D, ∀ z xs, c.dis ≠ .osl z xs := fun c z xs => by cases c <;> simp [D.dis]
  unfold loadO at h
  split at h
  · cases g <;> simp only at h
    · split at h <;> simp only [Option.some.injEq, reduceCtorEq] at h
      subst h; exact hd _
    · split at h <;> simp only [Option.some.injEq, reduceCtorEq] at h
      subst h; intro z xs; simp
  · split at h
    · cases g <;> simp only at h
      · split at h <;> simp only [Option.some.injEq, reduceCtorEq] at h
        subst h; exact hd _
      · split at h <;> simp only [Option.some.injEq, reduceCtorEq] at h
        subst h; intro z xs; simp
    · cases h
  · cases h

theorem resO_ok (hT : TabOk P tt) : ∀ {rs : List ResultVar} {ds : List D}, resO tt s rs = some ds → resL P s rs ds
  | [], ds, h => by simp only [resO, Option.some.injEq] at h; exact h.symm
  | .tmp t :: r, ds, h => by
    simp only [resO] at h
    split at h
    · rename_i e he
      simp only [Option.some.injEq] at h
      exact ⟨_, e, rfl, resO_ok hT he, h.symm⟩
    · cases h
  | .cell x t :: r, ds, h => by
    simp only [resO] at h
    split at h
    · rename_i g k hg hk
      split at h
      · rename_i d hd
        split at h
        · rename_i e he
          simp only [Option.some.injEq] at h
          exact ⟨d, e, ⟨g, k, hT.ag hg, hT.sz hk, loadO_ok hd, loadO_ne hd⟩, resO_ok hT he, h.symm⟩
        · cases h
      · cases h
    · cases h

/-- At the end of a function the results are those of its program. -/
def retK (tt : Nat → TE) {τ : Type} (rs : List ResultVar) (enc : τ → D) : Exit → AS → Prog τ → T := fun e s p =>
  match p with
  | .ret r => match resO tt s rs with
    | some ds => match e with
      | .normal => .eq [resOf ds] [enc r] .ok
      | .ret => .eq [resOf ds] [enc r] .ok
      | _ => .bad
    | none => .bad
  | _ => .bad

def D.isOsl : D → Bool
  | .osl _ _ => true
  | _ => false
def noOsl : List D → Bool
  | [] => true
  | d :: r => !d.isOsl && noOsl r
theorem noOsl_mem : ∀ {l : List D}, noOsl l = true → ∀ d ∈ l, ∀ z xs, d ≠ .osl z xs
  | [], _, d, h => by cases h
  | x :: r, h, d, hd => by
    simp only [noOsl, Bool.and_eq_true, Bool.not_eq_true'] at h
    rcases List.mem_cons.1 hd with rfl | hd
    · intro z xs e; subst e; cases h.1
    · exact noOsl_mem h.2 d hd

def checkF (tt : Nat → TE) {τ : Type} (c : Code) (args : List D) (rs : List ResultVar) (n : Nat) (muts app : List Nat) (p : Prog τ) (enc : τ → D) : T :=
  .eq [.bool (Nat.ble args.length n && D.okmL 0 args && noOsl args)] [.bool true] (.and (.all fun r => .eq [.bool ((enc r).okm 0)] [.bool true] .ok) (exec tt c (start args n muts app) p (retK tt rs enc)))

/-- A function's contract. -/
theorem CallsP.of_check (hT : TabOk P tt) (hm : P.follows .mixedOrders = true) {f : FuncId} {fn : Func} {c : Code} {args : List D} {rs : List ResultVar} {n : Nat} {muts app : List Nat} {τ : Type} {p : Prog τ} {enc : τ → D}
    (hf : P.funcs[f]? = some fn) (hb : fn.body = some c) (hrs : fn.results.toList = rs) (hn : fn.ntmps = n)
    (h : (checkF tt c args rs n muts app p enc).lhs = (checkF tt c args rs n muts app p enc).rhs) (hok : p.ok P) {r : τ} (hev : p.eval = some r) : CallsP P f args (enc r) := by
  obtain ⟨h1, hcl, h2⟩ := T.of_eq _ h
  simp only [List.cons.injEq, D.bool.injEq, Bool.and_eq_true, and_true] at h1
  obtain ⟨⟨ha, hk⟩, hno⟩ := h1
  have hc : (enc r).okm 0 = true := by
    have := (hcl r).1
    simpa using this
  have hx := exec_sound hT hm c (start args n muts app) p (retK tt rs enc) r h2 hok hev
  have hfin : ∀ e s, Sat P (retK tt rs enc) r e s → Ret P rs (enc r) e s := fun e s ⟨p', g1, g2, g3⟩ => by
    simp only [retK] at g1
    split at g1
    · rename_i r'
      simp only [Prog.eval, Option.some.injEq] at g3
      subst g3
      split at g1
      · rename_i ds hds
        split at g1
        · obtain ⟨g1, _⟩ := g1
          simp only [List.cons.injEq, and_true] at g1
          exact ⟨ds, resO_ok hT hds, g1.symm⟩
        · obtain ⟨g1, _⟩ := g1
          simp only [List.cons.injEq, and_true] at g1
          exact ⟨ds, resO_ok hT hds, g1.symm⟩
        · exact g1.elim
      · exact g1.elim
    · exact g1.elim
  exact CallsP.of_body rs n muts app hf hb hrs hn (Nat.le_of_ble_eq_true ha) (noOsl_mem hno) (fun d hd w Z m m' v h => h.closed m' (D.okmL_mem hk d hd)) (fun w Z m m' v h => h.closed m' hc) (hx.mono hfin)

end
end Go.AL
