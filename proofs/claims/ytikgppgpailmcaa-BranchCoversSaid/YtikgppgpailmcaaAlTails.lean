/-
  A region whose order is open: quiet operations, and behind them some that come one behind the other in every order.
-/
import Derived.Test.YtikgppgpailmcaaAlTail
namespace Go.AL

/-- From place T on each operation comes behind all that stand ahead of it. -/
def tailsOk (all : Array Oper) (n T : Nat) : Bool :=
  drawOk all n && (Nat.ble T all.size && (List.range all.size).all fun j => Nat.blt j T || (List.range j).all fun i => ((msks all.toList []).getD j 0).testBit i)

/-- What must hold behind operations that come one behind the other. -/
def TailsOk (P : Program) : List Oper → AS → (AS → Prop) → Prop
  | [], s, K => K s
  | o :: r, s, K => o.guard = none ∧ LastOk P o s fun s' => TailsOk P r s' K

/-- A load of an object's cell among the first T operations, whose slot nothing else writes. -/
def GoodLd (P : Program) (all : Array Oper) (T : Nat) (s : AS) (k u x i off : Nat) : Prop :=
  ∃ o t, k < T ∧ all[k]? = some o ∧ o.op = .load t (.tmp x) ∧ o.dst = some u ∧ o.guard = none ∧ tag P t = some false ∧ s.get x = .ref i off ∧ u ≠ x ∧
    ∀ j o', k < j → j < T → all[j]? = some o' → o'.dst ≠ some u ∧ o'.dst ≠ some x

def CellEq (w : World) (m : List Nat) (a : Act) (u i off : Nat) : Prop :=
  ∀ (b : Nat) vs e fr, m[i]? = some b → w.heap[b]? = some (.cells vs e fr) → vs[off]? = some (a.tmps.getD u Go.undef)

section
variable {P : Program} {s : AS} {w : World} {Z : Zone} {m : List Nat} {cl : Cl} {a : Act}

/-- A load of a cell gives what the cell holds. -/
theorem load_cell {o : Oper} {t x i off : Nat} {d : D} (ho : o.op = .load t (.tmp x)) (hav : AV P o s d) (hx : s.get x = .ref i off) (hg : tag P t = some false) (hr : Rel w Z m cl s a) {K : Act → World → Prop} {Q : Exit → Act → World → Prop}
    (hk : ∀ v, Rv w Z m d v → (∀ z xs, d ≠ .osl z xs) → (∀ (b : Nat) vs e fr, m[i]? = some b → w.heap[b]? = some (.cells vs e fr) → vs[off]? = some v) → K (a.put o.dst v) w) : o.wp P a w K Q := by
  unfold AV at hav
  rw [ho] at hav
  obtain ⟨g, k, hg', hsz, hd⟩ := hav
  rw [hg] at hg'; cases hg'
  have hxv := hr.rv x
  have hd' : loadD s.S false k (.ref i off) d := by rw [← hx]; exact hd
  simp only [loadD, Bool.false_eq_true, if_false] at hd'
  obtain ⟨cs, hS, c, hc, rfl⟩ := hd'
  rw [hx] at hxv
  obtain ⟨b, hm, hxe⟩ : ∃ b, m[i]? = some b ∧ a.tmps.getD x Go.undef = .pointer (some ⟨b, off, none⟩) := by
    generalize a.tmps.getD x Go.undef = v at hxv
    cases hxv; exact ⟨_, by assumption, rfl⟩
  obtain ⟨h1, h2, vs, e, h3, h4, h6, h5⟩ := hr.obj i cs b hS hm
  have hlt : off < cs.length := (List.getElem?_eq_some_iff.1 hc).1
  have hv : vs[off]? = some (vs[off]'(by omega)) := by simp [show off < vs.size by omega]
  have hxe' : a.eval (.tmp x) = .pointer (some ⟨b, off, none⟩) := hxe
  refine wp_value (v := vs[off]'(by omega)) (w' := w) ?_ (hk _ (h5 off c _ hc hv).1.dis (by cases c <;> simp [D.dis]) fun b' vs' e' fr hm' hh => ?_)
  · have hl : (loadVar t ⟨b, off, none⟩).run P w = .ok (vs[off]'(by omega)) w := run_loadVar_one hg (by simp [World.cell?, h3, show off < vs.size by omega])
    simp [execOp, ho, hxe', Instr.loadAt, Instr.sureAddr, hl]
  · rw [hm] at hm'; cases hm'
    rw [h3] at hh; cases hh
    exact hv

theorem wpAny_done {all : Array Oper} {Q' : Exit → Act → World → Prop} (fuel : Nat) (listed : Array Bool) (a : Act) (w : World) (hsz : listed.size = all.size) (hall : ∀ i, i < all.size → listed.getD i false = true) (hq : Q' .normal a w) : wpAny P .any all Q' fuel listed a w := by
  have hnil : Region.ready .any all listed = [] := by
    cases hrd : Region.ready .any all listed with
    | nil => rfl
    | cons i r =>
      have hi : i ∈ Region.ready .any all listed := by rw [hrd]; simp
      obtain ⟨h1, _⟩ := mem_ready.1 hi
      obtain ⟨h2, h3⟩ := getD_ft h1
      rw [hall i (by omega)] at h3; cases h3
  cases fuel with
  | zero => exact ⟨hnil, hq⟩
  | succ f => exact ⟨fun _ => hq, fun i hi => by rw [hnil] at hi; cases hi⟩

theorem ready_full {all : Array Oper} (hlt : ∀ (i : Nat) (o : Oper), all[i]? = some o → ∀ e ∈ o.after, Region.binds .any e = true → e.on < i) (listed : Array Bool) (hsz : listed.size = all.size) (hrd : Region.ready .any all listed = []) : ∀ i, i < all.size → listed.getD i false = true := fun i => by
  induction i using Nat.strongRecOn with
  | _ i ih =>
    intro hi
    cases hl : listed.getD i false with
    | true => rfl
    | false =>
      exfalso
      have hlt' : i < listed.size := by omega
      have : i ∈ Region.ready .any all listed := mem_ready.2 ⟨by simpa [hlt'] using hl, all[i], by simp [hi], fun e he hb => by
        have := hlt i all[i] (by simp [hi]) e he hb
        exact ih e.on this (by omega)⟩
      rw [hrd] at this; cases this

/-- The tail: each operation is the only one that is ready. -/
theorem tail_seq {all : Array Oper} {n T : Nat} (hok : DrawOk all n) (hbef : ∀ j i, T ≤ j → j < all.size → i < j → ((msks all.toList []).getD j 0).testBit i = true) {K : AS → Prop} {Q' : Exit → Act → World → Prop} :
    ∀ (l : List Oper) (j : Nat), T ≤ j → all.toList.drop j = l → ∀ (fuel : Nat) (listed : Array Bool) (s : AS) (w : World) (Z : Zone) (m : List Nat) (cl : Cl) (a : Act), listed.size = all.size → cntU listed all.size ≤ fuel →
    (∀ k, k < all.size → listed.getD k false = decide (k < j)) → TailsOk P l s K → Rel w Z m cl s a →
    (∀ s' a' w' Z' m' cl', K s' → Rel w' Z' m' cl' s' a' → Step w Z m cl w' Z' m' cl' → Q' .normal a' w') → wpAny P .any all Q' fuel listed a w
  | [], j, hTj, hl, fuel, listed, s, w, Z, m, cl, a, hsz, hc, hli, ht, hr, hq => by
    have hj : all.size ≤ j := by
      have := congrArg List.length hl
      simp at this; omega
    refine wpAny_done fuel listed a w hsz (fun i hi => by rw [hli i hi]; simp; omega) (hq _ _ _ _ _ _ ht hr (Step.refl _ _ _ _))
  | o :: r, j, hTj, hl, fuel, listed, s, w, Z, m, cl, a, hsz, hc, hli, ht, hr, hq => by
    have hj : j < all.size := by
      have := congrArg List.length hl
      simp at this; omega
    have h0 : all[j]? = some o := by
      have := congrArg (fun l : List Oper => l[0]?) hl
      simpa using this
    have hr1 : all.toList.drop (j + 1) = r := by
      have := congrArg List.tail hl
      simpa using this
    obtain ⟨hg, hlast⟩ := ht
    cases fuel with
    | zero =>
      have := cntU_zero listed all.size (by omega) j hj
      rw [hli j hj] at this; simp at this
    | succ fuel =>
      refine ⟨fun hrd => ?_, fun i hi => ?_⟩
      · have := ready_full hok.lt listed hsz hrd j hj
        rw [hli j hj] at this; simp at this
      obtain ⟨hun, o', ho', hafter⟩ := mem_ready.1 hi
      obtain ⟨hlt, hun'⟩ := getD_ft hun
      have hij : i = j := by
        have h1 : ¬ i < j := fun h => by rw [hli i (by omega)] at hun'; simp at hun'; omega
        have h2 : ¬ j < i := fun h => by
          have hcl : ∀ (q : Nat) y, all[q]? = some y → listed.getD q false = true → ∀ e ∈ y.after, Region.binds .any e = true → listed.getD e.on false = true := fun q y hy hl e he hb => by
            have hqs : q < all.size := (Array.getElem?_eq_some_iff.1 hy).1
            have hqe := hok.lt q y hy e he hb
            rw [hli q hqs] at hl
            rw [hli e.on (by omega)]
            simp only [decide_eq_true_eq] at hl ⊢; omega
          have := before_done (listed := fun k => listed.getD k false = true) hcl hok.lt i o' ho' hafter j (hbef i j (by omega) (by omega) h)
          rw [hli j hj] at this; simp at this
        omega
      subst hij
      rw [h0] at ho'; cases ho'
      have hwant : Region.wanted o (yielded all a.tmps) = true := awant_true hr (by unfold awant; rw [hg])
      unfold wpOp
      simp only [h0]
      rw [if_pos hwant]
      refine .inl (hlast _ _ _ _ _ _ _ hr fun s' a' w' Z' m' cl' h1 h2 h3 => ?_)
      refine tail_seq hok hbef r (i + 1) (by omega) hr1 fuel _ s' w' Z' m' cl' a' (by simpa using hsz) ?_ (fun k hk => ?_) h1 h2 (fun s2 a2 w2 Z2 m2 cl2 g1 g2 g3 => hq s2 a2 w2 Z2 m2 cl2 g1 g2 (h3.trans g3))
      · have := cntU_set listed i all.size (by omega) hlt hun'; omega
      · by_cases hki : k = i
        · subst hki; simp [hlt]
        · rw [getD_set_ne false (Ne.symm hki), hli k hk]
          simp only [decide_eq_decide]; omega

theorem tails_any {all : Array Oper} {s : AS} {vals : Nat → D} {T : Nat} (hok : DrawOk all s.n) (hT : T ≤ all.size) (hbef : ∀ j i, T ≤ j → j < all.size → i < j → ((msks all.toList []).getD j 0).testBit i = true)
    (hf : ∀ (j : Nat) (o : Oper), j < T → all[j]? = some o → ∃ b, awant all (sq s all vals j) o = some b ∧ if b then AV P o (sq s all vals j) (vals j) else vals j = skD)
    {E : List (Nat × Loc)} (hE : ∀ p ∈ E, ∃ k u x i off, GoodLd P all T (sq s all vals T) k u x i off ∧ p = (u, Loc.cell i off))
    {K : AS → Prop} (htail : TailsOk P (all.toList.drop T) { sq s all vals T with eqs := E } K) {Q' : Exit → Act → World → Prop}
    : ∀ (fuel : Nat) (listed : Array Bool) (w : World) (Z : Zone) (m : List Nat) (cl : Cl) (a : Act), listed.size = all.size → cntU listed all.size ≤ fuel → (∀ j, T ≤ j → listed.getD j false = false) →
    (∀ (j : Nat) o, all[j]? = some o → listed.getD j false = true → ∀ e ∈ o.after, Region.binds .any e = true → listed.getD e.on false = true) →
    Rel w Z m cl (stt s all vals fun k => listed.getD k false) a →
    (∀ k u x i off, GoodLd P all T (sq s all vals T) k u x i off → listed.getD k false = true → CellEq w m a u i off) →
    (∀ s' a' w' Z' m' cl', K s' → Rel w' Z' m' cl' s' a' → Step w Z m cl w' Z' m' cl' → Q' .normal a' w') →
    wpAny P .any all Q' fuel listed a w := by
  have gx : ∀ k u x i off, GoodLd P all T (sq s all vals T) k u x i off → (sq s all vals k).get x = .ref i off := fun k u x i off hg => by
    obtain ⟨o, t, hk, ho, hop, hd, hgd, htg, hx, hux, hno⟩ := hg
    rw [← hx]
    refine dl_congr all vals (fun _ => true) (fun _ => true) s.env x k T (by omega) (fun _ _ _ => rfl) (fun q h1 h2 hq => ?_)
    exfalso
    have hqs : all[q]? = some (all[q]'(by omega)) := by simp [show q < all.size by omega]
    rw [hqs] at hq; simp only [Option.bind_some] at hq
    by_cases hqk : q = k
    · subst hqk
      rw [ho] at hqs
      simp only [Option.some.injEq] at hqs
      rw [← hqs, hd] at hq
      simp only [Option.some.injEq] at hq
      exact hux hq
    · exact (hno q _ (by omega) h2 hqs).2 hq
  intro fuel
  induction fuel with
  | zero =>
    intro listed w Z m cl a hsz hc hunT hcl hr hld hq
    have hall := cntU_zero listed all.size (by omega)
    have hTe : T = all.size := by
      by_cases h : T = all.size
      · exact h
      · have := hall T (by omega); rw [hunT T (Nat.le_refl _)] at this; cases this
    refine tail_seq hok hbef _ T (Nat.le_refl _) rfl 0 listed { sq s all vals T with eqs := E } w Z m cl a hsz hc (fun k hk => by rw [hall k hk]; simp; omega) htail ?_ hq
    have hr2 : Rel w Z m cl (sq s all vals T) a := AS.get_ext_rel hr rfl rfl rfl fun t =>
      dl_congr all vals (fun _ => true) (fun k => listed.getD k false) s.env t T all.size (by omega) (fun k hk _ => (hall k (by omega)).symm) (fun k h1 h2 _ => by omega)
    exact { hr2 with
      eqv := fun x y hxy => by
        obtain ⟨k, u, x', i, off, _, he⟩ := hE _ hxy
        cases he
      eqc := fun x i j cs b vs e fr hxy hs hm hh => by
        obtain ⟨k, u, x', i', off, hg, he⟩ := hE _ hxy
        cases he
        have hk : k < T := hg.choose_spec.choose_spec.1
        exact hld k _ _ _ _ hg (hall k (by omega)) b vs e fr hm hh }
  | succ fuel ih =>
    intro listed w Z m cl a hsz hc hunT hcl hr hld hq
    by_cases hall : ∀ k, k < T → listed.getD k false = true
    · refine tail_seq hok hbef _ T (Nat.le_refl _) rfl (fuel + 1) listed { sq s all vals T with eqs := E } w Z m cl a hsz hc (fun k hk => ?_) htail ?_ hq
      · by_cases hkT : k < T
        · rw [hall k hkT]; simp [hkT]
        · rw [hunT k (by omega)]; simp; omega
      have hr2 : Rel w Z m cl (sq s all vals T) a := AS.get_ext_rel hr rfl rfl rfl fun t =>
        dl_congr all vals (fun _ => true) (fun k => listed.getD k false) s.env t T all.size (by omega) (fun k hk _ => (hall k hk).symm) (fun k h1 h2 _ => hunT k h1)
      exact { hr2 with
        eqv := fun x y hxy => by
          obtain ⟨k, u, x', i, off, _, he⟩ := hE _ hxy
          cases he
        eqc := fun x i j cs b vs e fr hxy hs hm hh => by
          obtain ⟨k, u, x', i', off, hg, he⟩ := hE _ hxy
          cases he
          have hk : k < T := hg.choose_spec.choose_spec.1
          exact hld k _ _ _ _ hg (hall k hk) b vs e fr hm hh }
    refine ⟨fun hrd => ?_, fun i hi => ?_⟩
    · exact absurd (fun k hk => ready_full hok.lt listed hsz hrd k (by omega)) hall
    obtain ⟨hun, o, ho, hafter⟩ := mem_ready.1 hi
    obtain ⟨hlt, hun'⟩ := getD_ft hun
    have hbf : ∀ k, ((msks all.toList []).getD i 0).testBit k = true → listed.getD k false = true :=
      before_done (listed := fun k => listed.getD k false = true) hcl hok.lt i o ho hafter
    have hnot : ∀ k y, i < k → all[k]? = some y → ((msks all.toList []).getD k 0).testBit i = true → listed.getD k false = false := fun k y _ hy hb => by
      cases hl : listed.getD k false with
      | false => rfl
      | true =>
        have := before_done (listed := fun k => listed.getD k false = true) hcl hok.lt k y hy (hcl k y hy hl) i hb
        rw [this] at hun'; cases hun'
    have hiltT : i < T := by
      rcases Nat.lt_or_ge i T with h | h
      · exact h
      · exact absurd (fun k hk => hbf k (hbef i k h (by omega) (by omega))) hall
    have hget : ∀ t ∈ o.looksAt all, (stt s all vals fun k => listed.getD k false).get t = (sq s all vals i).get t := fun t ht => by
      refine (dl_congr all vals (fun _ => true) (fun k => listed.getD k false) s.env t i all.size (by omega) (fun k hk hd => ?_) (fun k h1 h2 hd => ?_)).symm
      · have hx : all[k]? = some (all[k]'(by omega)) := by simp [show k < all.size by omega]
        rw [hx] at hd; simp only [Option.bind_some] at hd
        rcases hok.ap k i _ o hk hx ho with h | h
        · exact absurd ht ((Oper.apart_spec h).1 t hd)
        · exact (hbf k h).symm
      · by_cases hki : k = i
        · subst hki; exact hun'
        · have hx : all[k]? = some (all[k]'(by omega)) := by simp [show k < all.size by omega]
          rw [hx] at hd; simp only [Option.bind_some] at hd
          rcases hok.ap i k o _ (by omega) ho hx with h | h
          · exact absurd ht ((Oper.apart_spec h).2.2 t hd)
          · exact hnot k _ (by omega) hx h
    -- the slots of loads that are done are not written any more
    have hldk : ∀ k u x i0 off, GoodLd P all T (sq s all vals T) k u x i0 off → listed.getD k false = true → o.dst ≠ some u := fun k u x i0 off hg hl hd => by
      obtain ⟨ok, t, hk, hok', hop, hdk, hgd, htg, hx, hux, hno⟩ := hg
      by_cases hki : k = i
      · subst hki; rw [hl] at hun'; cases hun'
      · rcases Nat.lt_or_ge k i with h | h
        · exact (hno i o h hiltT ho).1 hd
        · have hap := hok.ap i k o ok (by omega) ho hok'
          rcases hap with h2 | h2
          · exact absurd hdk ((Oper.apart_spec h2).2.1 u hd)
          · have := hnot k ok (by omega) hok' h2
            rw [hl] at this; cases this
    have next : ∀ (w' : World) (Z' : Zone) (cl' : Cl) (a' : Act), Rel w' Z' m cl' ((stt s all vals fun k => listed.getD k false).put o.dst (vals i)) a' → Step w Z m cl w' Z' m cl' →
        (∀ k u x i0 off, GoodLd P all T (sq s all vals T) k u x i0 off → (listed.setIfInBounds i true).getD k false = true → CellEq w' m a' u i0 off) →
        wpAny P .any all Q' fuel (listed.setIfInBounds i true) a' w' := fun w' Z' cl' a' hr' hst hld' => by
      refine ih (listed.setIfInBounds i true) w' Z' m cl' a' (by simpa using hsz) ?_ (fun j hj => by rw [getD_set_ne false (by omega)]; exact hunT j hj) ?_ ?_ hld' (fun s2 a2 w2 Z2 m2 cl2 h0 h1 h2 => hq s2 a2 w2 Z2 m2 cl2 h0 h1 (hst.trans h2))
      · have := cntU_set listed i all.size (by omega) hlt hun'; omega
      · intro j y hy hl e he hb
        by_cases hji : j = i
        · subst hji; rw [ho] at hy; cases hy; exact getD_set_true (hafter e he hb)
        · rw [getD_set_ne false (Ne.symm hji)] at hl
          exact getD_set_true (hcl j y hy hl e he hb)
      · refine AS.get_ext_rel hr' (by rw [AS.put_S]; rfl) (by rw [AS.put_n]; rfl) rfl fun t => ?_
        have self : (listed.setIfInBounds i true).getD i false = true := by simp [hlt]
        have other : (o.dst ≠ some t) → (stt s all vals fun k => (listed.setIfInBounds i true).getD k false).get t = (stt s all vals fun k => listed.getD k false).get t := fun hne => by
          refine dl_congr all vals _ _ s.env t all.size all.size (Nat.le_refl _) (fun k hk hd => ?_) (fun k h1 h2 => by omega)
          by_cases hki : k = i
          · subst hki; rw [ho] at hd; exact absurd hd hne
          · exact getD_set_ne false (Ne.symm hki)
        cases hd : o.dst with
        | none => rw [hd] at other; exact other (by simp)
        | some u =>
          have hun2 := hok.dst i o ho
          rw [hd] at hun2
          have hu : u < s.n := by simpa using hun2
          rw [AS.get_put, if_pos (show u < (stt s all vals fun k => listed.getD k false).n from hu)]
          by_cases hut : u = t
          · subst hut
            rw [if_pos rfl]
            show lk (dl all vals _ all.size ++ s.env) u = _
            rw [← dl_congr all vals (fun k => (listed.setIfInBounds i true).getD k false) (fun k => (listed.setIfInBounds i true).getD k false) s.env u (i + 1) all.size (by omega) (fun _ _ _ => rfl) (fun k h1 h2 hdk => ?_)]
            · simp only [dl, ho, Option.bind_some, hd, self, dl1]; simp [lk]
            · have hx : all[k]? = some (all[k]'(by omega)) := by simp [show k < all.size by omega]
              rw [hx] at hdk; simp only [Option.bind_some] at hdk
              rw [getD_set_ne false (by omega)]
              rcases hok.ap i k o _ (by omega) ho hx with h | h
              · exact absurd hdk ((Oper.apart_spec h).2.1 u hd)
              · exact hnot k _ (by omega) hx h
          · rw [if_neg hut]
            rw [hd] at other; exact other (by simpa using hut)
    have keep : ∀ (w' : World) (v : Value), (∀ b, b < w.heap.size → w'.heap[b]? = w.heap[b]?) → (∀ u x i0 off, GoodLd P all T (sq s all vals T) i u x i0 off → CellEq w' m (a.put o.dst v) u i0 off) →
        ∀ k u x i0 off, GoodLd P all T (sq s all vals T) k u x i0 off → (listed.setIfInBounds i true).getD k false = true → CellEq w' m (a.put o.dst v) u i0 off := fun w' v hh hself k u x i0 off hg hl => by
      by_cases hki : k = i
      · subst hki; exact hself u x i0 off hg
      · rw [getD_set_ne false (Ne.symm hki)] at hl
        intro b vs e fr hm hb
        have hne := hldk k u x i0 off hg hl
        rw [hh b (hr.mlt i0 b hm)] at hb
        have := hld k u x i0 off hg hl b vs e fr hm hb
        rw [this]
        congr 1
        cases hd : o.dst with
        | none => rfl
        | some q =>
          rw [hd] at hne
          rw [Act.getD_put]
          split
          · rw [if_neg (fun e => hne (by rw [e]))]
          · rfl
    have hns : ∀ u x i0 off, GoodLd P all T (sq s all vals T) i u x i0 off → o.guard = none := fun u x i0 off hg => by
      obtain ⟨ok, t, hk, hok', hop, hdk, hgd, _⟩ := hg
      rw [ho] at hok'; cases hok'; exact hgd
    obtain ⟨b, hb, hv⟩ := hf i o hiltT ho
    have hwant := awant_true hr ((awant_congr hget).trans hb)
    unfold wpOp
    simp only [ho]
    cases b with
    | false =>
      rw [if_neg (by rw [hwant]; simp)]
      simp only [Bool.false_eq_true, if_false] at hv
      refine next w Z cl _ (by rw [hv]; exact hr.put o.dst skD Go.undef skD_rv fun _ _ => skD_own) (Step.refl _ _ _ _) (keep w Go.undef (fun _ _ => rfl) fun u x i0 off hg => ?_)
      have := hns u x i0 off hg
      unfold awant at hb; rw [this] at hb; cases hb
    | true =>
      rw [if_pos hwant]
      simp only [if_true] at hv
      have hv' : AV P o (stt s all vals fun k => listed.getD k false) (vals i) := AV_congr' (all := all) (s := sq s all vals i) rfl hget hv
      refine .inl ?_
      by_cases hL : ∃ u x i0 off, GoodLd P all T (sq s all vals T) i u x i0 off
      · obtain ⟨u, x, i0, off, hg⟩ := hL
        have hgx := gx i u x i0 off hg
        have hg' := hg
        obtain ⟨ok, t, hk, hok', hop, hdk, hgd, htg, hx, hux, hno⟩ := hg'
        rw [ho] at hok'; cases hok'
        have hxl : x ∈ o.looksAt all := by
          unfold Oper.looksAt
          exact List.mem_append_left _ (List.mem_filterMap.2 ⟨.tmp x, by rw [hop]; simp [Op.operands], rfl⟩)
        refine load_cell hop hv' (by rw [hget x hxl]; exact hgx) htg hr fun v hrv hosl hcell => ?_
        refine next w Z cl _ (hr.put o.dst (vals i) v hrv fun t _ => Own.of_ne hosl) (Step.refl _ _ _ _) (keep w v (fun _ _ => rfl) fun u2 x2 i2 off2 hg2 => ?_)
        obtain ⟨ok2, t2, hk2, hok2, hop2, hdk2, hgd2, htg2, hx2, hux2, hno2⟩ := hg2
        rw [ho] at hok2; cases hok2
        rw [hop] at hop2; cases hop2
        rw [hdk] at hdk2; cases hdk2
        rw [hx] at hx2; cases hx2
        intro b vs e fr hm hb
        rw [hcell b vs e fr hm hb, hdk]
        congr 1
        have hun2 := hok.dst i o ho
        rw [hdk] at hun2
        have hu : u < a.tmps.size := by rw [hr.sz]; show u < s.n; simpa using hun2
        rw [Act.getD_put, if_pos hu, if_pos rfl]
      · refine av_sound hv' hr fun v w' Z' q hrv hown => ?_
        exact next w' Z' cl _ ((q.rel hr).put o.dst (vals i) v hrv fun t _ => hown cl t) (q.step hr.toRelS) (keep w' v q.heap fun u x i0 off hg => absurd ⟨u, x, i0, off, hg⟩ hL)

/-- A region whose order is open: quiet operations, and behind them some that come one behind the other. -/
theorem AWp.drawTails {id : Nat} {ops : Array Oper} {K : AS → Prop} {Q : Exit → AS → Prop} (T : Nat) (hm : P.follows .mixedOrders = true) (hok : tailsOk ops s.n T = true)
    (hq : qopl P ops (ops.toList.take T) { s with eqs := [] } fun s' => ∃ E, (∀ p ∈ E, ∃ k u x i off, GoodLd P ops T s' k u x i off ∧ p = (u, Loc.cell i off)) ∧ TailsOk P (ops.toList.drop T) { s' with eqs := E } K)
    (hk : ∀ s, K s → Q .normal s) : AWp P (.region id ops true) Q s := by
  intro w Z m cl a hr
  unfold tailsOk at hok
  simp only [Bool.and_eq_true, List.all_eq_true, List.mem_range, Bool.or_eq_true] at hok
  obtain ⟨hok0, hT0, hb0⟩ := hok
  have hT : T ≤ ops.size := Nat.le_of_ble_eq_true hT0
  have hbef : ∀ j i, T ≤ j → j < ops.size → i < j → ((msks ops.toList []).getD j 0).testBit i = true := fun j i h1 h2 h3 => by
    rcases hb0 j h2 with h | h
    · have := Nat.lt_of_succ_le (show j + 1 ≤ T by simpa [Nat.blt] using h); omega
    · exact h i h3
  have hok' := drawOk_spec hok0
  have hlenT : (ops.toList.take T).length = T := by rw [List.length_take, Array.length_toList]; omega
  obtain ⟨vals, _, h2, E, hE, h3⟩ := qopl_foundP (s := s) hok'.dst (ops.toList.take T) 0 (fun _ => .undef) (fun j hj => by rw [List.getElem?_take, if_pos (by omega)]; simp) hq
  rw [hlenT, Nat.zero_add] at h2 h3 hE
  refine wp_region_any hm ?_
  let wd : World := { w with drawn := w.drawn + 1 }
  have hst : Step w Z m cl wd Z m cl := ⟨rfl, rfl, rfl, Nat.le_refl _, fun _ _ _ => rfl, fun _ _ h => h, fun _ _ _ _ h => h, fun _ _ _ => rfl, fun k _ h => .inr ⟨k, h⟩⟩
  have hqs : QStep w Z wd Z := ⟨rfl, rfl, rfl, Nat.le_refl _, fun _ _ => rfl, fun _ _ h => h, fun _ _ _ h => h, hr.zc⟩
  have hr' : Rel wd Z m cl s a := hqs.rel hr
  have hun : ∀ k, (Array.replicate ops.size false).getD k false = false := fun k => by simp [Array.getD]
  refine tails_any hok' hT hbef (fun j o hj ho => h2 j o (Nat.zero_le _) hj ho) hE h3 ops.size (Array.replicate ops.size false) wd Z m cl a (by simp) ?_ (fun j _ => hun j) ?_ ?_ (fun k u x i off _ hl => by rw [hun] at hl; cases hl) ?_
  · have : ∀ (l : Array Bool) n, cntU l n ≤ n := by
      intro l n
      induction n with
      | zero => simp [cntU]
      | succ n ih => simp only [cntU]; split <;> omega
    exact this _ _
  · intro j o _ hl; rw [hun] at hl; cases hl
  · refine AS.get_ext_rel hr' rfl rfl rfl fun t => ?_
    refine (dl_congr ops vals (fun _ => true) _ s.env t 0 ops.size (Nat.zero_le _) (fun k hk => by omega) (fun k _ _ _ => hun k)).symm
  · intro s' a' w' Z' m' cl' h4 h5 h6
    exact ⟨s', Z', m', cl', hk _ h4, h5, hst.trans h6⟩

end
end Go.AL
