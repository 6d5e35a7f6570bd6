/-
  A region whose order is open: quiet operations, and behind them all one that writes.
-/
import Derived.Test.YtikgppgpailmcaaAlDraw
namespace Go.AL

/-- The last operation comes behind every other one, in every order. -/
def tailOk (all : Array Oper) (n T : Nat) : Bool :=
  drawOk all n && T + 1 == all.size && (List.range T).all fun i => ((msks all.toList []).getD T 0).testBit i

/-- Quiet operations, then the last one. -/
def qoplT (P : Program) (all : Array Oper) : List Oper → AS → (AS → Prop) → Prop
  | [], _, _ => False
  | [o], s, K => awant all s o = some true ∧ aop P o s K
  | o :: o2 :: r, s, K =>
    aguard (pst (fun d => qoplT P all (o2 :: r) (s.put o.dst d) K) (dep _) fun d => AV P o s d) (qoplT P all (o2 :: r) (s.put o.dst skD) K) (dep _) (dep _) (awant all s o)

/-- What must hold behind an operation, in the model's own terms. -/
def LastOk (P : Program) (o : Oper) (s : AS) (K : AS → Prop) : Prop :=
  ∀ (w : World) (Z : Zone) (m : List Nat) (cl : Cl) (a : Act) (K' : Act → World → Prop) (Q : Exit → Act → World → Prop), Rel w Z m cl s a →
    (∀ s' a' w' Z' m' cl', K s' → Rel w' Z' m' cl' s' a' → Step w Z m cl w' Z' m' cl' → K' a' w') → o.wp P a w K' Q

section
variable {P : Program} {s : AS}

theorem LastOk.of_aop {o : Oper} {K : AS → Prop} (h : aop P o s K) : LastOk P o s K := fun _ _ _ _ _ _ _ hr hk => aop_sound h hr hk

theorem qopl_foundP {all : Array Oper} (hd : ∀ (j : Nat) (o : Oper), all[j]? = some o → o.dst.all (· < s.n) = true) {K : AS → Prop} : ∀ (l : List Oper) (k : Nat) (v0 : Nat → D), (∀ j : Nat, j < l.length → l[j]? = all[k + j]?) →
    qopl P all l (sq s all v0 k) K → ∃ vals : Nat → D, (∀ j, j < k → vals j = v0 j) ∧
      (∀ (j : Nat) (o : Oper), k ≤ j → j < k + l.length → all[j]? = some o → ∃ b, awant all (sq s all vals j) o = some b ∧ if b then AV P o (sq s all vals j) (vals j) else vals j = skD) ∧
      K (sq s all vals (k + l.length))
  | [], k, v0, hl, h => ⟨v0, fun _ _ => rfl, fun j o hj hj2 ho => by
      exfalso
      simp at hj2; omega, h⟩
  | o :: r, k, v0, hl, h => by
    have h0 : all[k]? = some o := by have := hl 0 (by simp); simpa using this.symm
    have hl' : ∀ j : Nat, j < r.length → r[j]? = all[k + 1 + j]? := fun j hj => by have := hl (j + 1) (by simpa using hj); simp at this; rw [this]; congr 1; omega
    have go : ∀ d, qopl P all r ((sq s all v0 k).put o.dst d) K → (∃ b, awant all (sq s all v0 k) o = some b ∧ if b then AV P o (sq s all v0 k) d else d = skD) →
        ∃ vals : Nat → D, (∀ j, j < k → vals j = v0 j) ∧
      (∀ (j : Nat) (o : Oper), k ≤ j → j < k + (r.length + 1) → all[j]? = some o → ∃ b, awant all (sq s all vals j) o = some b ∧ if b then AV P o (sq s all vals j) (vals j) else vals j = skD) ∧
      K (sq s all vals (k + (r.length + 1))) := by
      intro d hq hf
      let v1 : Nat → D := fun j => if j = k then d else v0 j
      have e1 : sq s all v1 k = sq s all v0 k := by
        unfold sq; rw [dl_vals all _ v1 v0 k fun j hj => by simp only [v1]; rw [if_neg (by omega)]]
      have e2 : (sq s all v0 k).put o.dst d = sq s all v1 (k + 1) := by
        rw [← sq_put h0 (hd k o h0), e1]; simp [v1]
      rw [e2] at hq
      obtain ⟨vals, p1, p2, p3⟩ := qopl_foundP hd r (k + 1) v1 hl' hq
      refine ⟨vals, fun j hj => by rw [p1 j (by omega)]; simp only [v1]; rw [if_neg (by omega)], fun j o' hj hj2 ho' => ?_, by rw [show k + (r.length + 1) = k + 1 + r.length by omega]; exact p3⟩
      by_cases hjk : j = k
      · subst hjk
        rw [h0] at ho'; cases ho'
        have e3 : sq s all vals j = sq s all v0 j := by
          rw [← e1]; unfold sq; rw [dl_vals all _ vals v1 j fun i hi => p1 i (by omega)]
        rw [e3, p1 j (by omega)]
        simpa [v1] using hf
      · exact p2 j o' (by omega) (by omega) ho'
    simp only [qopl, aguard] at h
    simp only [List.length_cons]
    cases hw : awant all (sq s all v0 k) o with
    | none => rw [hw] at h; exact h.elim
    | some b =>
      rw [hw] at h
      cases b with
      | true =>
        obtain ⟨d, hav, hq⟩ := h
        exact go d hq ⟨true, hw, hav⟩
      | false => exact go skD h ⟨false, hw, rfl⟩

theorem qoplT_split {all : Array Oper} {K : AS → Prop} : ∀ (l : List Oper) (o : Oper) (s : AS), qoplT P all (l ++ [o]) s K → qopl P all l s fun s' => awant all s' o = some true ∧ aop P o s' K
  | [], o, s, h => h
  | x :: l, o, s, h => by
    have h' : match awant all s x with
    | some true => pst (fun d => qoplT P all (l ++ [o]) (s.put x.dst d) K) (dep _) fun d => AV P x s d
    | some false => qoplT P all (l ++ [o]) (s.put x.dst skD) K
    | none => False := by
      cases l with
      | nil => exact h
      | cons y l => exact h
    simp only [qopl, aguard]
    cases hw : awant all s x with
    | none => rw [hw] at h'; exact h'
    | some b =>
      rw [hw] at h'
      cases b with
      | true => obtain ⟨d, h1, h2⟩ := h'; exact ⟨d, h1, qoplT_split l o _ h2⟩
      | false => exact qoplT_split l o _ h'

theorem tail_any {all : Array Oper} {s : AS} {vals : Nat → D} {T : Nat} {oT : Oper} (hok : DrawOk all s.n) (hT : T + 1 = all.size) (hoT : all[T]? = some oT) (hbefT : ∀ i, i < T → ((msks all.toList []).getD T 0).testBit i = true)
    (hf : ∀ (j : Nat) (o : Oper), j < T → all[j]? = some o → ∃ b, awant all (sq s all vals j) o = some b ∧ if b then AV P o (sq s all vals j) (vals j) else vals j = skD)
    {K : AS → Prop} (hw : awant all (sq s all vals T) oT = some true) (haop : LastOk P oT (sq s all vals T) K) {Q' : Exit → Act → World → Prop}
    : ∀ (fuel : Nat) (listed : Array Bool) (w : World) (Z : Zone) (m : List Nat) (cl : Cl) (a : Act), listed.size = all.size → cntU listed all.size ≤ fuel → listed.getD T false = false →
    (∀ (j : Nat) o, all[j]? = some o → listed.getD j false = true → ∀ e ∈ o.after, Region.binds .any e = true → listed.getD e.on false = true) →
    Rel w Z m cl (stt s all vals fun k => listed.getD k false) a →
    (∀ s' a' w' Z' m' cl', K s' → Rel w' Z' m' cl' s' a' → Step w Z m cl w' Z' m' cl' → Q' .normal a' w') →
    wpAny P .any all Q' fuel listed a w := by
  have nil : ∀ (listed : Array Bool), listed.size = all.size → (∀ i, i < all.size → listed.getD i false = true) → Region.ready .any all listed = [] := fun listed hsz hall => by
    cases hrd : Region.ready .any all listed with
    | nil => rfl
    | cons i r =>
      have hi : i ∈ Region.ready .any all listed := by rw [hrd]; simp
      obtain ⟨h1, _⟩ := mem_ready.1 hi
      obtain ⟨h2, h3⟩ := getD_ft h1
      rw [hall i (by omega)] at h3; cases h3
  have full : ∀ (listed : Array Bool), listed.size = all.size → Region.ready .any all listed = [] → ∀ i, i < all.size → listed.getD i false = true := fun listed hsz hrd i => by
    induction i using Nat.strongRecOn with
    | _ i ih =>
      intro hi
      cases hl : listed.getD i false with
      | true => rfl
      | false =>
        exfalso
        have hlt : i < listed.size := by omega
        have : i ∈ Region.ready .any all listed := mem_ready.2 ⟨by simpa [hlt] using hl, all[i], by simp [hi], fun e he hb => by
          have := hok.lt i all[i] (by simp [hi]) e he hb
          exact ih e.on this (by omega)⟩
        rw [hrd] at this; cases this
  have done : ∀ (fuel : Nat) (listed : Array Bool) a w, listed.size = all.size → (∀ i, i < all.size → listed.getD i false = true) → Q' .normal a w → wpAny P .any all Q' fuel listed a w := fun fuel listed a w hsz hall hq => by
    have := nil listed hsz hall
    cases fuel with
    | zero => exact ⟨this, hq⟩
    | succ f => exact ⟨fun _ => hq, fun i hi => by rw [this] at hi; cases hi⟩
  intro fuel
  induction fuel with
  | zero =>
    intro listed w Z m cl a hsz hc hunT hcl hr hq
    have := cntU_zero listed all.size (by omega) T (by omega)
    rw [hunT] at this; cases this
  | succ fuel ih =>
    intro listed w Z m cl a hsz hc hunT hcl hr hq
    refine ⟨fun hrd => ?_, fun i hi => ?_⟩
    · have := full listed hsz hrd T (by omega)
      rw [hunT] at this; cases this
    obtain ⟨hun, o, ho, hafter⟩ := mem_ready.1 hi
    obtain ⟨hlt, hun'⟩ := getD_ft hun
    have hbef : ∀ k, ((msks all.toList []).getD i 0).testBit k = true → listed.getD k false = true :=
      before_done (listed := fun k => listed.getD k false = true) hcl hok.lt i o ho hafter
    have hnot : ∀ k y, i < k → all[k]? = some y → ((msks all.toList []).getD k 0).testBit i = true → listed.getD k false = false := fun k y _ hy hb => by
      cases hl : listed.getD k false with
      | false => rfl
      | true =>
        have := before_done (listed := fun k => listed.getD k false = true) hcl hok.lt k y hy (hcl k y hy hl) i hb
        rw [this] at hun'; cases hun'
    have hget : ∀ t ∈ o.looksAt all, (stt s all vals fun k => listed.getD k false).get t = (sq s all vals i).get t := fun t ht => by
      refine (dl_congr all vals (fun _ => true) (fun k => listed.getD k false) s.env t i all.size (by omega) (fun k hk hd => ?_) (fun k h1 h2 hd => ?_)).symm
      · have hx : all[k]? = some (all[k]'(by omega)) := by simp [show k < all.size by omega]
        rw [hx] at hd; simp only [Option.bind_some] at hd
        rcases hok.ap k i _ o hk hx ho with h | h
        · exact absurd ht ((Oper.apart_spec h).1 t hd)
        · exact (hbef k h).symm
      · by_cases hki : k = i
        · subst hki; exact hun'
        · have hx : all[k]? = some (all[k]'(by omega)) := by simp [show k < all.size by omega]
          rw [hx] at hd; simp only [Option.bind_some] at hd
          rcases hok.ap i k o _ (by omega) ho hx with h | h
          · exact absurd ht ((Oper.apart_spec h).2.2 t hd)
          · exact hnot k _ (by omega) hx h
    by_cases hiT : i = T
    · -- the last one
      subst hiT
      rw [hoT] at ho; cases ho
      have hallb : ∀ k, k < i → listed.getD k false = true := fun k hk => hbef k (hbefT k hk)
      have hr2 : Rel w Z m cl (sq s all vals i) a := AS.get_ext_rel hr rfl rfl rfl fun t => by
        refine dl_congr all vals (fun _ => true) (fun k => listed.getD k false) s.env t i all.size (by omega) (fun k hk _ => (hallb k hk).symm) (fun k h1 h2 _ => ?_)
        have : k = i := by omega
        subst this; exact hun'
      have hwant := awant_true hr2 hw
      unfold wpOp
      simp only [hoT]
      rw [if_pos hwant]
      refine .inl (haop _ _ _ _ _ _ _ hr2 fun s' a' w' Z' m' cl' h1 h2 h3 => ?_)
      refine done fuel _ a' w' (by simpa using hsz) (fun k hk => ?_) (hq s' a' w' Z' m' cl' h1 h2 h3)
      by_cases hki : k = i
      · subst hki; simp [hlt]
      · exact getD_set_true (hallb k (by omega))
    have hiltT : i < T := by
      have := (Array.getElem?_eq_some_iff.1 ho).1; omega
    have next : ∀ (w' : World) (Z' : Zone) (cl' : Cl) (m' : List Nat) (a' : Act), Rel w' Z' m' cl' ((stt s all vals fun k => listed.getD k false).put o.dst (vals i)) a' → Step w Z m cl w' Z' m' cl' →
        wpAny P .any all Q' fuel (listed.setIfInBounds i true) a' w' := fun w' Z' cl' m' a' hr' hst => by
      refine ih (listed.setIfInBounds i true) w' Z' m' cl' a' (by simpa using hsz) ?_ (by rw [getD_set_ne false hiT]; exact hunT) ?_ ?_ (fun s2 a2 w2 Z2 m2 cl2 h0 h1 h2 => hq s2 a2 w2 Z2 m2 cl2 h0 h1 (hst.trans h2))
      · have := cntU_set listed i all.size (by omega) hlt hun'; omega
      · intro j y hy hl e he hb
        by_cases hji : j = i
        · subst hji; rw [ho] at hy; cases hy; exact getD_set_true (hafter e he hb)
        · rw [getD_set_ne false (Ne.symm hji)] at hl
          exact getD_set_true (hcl j y hy hl e he hb)
      · refine AS.get_ext_rel hr' (by rw [AS.put_S]; rfl) (by rw [AS.put_n]; rfl) rfl fun t => ?_
        have self : (listed.setIfInBounds i true).getD i false = true := by simp [hlt]
        have other : (o.dst ≠ some t) → (stt s all vals fun k => (listed.setIfInBounds i true).getD k false).get t = (stt s all vals fun k => listed.getD k false).get t := fun hne => by
          refine dl_congr all vals _ _ s.env t all.size all.size (Nat.le_refl _) (fun k hk hd => ?_) (fun k h1 h2 => by omega)
          by_cases hki : k = i
          · subst hki; rw [ho] at hd; exact absurd hd hne
          · exact getD_set_ne false (Ne.symm hki)
        cases hd : o.dst with
        | none => rw [hd] at other; exact other (by simp)
        | some u =>
          have hun2 := hok.dst i o ho
          rw [hd] at hun2
          have hu : u < s.n := by simpa using hun2
          rw [AS.get_put, if_pos (show u < (stt s all vals fun k => listed.getD k false).n from hu)]
          by_cases hut : u = t
          · subst hut
            rw [if_pos rfl]
            show lk (dl all vals _ all.size ++ s.env) u = _
            rw [← dl_congr all vals (fun k => (listed.setIfInBounds i true).getD k false) (fun k => (listed.setIfInBounds i true).getD k false) s.env u (i + 1) all.size (by omega) (fun _ _ _ => rfl) (fun k h1 h2 hdk => ?_)]
            · simp only [dl, ho, Option.bind_some, hd, self, dl1]; simp [lk]
            · have hx : all[k]? = some (all[k]'(by omega)) := by simp [show k < all.size by omega]
              rw [hx] at hdk; simp only [Option.bind_some] at hdk
              rw [getD_set_ne false (by omega)]
              rcases hok.ap i k o _ (by omega) ho hx with h | h
              · exact absurd hdk ((Oper.apart_spec h).2.1 u hd)
              · exact hnot k _ (by omega) hx h
          · rw [if_neg hut]
            rw [hd] at other; exact other (by simpa using hut)
    obtain ⟨b, hb, hv⟩ := hf i o hiltT ho
    have hwant := awant_true hr ((awant_congr hget).trans hb)
    unfold wpOp
    simp only [ho]
    cases b with
    | false =>
      rw [if_neg (by rw [hwant]; simp)]
      simp only [Bool.false_eq_true, if_false] at hv
      exact next w Z cl m _ (by rw [hv]; exact hr.put o.dst skD Go.undef skD_rv fun _ _ => skD_own) (Step.refl _ _ _ _)
    | true =>
      rw [if_pos hwant]
      simp only [if_true] at hv
      have hv' : AV P o (stt s all vals fun k => listed.getD k false) (vals i) := AV_congr' (all := all) (s := sq s all vals i) rfl hget hv
      refine .inl (av_sound hv' hr fun v w' Z' q hrv hown => ?_)
      exact next w' Z' cl m _ ((q.rel hr).put o.dst (vals i) v hrv fun t _ => hown cl t) (q.step hr.toRelS)

/-- A region whose order is open, all its operations quiet but the last. -/
theorem AWp.drawTailL {id : Nat} {ops : Array Oper} {K : AS → Prop} {Q : Exit → AS → Prop} (T : Nat) (hm : P.follows .mixedOrders = true) (hok : tailOk ops s.n T = true) (oT : Oper) (hoT : ops[T]? = some oT) (hq : qopl P ops (ops.toList.take T) { s with eqs := [] } fun s' => awant ops s' oT = some true ∧ LastOk P oT s' K)
    (hk : ∀ s, K s → Q .normal s) : AWp P (.region id ops true) Q s := by
  intro w Z m cl a hr
  unfold tailOk at hok
  simp only [Bool.and_eq_true, beq_iff_eq, List.all_eq_true, List.mem_range] at hok
  obtain ⟨⟨hok0, hT⟩, hbefT⟩ := hok
  have hok' := drawOk_spec hok0
  have hTlt : T < ops.size := by omega
  have hlenT : (ops.toList.take T).length = T := by rw [List.length_take, Array.length_toList]; omega
  obtain ⟨vals, _, h2, h3⟩ := qopl_foundP (s := s) hok'.dst (ops.toList.take T) 0 (fun _ => .undef) (fun j hj => by rw [List.getElem?_take, if_pos (by omega)]; simp) hq
  rw [hlenT, Nat.zero_add] at h2 h3
  refine wp_region_any hm ?_
  let wd : World := { w with drawn := w.drawn + 1 }
  have hst : Step w Z m cl wd Z m cl := ⟨rfl, rfl, rfl, Nat.le_refl _, fun _ _ _ => rfl, fun _ _ h => h, fun _ _ _ _ h => h, fun _ _ _ => rfl, fun k _ h => .inr ⟨k, h⟩⟩
  have hqs : QStep w Z wd Z := ⟨rfl, rfl, rfl, Nat.le_refl _, fun _ _ => rfl, fun _ _ h => h, fun _ _ _ h => h, hr.zc⟩
  have hr' : Rel wd Z m cl s a := hqs.rel hr
  have hun : ∀ k, (Array.replicate ops.size false).getD k false = false := fun k => by simp [Array.getD]
  refine tail_any hok' hT hoT hbefT (fun j o hj ho => h2 j o (Nat.zero_le _) hj ho) h3.1 h3.2 ops.size (Array.replicate ops.size false) wd Z m cl a (by simp) ?_ (hun T) ?_ ?_ ?_
  · have : ∀ (l : Array Bool) n, cntU l n ≤ n := by
      intro l n
      induction n with
      | zero => simp [cntU]
      | succ n ih => simp only [cntU]; split <;> omega
    exact this _ _
  · intro j o _ hl; rw [hun] at hl; cases hl
  · refine AS.get_ext_rel hr' rfl rfl rfl fun t => ?_
    refine (dl_congr ops vals (fun _ => true) _ s.env t 0 ops.size (Nat.zero_le _) (fun k hk => by omega) (fun k _ _ _ => hun k)).symm
  · intro s' a' w' Z' m' cl' h4 h5 h6
    exact ⟨s', Z', m', cl', hk _ h4, h5, hst.trans h6⟩

/-- A region whose order is open, all its operations quiet but the last. -/
theorem AWp.drawTail {id : Nat} {ops : Array Oper} {K : AS → Prop} {Q : Exit → AS → Prop} (T : Nat) (hm : P.follows .mixedOrders = true) (hok : tailOk ops s.n T = true) (h : qoplT P ops ops.toList { s with eqs := [] } K)
    (hk : ∀ s, K s → Q .normal s) : AWp P (.region id ops true) Q s := by
  have hok0 := hok
  unfold tailOk at hok0
  simp only [Bool.and_eq_true, beq_iff_eq] at hok0
  have hT := hok0.1.2
  have hTlt : T < ops.size := by omega
  have hsplit : ops.toList = ops.toList.take T ++ [ops[T]] := by
    have hlen : ops.toList.length = T + 1 := by rw [Array.length_toList]; exact hT.symm
    conv => lhs; rw [← List.take_append_drop T ops.toList]
    congr 1
    rw [List.drop_eq_getElem_cons (by omega), List.drop_eq_nil_of_le (by omega)]
    simp
  rw [hsplit] at h
  have hmono : ∀ (l : List Oper) (s : AS) (K1 K2 : AS → Prop), (∀ s, K1 s → K2 s) → qopl P ops l s K1 → qopl P ops l s K2 := by
    intro l
    induction l with
    | nil => intro s K1 K2 h h1; exact h _ h1
    | cons o r ih =>
      intro s K1 K2 h h1
      simp only [qopl, aguard] at h1 ⊢
      split at h1
      · obtain ⟨d, h2, h3⟩ := h1; exact ⟨d, h2, ih _ _ _ h h3⟩
      · exact ih _ _ _ h h1
      · exact h1
  exact AWp.drawTailL T hm hok ops[T] (by simp [hTlt]) (hmono _ _ _ _ (fun s h => ⟨h.1, LastOk.of_aop h.2⟩) (qoplT_split _ _ _ h)) hk

theorem AWp.drawTail' {id : Nat} {ops : Array Oper} {K : AS → Prop} {Q : Exit → AS → Prop} (hm : P.follows .mixedOrders = true) (hok : tailOk ops s.n (ops.size - 1) = true) (h : qoplT P ops ops.toList { s with eqs := [] } K)
    (hk : ∀ s, K s → Q .normal s) : AWp P (.region id ops true) Q s := AWp.drawTail _ hm hok h hk

end
end Go.AL
