/-
  Decisions: the check of the program and of the specification.
-/
import Derived.Test.YtikgppgpailmcaaBrT
import Derived.Test.YtikgppgpailmcaaCovR
namespace Go.Proofs.Ytikgppgpailmcaa
open Go.AL

theorem scanE_zero {α : Type} {f : α → Int} : ∀ {l : List α}, scanE f l = 0 → ∀ x ∈ l, f x = 0
  | [], _, x, hx => by cases hx
  | y :: r, h, x, hx => by
    simp only [scanE] at h
    split at h
    · rename_i h0
      rcases List.mem_cons.1 hx with rfl | hx
      · exact h0
      · exact scanE_zero h x hx
    · rename_i h0; exact absurd h h0
theorem lval_of {l : G.api_Language} (h : langS l = 0) : Lval l := by
  intro r hr hk
  unfold langS at h
  split at h
  · cases h
  split at h
  · cases h
  split at h
  · rename_i h1 h0; exact absurd h h0
  split at h
  · cases h
  split at h
  · rename_i h1 h0; exact absurd h h0
  split at h
  · cases h
  obtain ⟨i, hi, e⟩ := List.getElem_of_mem hr
  have h1 := scanE_zero h i (by rw [List.mem_range]; exact hi)
  have h2 : ruleS l r = 0 := by
    unfold rulS at h1
    rw [List.getElem?_eq_getElem hi, e] at h1
    simp only at h1
    split at h1
    · rename_i h3; exact absurd h1 h3
    · rename_i h3; exact Classical.not_not.1 h3
  unfold ruleS at h2
  split at h2
  · cases h2
  split at h2
  · cases h2
  rename_i h3 h4
  have hz : zeroS r := Classical.not_not.1 fun h5 => h4 (Or.inr h5)
  have hk2 : ¬ (r.Kind < 1 ∨ r.Kind > 3) := fun h5 => h4 (Or.inl h5)
  rcases hz with h6 | h6 | h6
  · exact h6.2.2.2
  · exact h6.2.2.2
  · omega

open Classical in
/-- The check of a term. -/
noncomputable def tS (l : G.api_Language) (s : Int) (t : G.api_Term) : Int :=
  if langS l ≠ 0 then langS l else if ¬ symIn l s then 1 else dS 14 l s t

theorem tcheck_w (l : G.api_Language) (s : Int) (t : G.api_Term) (ht : nod t ≤ 12) : Pw (p_term_Check l s t) fun r => r = tS l s t := by
  have hbg := big_gt
  unfold p_term_Check f_grammar_Check f_term_within f_term_shallow f_term_derived
  simp only [G.len_api_Symbol]
  refine pw_call _ (check_w l) fun c hc => ?_
  subst hc
  rw [pw_split, pw_ret]
  simp only [bne_iff_ne, ne_eq, bne_eq_false_iff_eq]
  refine ⟨fun h => by rw [tS, if_pos h], fun hl => ?_⟩
  rw [tS, if_neg (not_not_intro hl), pw_inner]
  refine pw_cut (fun c => c = true ↔ ¬ symIn l s) ?_ ?_
  · simp only [pw_split, pw_ret, Sum.elim_inl, decide_eq_true_eq, decide_eq_false_iff_not, true_iff, symIn]
    exact ⟨fun h => by omega, fun h => by omega⟩
  intro c hc
  rw [pw_split, pw_ret]
  refine ⟨fun h => by rw [if_pos (hc.1 h)], fun h => ?_⟩
  rw [if_neg (fun h2 => by rw [hc.2 h2] at h; cases h), pw_inner]
  refine pw_cut (fun c => c = false) ?_ ?_
  · refine pw_call _ (tw_w _ t 4096 (by omega) (by omega)) fun r hr => ?_
    rw [pw_split, pw_ret]
    unfold LeftOk at hr
    rw [if_pos (by omega)] at hr
    simp only [decide_eq_true_eq, decide_eq_false_iff_not]
    refine ⟨fun h => by omega, fun _ => ?_⟩
    refine pw_call _ (shallow_w _ t 32 (by omega) (by omega) (by omega)) fun r hr => ?_
    subst hr
    rw [pw_ret]; rfl
  rintro _ rfl
  rw [pw_split]
  refine ⟨fun h => (by cases h), fun _ => ?_⟩
  exact pw_call _ (derived_w _ 14 l s t (by omega) (by omega)) fun r hr => pw_ret.2 hr

theorem tcheckR_w (l : G.api_Language) (hl : Lok l) (s : Int) (t : G.api_Term) (ht : nod t ≤ 12) : Pw (p_synthesisref13_Check l s t) fun r => r = tS l s t := by
  have hbg := big_gt
  unfold p_synthesisref13_Check f_synthesisref11_Check f_synthesisref13_Within f_synthesisref13_Depth f_synthesisref13_fits
  simp only [G.len_api_Symbol]
  refine pw_call _ (checkR_w l hl) fun c hc => ?_
  subst hc
  rw [pw_split, pw_ret]
  simp only [bne_iff_ne, ne_eq, bne_eq_false_iff_eq]
  refine ⟨fun h => by rw [tS, if_pos h], fun hl0 => ?_⟩
  rw [tS, if_neg (not_not_intro hl0), pw_inner]
  refine pw_cut (fun c => c = true ↔ ¬ symIn l s) ?_ ?_
  · simp only [pw_split, pw_ret, Sum.elim_inl, decide_eq_true_eq, decide_eq_false_iff_not, true_iff, symIn]
    exact ⟨fun h => by omega, fun h => by omega⟩
  intro c hc
  rw [pw_split, pw_ret]
  refine ⟨fun h => by rw [if_pos (hc.1 h)], fun h => ?_⟩
  rw [if_neg (fun h2 => by rw [hc.2 h2] at h; cases h), pw_inner]
  refine pw_cut (fun c => c = false) ?_ ?_
  · refine pw_call _ (Within_w t 4096 (by omega)) fun r hr => ?_
    rw [pw_split, pw_ret]
    refine ⟨fun h => (by rw [hr.2 (by omega)] at h; cases h), fun _ => ?_⟩
    refine pw_call _ (depth_w _ t (by omega) (by omega)) fun r hr => ?_
    rw [pw_ret]
    show decide (r > 32) = false
    rw [decide_eq_false_iff_not]; omega
  rintro _ rfl
  rw [pw_split]
  refine ⟨fun h => (by cases h), fun _ => ?_⟩
  exact pw_call _ (fits_w _ 14 l s t (lval_of hl0) (by omega) (by omega) (by omega)) fun r hr => pw_ret.2 hr

/-- Decisions with few branches and small terms. -/
def Dfew (d : G.api_Decisions) : Prop := d.Branches.length ≤ 18 ∧ nod d.Else ≤ 12 ∧ ∀ i (h : i < d.Branches.length), nod d.Branches[i].Test ≤ 12 ∧ nod d.Branches[i].Then ≤ 12

open Classical in
noncomputable def bS (l : G.api_Language) (s : Int) (b : G.api_Branch) : Int := if tS l s b.Test ≠ 0 then tS l s b.Test else tS l 0 b.Then
open Classical in
noncomputable def brS (l : G.api_Language) (s : Int) (d : G.api_Decisions) : Int :=
  if langS l ≠ 0 then langS l else if ¬ symIn l s then 1 else if symTyp l s ≠ 1 then 3 else if d.Branches.length > 16 then 2
  else if scanE (bS l s) d.Branches ≠ 0 then scanE (bS l s) d.Branches else tS l 0 d.Else

theorem program_w (l : G.api_Language) (t : G.api_Term) (ht : nod t ≤ 12) : Pw (p_branch_program l t) fun r => r = tS l 0 t := by
  unfold p_branch_program f_term_Check
  exact pw_call _ (tcheck_w l 0 t ht) fun r hr => pw_ret.2 hr

theorem bcheck_w (l : G.api_Language) (s : Int) (d : G.api_Decisions) (hd : Dfew d) : Pw (p_branch_Check l s d) fun r => r = brS l s d := by
  unfold p_branch_Check f_grammar_Check f_term_Check f_branch_program
  simp only [G.len_api_Symbol, G.len_api_Branch]
  refine pw_call _ (check_w l) fun c hc => ?_
  subst hc
  rw [pw_split, pw_ret]
  simp only [bne_iff_ne, ne_eq, bne_eq_false_iff_eq]
  refine ⟨fun h => by rw [brS, if_pos h], fun hl => ?_⟩
  rw [brS, if_neg (not_not_intro hl), pw_inner]
  refine pw_cut (fun c => c = true ↔ ¬ symIn l s) ?_ ?_
  · simp only [pw_split, pw_ret, Sum.elim_inl, decide_eq_true_eq, decide_eq_false_iff_not, true_iff, symIn]
    exact ⟨fun h => by omega, fun h => by omega⟩
  intro c hc
  rw [pw_split, pw_ret]
  refine ⟨fun h => by rw [if_pos (hc.1 h)], fun h => ?_⟩
  have hs : symIn l s := Classical.not_not.1 fun h2 => by rw [hc.2 h2] at h; cases h
  rw [if_neg (not_not_intro hs)]
  obtain ⟨x, hx, hty⟩ := sym_at hs
  rw [pw_op]
  refine ⟨x, hx, ?_⟩
  rw [pw_split, pw_ret, hty]
  simp only [bne_iff_ne, ne_eq, bne_eq_false_iff_eq]
  refine ⟨fun h => by rw [if_pos h], fun h => ?_⟩
  rw [if_neg (not_not_intro h), pw_split, pw_ret]
  simp only [decide_eq_true_eq, decide_eq_false_iff_not]
  refine ⟨fun h => by rw [if_pos (by omega)], fun h => ?_⟩
  rw [if_neg (by omega)]
  refine pw_scan (fun i => ∀ h : i < d.Branches.length, bS l s d.Branches[i] = 0) (fun i hi hprev => ?_) (fun hall => ?_)
  · rw [pw_op]
    refine ⟨_, List.getElem?_eq_getElem hi, ?_⟩
    have hex := fun h0 => scanE_exit (f := bS l s) hi (fun j hj hji => hprev j hji hj) h0
    refine pw_call _ (tcheck_w l s _ (hd.2.2 i hi).1) fun r hr => ?_
    subst hr
    rw [pw_split, pw_ret]
    simp only [bne_iff_ne, ne_eq, bne_eq_false_iff_eq]
    refine ⟨fun h0 => ?_, fun h0 => ?_⟩
    · have hb : bS l s d.Branches[i] = tS l s d.Branches[i].Test := by rw [bS, if_pos h0]
      have he := hex (by rw [hb]; exact h0)
      show _ = _
      rw [if_pos (by rw [he, hb]; exact h0), he, hb]
    have hb : bS l s d.Branches[i] = tS l 0 d.Branches[i].Then := by rw [bS, if_neg (not_not_intro h0)]
    refine pw_call _ (program_w l _ (hd.2.2 i hi).2) fun r hr => ?_
    subst hr
    rw [pw_split, pw_ret, pw_ret]
    simp only [bne_iff_ne, ne_eq, bne_eq_false_iff_eq]
    refine ⟨fun h1 => ?_, fun h1 _ => by rw [hb, h1]⟩
    have he := hex (by rw [hb]; exact h1)
    show _ = _
    rw [if_pos (by rw [he, hb]; exact h1), he, hb]
  · rw [if_neg (not_not_intro (scanE_all fun j hj => hall j hj hj))]
    exact pw_call _ (program_w l _ hd.2.1) fun r hr => pw_ret.2 hr

open Classical in
/-- The check of the symbol of tests. -/
noncomputable def testS (l : G.api_Language) (s : Int) : Int := if langS l ≠ 0 then langS l else if ¬ symIn l s then 1 else if symTyp l s ≠ 1 then 3 else 0
theorem symbolR_w (l : G.api_Language) (hl : Lok l) (s : Int) : Pw (p_synthesisref33_symbol l s) fun r => r = testS l s := by
  unfold p_synthesisref33_symbol f_synthesisref11_Check testS
  simp only [G.len_api_Symbol]
  refine pw_call _ (checkR_w l hl) fun c hc => ?_
  subst hc
  rw [pw_split, pw_ret]
  simp only [bne_iff_ne, ne_eq, bne_eq_false_iff_eq]
  refine ⟨fun h => by rw [if_pos h], fun hl => ?_⟩
  rw [if_neg (not_not_intro hl), pw_inner]
  refine pw_cut (fun c => c = true ↔ ¬ symIn l s) ?_ ?_
  · simp only [pw_split, pw_ret, Sum.elim_inl, decide_eq_true_eq, decide_eq_false_iff_not, true_iff, symIn]
    exact ⟨fun h => by omega, fun h => by omega⟩
  intro c hc
  rw [pw_split, pw_ret]
  refine ⟨fun h => by rw [if_pos (hc.1 h)], fun h => ?_⟩
  have hs : symIn l s := Classical.not_not.1 fun h2 => by rw [hc.2 h2] at h; cases h
  rw [if_neg (not_not_intro hs)]
  obtain ⟨x, hx, hty⟩ := sym_at hs
  rw [pw_op]
  refine ⟨x, hx, ?_⟩
  rw [pw_split, pw_ret, pw_ret, hty]
  simp only [bne_iff_ne, ne_eq, bne_eq_false_iff_eq]
  exact ⟨fun h => by rw [if_pos h], fun h => by rw [if_neg (not_not_intro h)]⟩

theorem bcheckR_w (l : G.api_Language) (hlk : Lok l) (s : Int) (d : G.api_Decisions) (hd : Dfew d) : Pw (p_synthesisref33_Check l s d) fun r => r = brS l s d := by
  unfold p_synthesisref33_Check f_synthesisref33_symbol f_synthesisref13_Check
  simp only [G.len_api_Branch]
  refine pw_call _ (symbolR_w l hlk s) fun c hc => ?_
  subst hc
  rw [pw_split, pw_ret]
  simp only [bne_iff_ne, bne_eq_false_iff_eq]
  by_cases hl : langS l ≠ 0
  · rw [testS, if_pos hl, brS, if_pos hl]
    exact ⟨fun _ => rfl, fun h => absurd h hl⟩
  rw [testS, if_neg hl, brS, if_neg hl]
  by_cases hs : ¬ symIn l s
  · rw [if_pos hs, if_pos hs]
    exact ⟨fun _ => rfl, fun h => (by cases h)⟩
  rw [if_neg hs, if_neg hs]
  by_cases hty : symTyp l s ≠ 1
  · rw [if_pos hty, if_pos hty]
    exact ⟨fun _ => rfl, fun h => (by cases h)⟩
  rw [if_neg hty, if_neg hty]
  refine ⟨fun h => absurd rfl h, fun _ => ?_⟩
  rw [pw_split, pw_ret]
  simp only [decide_eq_true_eq, decide_eq_false_iff_not]
  refine ⟨fun h => by rw [if_pos (by omega)], fun h => ?_⟩
  rw [if_neg (by omega)]
  refine pw_scanL (n := d.Branches.length) (by omega) (fun i => ∀ h : i < d.Branches.length, bS l s d.Branches[i] = 0) (fun i hi hprev => ?_) ?_ (fun hall => ?_)
  · rw [pw_split]
    refine ⟨fun _ => ?_, fun h => by simp at h; omega⟩
    rw [pw_op]
    refine ⟨_, at_nat_lt hi, ?_⟩
    have hex := fun h0 => scanE_exit (f := bS l s) hi (fun j hj hji => hprev j hji hj) h0
    refine pw_call _ (tcheckR_w l hlk s _ (hd.2.2 i hi).1) fun r hr => ?_
    subst hr
    rw [pw_split, pw_ret]
    simp only [bne_iff_ne, ne_eq, bne_eq_false_iff_eq]
    refine ⟨fun h0 => ?_, fun h0 => ?_⟩
    · have hb : bS l s d.Branches[i] = tS l s d.Branches[i].Test := by rw [bS, if_pos h0]
      have he := hex (by rw [hb]; exact h0)
      show _ = _
      rw [if_pos (by rw [he, hb]; exact h0), he, hb]
    have hb : bS l s d.Branches[i] = tS l 0 d.Branches[i].Then := by rw [bS, if_neg (not_not_intro h0)]
    rw [pw_op]
    refine ⟨_, rfl, ?_⟩
    refine pw_call _ (tcheckR_w l hlk 0 _ (hd.2.2 i hi).2) fun r hr => ?_
    subst hr
    rw [pw_split, pw_ret, pw_ret]
    simp only [bne_iff_ne, ne_eq, bne_eq_false_iff_eq]
    refine ⟨fun h1 => ?_, fun h1 => ⟨rfl, fun _ => by rw [hb, h1]⟩⟩
    have he := hex (by rw [hb]; exact h1)
    show _ = _
    rw [if_pos (by rw [he, hb]; exact h1), he, hb]
  · rw [pw_split]
    refine ⟨fun h => by simp at h, fun _ => ?_⟩
    rw [pw_ret]; trivial
  · rw [if_neg (not_not_intro (scanE_all fun j hj => hall j hj hj))]
    exact pw_call _ (tcheckR_w l hlk 0 _ hd.2.1) fun r hr => pw_ret.2 hr

/- The number of rules of decisions. -/
def nodB : List G.api_Branch → Nat
  | [] => 0
  | b :: r => nod b.Test + nod b.Then + nodB r
theorem nodB_take : ∀ (l : List G.api_Branch) (i : Nat) (h : i < l.length), nodB (l.take (i + 1)) = nodB (l.take i) + (nod l[i].Test + nod l[i].Then)
  | [], i, h => by simp at h
  | x :: r, 0, _ => by simp [nodB]
  | x :: r, i + 1, h => by
    have := nodB_take r i (by simpa using h)
    simp only [List.take_succ_cons, nodB, List.getElem_cons_succ]
    omega
theorem nodB_le : ∀ (l : List G.api_Branch), (∀ i (h : i < l.length), nod l[i].Test ≤ 12 ∧ nod l[i].Then ≤ 12) → nodB l ≤ 24 * l.length
  | [], _ => by simp [nodB]
  | x :: r, h => by
    have h1 := h 0 (by simp)
    have h2 := nodB_le r fun i hi => by have := h (i + 1) (by simpa using hi); simpa using this
    simp only [List.getElem_cons_zero] at h1
    simp only [nodB, List.length_cons]
    omega
theorem nodB_take_le (l : List G.api_Branch) (h : ∀ i (h : i < l.length), nod l[i].Test ≤ 12 ∧ nod l[i].Then ≤ 12) (i : Nat) : nodB (l.take i) ≤ 24 * l.length := by
  have := nodB_le (l.take i) fun j hj => by
    rw [List.length_take] at hj
    rw [List.getElem_take]; exact h j (by omega)
  rw [List.length_take] at this; omega

theorem bsize_w (d : G.api_Decisions) (hd : Dfew d) : Pw (p_branch_Size d) fun r => r = ((nod d.Else + nodB d.Branches : Nat) : Int) := by
  obtain ⟨hl, he, hb⟩ := hd
  have hbg := big_gt
  unfold p_branch_Size f_term_Size
  simp only [G.len_api_Branch]
  refine pw_call _ (size_w _ d.Else (by omega) (by omega)) fun r hr => ?_
  subst hr
  refine pw_cut (fun r => r = ((nod d.Else + nodB d.Branches : Nat) : Int)) ?_ (fun r hr => pw_ret.2 hr)
  refine pw_rng (fun i m => m = ((nod d.Else + nodB (d.Branches.take i) : Nat) : Int)) (by simp [nodB]) ?_ ?_
  · rintro i _ hi rfl
    rw [pw_op]
    refine ⟨_, List.getElem?_eq_getElem hi, ?_⟩
    have h1 := hb i hi
    refine pw_call _ (size_w _ d.Branches[i].Test (by omega) (by omega)) fun r hr => ?_
    subst hr
    refine pw_call _ (size_w _ d.Branches[i].Then (by omega) (by omega)) fun r hr => ?_
    subst hr
    rw [pw_ret]
    show _ = _
    have h2 := nodB_take d.Branches i hi
    have h3 := nodB_take_le d.Branches hb i
    rw [w64 (n := (nod d.Branches[i].Test : Int) + nod d.Branches[i].Then) (by omega) (by omega), w64 (by omega) (by omega), h2]; omega
  · rintro _ rfl
    show _ = _
    rw [List.take_length]
theorem bsizeR_w (d : G.api_Decisions) (hd : Dfew d) : Pw (p_synthesisref33_Size d) fun r => r = ((nod d.Else + nodB d.Branches : Nat) : Int) := by
  obtain ⟨hl, he, hb⟩ := hd
  have hbg := big_gt
  unfold p_synthesisref33_Size f_synthesisref13_Size
  simp only [G.len_api_Branch]
  refine pw_call _ (sizeR_w _ d.Else (by omega) (by omega)) fun r hr => ?_
  subst hr
  refine pw_cut (fun r => r = ((nod d.Else + nodB d.Branches : Nat) : Int)) ?_ (fun r hr => pw_ret.2 hr)
  refine pw_loop (fun st => ∃ i : Nat, st = (((nod d.Else + nodB (d.Branches.take i) : Nat) : Int), (i : Int)) ∧ i ≤ d.Branches.length) (fun st => d.Branches.length - st.2.toNat) ⟨0, by simp [nodB], by omega⟩ (by omega) ?_
  rintro _ ⟨i, rfl, hi⟩
  simp only
  rw [pw_split]
  simp only [decide_eq_true_eq, decide_eq_false_iff_not]
  refine ⟨fun hlt => ?_, fun hge => ?_⟩
  · have hlt' : i < d.Branches.length := by omega
    rw [pw_op]
    refine ⟨_, at_nat_lt hlt', ?_⟩
    have h1 := hb i hlt'
    refine pw_call _ (sizeR_w _ d.Branches[i].Test (by omega) (by omega)) fun r hr => ?_
    subst hr
    rw [pw_op]
    refine ⟨_, rfl, ?_⟩
    refine pw_call _ (sizeR_w _ d.Branches[i].Then (by omega) (by omega)) fun r hr => ?_
    subst hr
    rw [pw_ret]
    have hw : IntKind.wrap .i64 ((i : Int) + 1) = ((i + 1 : Nat) : Int) := by rw [w64 (by omega) (by omega)]; omega
    have h2 := nodB_take d.Branches i hlt'
    have h3 := nodB_take_le d.Branches hb i
    refine ⟨⟨i + 1, ?_, by omega⟩, ?_⟩
    · show (IntKind.wrap .i64 (((nod d.Else + nodB (d.Branches.take i) : Nat) : Int) + IntKind.wrap .i64 ((nod d.Branches[i].Test : Int) + nod d.Branches[i].Then)), IntKind.wrap .i64 ((i : Int) + 1)) = _
      rw [hw, w64 (n := (nod d.Branches[i].Test : Int) + nod d.Branches[i].Then) (by omega) (by omega), w64 (by omega) (by omega), h2]
      congr 1
      omega
    · show d.Branches.length - (IntKind.wrap .i64 ((i : Int) + 1)).toNat < d.Branches.length - (i : Int).toNat
      rw [hw]; omega
  · have : i = d.Branches.length := by omega
    subst this
    rw [pw_ret]
    show _ = _
    rw [List.take_length]

theorem few_w (d : G.api_Decisions) : Pw (p_synthesislaw33_few d) fun r => r = true → Dfew d := by
  unfold p_synthesislaw33_few f_synthesisref13_Within
  simp only [G.len_api_Branch]
  rw [pw_inner, pw_inner]
  refine pw_cut (fun c => c = false → d.Branches.length ≤ 18 ∧ nod d.Else ≤ 12) ?_ ?_
  · rw [pw_split, pw_ret]
    simp only [decide_eq_true_eq, decide_eq_false_iff_not]
    refine ⟨fun _ h => (by cases h), fun h => ?_⟩
    refine pw_call _ (Within_w d.Else 12 (by omega)) fun r hr => ?_
    rw [pw_ret]
    show (!r) = false → _
    rw [Bool.not_eq_false']
    exact fun h2 => ⟨by omega, hr.1 h2⟩
  intro c hc
  rw [pw_split, pw_ret]
  refine ⟨fun _ h => (by cases h), fun h => ?_⟩
  obtain ⟨hl, he⟩ := hc h
  refine pw_scanL (n := d.Branches.length) (by omega) (fun i => ∀ h : i < d.Branches.length, nod d.Branches[i].Test ≤ 12 ∧ nod d.Branches[i].Then ≤ 12) (fun i hi hprev => ?_) ?_ (fun hall => ?_)
  · rw [pw_split]
    refine ⟨fun _ => ?_, fun h => by simp at h; omega⟩
    rw [pw_inner]
    refine pw_cut (fun c => c = false → nod d.Branches[i].Test ≤ 12 ∧ nod d.Branches[i].Then ≤ 12) ?_ ?_
    · rw [pw_op]
      refine ⟨_, at_nat_lt hi, ?_⟩
      refine pw_call _ (Within_w _ 12 (by omega)) fun r hr => ?_
      rw [pw_split, pw_ret]
      simp only [Bool.not_eq_true', Bool.not_eq_false']
      refine ⟨fun _ h => (by cases h), fun h1 => ?_⟩
      rw [pw_op]
      refine ⟨_, rfl, ?_⟩
      refine pw_call _ (Within_w _ 12 (by omega)) fun r2 hr2 => ?_
      rw [pw_ret]
      show (!r2) = false → _
      rw [Bool.not_eq_false']
      exact fun h2 => ⟨hr.1 h1, hr2.1 h2⟩
    intro c hc
    rw [pw_split, pw_ret, pw_ret]
    exact ⟨fun _ h => (by cases h), fun h => ⟨rfl, fun _ => hc h⟩⟩
  · rw [pw_split]
    refine ⟨fun h => by simp at h, fun _ => ?_⟩
    rw [pw_ret]; trivial
  · rw [pw_ret]
    exact fun _ => ⟨hl, he, fun i hi => hall i hi hi⟩

theorem count_w : ∀ (n : Nat) (l : List G.api_Value) (most : Int), 0 < n → l.length ≤ 9223372036854775807 → (∀ x, x ∈ l → Vok x ∧ SizeOf.sizeOf x < n) → Pw (p_synthesisref01_Count n l most) fun _ => True
  | 0, l, most, h, _, _ => by omega
  | n + 1, l, most, _, hl, hx => by
    unfold p_synthesisref01_Count
    simp only [G.len_api_Value]
    rw [pw_inner, pw_inner]
    refine pw_cut (fun _ => True) ?_ (fun _ _ => pw_ret.2 trivial)
    refine pw_loop (fun st => ∃ i : Nat, st.2 = (i : Int) ∧ i ≤ l.length) (fun st => l.length - st.2.toNat) ⟨0, rfl, by omega⟩ (by omega) ?_
    rintro ⟨m, x⟩ ⟨i, rfl, hi⟩
    simp only
    rw [pw_inner]
    refine pw_cut (fun c => c = true → i < l.length) ?_ ?_
    · rw [pw_split, pw_ret, pw_ret]
      simp only [decide_eq_true_eq, decide_eq_false_iff_not]
      exact ⟨fun h _ => by omega, fun _ h => (by cases h)⟩
    intro c hc
    rw [pw_split, pw_ret]
    refine ⟨fun h => ?_, fun _ => trivial⟩
    have hlt := hc h
    rw [pw_op]
    refine ⟨_, at_nat_lt hlt, ?_⟩
    have hv := hx _ (List.getElem_mem hlt)
    have hsz := val_sz l[i]
    refine pw_call _ (count_w n l[i].Items _ (by omega) hv.1.len fun y hy => ⟨hv.1.item hy, by have := item_lt2 hy; omega⟩) fun r _ => ?_
    rw [pw_ret]
    have hw : IntKind.wrap .i64 ((i : Int) + 1) = ((i + 1 : Nat) : Int) := by rw [w64 (by omega) (by omega)]; omega
    refine ⟨⟨i + 1, hw, by omega⟩, ?_⟩
    show l.length - (IntKind.wrap .i64 ((i : Int) + 1)).toNat < l.length - (i : Int).toNat
    rw [hw]; omega

theorem rshallow_w : ∀ (n : Nat) (v : G.api_Value) (lev : Int), Vok v → SizeOf.sizeOf v < n → Pw (p_synthesisref01_shallow n v lev) fun _ => True
  | 0, v, lev, _, h => by omega
  | n + 1, v, lev, hv, h => by
    unfold p_synthesisref01_shallow
    simp only [G.len_api_Value]
    rw [pw_inner, pw_inner]
    refine pw_cut (fun _ => True) ?_ ?_
    · rw [pw_split, pw_ret, pw_ret]
      exact ⟨fun _ => trivial, fun _ => trivial⟩
    intro c _
    rw [pw_split, pw_ret]
    refine ⟨fun _ => trivial, fun _ => ?_⟩
    refine pw_scanL (n := v.Items.length) hv.len (fun _ => True) (fun i hi _ => ?_) ?_ (fun _ => pw_ret.2 trivial)
    · rw [pw_split]
      refine ⟨fun _ => ?_, fun h => by simp at h; omega⟩
      rw [pw_op]
      refine ⟨_, at_nat_lt hi, ?_⟩
      have hm := List.getElem_mem hi
      have hsz := item_lt2 hm
      refine pw_call _ (rshallow_w n v.Items[i] _ (hv.item hm) (by omega)) fun r _ => ?_
      rw [pw_split, pw_ret, pw_ret]
      exact ⟨fun _ => trivial, fun _ => ⟨rfl, trivial⟩⟩
    · rw [pw_split]
      refine ⟨fun h => by simp at h, fun _ => ?_⟩
      rw [pw_ret]; trivial

theorem small_w (v : G.api_Value) (hv : Vok v) : Pw (p_synthesisref01_Small v) fun _ => True := by
  have hbg := big_gt
  unfold p_synthesisref01_Small f_synthesisref01_Count f_synthesisref01_shallow
  rw [pw_inner]
  refine pw_cut (fun _ => True) ?_ (fun _ _ => pw_ret.2 trivial)
  refine pw_call _ (count_w _ [v] 90 (by omega) (by simp) fun x hx => ?_) fun r _ => ?_
  · rw [List.mem_singleton] at hx
    subst hx
    refine ⟨hv, ?_⟩
    simp only [List.cons.sizeOf_spec]; omega
  rw [pw_split, pw_ret]
  refine ⟨fun _ => ?_, fun _ => trivial⟩
  exact pw_call _ (rshallow_w _ v 8 hv (by omega)) fun r _ => pw_ret.2 trivial

theorem lfew_w (l : G.api_Language) (hl : Lok l) : Pw (p_synthesisref13_Few l) fun _ => True := by
  unfold p_synthesisref13_Few f_synthesisref01_Small
  simp only [G.len_int, G.len_api_Symbol, G.len_api_Rule]
  rw [pw_inner, pw_inner]
  refine pw_cut (fun c => c = false → l.Symbols.length ≤ 18 ∧ l.Rules.length ≤ 30) ?_ ?_
  · simp only [pw_split, pw_ret, Sum.elim_inl, decide_eq_true_eq, decide_eq_false_iff_not, Bool.true_eq_false, false_imp_iff, implies_true, true_and]
    intro _ _ h1 h2
    omega
  intro c hc
  rw [pw_split, pw_ret]
  refine ⟨fun _ => trivial, fun h => ?_⟩
  obtain ⟨hs, hr⟩ := hc h
  refine pw_scanL (n := l.Symbols.length) (by omega) (fun _ => True) (fun i hi _ => ?_) ?_ (fun _ => ?_)
  · rw [pw_split]
    refine ⟨fun _ => ?_, fun h => by simp at h; omega⟩
    rw [pw_op]
    refine ⟨_, at_nat_lt hi, ?_⟩
    rw [pw_split, pw_ret, pw_ret]
    exact ⟨fun _ => trivial, fun _ => ⟨rfl, trivial⟩⟩
  · rw [pw_split]
    refine ⟨fun h => by simp at h, fun _ => ?_⟩
    rw [pw_ret]; trivial
  refine pw_scanL (n := l.Rules.length) (by omega) (fun _ => True) (fun i hi _ => ?_) ?_ (fun _ => pw_ret.2 trivial)
  · rw [pw_split]
    refine ⟨fun _ => ?_, fun h => by simp at h; omega⟩
    rw [pw_op]
    refine ⟨_, at_nat_lt hi, ?_⟩
    refine pw_cut (fun _ => True) ?_ ?_
    · refine pw_call _ (small_w _ (hl _ (List.getElem_mem hi)).1) fun r _ => ?_
      simp only [pw_split, pw_ret, Sum.elim_inl, implies_true, and_self]
    intro c _
    rw [pw_split, pw_ret, pw_ret]
    exact ⟨fun _ => trivial, fun _ => ⟨rfl, trivial⟩⟩
  · rw [pw_split]
    refine ⟨fun h => by simp at h, fun _ => ?_⟩
    rw [pw_ret]; trivial

theorem light_w (l : G.api_Language) (hl : Lok l) : Pw (p_synthesisref13_Light l) fun _ => True := by
  unfold p_synthesisref13_Light f_synthesisref13_Few
  rw [pw_inner]
  refine pw_cut (fun _ => True) ?_ (fun _ _ => pw_ret.2 trivial)
  refine pw_call _ (lfew_w l hl) fun r _ => ?_
  simp only [pw_split, pw_ret, Sum.elim_inl, implies_true, and_self]

/-- The law on the check holds. -/
theorem branchChecks_w (l : G.api_Language) (hl : Lok l) (tests : Int) (d : G.api_Decisions) : Pw (p_synthesislaw33_BranchChecks l tests d) fun r => r = true := by
  unfold p_synthesislaw33_BranchChecks f_synthesisref13_Light f_synthesislaw33_alive f_synthesislaw33_few f_branch_Check f_synthesisref33_Check f_branch_Size f_synthesisref33_Size
  rw [pw_inner]
  refine pw_cut (fun r => r = true) ?_ (fun _ h => pw_ret.2 h)
  refine pw_call _ (light_w l hl) fun c _ => ?_
  rw [pw_split]
  refine ⟨fun _ => pw_call _ alive_w fun _ h => pw_ret.2 h, fun _ => ?_⟩
  refine pw_call _ (few_w d) fun c hc => ?_
  rw [pw_split]
  refine ⟨fun _ => pw_call _ alive_w fun _ h => pw_ret.2 h, fun h => ?_⟩
  have hd := hc (by simpa using h)
  refine pw_call _ (bcheck_w l tests d hd) fun c hc => ?_
  refine pw_call _ (bcheckR_w l hl tests d hd) fun c2 hc2 => ?_
  rw [pw_split]
  refine ⟨fun _ => ?_, fun h => by rw [hc, hc2] at h; simp at h⟩
  refine pw_call _ (bsize_w d hd) fun c hc => ?_
  refine pw_call _ (bsizeR_w d hd) fun c2 hc2 => ?_
  rw [pw_split]
  exact ⟨fun _ => pw_call _ alive_w fun _ h => pw_ret.2 h, fun h => by rw [hc, hc2] at h; simp at h⟩

end Go.Proofs.Ytikgppgpailmcaa
