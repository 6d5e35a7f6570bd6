/-
  The check of a language, as a whole.
-/
import Derived.Test.YtikgppgpailmcaaBrL
namespace Go.Proofs.Ytikgppgpailmcaa
open Go.AL

noncomputable def scanN (f : Nat → Int) (n : Nat) : Int := scanE f (List.range n)
theorem scanN_exit {f : Nat → Int} {n i : Nat} (hi : i < n) (h : ∀ j, j < i → f j = 0) (h0 : f i ≠ 0) : scanN f n = f i := by
  unfold scanN
  have := scanE_exit (f := f) (l := List.range n) (i := i) (by simpa using hi) (fun j hj hji => by simpa using h j hji) (by simpa using h0)
  rw [this]; simp
theorem scanN_all {f : Nat → Int} {n : Nat} (h : ∀ i, i < n → f i = 0) : scanN f n = 0 := by
  unfold scanN
  exact scanE_all fun j hj => by simp only [List.length_range] at hj; simpa using h j hj

open Classical in
noncomputable def inS (l : G.api_Language) (i : Nat) : Int := match l.Inputs[i]? with
  | some t => if 1 ≤ t ∧ t ≤ 8 then 0 else 3
  | none => 0
def seenS (l : G.api_Language) (i : Nat) (u : List UInt8) : Prop := ∃ k y, k < i ∧ l.Symbols[k]? = some y ∧ y.Name = u
open Classical in
noncomputable def symS (l : G.api_Language) (i : Nat) : Int := match l.Symbols[i]? with
  | some x => if ¬ nameOk x.Name then 5 else if seenS l i x.Name then 6 else if 1 ≤ x.Typ ∧ x.Typ ≤ 8 then 0 else 3
  | none => 0
open Classical in
noncomputable def rulS (l : G.api_Language) (i : Nat) : Int := match l.Rules[i]? with
  | some r => if ruleS l r ≠ 0 then ruleS l r else if ∃ k, k < i ∧ l.Rules[k]? = some r then 6 else 0
  | none => 0
open Classical in
noncomputable def langS (l : G.api_Language) : Int :=
  if ¬ nameOk l.Name then 5 else if l.Inputs.length > 4 then 2 else if scanN (inS l) l.Inputs.length ≠ 0 then scanN (inS l) l.Inputs.length
  else if l.Symbols.length < 1 ∨ l.Symbols.length > 16 then 2 else if scanN (symS l) l.Symbols.length ≠ 0 then scanN (symS l) l.Symbols.length
  else if l.Rules.length > 96 then 2 else scanN (rulS l) l.Rules.length

theorem mpGet_set {α : Type} (z : α) (u w : List UInt8) (v : α) : ∀ st : List (List UInt8 × α), mpGet z (mpSet st u v) w = if u = w then v else mpGet z st w
  | [] => rfl
  | (k, x) :: r => by
    simp only [mpSet]
    split
    · rename_i h
      subst h
      simp only [mpGet]
      split <;> rfl
    · rename_i h
      simp only [mpGet]
      rw [mpGet_set z u w v r]
      by_cases h1 : k = w
      · subst h1
        rw [if_pos rfl, if_neg (fun e => h e.symm), if_pos rfl]
      · rw [if_neg h1, if_neg h1]

section
variable {τ : Type}
theorem pw_idx {n : Nat} (hn : n ≤ 9223372036854775807) {l' : List Nat} {A' : Int → List (Nat × D) × List Ob} {body : Int → Prog (Int ⊕ τ)} {Q : τ → Prop} (P : Nat → Prop)
    (hb : ∀ i, i < n → (∀ j, j < i → P j) → Pw (body (i : Int)) (Sum.elim (fun x => x = IntKind.wrap .i64 ((i : Int) + 1) ∧ P i) Q))
    (he : (∀ i, i < n → P i) → Pw (body (n : Int)) (Sum.elim (fun _ => False) Q)) : Pw (.loop l' A' 0 (fun _ y => y) body) Q := by
  refine pw_loop (fun x => ∃ i : Nat, x = (i : Int) ∧ i ≤ n ∧ ∀ j, j < i → P j) (fun x => n - x.toNat) ⟨0, rfl, by omega, fun j h => absurd h (by omega)⟩ (by omega) ?_
  rintro _ ⟨i, rfl, hin, hP⟩
  by_cases hi : i < n
  · refine (hb i hi hP).mono fun y hy => ?_
    cases y with
    | inl u =>
      obtain ⟨rfl, hp⟩ := hy
      have hw : IntKind.wrap .i64 ((i : Int) + 1) = ((i + 1 : Nat) : Int) := by rw [w64 (by omega) (by omega)]; omega
      refine ⟨⟨i + 1, hw, by omega, fun j hj => ?_⟩, ?_⟩
      · by_cases e : j = i
        · rw [e]; exact hp
        · exact hP j (by omega)
      · show n - (IntKind.wrap .i64 ((i : Int) + 1)).toNat < n - (i : Int).toNat
        rw [hw]; omega
    | inr y => exact hy
  · have : i = n := by omega
    subst this
    refine (he hP).mono fun y hy => ?_
    cases y with
    | inl u => exact hy.elim
    | inr y => exact hy
end

theorem check1_w (x c : G.api_Rule) : Pw (p_grammar_Check_1 x c) fun r => r = true ↔ x = c := by
  unfold p_grammar_Check_1 f_grammar_sameRule
  exact pw_call _ (sameRule_w x c) fun r hr => pw_ret.2 hr
theorem contains_w (s : List G.api_Rule) (c : G.api_Rule) : Pw (p_slices_ContainsFunc_api_Rule_api_Rule s c) fun r => r = true ↔ c ∈ s := by
  unfold p_slices_ContainsFunc_api_Rule_api_Rule f_slices_IndexFunc_api_Rule_api_Rule
  refine pw_call (fun n => 0 ≤ n ↔ c ∈ s) ?_ fun r hr => pw_ret.2 (by rw [decide_eq_true_eq]; exact hr)
  unfold p_slices_IndexFunc_api_Rule_api_Rule f_grammar_Check_1
  rw [pw_inner]
  simp only [G.len_api_Rule]
  refine pw_scan (fun i => ∀ h : i < s.length, s[i] ≠ c) (fun i hi _ => ?_) (fun hall => ?_)
  · rw [pw_op]
    refine ⟨_, List.getElem?_eq_getElem hi, ?_⟩
    refine pw_call _ (check1_w _ _) fun r hr => ?_
    simp only [pw_split, pw_ret, Sum.elim_inl, Sum.elim_inr]
    refine ⟨fun h => ⟨fun _ => by rw [← hr.1 h]; exact List.getElem_mem hi, fun _ => by omega⟩, fun h _ e => by rw [hr.2 e] at h; cases h⟩
  · rw [pw_ret]
    refine ⟨fun h => by omega, fun h => ?_⟩
    obtain ⟨i, hi, e⟩ := List.getElem_of_mem h
    exact absurd e (hall i hi hi)

theorem take_slM {α : Type} (xs : List α) (i : Nat) (h : i ≤ xs.length) : slM xs none (some (i : Int)) = some (xs.take i) := by
  have h2 : bnM xs.length (some (i : Int)) = some i := by
    show (if (i : Int) < 0 then none else some (i : Int).toNat) = _
    rw [if_neg (by omega), Int.toNat_natCast]
  unfold slM
  rw [h2]
  show (if 0 ≤ i ∧ i ≤ xs.length then some ((xs.take i).drop 0) else none) = _
  rw [if_pos ⟨by omega, h⟩, List.drop_zero]

open Classical in
theorem check_w (l : G.api_Language) : Pw (p_grammar_Check l) fun r => r = langS l := by
  unfold p_grammar_Check f_grammar_named f_grammar_typed f_grammar_rule f_slices_ContainsFunc_api_Rule_api_Rule
  simp only [G.len_int, G.len_api_Symbol, G.len_api_Rule]
  refine pw_call _ (named_w l.Name) fun c hc => ?_
  rw [pw_split, pw_ret]
  simp only [Bool.not_eq_true', Bool.not_eq_false']
  refine ⟨fun h => by rw [langS, if_pos (fun hn => by rw [hc.2 hn] at h; cases h)], fun h => ?_⟩
  rw [langS, if_neg (not_not_intro (hc.1 h)), pw_split, pw_ret]
  simp only [decide_eq_true_eq, decide_eq_false_iff_not]
  refine ⟨fun h => by rw [if_pos (by omega)], fun h => ?_⟩
  rw [if_neg (by omega)]
  refine pw_scan (fun i => inS l i = 0) (fun i hi hprev => ?_) (fun hall => ?_)
  · have hg : l.Inputs[i]? = some l.Inputs[i] := List.getElem?_eq_getElem hi
    have hin : inS l i = if 1 ≤ l.Inputs[i] ∧ l.Inputs[i] ≤ 8 then 0 else 3 := by unfold inS; rw [hg]
    rw [pw_op]
    refine ⟨_, hg, ?_⟩
    refine pw_call _ (typed_w _) fun c hc => ?_
    subst hc
    rw [pw_split, pw_ret, pw_ret]
    simp only [Bool.not_eq_true', Bool.not_eq_false', decide_eq_true_eq, decide_eq_false_iff_not, Sum.elim_inl, Sum.elim_inr]
    refine ⟨fun h => ?_, fun h => by rw [hin, if_pos h]⟩
    rw [if_neg h] at hin
    have := scanN_exit hi hprev (by rw [hin]; simp)
    rw [this, hin]; rfl
  have h0 : scanN (inS l) l.Inputs.length = 0 := scanN_all hall
  rw [h0, if_neg (by simp), pw_inner]
  refine pw_cut (fun c => c = decide (l.Symbols.length < 1 ∨ l.Symbols.length > 16)) ?_ ?_
  · simp only [pw_split, pw_ret, Sum.elim_inl, decide_eq_true_eq, decide_eq_false_iff_not]
    refine ⟨fun h => ?_, fun h => ?_⟩
    · symm; rw [decide_eq_true_eq]; omega
    · rw [decide_eq_decide]; omega
  rintro _ rfl
  rw [pw_split, pw_ret]
  simp only [decide_eq_true_eq, decide_eq_false_iff_not]
  refine ⟨fun h => by rw [if_pos h], fun h => ?_⟩
  rw [if_neg h, pw_inner]
  refine pw_cut (fun _ => ∀ i, i < l.Symbols.length → symS l i = 0) ?_ (fun _ hall => ?_)
  · refine pw_rng (fun i st => (∀ j, j < i → symS l j = 0) ∧ ∀ u, mpGet false st u = true ↔ seenS l i u) ⟨fun j h => absurd h (by omega), fun u => ⟨fun h => (by cases h), fun ⟨k, y, hk, _⟩ => by omega⟩⟩ ?_ (fun s h => h.1)
    rintro i st hi ⟨hprev, hst⟩
    have hg : l.Symbols[i]? = some l.Symbols[i] := List.getElem?_eq_getElem hi
    have hsy : symS l i = if ¬ nameOk l.Symbols[i].Name then 5 else if seenS l i l.Symbols[i].Name then 6 else if 1 ≤ l.Symbols[i].Typ ∧ l.Symbols[i].Typ ≤ 8 then 0 else 3 := by unfold symS; rw [hg]
    have fin : ∀ r : Int, symS l i = r → r ≠ 0 → r = if scanN (symS l) l.Symbols.length ≠ 0 then scanN (symS l) l.Symbols.length else if l.Rules.length > 96 then 2 else scanN (rulS l) l.Rules.length := fun r h1 h2 => by
      have := scanN_exit hi hprev (by rw [h1]; exact h2)
      rw [this, h1, if_pos h2]
    rw [pw_op]
    refine ⟨_, hg, ?_⟩
    refine pw_call _ (named_w _) fun c hc => ?_
    rw [pw_split, pw_ret]
    simp only [Bool.not_eq_true', Bool.not_eq_false', Sum.elim_inr]
    refine ⟨fun h => fin 5 (by rw [hsy, if_pos (fun hn => by rw [hc.2 hn] at h; cases h)]) (by omega), fun h => ?_⟩
    rw [if_neg (not_not_intro (hc.1 h))] at hsy
    rw [pw_op]
    refine ⟨_, rfl, ?_⟩
    rw [pw_split, pw_ret]
    simp only [Sum.elim_inr]
    refine ⟨fun h => fin 6 (by rw [hsy, if_pos ((hst _).1 h)]) (by omega), fun h => ?_⟩
    rw [if_neg (fun hs => by rw [(hst _).2 hs] at h; cases h)] at hsy
    refine pw_call _ (typed_w _) fun c hc => ?_
    subst hc
    rw [pw_split, pw_ret]
    simp only [Bool.not_eq_true', Bool.not_eq_false', decide_eq_true_eq, decide_eq_false_iff_not, Sum.elim_inr]
    refine ⟨fun h => fin 3 (by rw [hsy, if_neg h]) (by omega), fun h => ?_⟩
    rw [if_pos h] at hsy
    rw [pw_mem]
    refine ⟨_, rfl, ?_⟩
    rw [pw_ret]
    refine ⟨fun j hj => ?_, fun u => ?_⟩
    · by_cases e : j = i
      · rw [e]; exact hsy
      · exact hprev j (by omega)
    · rw [mpGet_set]
      constructor
      · intro hu
        split at hu
        · exact ⟨i, _, by omega, hg, by assumption⟩
        · obtain ⟨k, y, hk, h1, h2⟩ := (hst u).1 hu
          exact ⟨k, y, by omega, h1, h2⟩
      · rintro ⟨k, y, hk, h1, h2⟩
        by_cases e : k = i
        · subst e; rw [hg] at h1; cases h1; rw [if_pos h2]
        · split
          · rfl
          · exact (hst u).2 ⟨k, y, by omega, h1, h2⟩
  have h0 : scanN (symS l) l.Symbols.length = 0 := scanN_all hall
  rw [h0, if_neg (by simp), pw_split, pw_ret]
  simp only [decide_eq_true_eq, decide_eq_false_iff_not]
  refine ⟨fun h => by rw [if_pos (by omega)], fun h => ?_⟩
  rw [if_neg (by omega)]
  refine pw_scan (fun i => rulS l i = 0) (fun i hi hprev => ?_) (fun hall => by rw [pw_ret, scanN_all hall])
  have hg : l.Rules[i]? = some l.Rules[i] := List.getElem?_eq_getElem hi
  have hsy : rulS l i = if ruleS l l.Rules[i] ≠ 0 then ruleS l l.Rules[i] else if ∃ k, k < i ∧ l.Rules[k]? = some l.Rules[i] then 6 else 0 := by unfold rulS; rw [hg]
  have fin : ∀ r : Int, rulS l i = r → r ≠ 0 → r = scanN (rulS l) l.Rules.length := fun r h1 h2 => by
    have := scanN_exit hi hprev (by rw [h1]; exact h2)
    rw [this, h1]
  rw [pw_op]
  refine ⟨_, hg, ?_⟩
  refine pw_call _ (rule_w l _) fun x hx => ?_
  subst hx
  rw [pw_split, pw_ret]
  simp only [bne_iff_ne, ne_eq, bne_eq_false_iff_eq, Sum.elim_inr]
  refine ⟨fun h => fin _ (by rw [hsy, if_pos h]) h, fun h => ?_⟩
  rw [if_neg (not_not_intro h)] at hsy
  rw [pw_op]
  refine ⟨l.Rules.take i, take_slM _ _ (by omega), ?_⟩
  refine pw_call _ (contains_w _ _) fun c hc => ?_
  have hmem : l.Rules[i] ∈ l.Rules.take i ↔ ∃ k, k < i ∧ l.Rules[k]? = some l.Rules[i] := by
    rw [List.mem_iff_getElem?]
    constructor
    · rintro ⟨k, hk⟩
      rw [List.getElem?_take] at hk
      split at hk
      · exact ⟨k, by assumption, hk⟩
      · cases hk
    · rintro ⟨k, hk, h1⟩
      exact ⟨k, by rw [List.getElem?_take, if_pos hk]; exact h1⟩
  rw [hmem] at hc
  rw [pw_split, pw_ret, pw_ret]
  simp only [Sum.elim_inl, Sum.elim_inr]
  exact ⟨fun h => fin 6 (by rw [hsy, if_pos (hc.1 h)]) (by omega), fun h => by rw [hsy, if_neg (fun hn => by rw [hc.2 hn] at h; cases h)]⟩

/-- A language that a machine can hold. -/
def Lok (l : G.api_Language) : Prop := ∀ r, r ∈ l.Rules → Rok r
open Classical in
theorem checkR_w (l : G.api_Language) (hl : Lok l) : Pw (p_synthesisref11_Check l) fun r => r = langS l := by
  unfold p_synthesisref11_Check f_synthesisref11_Name f_synthesisref11_typed f_synthesisref11_rule f_synthesisref11_SameRule
  simp only [G.len_int, G.len_api_Symbol, G.len_api_Rule]
  refine pw_call _ (Name_w l.Name) fun c hc => ?_
  rw [pw_split, pw_ret]
  simp only [Bool.not_eq_true', Bool.not_eq_false']
  refine ⟨fun h => by rw [langS, if_pos (fun hn => by rw [hc.2 hn] at h; cases h)], fun h => ?_⟩
  rw [langS, if_neg (not_not_intro (hc.1 h)), pw_split, pw_ret]
  simp only [decide_eq_true_eq, decide_eq_false_iff_not]
  refine ⟨fun h => by rw [if_pos (by omega)], fun h => ?_⟩
  rw [if_neg (by omega)]
  refine pw_scanL (n := l.Inputs.length) (by omega) (fun i => inS l i = 0) (fun i hi hprev => ?_) ?_ (fun hall => ?_)
  · have hg : l.Inputs[i]? = some l.Inputs[i] := List.getElem?_eq_getElem hi
    have hin : inS l i = if 1 ≤ l.Inputs[i] ∧ l.Inputs[i] ≤ 8 then 0 else 3 := by unfold inS; rw [hg]
    rw [pw_split]
    refine ⟨fun _ => ?_, fun h => by simp at h; omega⟩
    rw [pw_op]
    refine ⟨_, at_nat_lt hi, ?_⟩
    refine pw_call _ (typedR_w _) fun c hc => ?_
    subst hc
    rw [pw_split, pw_ret, pw_ret]
    simp only [Bool.not_eq_true', Bool.not_eq_false', decide_eq_true_eq, decide_eq_false_iff_not, Sum.elim_inl, Sum.elim_inr]
    refine ⟨fun h => ?_, fun h => ⟨trivial, by rw [hin, if_pos h]⟩⟩
    rw [if_neg h] at hin
    have := scanN_exit hi hprev (by rw [hin]; simp)
    rw [this, hin]; rfl
  · rw [pw_split]
    refine ⟨fun h => by simp at h, fun _ => ?_⟩
    rw [pw_ret]; trivial
  have h0 : scanN (inS l) l.Inputs.length = 0 := scanN_all hall
  rw [h0, if_neg (by simp), pw_inner]
  refine pw_cut (fun c => c = decide (l.Symbols.length < 1 ∨ l.Symbols.length > 16)) ?_ ?_
  · simp only [pw_split, pw_ret, Sum.elim_inl, decide_eq_true_eq, decide_eq_false_iff_not]
    refine ⟨fun h => ?_, fun h => ?_⟩
    · symm; rw [decide_eq_true_eq]; omega
    · rw [decide_eq_decide]; omega
  rintro _ rfl
  rw [pw_split, pw_ret]
  simp only [decide_eq_true_eq, decide_eq_false_iff_not]
  refine ⟨fun h => by rw [if_pos h], fun h => ?_⟩
  rw [if_neg h]
  refine pw_scanL (n := l.Symbols.length) (by omega) (fun i => symS l i = 0) (fun i hi hprev => ?_) ?_ (fun hall => ?_)
  · have hg : l.Symbols[i]? = some l.Symbols[i] := List.getElem?_eq_getElem hi
    have hsy : symS l i = if ¬ nameOk l.Symbols[i].Name then 5 else if seenS l i l.Symbols[i].Name then 6 else if 1 ≤ l.Symbols[i].Typ ∧ l.Symbols[i].Typ ≤ 8 then 0 else 3 := by unfold symS; rw [hg]
    have fin : ∀ r : Int, symS l i = r → r ≠ 0 → r = if scanN (symS l) l.Symbols.length ≠ 0 then scanN (symS l) l.Symbols.length else if l.Rules.length > 96 then 2 else scanN (rulS l) l.Rules.length := fun r h1 h2 => by
      have := scanN_exit hi hprev (by rw [h1]; exact h2)
      rw [this, h1, if_pos h2]
    rw [pw_split]
    refine ⟨fun _ => ?_, fun h => by simp at h; omega⟩
    refine pw_cut (fun _ => symS l i = 0) ?_ (fun _ h => pw_ret.2 ⟨rfl, h⟩)
    rw [pw_op]
    refine ⟨_, at_nat_lt hi, ?_⟩
    refine pw_call _ (Name_w _) fun c hc => ?_
    rw [pw_split, pw_ret]
    simp only [Bool.not_eq_true', Bool.not_eq_false', Sum.elim_inr]
    refine ⟨fun h => fin 5 (by rw [hsy, if_pos (fun hn => by rw [hc.2 hn] at h; cases h)]) (by omega), fun h => ?_⟩
    rw [if_neg (not_not_intro (hc.1 h))] at hsy
    refine pw_scanL (n := i) (by omega) (fun k => ∀ h : k < l.Symbols.length, l.Symbols[k].Name ≠ l.Symbols[i].Name) (fun k hk _ => ?_) ?_ (fun hno => ?_)
    · have hkl : k < l.Symbols.length := by omega
      rw [pw_split]
      refine ⟨fun _ => ?_, fun h => by simp at h; omega⟩
      rw [pw_op]
      refine ⟨_, at_nat_lt hkl, ?_⟩
      rw [pw_op]
      refine ⟨_, rfl, ?_⟩
      rw [pw_split, pw_ret, pw_ret]
      simp only [beq_iff_eq, beq_eq_false_iff_ne, ne_eq, Sum.elim_inl, Sum.elim_inr]
      exact ⟨fun h => fin 6 (by rw [hsy, if_pos ⟨k, _, hk, List.getElem?_eq_getElem hkl, h⟩]) (by omega), fun h => ⟨trivial, fun _ => h⟩⟩
    · rw [pw_split]
      refine ⟨fun h => by simp at h, fun _ => ?_⟩
      rw [pw_ret]; trivial
    · have hns : ¬ seenS l i l.Symbols[i].Name := by
        rintro ⟨k, y, hk, h1, h2⟩
        have hkl : k < l.Symbols.length := by omega
        rw [List.getElem?_eq_getElem hkl] at h1
        cases h1
        exact hno k hk hkl h2
      rw [if_neg hns] at hsy
      rw [pw_op]
      refine ⟨_, rfl, ?_⟩
      refine pw_call _ (typedR_w _) fun c hc => ?_
      subst hc
      rw [pw_split, pw_ret, pw_ret]
      simp only [Bool.not_eq_true', Bool.not_eq_false', decide_eq_true_eq, decide_eq_false_iff_not, Sum.elim_inl, Sum.elim_inr]
      exact ⟨fun h => fin 3 (by rw [hsy, if_neg h]) (by omega), fun h => by rw [hsy, if_pos h]⟩
  · rw [pw_split]
    refine ⟨fun h => by simp at h, fun _ => ?_⟩
    rw [pw_ret]; trivial
  have h0 : scanN (symS l) l.Symbols.length = 0 := scanN_all hall
  rw [h0, if_neg (by simp), pw_split, pw_ret]
  simp only [decide_eq_true_eq, decide_eq_false_iff_not]
  refine ⟨fun h => by rw [if_pos (by omega)], fun h => ?_⟩
  rw [if_neg (by omega)]
  refine pw_scanL (n := l.Rules.length) (by omega) (fun i => rulS l i = 0) (fun i hi hprev => ?_) ?_ (fun hall => by rw [pw_ret, scanN_all hall])
  · have hg : l.Rules[i]? = some l.Rules[i] := List.getElem?_eq_getElem hi
    have hsy : rulS l i = if ruleS l l.Rules[i] ≠ 0 then ruleS l l.Rules[i] else if ∃ k, k < i ∧ l.Rules[k]? = some l.Rules[i] then 6 else 0 := by unfold rulS; rw [hg]
    have fin : ∀ r : Int, rulS l i = r → r ≠ 0 → r = scanN (rulS l) l.Rules.length := fun r h1 h2 => by
      have := scanN_exit hi hprev (by rw [h1]; exact h2)
      rw [this, h1]
    rw [pw_split]
    refine ⟨fun _ => ?_, fun h => by simp at h; omega⟩
    refine pw_cut (fun _ => rulS l i = 0) ?_ (fun _ h => pw_ret.2 ⟨rfl, h⟩)
    rw [pw_op]
    refine ⟨_, at_nat_lt hi, ?_⟩
    refine pw_call _ (ruleR_w l _ (hl _ (List.getElem_mem hi))) fun x hx => ?_
    subst hx
    rw [pw_split, pw_ret]
    simp only [bne_iff_ne, ne_eq, bne_eq_false_iff_eq, Sum.elim_inr]
    refine ⟨fun h => fin _ (by rw [hsy, if_pos h]) h, fun h => ?_⟩
    rw [if_neg (not_not_intro h)] at hsy
    refine pw_idx (n := i) (by omega) (fun k => ∀ h : k < l.Rules.length, l.Rules[k] ≠ l.Rules[i]) (fun k hk _ => ?_) (fun hno => ?_)
    · have hkl : k < l.Rules.length := by omega
      rw [pw_split]
      refine ⟨fun _ => ?_, fun h => by simp at h; omega⟩
      rw [pw_op]
      refine ⟨_, at_nat_lt hkl, ?_⟩
      rw [pw_op]
      refine ⟨_, rfl, ?_⟩
      refine pw_call _ (SameRule_w _ _ (hl _ (List.getElem_mem hkl)).1) fun c hc => ?_
      rw [pw_split, pw_ret, pw_ret]
      simp only [Sum.elim_inl, Sum.elim_inr]
      exact ⟨fun h => fin 6 (by rw [hsy, if_pos ⟨k, hk, by rw [List.getElem?_eq_getElem hkl, hc.1 h]⟩]) (by omega), fun h => ⟨trivial, fun _ e => by rw [hc.2 e] at h; cases h⟩⟩
    · rw [pw_split]
      refine ⟨fun h => by simp at h, fun _ => ?_⟩
      rw [pw_ret]
      show rulS l i = 0
      rw [hsy, if_neg]
      rintro ⟨k, hk, h1⟩
      have hkl : k < l.Rules.length := by omega
      rw [List.getElem?_eq_getElem hkl] at h1
      exact hno k hk hkl (by simpa using h1)
  · rw [pw_split]
    refine ⟨fun h => by simp at h, fun _ => ?_⟩
    rw [pw_ret]; trivial

end Go.Proofs.Ytikgppgpailmcaa
