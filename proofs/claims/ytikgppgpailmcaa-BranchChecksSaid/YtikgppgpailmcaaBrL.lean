/-
  The check of a language: the program's and the specification's are the same.
-/
import Derived.Test.YtikgppgpailmcaaBrO
namespace Go.Proofs.Ytikgppgpailmcaa
open Go.AL

def symIn (l : G.api_Language) (i : Int) : Prop := 0 ≤ i ∧ i < l.Symbols.length
def symTyp (l : G.api_Language) (i : Int) : Int := ((at_ l.Symbols i).map fun s => s.Typ).getD 0
theorem sym_at {l : G.api_Language} {i : Int} (h : symIn l i) : ∃ s, at_ l.Symbols i = some s ∧ symTyp l i = s.Typ := by
  obtain ⟨s, hs⟩ : ∃ s, at_ l.Symbols i = some s := ⟨_, at_lt h.1 h.2⟩
  exact ⟨s, hs, by unfold symTyp; rw [hs]; rfl⟩
def zeroV : G.api_Value := ⟨0, 0, [], []⟩
def zeroS (r : G.api_Rule) : Prop :=
  (r.Kind = 1 ∧ r.Const = zeroV ∧ r.Op = [] ∧ r.Args = []) ∨ (r.Kind = 2 ∧ r.Input = 0 ∧ r.Op = [] ∧ r.Args = []) ∨ (r.Kind ≠ 1 ∧ r.Kind ≠ 2 ∧ r.Input = 0 ∧ r.Const = zeroV)
open Classical in
/-- The arguments of an operator, one by one. -/
noncomputable def argS (l : G.api_Language) (p : Int × Int) : Int := if ¬ symIn l p.1 then 1 else if symTyp l p.1 = p.2 then 0 else 3
open Classical in
noncomputable def opRule (l : G.api_Language) (r : G.api_Rule) : Int :=
  match opS r.Op with
  | none => 5
  | some e => if r.Args.length ≠ e.2.1.length then 2 else if scanE (argS l) (r.Args.zip e.2.1) ≠ 0 then scanE (argS l) (r.Args.zip e.2.1) else if symTyp l r.Symbol = e.2.2 then 0 else 3
open Classical in
noncomputable def ruleS (l : G.api_Language) (r : G.api_Rule) : Int :=
  if ¬ symIn l r.Symbol then 1 else if (r.Kind < 1 ∨ r.Kind > 3) ∨ ¬ zeroS r then 4
  else if r.Kind = 1 then (if r.Input < 0 ∨ r.Input ≥ (l.Inputs.length : Int) then 1 else if at_ l.Inputs r.Input = some (symTyp l r.Symbol) then 0 else 3)
  else if r.Kind = 2 then (if vchkS r.Const ≠ 0 then vchkS r.Const else if r.Const.Typ = symTyp l r.Symbol then 0 else 3)
  else opRule l r

theorem symbol_w (l : G.api_Language) (i : Int) : Pw (p_grammar_symbol l i) fun r => r = true ↔ symIn l i := by
  unfold p_grammar_symbol symIn
  simp only [G.len_api_Symbol, pw_inner, pw_join, pw_split, pw_ret, Sum.elim_inl, decide_eq_true_eq, decide_eq_false_iff_not, Bool.false_eq_true, false_iff]
  exact ⟨fun h => ⟨fun h2 => ⟨h, h2⟩, fun h2 => h2.2⟩, fun h h2 => h h2.1⟩
theorem same_w (a b : Int) : Pw (p_grammar_same a b) fun r => r = if a = b then 0 else 3 := by
  unfold p_grammar_same
  simp only [pw_split, pw_ret, bne_iff_ne, ne_eq, bne_eq_false_iff_eq]
  exact ⟨fun h => by rw [if_neg h], fun h => by rw [if_pos h]⟩

theorem zip_exit {l : G.api_Language} {xa xb : List Int} {i : Nat} (ha : i < xa.length) (hb : i < xb.length) (hl : xa.length = xb.length) (hprev : ∀ j (h1 : j < xa.length) (h2 : j < xb.length), j < i → argS l (xa[j], xb[j]) = 0) (h0 : argS l (xa[i], xb[i]) ≠ 0) :
    scanE (argS l) (xa.zip xb) = argS l (xa[i], xb[i]) := by
  have hz : i < (xa.zip xb).length := by rw [List.length_zip]; omega
  have := scanE_exit (f := argS l) hz (fun j hj hji => by
    rw [List.length_zip] at hj
    rw [List.getElem_zip]; exact hprev j (by omega) (by omega) hji) (by rw [List.getElem_zip]; exact h0)
  rw [this, List.getElem_zip]
theorem zip_all {l : G.api_Language} {xa xb : List Int} (h : ∀ j (h1 : j < xa.length) (h2 : j < xb.length), argS l (xa[j], xb[j]) = 0) : scanE (argS l) (xa.zip xb) = 0 :=
  scanE_all fun j hj => by
    rw [List.length_zip] at hj
    rw [List.getElem_zip]; exact h j (by omega) (by omega)

theorem zero_sameRule (r : G.api_Rule) (hk : ¬ (r.Kind < 1 ∨ r.Kind > 3)) (st : Int × Int × Int × (List UInt8) × (List G.api_Value) × (List UInt8) × (List Int))
    (hst : st = if r.Kind = 1 then (0, r.Const.Typ, r.Const.Num, r.Const.Text, r.Const.Items, r.Op, r.Args) else if r.Kind = 2 then (r.Input, 0, 0, [], [], r.Op, r.Args) else (r.Input, r.Const.Typ, r.Const.Num, r.Const.Text, r.Const.Items, [], [])) :
    ((⟨r.Symbol, r.Kind, st.1, (⟨st.2.1, st.2.2.1, st.2.2.2.1, st.2.2.2.2.1⟩ : G.api_Value), st.2.2.2.2.2.1, st.2.2.2.2.2.2⟩ : G.api_Rule) = (⟨r.Symbol, r.Kind, 0, (⟨0, 0, [], []⟩ : G.api_Value), [], []⟩ : G.api_Rule)) ↔ zeroS r := by
  subst hst
  unfold zeroS zeroV
  obtain ⟨sy, ki, inp, ⟨ct, cn, cx, ci⟩, op, args⟩ := r
  simp only at hk ⊢
  by_cases h1 : ki = 1
  · subst h1
    simp only [if_true, G.api_Rule.mk.injEq, G.api_Value.mk.injEq, true_and, Int.reduceEq, false_and, ne_eq, not_true_eq_false, or_false]
  · by_cases h2 : ki = 2
    · subst h2
      simp only [if_true, if_false, G.api_Rule.mk.injEq, G.api_Value.mk.injEq, true_and, Int.reduceEq, false_and, ne_eq, not_true_eq_false, or_false, and_false, false_or]
    · have : ki = 3 := by omega
      subst this
      simp only [if_false, G.api_Rule.mk.injEq, G.api_Value.mk.injEq, true_and, and_true, Int.reduceEq, false_and, false_or, ne_eq, not_false_eq_true]

theorem rule_w (l : G.api_Language) (r : G.api_Rule) : Pw (p_grammar_rule l r) fun x => x = ruleS l r := by
  unfold p_grammar_rule f_grammar_symbol f_grammar_sameRule f_grammar_same f_value_Check f_operator_Find
  refine pw_call _ (symbol_w l r.Symbol) fun c hc => ?_
  rw [pw_split, pw_ret]
  simp only [Bool.not_eq_true', Bool.not_eq_false']
  refine ⟨fun h => by rw [ruleS, if_pos (fun hs => by rw [hc.2 hs] at h; cases h)], fun h => ?_⟩
  have hs := hc.1 h
  rw [ruleS, if_neg (not_not_intro hs)]
  obtain ⟨sy, hsy, hty⟩ := sym_at hs
  rw [pw_inner]
  refine pw_cut (fun c => c = decide (r.Kind < 1 ∨ r.Kind > 3)) ?_ ?_
  · simp only [pw_split, pw_ret, Sum.elim_inl, decide_eq_true_eq, decide_eq_false_iff_not]
    exact ⟨fun h => by simp [h], fun h => by simp [h]⟩
  rintro _ rfl
  rw [pw_split, pw_ret]
  simp only [decide_eq_true_eq, decide_eq_false_iff_not]
  refine ⟨fun h => by rw [if_pos (.inl h)], fun hk => ?_⟩
  rw [pw_inner]
  refine pw_cut (fun st => st = if r.Kind = 1 then (0, r.Const.Typ, r.Const.Num, r.Const.Text, r.Const.Items, r.Op, r.Args) else if r.Kind = 2 then (r.Input, 0, 0, [], [], r.Op, r.Args) else (r.Input, r.Const.Typ, r.Const.Num, r.Const.Text, r.Const.Items, [], [])) ?_ ?_
  · simp only [pw_split, pw_ret, Sum.elim_inl, beq_iff_eq, beq_eq_false_iff_ne, ne_eq]
    refine ⟨fun h => by rw [if_pos h], fun h1 => ⟨fun h => by rw [if_neg h1, if_pos h], fun h2 => ⟨fun h => by rw [if_neg h1, if_neg h2], fun h3 => by omega⟩⟩⟩
  intro st hst
  have hz := zero_sameRule r hk st hst
  refine pw_call _ (sameRule_w _ _) fun q hq => ?_
  rw [hz] at hq
  rw [pw_split, pw_ret]
  simp only [Bool.not_eq_true', Bool.not_eq_false']
  refine ⟨fun h => by rw [if_pos (.inr fun hs => by rw [hq.2 hs] at h; cases h)], fun h => ?_⟩
  rw [if_neg (fun h2 => h2.elim hk fun h3 => h3 (hq.1 h))]
  rw [pw_op]
  refine ⟨_, hsy, ?_⟩
  rw [pw_split, pw_split]
  simp only [beq_iff_eq, beq_eq_false_iff_ne, ne_eq]
  refine ⟨fun h1 => ?_, fun h1 => ⟨fun h2 => ?_, fun h2 => ?_⟩⟩
  · rw [if_pos h1]
    rw [pw_inner]
    simp only [G.len_int]
    refine pw_cut (fun c => c = decide (r.Input < 0 ∨ r.Input ≥ (l.Inputs.length : Int))) ?_ ?_
    · simp only [pw_split, pw_ret, Sum.elim_inl, decide_eq_true_eq, decide_eq_false_iff_not]
      exact ⟨fun h => by simp [h], fun h => by simp [h]⟩
    rintro _ rfl
    rw [pw_split, pw_ret]
    simp only [decide_eq_true_eq, decide_eq_false_iff_not]
    refine ⟨fun h => by rw [if_pos h], fun h => ?_⟩
    rw [if_neg h, pw_op]
    obtain ⟨u, hu⟩ : ∃ u, at_ l.Inputs r.Input = some u := ⟨_, at_lt (by omega) (by omega)⟩
    refine ⟨_, hu, ?_⟩
    refine pw_call _ (same_w _ _) fun x hx => pw_ret.2 ?_
    rw [hx, hu, hty]
    by_cases e : u = sy.Typ
    · rw [if_pos e, if_pos (by rw [e])]
    · rw [if_neg e, if_neg (by simpa using e)]
  · rw [if_neg h1, if_pos h2]
    refine pw_call _ (vcheck_w _) fun x hx => ?_
    subst hx
    rw [pw_split, pw_ret]
    simp only [bne_iff_ne, ne_eq, bne_eq_false_iff_eq]
    refine ⟨fun h => by rw [if_pos h], fun h => ?_⟩
    rw [if_neg (not_not_intro h)]
    refine pw_call _ (same_w _ _) fun x hx => pw_ret.2 ?_
    rw [hx, hty]
  · rw [if_neg h1, if_neg h2]
    refine pw_call _ (Find_w _) fun o ho => ?_
    unfold OpOk at ho
    rw [pw_split, pw_ret]
    simp only [Bool.not_eq_true', Bool.not_eq_false']
    cases hop : opS r.Op with
    | none =>
      rw [hop] at ho
      have ho : o.2 = false := ho
      refine ⟨fun _ => ?_, fun h => by rw [ho] at h; cases h⟩
      unfold opRule; rw [hop]
    | some e =>
      rw [hop] at ho
      obtain ⟨ho1, ho2, ho3⟩ : o.2 = true ∧ o.1.Args = e.2.1 ∧ o.1.Result = e.2.2 := ho
      refine ⟨fun h => (by rw [ho1] at h; cases h), fun _ => ?_⟩
      have hR : opRule l r = if r.Args.length ≠ e.2.1.length then 2 else if scanE (argS l) (r.Args.zip e.2.1) ≠ 0 then scanE (argS l) (r.Args.zip e.2.1) else if symTyp l r.Symbol = e.2.2 then 0 else 3 := by unfold opRule; rw [hop]
      rw [hR]
      rw [ho2, ho3]
      simp only [G.len_int]
      rw [pw_split, pw_ret]
      simp only [bne_iff_ne, ne_eq, bne_eq_false_iff_eq]
      refine ⟨fun h => by rw [if_pos (by omega)], fun h => ?_⟩
      have hl : r.Args.length = e.2.1.length := by omega
      rw [if_neg (not_not_intro hl)]
      refine pw_scan (fun i => ∀ (h1 : i < r.Args.length) (h2 : i < e.2.1.length), argS l (r.Args[i], e.2.1[i]) = 0) (fun i hi hprev => ?_) (fun hall => ?_)
      · have hib : i < e.2.1.length := by omega
        have hex := fun h0 => zip_exit (l := l) hi hib hl (fun j h1 h2 hji => hprev j hji h1 h2) h0
        rw [pw_op]
        refine ⟨_, List.getElem?_eq_getElem hi, ?_⟩
        refine pw_call _ (symbol_w l _) fun c hc => ?_
        rw [pw_split, pw_ret]
        simp only [Bool.not_eq_true', Bool.not_eq_false', Sum.elim_inr]
        refine ⟨fun h => ?_, fun h => ?_⟩
        · have ha : argS l (r.Args[i], e.2.1[i]) = 1 := by unfold argS; rw [if_pos (fun hs => by rw [hc.2 hs] at h; cases h)]
          rw [ha] at hex
          have := hex (by omega)
          rw [this]; rfl
        · have hs := hc.1 h
          obtain ⟨sa, hsa, hta⟩ := sym_at hs
          rw [pw_op]
          refine ⟨_, hsa, ?_⟩
          rw [pw_op]
          refine ⟨_, List.getElem?_eq_getElem hib, ?_⟩
          rw [pw_split, pw_ret, pw_ret]
          simp only [bne_iff_ne, ne_eq, bne_eq_false_iff_eq, Sum.elim_inl, Sum.elim_inr]
          have ha : argS l (r.Args[i], e.2.1[i]) = if sa.Typ = e.2.1[i] then 0 else 3 := by unfold argS; rw [if_neg (not_not_intro hs)]; simp only [hta]
          refine ⟨fun h => ?_, fun h _ _ => by rw [ha, if_pos h]⟩
          rw [ha, if_neg h] at hex
          have := hex (by omega)
          rw [this]; rfl
      · have h0 : scanE (argS l) (r.Args.zip e.2.1) = 0 := zip_all fun j h1 h2 => hall j h1 h1 h2
        rw [h0, if_neg (by simp)]
        refine pw_call _ (same_w _ _) fun x hx => pw_ret.2 ?_
        rw [hx, hty]
        by_cases e1 : e.2.2 = sy.Typ
        · rw [if_pos e1, if_pos e1.symm]
        · rw [if_neg e1, if_neg (fun h => e1 h.symm)]

/-- A rule that a machine can hold. -/
def Rok (r : G.api_Rule) : Prop := Vok r.Const ∧ r.Args.length ≤ 9223372036854775807

theorem zero_w (r : G.api_Rule) (hr : Rok r) : Pw (p_synthesisref11_zero r) fun x => x = true ↔ zeroS r := by
  unfold p_synthesisref11_zero f_synthesisref01_Equal
  refine pw_call _ (EqualR_w _ _ hr.1) fun c hc => ?_
  have hz : r.Const = (⟨0, 0, [], []⟩ : G.api_Value) ↔ r.Const = zeroV := Iff.rfl
  have hl : ((r.Args.length : Int) = 0) ↔ r.Args = [] := by rw [← List.length_eq_zero_iff]; omega
  rw [hz] at hc
  unfold zeroS
  simp only [G.len_int]
  rw [pw_split, pw_split]
  simp only [beq_iff_eq, beq_eq_false_iff_ne, ne_eq]
  refine ⟨fun h1 => ?_, fun h1 => ⟨fun h2 => ?_, fun h2 => ?_⟩⟩
  · rw [pw_join]
    simp only [pw_split, pw_ret, Sum.elim_inl, beq_iff_eq, beq_eq_false_iff_ne, ne_eq, Bool.false_eq_true, false_iff, hl]
    refine ⟨fun h => ⟨fun h2 => ⟨fun h3 => .inl ⟨h1, hc.1 h, h2, h3⟩, fun h3 => ?_⟩, fun h2 h3 => ?_⟩, fun h h3 => ?_⟩
    · rcases h3 with ⟨_, _, _, h3⟩ | ⟨h3, _⟩ | ⟨h3, _⟩
      · exact h3
      · omega
      · exact absurd h1 h3
    · rcases h3 with ⟨_, _, h3, _⟩ | ⟨h3, _⟩ | ⟨h3, _⟩
      · exact h2 h3
      · omega
      · exact absurd h1 h3
    · rcases h3 with ⟨_, h3, _⟩ | ⟨h3, _⟩ | ⟨h3, _⟩
      · rw [hc.2 h3] at h; cases h
      · omega
      · exact absurd h1 h3
  · rw [pw_join]
    simp only [pw_split, pw_ret, Sum.elim_inl, beq_iff_eq, beq_eq_false_iff_ne, ne_eq, Bool.false_eq_true, false_iff, hl]
    refine ⟨fun h => ⟨fun h3 => ⟨fun h4 => .inr (.inl ⟨h2, h, h3, h4⟩), fun h4 => ?_⟩, fun h3 h4 => ?_⟩, fun h h4 => ?_⟩
    · rcases h4 with ⟨h4, _⟩ | ⟨_, _, _, h4⟩ | ⟨_, h4, _⟩
      · omega
      · exact h4
      · exact absurd h2 h4
    · rcases h4 with ⟨h4, _⟩ | ⟨_, _, h4, _⟩ | ⟨_, h4, _⟩
      · omega
      · exact h3 h4
      · exact absurd h2 h4
    · rcases h4 with ⟨h4, _⟩ | ⟨_, h4, _⟩ | ⟨_, h4, _⟩
      · omega
      · exact h h4
      · exact absurd h2 h4
  · rw [pw_join]
    simp only [pw_split, pw_ret, Sum.elim_inl, beq_iff_eq, beq_eq_false_iff_ne, ne_eq, Bool.false_eq_true, false_iff]
    refine ⟨fun h => ⟨fun h3 => .inr (.inr ⟨h1, h2, h, hc.1 h3⟩), fun h3 => ?_⟩, fun h h3 => ?_⟩
    · rcases h3 with ⟨h3, _⟩ | ⟨h3, _⟩ | ⟨_, _, _, h3⟩
      · exact absurd h3 h1
      · exact absurd h3 h2
      · exact hc.2 h3
    · rcases h3 with ⟨h3, _⟩ | ⟨h3, _⟩ | ⟨_, _, h3, _⟩
      · exact absurd h3 h1
      · exact absurd h3 h2
      · exact h h3

theorem operation_w (l : G.api_Language) (r : G.api_Rule) (hr : Rok r) (hs : symIn l r.Symbol) : Pw (p_synthesisref11_operation l r) fun x => x = opRule l r := by
  unfold p_synthesisref11_operation f_synthesisref09_Find
  obtain ⟨sy, hsy, hty⟩ := sym_at hs
  refine pw_call _ (FindR_w _) fun o ho => ?_
  unfold OpOk at ho
  rw [pw_split, pw_ret]
  simp only [Bool.not_eq_true', Bool.not_eq_false']
  cases hop : opS r.Op with
  | none =>
    rw [hop] at ho
    have ho : o.2 = false := ho
    refine ⟨fun _ => ?_, fun h => by rw [ho] at h; cases h⟩
    unfold opRule; rw [hop]
  | some e =>
    rw [hop] at ho
    obtain ⟨ho1, ho2, ho3⟩ : o.2 = true ∧ o.1.Args = e.2.1 ∧ o.1.Result = e.2.2 := ho
    refine ⟨fun h => (by rw [ho1] at h; cases h), fun _ => ?_⟩
    have hR : opRule l r = if r.Args.length ≠ e.2.1.length then 2 else if scanE (argS l) (r.Args.zip e.2.1) ≠ 0 then scanE (argS l) (r.Args.zip e.2.1) else if symTyp l r.Symbol = e.2.2 then 0 else 3 := by unfold opRule; rw [hop]
    rw [hR, ho2, ho3]
    simp only [G.len_int, G.len_api_Symbol]
    rw [pw_split, pw_ret]
    simp only [bne_iff_ne, ne_eq, bne_eq_false_iff_eq]
    refine ⟨fun h => by rw [if_pos (by omega)], fun h => ?_⟩
    have hl : r.Args.length = e.2.1.length := by omega
    rw [if_neg (not_not_intro hl)]
    refine pw_scanL (n := r.Args.length) hr.2 (fun i => ∀ (h1 : i < r.Args.length) (h2 : i < e.2.1.length), argS l (r.Args[i], e.2.1[i]) = 0) (fun i hi hprev => ?_) ?_ (fun hall => ?_)
    · have hib : i < e.2.1.length := by omega
      have hex := fun h0 => zip_exit (l := l) hi hib hl (fun j h1 h2 hji => hprev j hji h1 h2) h0
      rw [pw_split]
      refine ⟨fun _ => ?_, fun h => by simp at h; omega⟩
      rw [pw_inner, pw_inner]
      refine pw_cut (fun c => c = decide (r.Args[i] < 0 ∨ r.Args[i] ≥ (l.Symbols.length : Int))) ?_ ?_
      · simp only [pw_op, at_nat_lt hi, Option.some.injEq, exists_eq_left', pw_split, pw_ret, Sum.elim_inl, decide_eq_true_eq, decide_eq_false_iff_not]
        exact ⟨fun h => by simp [h], fun h => by simp [h]⟩
      rintro _ rfl
      rw [pw_split, pw_ret]
      simp only [decide_eq_true_eq, decide_eq_false_iff_not, Sum.elim_inr]
      refine ⟨fun h => ?_, fun h => ?_⟩
      · have ha : argS l (r.Args[i], e.2.1[i]) = 1 := by unfold argS symIn; rw [if_pos (by show ¬ (0 ≤ r.Args[i] ∧ r.Args[i] < (l.Symbols.length : Int)); omega)]
        rw [ha] at hex
        have := hex (by omega)
        rw [this]; rfl
      · have hsi : symIn l r.Args[i] := by unfold symIn; omega
        obtain ⟨sa, hsa, hta⟩ := sym_at hsi
        rw [pw_op]
        refine ⟨_, at_nat_lt hi, ?_⟩
        rw [pw_op]
        refine ⟨_, hsa, ?_⟩
        rw [pw_op]
        refine ⟨_, at_nat_lt hib, ?_⟩
        rw [pw_split, pw_ret, pw_ret]
        simp only [bne_iff_ne, ne_eq, bne_eq_false_iff_eq, Sum.elim_inl, Sum.elim_inr]
        have ha : argS l (r.Args[i], e.2.1[i]) = if sa.Typ = e.2.1[i] then 0 else 3 := by unfold argS; rw [if_neg (not_not_intro hsi)]; simp only [hta]
        refine ⟨fun h => ?_, fun h => ⟨trivial, fun _ _ => by rw [ha, if_pos h]⟩⟩
        rw [ha, if_neg h] at hex
        have := hex (by omega)
        rw [this]; rfl
    · rw [pw_split]
      refine ⟨fun h => by simp at h, fun _ => ?_⟩
      rw [pw_ret]; trivial
    · have h0 : scanE (argS l) (r.Args.zip e.2.1) = 0 := zip_all fun j h1 h2 => hall j h1 h1 h2
      rw [h0, if_neg (by simp), pw_op]
      refine ⟨_, hsy, ?_⟩
      simp only [pw_split, pw_ret, bne_iff_ne, ne_eq, bne_eq_false_iff_eq, hty]
      exact ⟨fun h => by rw [if_neg h], fun h => by rw [if_pos h]⟩

theorem ruleR_w (l : G.api_Language) (r : G.api_Rule) (hr : Rok r) : Pw (p_synthesisref11_rule l r) fun x => x = ruleS l r := by
  unfold p_synthesisref11_rule f_synthesisref11_zero f_synthesisref01_Check f_synthesisref11_operation
  simp only [G.len_int, G.len_api_Symbol]
  rw [pw_inner, pw_inner]
  refine pw_cut (fun c => c = true ↔ ¬ symIn l r.Symbol) ?_ ?_
  · unfold symIn
    simp only [pw_split, pw_ret, Sum.elim_inl, decide_eq_true_eq, decide_eq_false_iff_not, true_iff]
    exact ⟨fun h => by omega, fun h => by omega⟩
  intro c hc
  rw [pw_split, pw_ret]
  refine ⟨fun h => by rw [ruleS, if_pos (hc.1 h)], fun h => ?_⟩
  have hs : symIn l r.Symbol := Classical.byContradiction fun hn => by rw [hc.2 hn] at h; cases h
  rw [ruleS, if_neg (not_not_intro hs)]
  obtain ⟨sy, hsy, hty⟩ := sym_at hs
  rw [pw_inner]
  refine pw_cut (fun c => c = true ↔ ((r.Kind < 1 ∨ r.Kind > 3) ∨ ¬ zeroS r)) ?_ ?_
  · rw [pw_split, pw_split, pw_ret]
    simp only [Sum.elim_inl, decide_eq_true_eq, decide_eq_false_iff_not, true_iff]
    refine ⟨fun h => .inl (.inl h), fun h1 => ⟨fun h => .inl (.inr h), fun h2 => ?_⟩⟩
    refine pw_call _ (zero_w r hr) fun q hq => ?_
    rw [pw_ret]
    simp only [Sum.elim_inl, Bool.not_eq_true']
    constructor
    · intro h; right; intro hz; rw [hq.2 hz] at h; cases h
    · intro h
      rcases h with h | h
      · omega
      · cases q with
        | false => rfl
        | true => exact absurd (hq.1 rfl) h
  intro c hc
  rw [pw_split, pw_ret]
  refine ⟨fun h => by rw [if_pos (hc.1 h)], fun h => ?_⟩
  rw [if_neg (fun hn => by rw [hc.2 hn] at h; cases h), pw_op]
  refine ⟨_, hsy, ?_⟩
  rw [pw_split, pw_split]
  simp only [beq_iff_eq, beq_eq_false_iff_ne, ne_eq]
  refine ⟨fun h1 => ?_, fun h1 => ⟨fun h2 => ?_, fun h2 => ?_⟩⟩
  · rw [if_pos h1, pw_inner]
    refine pw_cut (fun c => c = decide (r.Input < 0 ∨ r.Input ≥ (l.Inputs.length : Int))) ?_ ?_
    · simp only [pw_split, pw_ret, Sum.elim_inl, decide_eq_true_eq, decide_eq_false_iff_not]
      exact ⟨fun h => by simp [h], fun h => by simp [h]⟩
    rintro _ rfl
    rw [pw_split, pw_ret]
    simp only [decide_eq_true_eq, decide_eq_false_iff_not]
    refine ⟨fun h => by rw [if_pos h], fun h => ?_⟩
    rw [if_neg h, pw_op]
    obtain ⟨u, hu⟩ : ∃ u, at_ l.Inputs r.Input = some u := ⟨_, at_lt (by omega) (by omega)⟩
    refine ⟨_, hu, ?_⟩
    simp only [pw_split, pw_ret, bne_iff_ne, ne_eq, bne_eq_false_iff_eq]
    rw [hu, hty]
    exact ⟨fun e => by rw [if_neg (by simpa using e)], fun e => by rw [if_pos (by rw [e])]⟩
  · rw [if_neg h1, if_pos h2]
    refine pw_call _ (vcheckR_w _) fun x hx => ?_
    subst hx
    rw [pw_split, pw_ret]
    simp only [bne_iff_ne, ne_eq, bne_eq_false_iff_eq]
    refine ⟨fun h => by rw [if_pos h], fun h => ?_⟩
    rw [if_neg (not_not_intro h)]
    simp only [pw_split, pw_ret, bne_iff_ne, ne_eq, bne_eq_false_iff_eq, hty]
    exact ⟨fun e => by rw [if_neg e], fun e => by rw [if_pos e]⟩
  · rw [if_neg h1, if_neg h2]
    exact pw_call _ (operation_w l r hr hs) fun x hx => pw_ret.2 hx

end Go.Proofs.Ytikgppgpailmcaa
