/-
  Terms: their numbers of rules, their levels, and whether they are derivations.
-/
import Derived.Test.YtikgppgpailmcaaBrL2
namespace Go.Proofs.Ytikgppgpailmcaa
open Go.AL

/- How many rules a term has. -/
mutual
def nod : G.api_Term → Nat
  | ⟨_, l⟩ => 1 + nodL l
def nodL : List G.api_Term → Nat
  | [] => 0
  | t :: r => nod t + nodL r
end
theorem nod_eq (t : G.api_Term) : nod t = 1 + nodL t.Args := by cases t; rw [nod]
theorem nod_pos (t : G.api_Term) : 1 ≤ nod t := by rw [nod_eq]; omega
theorem nodL_take : ∀ (l : List G.api_Term) (i : Nat) (h : i < l.length), nodL (l.take (i + 1)) = nodL (l.take i) + nod l[i]
  | [], i, h => by simp at h
  | x :: r, 0, _ => by simp [nodL]
  | x :: r, i + 1, h => by
    have := nodL_take r i (by simpa using h)
    simp only [List.take_succ_cons, nodL, List.getElem_cons_succ]
    omega
theorem nodL_take_le : ∀ (l : List G.api_Term) (i : Nat), nodL (l.take i) ≤ nodL l
  | [], i => by simp
  | x :: r, 0 => by simp [nodL]
  | x :: r, i + 1 => by
    have := nodL_take_le r i
    simp only [List.take_succ_cons, nodL]
    omega
theorem nodL_len : ∀ (l : List G.api_Term), l.length ≤ nodL l
  | [] => by simp [nodL]
  | x :: r => by
    have := nodL_len r
    have := nod_pos x
    simp only [nodL, List.length_cons]; omega
theorem nod_item {t : G.api_Term} {i : Nat} (h : i < t.Args.length) : nod t.Args[i] + 1 ≤ nod t := by
  have h1 := nodL_take t.Args i h
  have h2 := nodL_take_le t.Args (i + 1)
  rw [nod_eq t]; omega

/-- What is left of a number of rules. -/
def LeftOk (b : Nat) (k : Nat) (r : Int) : Prop := if k ≤ b then r = (b : Int) - k else r < 0

theorem left_w : ∀ (n : Nat) (t : G.api_Term) (b : Nat), b < n → b ≤ 100000 → Pw (p_synthesisref13_left n t (b : Int)) fun r => LeftOk b (nod t) r
  | 0, t, b, h, _ => by omega
  | n + 1, t, b, h, hb => by
    unfold p_synthesisref13_left
    simp only [G.len_api_Term]
    rw [pw_inner, pw_inner]
    refine pw_cut (fun r => LeftOk b (nod t) r) ?_ (fun r hr => pw_ret.2 hr)
    have hw0 : IntKind.wrap .i64 ((b : Int) - 1) = (b : Int) - 1 := w64 (by omega) (by omega)
    rw [hw0]
    refine pw_loop (fun st => ∃ i : Nat, st.2 = (i : Int) ∧ i ≤ t.Args.length ∧ LeftOk b (1 + nodL (t.Args.take i)) st.1) (fun st => b + 2 - st.2.toNat) ⟨0, rfl, by omega, ?_⟩ (by omega) ?_
    · simp only [List.take_zero, nodL, LeftOk]
      split <;> omega
    rintro ⟨m, x⟩ ⟨i, rfl, hi, hm⟩
    simp only at hm ⊢
    rw [pw_inner]
    refine pw_cut (fun c => c = decide (i < t.Args.length ∧ m ≥ 0)) ?_ ?_
    · simp only [pw_split, pw_ret, Sum.elim_inl, decide_eq_true_eq, decide_eq_false_iff_not]
      refine ⟨fun h => ?_, fun h => ?_⟩
      · rw [decide_eq_decide]; omega
      · symm; rw [decide_eq_false_iff_not]; omega
    rintro _ rfl
    rw [pw_split]
    simp only [decide_eq_true_eq, decide_eq_false_iff_not]
    refine ⟨fun ⟨hlt, hm0⟩ => ?_, fun hno => ?_⟩
    · have hle : 1 + nodL (t.Args.take i) ≤ b := by
        unfold LeftOk at hm
        split at hm
        · assumption
        · omega
      unfold LeftOk at hm
      rw [if_pos hle] at hm
      have hlen : i ≤ nodL (t.Args.take i) := by
        have := nodL_len (t.Args.take i)
        rw [List.length_take] at this; omega
      rw [pw_op]
      refine ⟨_, at_nat_lt hlt, ?_⟩
      have hmn : m = ((b - (1 + nodL (t.Args.take i)) : Nat) : Int) := by omega
      rw [hmn]
      refine pw_call _ (left_w n t.Args[i] (b - (1 + nodL (t.Args.take i))) (by omega) (by omega)) fun r hr => ?_
      rw [pw_ret]
      have hw : IntKind.wrap .i64 ((i : Int) + 1) = ((i + 1 : Nat) : Int) := by rw [w64 (by omega) (by omega)]; omega
      refine ⟨⟨i + 1, hw, by omega, ?_⟩, ?_⟩
      · show LeftOk b (1 + nodL (t.Args.take (i + 1))) r
        rw [nodL_take _ _ hlt]
        unfold LeftOk at hr ⊢
        split at hr
        · rw [if_pos (by omega)]; omega
        · rw [if_neg (by omega)]; exact hr
      · show b + 2 - (IntKind.wrap .i64 ((i : Int) + 1)).toNat < b + 2 - (i : Int).toNat
        rw [hw]; omega
    · rw [pw_ret]
      show LeftOk b (nod t) m
      rw [nod_eq]
      by_cases hlt : i < t.Args.length
      · have hneg : m < 0 := by omega
        unfold LeftOk at hm ⊢
        have h1 : ¬ (1 + nodL (t.Args.take i) ≤ b) := by
          intro h2; rw [if_pos h2] at hm; omega
        have := nodL_take_le t.Args i
        rw [if_neg (by omega)]; exact hneg
      · have : i = t.Args.length := by omega
        subst this
        rw [List.take_length] at hm; exact hm

theorem tw_w : ∀ (n : Nat) (t : G.api_Term) (b : Nat), b < n → b ≤ 100000 → Pw (p_term_within n t (b : Int)) fun r => LeftOk b (nod t) r
  | 0, t, b, h, _ => by omega
  | n + 1, t, b, h, hb => by
    unfold p_term_within
    simp only [G.len_api_Term]
    rw [pw_inner, pw_inner]
    refine pw_cut (fun r => LeftOk b (nod t) r) ?_ (fun r hr => pw_ret.2 hr)
    have hw0 : IntKind.wrap .i64 ((b : Int) - 1) = (b : Int) - 1 := w64 (by omega) (by omega)
    rw [hw0]
    refine pw_rng (fun i m => LeftOk b (1 + nodL (t.Args.take i)) m) ?_ ?_ ?_
    · simp only [List.take_zero, nodL, LeftOk]
      split <;> omega
    · intro i m hi hm
      rw [pw_op]
      refine ⟨_, List.getElem?_eq_getElem hi, ?_⟩
      rw [pw_split, pw_ret]
      simp only [decide_eq_true_eq, decide_eq_false_iff_not]
      refine ⟨fun hneg => ?_, fun hm0 => ?_⟩
      · show LeftOk b (nod t) m
        unfold LeftOk at hm ⊢
        have h1 : ¬ (1 + nodL (t.Args.take i) ≤ b) := by
          intro h2; rw [if_pos h2] at hm; omega
        have := nodL_take_le t.Args i
        rw [nod_eq, if_neg (by omega)]; exact hneg
      · have hle : 1 + nodL (t.Args.take i) ≤ b := by
          unfold LeftOk at hm
          split at hm
          · assumption
          · omega
        unfold LeftOk at hm
        rw [if_pos hle] at hm
        have hmn : m = ((b - (1 + nodL (t.Args.take i)) : Nat) : Int) := by omega
        rw [hmn]
        refine pw_call _ (tw_w n t.Args[i] (b - (1 + nodL (t.Args.take i))) (by omega) (by omega)) fun r hr => ?_
        rw [pw_ret]
        show LeftOk b (1 + nodL (t.Args.take (i + 1))) r
        rw [nodL_take _ _ hi]
        unfold LeftOk at hr ⊢
        split at hr
        · rw [if_pos (by omega)]; omega
        · rw [if_neg (by omega)]; exact hr
    · intro m hm
      rw [List.take_length] at hm
      show LeftOk b (nod t) m
      rw [nod_eq]; exact hm

theorem big_gt : 100000 < big := by unfold big; decide
theorem Within_w (t : G.api_Term) (b : Nat) (hb : b ≤ 90000) : Pw (p_synthesisref13_Within t (b : Int)) fun r => r = true ↔ nod t ≤ b := by
  unfold p_synthesisref13_Within f_synthesisref13_left
  refine pw_call _ (left_w _ t b (by have := big_gt; omega) (by omega)) fun r hr => ?_
  rw [pw_ret, decide_eq_true_eq]
  unfold LeftOk at hr
  split at hr <;> constructor <;> intro h <;> omega

theorem shallow_w : ∀ (n : Nat) (t : G.api_Term) (lev : Nat), nod t ≤ lev → lev ≤ 1000 → nod t < n → Pw (p_term_shallow n t (lev : Int)) fun r => r = true
  | 0, t, lev, _, _, h => by omega
  | n + 1, t, lev, h1, h2, h3 => by
    have hp := nod_pos t
    unfold p_term_shallow
    simp only [G.len_api_Term]
    rw [pw_split]
    simp only [beq_iff_eq, beq_eq_false_iff_ne, ne_eq]
    refine ⟨fun h => by omega, fun _ => ?_⟩
    have hw0 : IntKind.wrap .i64 ((lev : Int) - 1) = ((lev - 1 : Nat) : Int) := by rw [w64 (by omega) (by omega)]; omega
    rw [hw0]
    refine pw_scan (fun _ => True) (fun i hi _ => ?_) (fun _ => pw_ret.2 rfl)
    rw [pw_op]
    refine ⟨_, List.getElem?_eq_getElem hi, ?_⟩
    have := nod_item hi
    refine pw_call _ (shallow_w n t.Args[i] (lev - 1) (by omega) (by omega) (by omega)) fun r hr => ?_
    subst hr
    simp only [pw_split, pw_ret, Sum.elim_inl, Bool.not_true, Bool.false_eq_true, false_imp_iff, true_and, implies_true]

theorem depth_w : ∀ (n : Nat) (t : G.api_Term), nod t < n → nod t ≤ 1000 → Pw (p_synthesisref13_Depth n t) fun r => 0 ≤ r ∧ r ≤ nod t
  | 0, t, h, _ => by omega
  | n + 1, t, h, hb => by
    unfold p_synthesisref13_Depth
    simp only [G.len_api_Term]
    rw [pw_inner, pw_inner]
    have hlen : t.Args.length + 1 ≤ nod t := by have := nodL_len t.Args; rw [nod_eq]; omega
    refine pw_cut (fun r => 0 ≤ r ∧ r + 1 ≤ nod t) ?_ (fun r hr => ?_)
    · refine pw_loop (fun st => ∃ i : Nat, st.2 = (i : Int) ∧ i ≤ t.Args.length ∧ 0 ≤ st.1 ∧ st.1 + 1 ≤ nod t) (fun st => t.Args.length - st.2.toNat) ⟨0, rfl, by omega, by simp, by have := nod_pos t; show (0 : Int) + 1 ≤ _; omega⟩ (by omega) ?_
      rintro ⟨m, x⟩ ⟨i, rfl, hi, h0, h1⟩
      simp only at h0 h1 ⊢
      rw [pw_split]
      simp only [decide_eq_true_eq, decide_eq_false_iff_not]
      refine ⟨fun hlt => ?_, fun _ => ?_⟩
      · have hlt' : i < t.Args.length := by omega
        rw [pw_op]
        refine ⟨_, at_nat_lt hlt', ?_⟩
        have hn := nod_item hlt'
        refine pw_call _ (depth_w n t.Args[i] (by omega) (by omega)) fun r hr => ?_
        rw [pw_ret]
        have hw : IntKind.wrap .i64 ((i : Int) + 1) = ((i + 1 : Nat) : Int) := by rw [w64 (by omega) (by omega)]; omega
        refine ⟨⟨i + 1, hw, by omega, ?_, ?_⟩, ?_⟩
        · show 0 ≤ (if r > m then r else m)
          split <;> omega
        · show (if r > m then r else m) + 1 ≤ nod t
          split <;> omega
        · show t.Args.length - (IntKind.wrap .i64 ((i : Int) + 1)).toNat < t.Args.length - (i : Int).toNat
          rw [hw]; omega
      · rw [pw_ret]; exact ⟨h0, h1⟩
    · rw [pw_ret, w64 (by omega) (by omega)]; omega

theorem size_w : ∀ (n : Nat) (t : G.api_Term), nod t < n → nod t ≤ 1000 → Pw (p_term_Size n t) fun r => r = nod t
  | 0, t, h, _ => by omega
  | n + 1, t, h, hb => by
    unfold p_term_Size
    simp only [G.len_api_Term]
    rw [pw_inner, pw_inner]
    refine pw_cut (fun r => r = nod t) ?_ (fun r hr => pw_ret.2 hr)
    refine pw_rng (fun i m => m = ((1 + nodL (t.Args.take i) : Nat) : Int)) (by simp [nodL]) ?_ ?_
    · rintro i _ hi rfl
      rw [pw_op]
      refine ⟨_, List.getElem?_eq_getElem hi, ?_⟩
      have hn := nod_item hi
      refine pw_call _ (size_w n t.Args[i] (by omega) (by omega)) fun r hr => ?_
      rw [pw_ret]
      show _ = _
      have h1 := nodL_take t.Args i hi
      have h2 := nodL_take_le t.Args (i + 1)
      have h3 := nod_eq t
      rw [hr, w64 (by omega) (by omega), h1]; omega
    · rintro _ rfl
      show ((1 + nodL (t.Args.take t.Args.length) : Nat) : Int) = _
      rw [List.take_length, nod_eq]
theorem sizeR_w : ∀ (n : Nat) (t : G.api_Term), nod t < n → nod t ≤ 1000 → Pw (p_synthesisref13_Size n t) fun r => r = nod t
  | 0, t, h, _ => by omega
  | n + 1, t, h, hb => by
    unfold p_synthesisref13_Size
    simp only [G.len_api_Term]
    rw [pw_inner, pw_inner]
    have hlen : t.Args.length + 1 ≤ nod t := by have := nodL_len t.Args; rw [nod_eq]; omega
    refine pw_cut (fun r => r = nod t) ?_ (fun r hr => pw_ret.2 hr)
    refine pw_loop (fun st => ∃ i : Nat, st = (((1 + nodL (t.Args.take i) : Nat) : Int), (i : Int)) ∧ i ≤ t.Args.length) (fun st => t.Args.length - st.2.toNat) ⟨0, by simp [nodL], by omega⟩ (by omega) ?_
    rintro _ ⟨i, rfl, hi⟩
    simp only
    rw [pw_split]
    simp only [decide_eq_true_eq, decide_eq_false_iff_not]
    refine ⟨fun hlt => ?_, fun hge => ?_⟩
    · have hlt' : i < t.Args.length := by omega
      rw [pw_op]
      refine ⟨_, at_nat_lt hlt', ?_⟩
      have hn := nod_item hlt'
      refine pw_call _ (sizeR_w n t.Args[i] (by omega) (by omega)) fun r hr => ?_
      rw [pw_ret]
      have hw : IntKind.wrap .i64 ((i : Int) + 1) = ((i + 1 : Nat) : Int) := by rw [w64 (by omega) (by omega)]; omega
      have h1 := nodL_take t.Args i hlt'
      have h2 := nodL_take_le t.Args (i + 1)
      have h3 := nod_eq t
      refine ⟨⟨i + 1, ?_, by omega⟩, ?_⟩
      · show (IntKind.wrap .i64 (((1 + nodL (t.Args.take i) : Nat) : Int) + r), IntKind.wrap .i64 ((i : Int) + 1)) = _
        rw [hw, hr, w64 (by omega) (by omega), h1]
        congr 1
        omega
      · show t.Args.length - (IntKind.wrap .i64 ((i : Int) + 1)).toNat < t.Args.length - (i : Int).toNat
        rw [hw]; omega
    · have : i = t.Args.length := by omega
      subst this
      rw [pw_ret]
      show ((1 + nodL (t.Args.take t.Args.length) : Nat) : Int) = _
      rw [List.take_length, nod_eq]

/-- Whether a term is a derivation: the first error. -/
noncomputable def dS : Nat → G.api_Language → Int → G.api_Term → Int
  | 0, _, _, _ => 0
  | k + 1, l, s, t =>
    match at_ l.Rules t.Rule with
    | none => 1
    | some r => if r.Symbol ≠ s then 3 else if t.Args.length ≠ r.Args.length then 4 else scanE (fun p : Int × G.api_Term => dS k l p.1 p.2) (r.Args.zip t.Args)

theorem zipG_exit {α β : Type} {f : α × β → Int} {xa : List α} {xb : List β} {i : Nat} (ha : i < xa.length) (hb : i < xb.length) (hl : xa.length = xb.length) (hprev : ∀ j (h1 : j < xa.length) (h2 : j < xb.length), j < i → f (xa[j], xb[j]) = 0) (h0 : f (xa[i], xb[i]) ≠ 0) :
    scanE f (xa.zip xb) = f (xa[i], xb[i]) := by
  have hz : i < (xa.zip xb).length := by rw [List.length_zip]; omega
  have := scanE_exit (f := f) hz (fun j hj hji => by
    rw [List.length_zip] at hj
    rw [List.getElem_zip]; exact hprev j (by omega) (by omega) hji) (by rw [List.getElem_zip]; exact h0)
  rw [this, List.getElem_zip]
theorem zipG_all {α β : Type} {f : α × β → Int} {xa : List α} {xb : List β} (h : ∀ j (h1 : j < xa.length) (h2 : j < xb.length), f (xa[j], xb[j]) = 0) : scanE f (xa.zip xb) = 0 :=
  scanE_all fun j hj => by
    rw [List.length_zip] at hj
    rw [List.getElem_zip]; exact h j (by omega) (by omega)
theorem at_none {α : Type} {xs : List α} {i : Int} (h : i < 0 ∨ i ≥ xs.length) : at_ xs i = none := by
  unfold at_
  split
  · rfl
  · rw [List.getElem?_eq_none (by omega)]

theorem derived_w : ∀ (n k : Nat) (l : G.api_Language) (s : Int) (t : G.api_Term), nod t < n → nod t < k → Pw (p_term_derived n l s t) fun r => r = dS k l s t
  | 0, k, l, s, t, h, _ => by omega
  | n + 1, 0, l, s, t, _, h => by omega
  | n + 1, k + 1, l, s, t, h, hk => by
    unfold p_term_derived
    simp only [G.len_api_Term, G.len_api_Rule, G.len_int]
    rw [pw_inner, pw_inner]
    refine pw_cut (fun c => c = decide (t.Rule < 0 ∨ t.Rule ≥ (l.Rules.length : Int))) ?_ ?_
    · simp only [pw_split, pw_ret, Sum.elim_inl, decide_eq_true_eq, decide_eq_false_iff_not]
      exact ⟨fun h => by simp [h], fun h => by simp [h]⟩
    rintro _ rfl
    rw [pw_split, pw_ret]
    simp only [decide_eq_true_eq, decide_eq_false_iff_not]
    refine ⟨fun h => by rw [dS, at_none h], fun hr => ?_⟩
    obtain ⟨r, har⟩ : ∃ r, at_ l.Rules t.Rule = some r := ⟨_, at_lt (by omega) (by omega)⟩
    have hd : dS (k + 1) l s t = if r.Symbol ≠ s then 3 else if t.Args.length ≠ r.Args.length then 4 else scanE (fun p : Int × G.api_Term => dS k l p.1 p.2) (r.Args.zip t.Args) := by rw [dS, har]
    rw [hd, pw_op]
    refine ⟨_, har, ?_⟩
    rw [pw_split, pw_split, pw_ret, pw_ret]
    simp only [bne_iff_ne, ne_eq, bne_eq_false_iff_eq]
    refine ⟨fun h => by rw [if_pos h], fun hs => ⟨fun h => by rw [if_neg (not_not_intro hs), if_pos (by omega)], fun hl => ?_⟩⟩
    have hl : r.Args.length = t.Args.length := by omega
    rw [if_neg (not_not_intro hs), if_neg (by omega)]
    refine pw_scan (fun i => ∀ (h1 : i < r.Args.length) (h2 : i < t.Args.length), dS k l r.Args[i] t.Args[i] = 0) (fun i hi hprev => ?_) (fun hall => ?_)
    · have hib : i < r.Args.length := by omega
      have hex := fun h0 => zipG_exit (f := fun p : Int × G.api_Term => dS k l p.1 p.2) hib hi hl (fun j h1 h2 hji => hprev j hji h1 h2) h0
      rw [pw_op]
      refine ⟨_, List.getElem?_eq_getElem hi, ?_⟩
      rw [pw_op]
      refine ⟨_, List.getElem?_eq_getElem hib, ?_⟩
      have hn := nod_item hi
      refine pw_call _ (derived_w n k l r.Args[i] t.Args[i] (by omega) (by omega)) fun x hx => ?_
      subst hx
      simp only [pw_split, pw_ret, bne_iff_ne, ne_eq, bne_eq_false_iff_eq, Sum.elim_inl, Sum.elim_inr]
      exact ⟨fun h0 => (hex h0).symm, fun h0 _ _ => h0⟩
    · rw [pw_ret, zipG_all fun j h1 h2 => hall j h2 h1 h2]

/-- Only operators have arguments. -/
def Lval (l : G.api_Language) : Prop := ∀ r ∈ l.Rules, r.Kind ≠ 3 → r.Args = []
theorem fits_w : ∀ (n k : Nat) (l : G.api_Language) (s : Int) (t : G.api_Term), Lval l → nod t ≤ 1000 → nod t < n → nod t < k → Pw (p_synthesisref13_fits n l s t) fun r => r = dS k l s t
  | 0, k, l, s, t, _, _, h, _ => by omega
  | n + 1, 0, l, s, t, _, _, _, h => by omega
  | n + 1, k + 1, l, s, t, hv, hb, h, hk => by
    unfold p_synthesisref13_fits f_synthesisref13_Arity
    simp only [G.len_api_Term, G.len_api_Rule]
    rw [pw_inner, pw_inner]
    refine pw_cut (fun c => c = decide (t.Rule < 0 ∨ t.Rule ≥ (l.Rules.length : Int))) ?_ ?_
    · simp only [pw_split, pw_ret, Sum.elim_inl, decide_eq_true_eq, decide_eq_false_iff_not]
      exact ⟨fun h => by simp [h], fun h => by simp [h]⟩
    rintro _ rfl
    rw [pw_split, pw_ret]
    simp only [decide_eq_true_eq, decide_eq_false_iff_not]
    refine ⟨fun h => by rw [dS, at_none h], fun hr => ?_⟩
    obtain ⟨r, har, hmem⟩ : ∃ r, at_ l.Rules t.Rule = some r ∧ r ∈ l.Rules := ⟨_, at_lt (by omega) (by omega), List.getElem_mem _⟩
    have hd : dS (k + 1) l s t = if r.Symbol ≠ s then 3 else if t.Args.length ≠ r.Args.length then 4 else scanE (fun p : Int × G.api_Term => dS k l p.1 p.2) (r.Args.zip t.Args) := by rw [dS, har]
    rw [hd, pw_op]
    refine ⟨_, har, ?_⟩
    rw [pw_split, pw_ret]
    simp only [bne_iff_ne, ne_eq, bne_eq_false_iff_eq]
    refine ⟨fun h => by rw [if_pos h], fun hs => ?_⟩
    rw [if_neg (not_not_intro hs)]
    have har2 : Pw (p_synthesisref13_Arity r) fun x => x = (r.Args.length : Int) := by
      unfold p_synthesisref13_Arity
      simp only [G.len_int, pw_split, pw_ret, bne_iff_ne, ne_eq, bne_eq_false_iff_eq]
      exact ⟨fun h => by rw [hv r hmem h]; rfl, fun _ => trivial⟩
    refine pw_call _ har2 fun x hx => ?_
    subst hx
    rw [pw_split, pw_ret]
    simp only [bne_iff_ne, ne_eq, bne_eq_false_iff_eq]
    refine ⟨fun h => by rw [if_pos (by omega)], fun hl => ?_⟩
    have hl : r.Args.length = t.Args.length := by omega
    rw [if_neg (by omega)]
    have hlen : t.Args.length + 1 ≤ nod t := by have := nodL_len t.Args; rw [nod_eq]; omega
    refine pw_scanL (n := t.Args.length) (by omega) (fun i => ∀ (h1 : i < r.Args.length) (h2 : i < t.Args.length), dS k l r.Args[i] t.Args[i] = 0) (fun i hi hprev => ?_) ?_ (fun hall => ?_)
    · have hib : i < r.Args.length := by omega
      have hex := fun h0 => zipG_exit (f := fun p : Int × G.api_Term => dS k l p.1 p.2) hib hi hl (fun j h1 h2 hji => hprev j hji h1 h2) h0
      rw [pw_split]
      refine ⟨fun _ => ?_, fun h => by simp at h; omega⟩
      rw [pw_op]
      refine ⟨_, at_nat_lt hib, ?_⟩
      rw [pw_op]
      refine ⟨_, at_nat_lt hi, ?_⟩
      have hn := nod_item hi
      refine pw_call _ (fits_w n k l r.Args[i] t.Args[i] hv (by omega) (by omega) (by omega)) fun x hx => ?_
      subst hx
      simp only [pw_split, pw_ret, bne_iff_ne, ne_eq, bne_eq_false_iff_eq, Sum.elim_inl, Sum.elim_inr]
      exact ⟨fun h0 => (hex h0).symm, fun h0 => ⟨trivial, fun _ _ => h0⟩⟩
    · rw [pw_split]
      refine ⟨fun h => by simp at h, fun _ => ?_⟩
      rw [pw_ret]; trivial
    · rw [pw_ret, zipG_all fun j h1 h2 => hall j h2 h1 h2]

end Go.Proofs.Ytikgppgpailmcaa
