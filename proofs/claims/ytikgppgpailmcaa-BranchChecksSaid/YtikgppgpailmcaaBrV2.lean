/-
  The check of a value: the program's and the specification's are the same.
-/
import Derived.Test.YtikgppgpailmcaaBrV
namespace Go.Proofs.Ytikgppgpailmcaa
open Go.AL

/-- The first error in a list. -/
def scanE {α : Type} (f : α → Int) : List α → Int
  | [] => 0
  | x :: r => if f x = 0 then scanE f r else f x
theorem scanE_exit {α : Type} {f : α → Int} : ∀ {l : List α} {i : Nat} (h : i < l.length), (∀ j (hj : j < l.length), j < i → f l[j] = 0) → f l[i] ≠ 0 → scanE f l = f l[i]
  | [], i, h, _, _ => by simp at h
  | x :: r, 0, _, _, h0 => by simp only [scanE, List.getElem_cons_zero] at h0 ⊢; rw [if_neg h0]
  | x :: r, i + 1, h, hj, h0 => by
    have h1 := hj 0 (by simp) (by omega)
    simp only [List.getElem_cons_zero] at h1
    simp only [scanE, h1, if_true, List.getElem_cons_succ] at h0 ⊢
    exact scanE_exit (by simpa using h) (fun j h2 h3 => by have := hj (j + 1) (by simpa using h2) (by omega); simpa using this) h0
theorem scanE_all {α : Type} {f : α → Int} : ∀ {l : List α}, (∀ j (hj : j < l.length), f l[j] = 0) → scanE f l = 0
  | [], _ => rfl
  | x :: r, h => by
    have h1 := h 0 (by simp)
    simp only [List.getElem_cons_zero] at h1
    simp only [scanE, h1, if_true]
    exact scanE_all fun j hj => by have := h (j + 1) (by simpa using hj); simpa using this
theorem scanE_congr {α : Type} {f g : α → Int} : ∀ {l : List α}, (∀ x ∈ l, f x = g x) → scanE f l = scanE g l
  | [], _ => rfl
  | x :: r, h => by
    simp only [scanE, h x (by simp)]
    rw [scanE_congr fun y hy => h y (by simp [hy])]

def rangedS (n lo hi : Int) : Int := if n < lo ∨ n > hi then 1 else 0
def printedS (s : List UInt8) : Prop := ∀ i (h : i < s.length), ¬ (((s[i].toNat : Nat) : Int) < 32 ∨ ((s[i].toNat : Nat) : Int) > 126)
open Classical in
noncomputable def sizedS (s : List UInt8) (least most : Int) : Int := if (s.length : Int) < least ∨ (s.length : Int) > most then 2 else if printedS s then 0 else 1
def formBad (v : G.api_Value) : Prop :=
  ((v.Typ = 1 ∨ v.Typ = 2 ∨ v.Typ = 4) ∧ (v.Text ≠ [] ∨ v.Items.length ≠ 0)) ∨ ((v.Typ = 3 ∨ v.Typ = 8) ∧ (v.Num ≠ 0 ∨ v.Items.length ≠ 0)) ∨
  (¬ (v.Typ = 1 ∨ v.Typ = 2 ∨ v.Typ = 4 ∨ v.Typ = 3 ∨ v.Typ = 8) ∧ (v.Num ≠ 0 ∨ v.Text ≠ []))
def elS (chk : G.api_Value → Int) (l : List G.api_Value) (t : Int) : Int := if l.length > 16 then 2 else scanE (fun x => if x.Typ = t then chk x else 3) l
def roS (chk : G.api_Value → Int) (l : List G.api_Value) : Int :=
  if l.length > 8 then 2 else scanE (fun x => if x.Typ = 6 then (if x.Items.length < 1 ∨ x.Items.length > 8 ∨ x.Items.length ≠ ((l.head?.map fun y => y.Items.length).getD 0) then 2 else chk x) else 3) l
open Classical in
noncomputable def vchk : Nat → G.api_Value → Int
  | 0, _ => 0
  | n + 1, v =>
    if v.Typ < 1 ∨ v.Typ > 8 then 3 else if formBad v then 4
    else if v.Typ = 1 then rangedS v.Num 0 1 else if v.Typ = 2 then rangedS v.Num (-1000000) 1000000 else if v.Typ = 4 then rangedS v.Num 0 255
    else if v.Typ = 8 then sizedS v.Text 1 40 else if v.Typ = 3 then sizedS v.Text 0 64
    else if v.Typ = 5 then elS (vchk n) v.Items 2 else if v.Typ = 6 then elS (vchk n) v.Items 3 else roS (vchk n) v.Items

theorem ranged_w (n lo hi : Int) : Pw (p_value_ranged n lo hi) fun r => r = rangedS n lo hi := by
  unfold p_value_ranged rangedS
  simp only [pw_inner, pw_join, pw_split, pw_ret, Sum.elim_inl, decide_eq_true_eq, decide_eq_false_iff_not]
  refine ⟨fun h => ⟨fun _ => by rw [if_pos (.inl h)], fun h => by cases h⟩, fun h => ⟨fun h2 => by rw [if_pos (.inr h2)], fun h2 => by rw [if_neg (by omega)]⟩⟩
theorem within_w (n lo hi : Int) : Pw (p_synthesisref01_within n lo hi) fun r => r = rangedS n lo hi := by
  unfold p_synthesisref01_within rangedS
  simp only [pw_inner, pw_join, pw_split, pw_ret, Sum.elim_inl, decide_eq_true_eq, decide_eq_false_iff_not]
  refine ⟨fun h => ⟨fun _ => by rw [if_pos (.inl h)], fun h => by cases h⟩, fun h => ⟨fun h2 => by rw [if_pos (.inr h2)], fun h2 => by rw [if_neg (by omega)]⟩⟩

theorem printed_w (s : List UInt8) : Pw (p_value_printed s) fun r => r = true ↔ printedS s := by
  unfold p_value_printed
  rw [pw_inner]
  refine pw_scan (fun i => ∀ h : i < s.length, ¬ (((s[i].toNat : Nat) : Int) < 32 ∨ ((s[i].toNat : Nat) : Int) > 126)) (fun i hi _ => ?_) (fun hall => ?_)
  · simp only [pw_inner, pw_join, pw_op, byn_lt hi, Option.some.injEq, exists_eq_left', pw_split, pw_ret, Sum.elim_inl, Sum.elim_inr, decide_eq_true_eq, decide_eq_false_iff_not, Bool.false_eq_true, false_iff, reduceCtorEq, false_imp_iff, and_true, forall_const]
    refine ⟨fun h hp => hp i hi (.inl h), fun h => ⟨fun h2 hp => hp i hi (.inr h2), fun h2 _ => by omega⟩⟩
  · rw [pw_ret]; simp only [true_iff]; exact fun i hi => hall i hi hi
theorem sized_w (s : List UInt8) (least most : Int) : Pw (p_value_sized s least most) fun r => r = sizedS s least most := by
  unfold p_value_sized f_value_printed sizedS
  rw [pw_inner, pw_inner]
  refine pw_cut (fun c => c = decide ((s.length : Int) < least ∨ (s.length : Int) > most)) ?_ ?_
  · simp only [pw_split, pw_ret, Sum.elim_inl, decide_eq_true_eq, decide_eq_false_iff_not]
    exact ⟨fun h => by simp [h], fun h => by simp [h]⟩
  rintro _ rfl
  rw [pw_split, pw_ret]
  simp only [decide_eq_true_eq, decide_eq_false_iff_not]
  refine ⟨fun h => by rw [if_pos h], fun h => ?_⟩
  rw [if_neg h]
  refine pw_call _ (printed_w s) fun r hr => ?_
  simp only [pw_split, pw_ret, Bool.not_eq_true', Bool.not_eq_false']
  refine ⟨fun h => by rw [if_neg (fun hp => by rw [hr.2 hp] at h; cases h)], fun h => by rw [if_pos (hr.1 h)]⟩
theorem plain_w (s : List UInt8) (least most : Int) : Pw (p_synthesisref01_plain s least most) fun r => r = sizedS s least most := by
  unfold p_synthesisref01_plain sizedS
  rw [pw_inner, pw_inner]
  refine pw_cut (fun c => c = decide ((s.length : Int) < least ∨ (s.length : Int) > most)) ?_ ?_
  · simp only [pw_split, pw_ret, Sum.elim_inl, decide_eq_true_eq, decide_eq_false_iff_not]
    exact ⟨fun h => by simp [h], fun h => by simp [h]⟩
  rintro _ rfl
  rw [pw_split, pw_ret]
  simp only [decide_eq_true_eq, decide_eq_false_iff_not]
  refine ⟨fun h => by rw [if_pos h], fun h => ?_⟩
  rw [if_neg h]
  refine pw_scan (fun i => ∀ h : i < s.length, ¬ (((s[i].toNat : Nat) : Int) < 32 ∨ ((s[i].toNat : Nat) : Int) > 126)) (fun i hi _ => ?_) (fun hall => ?_)
  · simp only [pw_inner, pw_join, pw_op, byn_lt hi, Option.some.injEq, exists_eq_left', pw_split, pw_ret, Sum.elim_inl, Sum.elim_inr, decide_eq_true_eq, decide_eq_false_iff_not, reduceCtorEq, false_imp_iff, and_true, forall_const]
    refine ⟨fun h => by rw [if_neg fun hp => hp i hi (.inl h)], fun h => ⟨fun h2 => by rw [if_neg fun hp => hp i hi (.inr h2)], fun h2 _ => by omega⟩⟩
  · have hp : printedS s := fun i hi => hall i hi hi
    rw [pw_ret, if_pos hp]

theorem unused_w (v : G.api_Value) : Pw (p_value_unused v) fun r => r = true ↔ ¬ formBad v := by
  unfold p_value_unused formBad
  simp only [G.len_api_Value]
  rw [pw_inner, pw_inner, pw_inner]
  have hz : ((v.Items.length : Int) = 0) ↔ v.Items.length = 0 := by omega
  refine pw_cut (fun c => c = decide (v.Typ = 1 ∨ v.Typ = 2 ∨ v.Typ = 4)) ?_ ?_
  · simp only [pw_split, pw_ret, Sum.elim_inl, beq_iff_eq, beq_eq_false_iff_ne, ne_eq]
    refine ⟨fun h => by simp [h], fun h1 => ⟨fun h => by simp [h], fun h2 => ?_⟩⟩
    by_cases h3 : v.Typ = 4 <;> simp [h1, h2, h3]
  rintro _ rfl
  rw [pw_split]
  simp only [decide_eq_true_eq, decide_eq_false_iff_not]
  refine ⟨fun h => ?_, fun h => ?_⟩
  · rw [pw_join]
    simp only [pw_split, pw_ret, Sum.elim_inl, beq_iff_eq, beq_eq_false_iff_ne, ne_eq, Bool.false_eq_true, false_iff, Classical.not_not, hz]
    exact ⟨fun h2 => ⟨fun h3 hb => (by rcases hb with ⟨_, hb⟩ | hb | hb <;> first | (rcases hb with hb | hb <;> contradiction) | omega), fun hb => Classical.byContradiction fun hn => hb (.inl ⟨h, .inr hn⟩)⟩, fun h2 => .inl ⟨h, .inl h2⟩⟩
  · refine pw_cut (fun c => c = decide (v.Typ = 3 ∨ v.Typ = 8)) ?_ ?_
    · simp only [pw_split, pw_ret, Sum.elim_inl, beq_iff_eq, beq_eq_false_iff_ne, ne_eq]
      refine ⟨fun h => by simp [h], fun h1 => ?_⟩
      by_cases h3 : v.Typ = 8 <;> simp [h1, h3]
    rintro _ rfl
    rw [pw_split]
    simp only [decide_eq_true_eq, decide_eq_false_iff_not]
    refine ⟨fun h4 => ?_, fun h4 => ?_⟩
    · rw [pw_join]
      simp only [pw_split, pw_ret, Sum.elim_inl, beq_iff_eq, beq_eq_false_iff_ne, ne_eq, Bool.false_eq_true, false_iff, Classical.not_not, hz]
      exact ⟨fun h2 => ⟨fun h3 hb => (by rcases hb with hb | ⟨_, hb⟩ | hb <;> first | (rcases hb with hb | hb <;> contradiction) | omega), fun hb => Classical.byContradiction fun hn => hb (.inr (.inl ⟨h4, .inr hn⟩))⟩, fun h2 => .inr (.inl ⟨h4, .inl h2⟩)⟩
    · rw [pw_join]
      simp only [pw_split, pw_ret, Sum.elim_inl, beq_iff_eq, beq_eq_false_iff_ne, ne_eq, Bool.false_eq_true, false_iff, Classical.not_not]
      have hno : ¬ (v.Typ = 1 ∨ v.Typ = 2 ∨ v.Typ = 4 ∨ v.Typ = 3 ∨ v.Typ = 8) := by omega
      exact ⟨fun h2 => ⟨fun h3 hb => (by rcases hb with hb | hb | ⟨_, hb⟩ <;> first | (rcases hb with hb | hb <;> contradiction) | omega), fun hb => Classical.byContradiction fun hn => hb (.inr (.inr ⟨hno, .inr hn⟩))⟩, fun h2 => .inr (.inr ⟨hno, .inl h2⟩)⟩

theorem chk_w : ∀ (n : Nat), (∀ (v : G.api_Value) (k : Nat), SizeOf.sizeOf v < n → SizeOf.sizeOf v < k → Pw (p_value_Check n v) fun r => r = vchk k v) ∧
    (∀ (l : List G.api_Value) (t : Int) (k : Nat), 1 ≤ n → (∀ x ∈ l, SizeOf.sizeOf x + 1 < n ∧ SizeOf.sizeOf x < k) → Pw (p_value_elements n l t) fun r => r = elS (vchk k) l t) ∧
    ∀ (l : List G.api_Value) (k : Nat), 1 ≤ n → (∀ x ∈ l, SizeOf.sizeOf x + 1 < n ∧ SizeOf.sizeOf x < k) → Pw (p_value_rows n l) fun r => r = roS (vchk k) l
  | 0 => ⟨fun v k h => by omega, fun l t k h => by omega, fun l k h => by omega⟩
  | n + 1 => by
    obtain ⟨ih1, ih2, ih3⟩ := chk_w n
    refine ⟨?_, ?_, ?_⟩
    · intro v k h hk
      have h2 := val_sz v
      obtain ⟨k, rfl⟩ : ∃ k', k = k' + 1 := ⟨k - 1, by omega⟩
      have hit : ∀ x ∈ v.Items, SizeOf.sizeOf x + 1 < n ∧ SizeOf.sizeOf x < k := fun x hx => by have := item_lt2 hx; omega
      unfold p_value_Check f_value_unused f_value_ranged f_value_sized
      rw [pw_inner, pw_inner]
      refine pw_cut (fun c => c = decide (v.Typ < 1 ∨ v.Typ > 8)) ?_ ?_
      · simp only [pw_split, pw_ret, Sum.elim_inl, decide_eq_true_eq, decide_eq_false_iff_not]
        exact ⟨fun h => by simp [h], fun h => by simp [h]⟩
      rintro _ rfl
      rw [pw_split, pw_ret]
      simp only [decide_eq_true_eq, decide_eq_false_iff_not]
      refine ⟨fun h => by rw [vchk, if_pos h], fun hty => ?_⟩
      refine pw_call _ (unused_w v) fun c hc => ?_
      rw [pw_split, pw_ret]
      simp only [Bool.not_eq_true', Bool.not_eq_false']
      refine ⟨fun h => ?_, fun h => ?_⟩
      · have : formBad v := Classical.byContradiction fun hn => by rw [hc.2 hn] at h; cases h
        rw [vchk, if_neg hty, if_pos this]
      rw [vchk, if_neg hty, if_neg (hc.1 h)]
      rw [pw_inner, pw_join, pw_inner, pw_join, pw_inner, pw_join]
      simp only [pw_split (y := Prog.split _ _ _ _), beq_iff_eq, beq_eq_false_iff_ne, ne_eq]
      refine ⟨fun h1 => pw_call _ (ranged_w _ _ _) fun r hr => pw_ret.2 (by show r = _; rw [if_pos h1, hr]), fun h1 => ⟨fun h2 => pw_call _ (ranged_w _ _ _) fun r hr => pw_ret.2 (by show r = _; rw [if_neg h1, if_pos h2, hr]), fun h2 =>
        ⟨fun h4 => pw_call _ (ranged_w _ _ _) fun r hr => pw_ret.2 (by show r = _; rw [if_neg h1, if_neg h2, if_pos h4, hr]), fun h4 => ?_⟩⟩⟩
      rw [if_neg h1, if_neg h2, if_neg h4]
      refine ⟨fun h8 => pw_ret.2 (pw_call _ (sized_w _ _ _) fun r hr => pw_ret.2 (by show r = _; rw [if_pos h8, hr])), fun h8 => ⟨fun h3 => pw_ret.2 (pw_call _ (sized_w _ _ _) fun r hr => pw_ret.2 (by show r = _; rw [if_neg h8, if_pos h3, hr])), fun h3 => ?_⟩⟩
      rw [if_neg h8, if_neg h3]
      refine ⟨fun h5 => pw_ret.2 (pw_call _ (ih2 v.Items 2 k (by omega) hit) fun r hr => pw_ret.2 (by show r = _; rw [if_pos h5, hr])), fun h5 => ?_⟩
      rw [pw_split]
      simp only [beq_iff_eq, beq_eq_false_iff_ne, ne_eq]
      refine ⟨fun h6 => pw_ret.2 (pw_call _ (ih2 v.Items 3 k (by omega) hit) fun r hr => pw_ret.2 (by show r = _; rw [if_neg h5, if_pos h6, hr])), fun h6 => pw_ret.2 (pw_call _ (ih3 v.Items k (by omega) hit) fun r hr => pw_ret.2 (by show r = _; rw [if_neg h5, if_neg h6, hr]))⟩
    · intro l t k _ hx
      unfold p_value_elements elS
      simp only [G.len_api_Value]
      rw [pw_split, pw_ret]
      simp only [decide_eq_true_eq, decide_eq_false_iff_not]
      refine ⟨fun h => by rw [if_pos (by omega)], fun h => ?_⟩
      rw [if_neg (by omega)]
      refine pw_scan (fun i => ∀ (h1 : i < l.length), (if l[i].Typ = t then vchk k l[i] else 3) = 0) (fun i hi hprev => ?_) (fun hall => ?_)
      · have hex := fun h0 => scanE_exit (f := fun x : G.api_Value => if x.Typ = t then vchk k x else 3) hi (fun j hj hji => hprev j hji hj) h0
        rw [pw_op]
        refine ⟨_, List.getElem?_eq_getElem hi, ?_⟩
        rw [pw_split, pw_ret]
        simp only [bne_iff_ne, ne_eq, bne_eq_false_iff_eq, Sum.elim_inr]
        refine ⟨fun ht => ?_, fun ht => ?_⟩
        · rw [if_neg ht] at hex; exact (hex (by omega)).symm
        · rw [if_pos ht] at hex
          have hb := hx _ (List.getElem_mem hi)
          refine pw_call _ (ih1 l[i] k (by omega) hb.2) fun r hr => ?_
          subst hr
          simp only [pw_split, pw_ret, bne_iff_ne, ne_eq, bne_eq_false_iff_eq, Sum.elim_inl, Sum.elim_inr]
          exact ⟨fun h0 => (hex h0).symm, fun h0 _ => by rw [if_pos ht]; exact h0⟩
      · rw [pw_ret, scanE_all fun j hj => hall j hj hj]
    · intro l k _ hx
      unfold p_value_rows roS
      simp only [G.len_api_Value]
      rw [pw_split, pw_ret]
      simp only [decide_eq_true_eq, decide_eq_false_iff_not]
      refine ⟨fun h => by rw [if_pos (by omega)], fun h => ?_⟩
      rw [if_neg (by omega)]
      refine pw_scan (fun i => ∀ (h1 : i < l.length), (if l[i].Typ = 6 then (if l[i].Items.length < 1 ∨ l[i].Items.length > 8 ∨ l[i].Items.length ≠ ((l.head?.map fun y => y.Items.length).getD 0) then 2 else vchk k l[i]) else 3) = 0) (fun i hi hprev => ?_) (fun hall => ?_)
      · have hex := fun h0 => scanE_exit (f := fun x : G.api_Value => if x.Typ = 6 then (if x.Items.length < 1 ∨ x.Items.length > 8 ∨ x.Items.length ≠ ((l.head?.map fun y => y.Items.length).getD 0) then 2 else vchk k x) else 3) hi (fun j hj hji => hprev j hji hj) h0
        rw [pw_op]
        refine ⟨_, List.getElem?_eq_getElem hi, ?_⟩
        rw [pw_split, pw_ret]
        simp only [bne_iff_ne, ne_eq, bne_eq_false_iff_eq, Sum.elim_inr]
        refine ⟨fun ht => ?_, fun ht => ?_⟩
        · rw [if_neg ht] at hex; exact (hex (by omega)).symm
        · rw [if_pos ht] at hex
          rw [pw_inner]
          have hh : (l.head?.map fun y => y.Items.length).getD 0 = (l[0]'(by omega)).Items.length := by
            cases l with
            | nil => simp at hi
            | cons y q => rfl
          refine pw_cut (fun c => c = decide (l[i].Items.length < 1 ∨ l[i].Items.length > 8 ∨ l[i].Items.length ≠ ((l.head?.map fun y => y.Items.length).getD 0))) ?_ ?_
          · have h00 : at_ l 0 = some (l[0]'(by omega)) := at_nat_lt (i := 0) (by omega)
            simp only [pw_split, pw_op, pw_ret, Sum.elim_inl, decide_eq_true_eq, decide_eq_false_iff_not, h00, Option.some.injEq, exists_eq_left']
            refine ⟨fun h => ?_, fun h => ⟨fun h2 => ?_, fun h2 => ?_⟩⟩
            · symm; rw [decide_eq_true_eq]; omega
            · symm; rw [decide_eq_true_eq]; omega
            · rw [hh, Bool.eq_iff_iff, bne_iff_ne, decide_eq_true_eq]; omega
          rintro _ rfl
          rw [pw_split, pw_ret]
          simp only [decide_eq_true_eq, decide_eq_false_iff_not, Sum.elim_inr]
          refine ⟨fun hc => ?_, fun hc => ?_⟩
          · rw [if_pos hc] at hex; exact (hex (by omega)).symm
          · rw [if_neg hc] at hex
            have hb := hx _ (List.getElem_mem hi)
            refine pw_call _ (ih1 l[i] k (by omega) hb.2) fun r hr => ?_
            subst hr
            simp only [pw_split, pw_ret, bne_iff_ne, ne_eq, bne_eq_false_iff_eq, Sum.elim_inl, Sum.elim_inr]
            exact ⟨fun h0 => (hex h0).symm, fun h0 _ => by rw [if_pos ht, if_neg hc]; exact h0⟩
      · rw [pw_ret, scanE_all fun j hj => hall j hj hj]

theorem chkR_w : ∀ (n : Nat), (∀ (v : G.api_Value) (k : Nat), SizeOf.sizeOf v < n → SizeOf.sizeOf v < k → Pw (p_synthesisref01_Check n v) fun r => r = vchk k v) ∧
    (∀ (l : List G.api_Value) (t : Int) (k : Nat), 1 ≤ n → (∀ x ∈ l, SizeOf.sizeOf x + 1 < n ∧ SizeOf.sizeOf x < k) → Pw (p_synthesisref01_elements n l t) fun r => r = elS (vchk k) l t) ∧
    ∀ (l : List G.api_Value) (k : Nat), 1 ≤ n → (∀ x ∈ l, SizeOf.sizeOf x + 1 < n ∧ SizeOf.sizeOf x < k) → Pw (p_synthesisref01_rows n l) fun r => r = roS (vchk k) l
  | 0 => ⟨fun v k h => by omega, fun l t k h => by omega, fun l k h => by omega⟩
  | n + 1 => by
    obtain ⟨ih1, ih2, ih3⟩ := chkR_w n
    refine ⟨?_, ?_, ?_⟩
    · intro v k h hk
      have h2 := val_sz v
      obtain ⟨k, rfl⟩ : ∃ k', k = k' + 1 := ⟨k - 1, by omega⟩
      have hit : ∀ x ∈ v.Items, SizeOf.sizeOf x + 1 < n ∧ SizeOf.sizeOf x < k := fun x hx => by have := item_lt2 hx; omega
      unfold p_synthesisref01_Check f_synthesisref01_within f_synthesisref01_plain
      simp only [G.len_api_Value]
      rw [pw_inner, pw_inner]
      refine pw_cut (fun c => c = decide (v.Typ < 1 ∨ v.Typ > 8)) ?_ ?_
      · simp only [pw_split, pw_ret, Sum.elim_inl, decide_eq_true_eq, decide_eq_false_iff_not]
        exact ⟨fun h => by simp [h], fun h => by simp [h]⟩
      rintro _ rfl
      rw [pw_split, pw_ret]
      simp only [decide_eq_true_eq, decide_eq_false_iff_not]
      refine ⟨fun h => by rw [vchk, if_pos h], fun hty => ?_⟩
      refine pw_cut (fun c => c = decide (v.Typ = 1 ∨ v.Typ = 2 ∨ v.Typ = 4)) ?_ ?_
      · simp only [pw_split, pw_ret, Sum.elim_inl, beq_iff_eq, beq_eq_false_iff_ne, ne_eq]
        refine ⟨fun h => by simp [h], fun h1 => ⟨fun h => by simp [h], fun h2 => ?_⟩⟩
        by_cases h3 : v.Typ = 4 <;> simp [h1, h2, h3]
      rintro _ rfl
      refine pw_cut (fun c => c = decide (v.Typ = 3 ∨ v.Typ = 8)) ?_ ?_
      · simp only [pw_split, pw_ret, Sum.elim_inl, beq_iff_eq, beq_eq_false_iff_ne, ne_eq]
        refine ⟨fun h => by simp [h], fun h1 => ?_⟩
        by_cases h3 : v.Typ = 8 <;> simp [h1, h3]
      rintro _ rfl
      rw [pw_inner]
      refine pw_cut (fun c => c = true ↔ formBad v) ?_ ?_
      · have hz : ((v.Items.length : Int) > 0) ↔ v.Items.length ≠ 0 := by omega
        simp only [pw_split, pw_ret, Sum.elim_inl, decide_eq_true_eq, decide_eq_false_iff_not, Bool.not_eq_true', Bool.not_eq_false', bne_iff_ne, ne_eq, bne_eq_false_iff_eq, beq_iff_eq, beq_eq_false_iff_ne, Bool.false_eq_true, false_iff, true_iff, hz]
        have h5 : (v.Typ = 1 ∨ v.Typ = 2 ∨ v.Typ = 4 ∨ v.Typ = 3 ∨ v.Typ = 8) ↔ ((v.Typ = 1 ∨ v.Typ = 2 ∨ v.Typ = 4) ∨ (v.Typ = 3 ∨ v.Typ = 8)) := by omega
        unfold formBad
        rw [h5]
        generalize v.Items.length = len
        generalize v.Text = txt
        by_cases hx : txt = [] <;> by_cases ha : (v.Typ = 1 ∨ v.Typ = 2 ∨ v.Typ = 4) <;> by_cases hb : (v.Typ = 3 ∨ v.Typ = 8) <;> simp only [hx, ha, hb, not_true_eq_false, not_false_eq_true, ne_eq, true_and, false_and, or_true, true_or, false_or, or_false, and_true, and_false, false_imp_iff, forall_const] <;> first | omega | exact ⟨fun _ => trivial, fun _ => trivial⟩
      rintro c hc
      rw [pw_split, pw_ret]
      refine ⟨fun h => by rw [vchk, if_neg hty, if_pos (hc.1 h)], fun h => ?_⟩
      rw [vchk, if_neg hty, if_neg (fun hb => by rw [hc.2 hb] at h; cases h)]
      simp only [pw_split, beq_iff_eq, beq_eq_false_iff_ne, ne_eq]
      refine ⟨fun h1 => pw_call _ (within_w _ _ _) fun r hr => pw_ret.2 (by rw [if_pos h1, hr]), fun h1 => ⟨fun h2 => pw_call _ (within_w _ _ _) fun r hr => pw_ret.2 (by rw [if_neg h1, if_pos h2, hr]), fun h2 =>
        ⟨fun h4 => pw_call _ (within_w _ _ _) fun r hr => pw_ret.2 (by rw [if_neg h1, if_neg h2, if_pos h4, hr]), fun h4 => ?_⟩⟩⟩
      rw [if_neg h1, if_neg h2, if_neg h4]
      refine ⟨fun h3 => pw_call _ (plain_w _ _ _) fun r hr => pw_ret.2 (by rw [if_neg (by omega), if_pos h3, hr]), fun h3 => ⟨fun h8 => pw_call _ (plain_w _ _ _) fun r hr => pw_ret.2 (by rw [if_pos h8, hr]), fun h8 => ?_⟩⟩
      rw [if_neg h8, if_neg h3]
      exact ⟨fun h5 => pw_call _ (ih2 v.Items 2 k (by omega) hit) fun r hr => pw_ret.2 (by rw [if_pos h5, hr]), fun h5 => ⟨fun h6 => pw_call _ (ih2 v.Items 3 k (by omega) hit) fun r hr => pw_ret.2 (by rw [if_neg h5, if_pos h6, hr]),
        fun h6 => pw_call _ (ih3 v.Items k (by omega) hit) fun r hr => pw_ret.2 (by rw [if_neg h5, if_neg h6, hr])⟩⟩
    · intro l t k _ hx
      unfold p_synthesisref01_elements elS
      simp only [G.len_api_Value]
      rw [pw_split, pw_ret]
      simp only [decide_eq_true_eq, decide_eq_false_iff_not]
      refine ⟨fun h => by rw [if_pos (by omega)], fun h => ?_⟩
      rw [if_neg (by omega)]
      refine pw_scan (fun i => ∀ (h1 : i < l.length), (if l[i].Typ = t then vchk k l[i] else 3) = 0) (fun i hi hprev => ?_) (fun hall => ?_)
      · have hex := fun h0 => scanE_exit (f := fun x : G.api_Value => if x.Typ = t then vchk k x else 3) hi (fun j hj hji => hprev j hji hj) h0
        rw [pw_op]
        refine ⟨_, List.getElem?_eq_getElem hi, ?_⟩
        rw [pw_split, pw_ret]
        simp only [bne_iff_ne, ne_eq, bne_eq_false_iff_eq, Sum.elim_inr]
        refine ⟨fun ht => ?_, fun ht => ?_⟩
        · rw [if_neg ht] at hex; exact (hex (by omega)).symm
        · rw [if_pos ht] at hex
          have hb := hx _ (List.getElem_mem hi)
          rw [pw_op]
          refine ⟨_, rfl, ?_⟩
          refine pw_call _ (ih1 l[i] k (by omega) hb.2) fun r hr => ?_
          subst hr
          simp only [pw_split, pw_ret, bne_iff_ne, ne_eq, bne_eq_false_iff_eq, Sum.elim_inl, Sum.elim_inr]
          exact ⟨fun h0 => (hex h0).symm, fun h0 _ => by rw [if_pos ht]; exact h0⟩
      · rw [pw_ret, scanE_all fun j hj => hall j hj hj]
    · intro l k _ hx
      unfold p_synthesisref01_rows roS
      simp only [G.len_api_Value]
      rw [pw_split, pw_ret]
      simp only [decide_eq_true_eq, decide_eq_false_iff_not]
      refine ⟨fun h => by rw [if_pos (by omega)], fun h => ?_⟩
      rw [if_neg (by omega)]
      refine pw_scan (fun i => ∀ (h1 : i < l.length), (if l[i].Typ = 6 then (if l[i].Items.length < 1 ∨ l[i].Items.length > 8 ∨ l[i].Items.length ≠ ((l.head?.map fun y => y.Items.length).getD 0) then 2 else vchk k l[i]) else 3) = 0) (fun i hi hprev => ?_) (fun hall => ?_)
      · have hex := fun h0 => scanE_exit (f := fun x : G.api_Value => if x.Typ = 6 then (if x.Items.length < 1 ∨ x.Items.length > 8 ∨ x.Items.length ≠ ((l.head?.map fun y => y.Items.length).getD 0) then 2 else vchk k x) else 3) hi (fun j hj hji => hprev j hji hj) h0
        rw [pw_op]
        refine ⟨_, List.getElem?_eq_getElem hi, ?_⟩
        rw [pw_split, pw_ret]
        simp only [bne_iff_ne, ne_eq, bne_eq_false_iff_eq, Sum.elim_inr]
        refine ⟨fun ht => ?_, fun ht => ?_⟩
        · rw [if_neg ht] at hex; exact (hex (by omega)).symm
        · rw [if_pos ht] at hex
          rw [pw_op]
          refine ⟨_, rfl, ?_⟩
          have hh : (l.head?.map fun y => y.Items.length).getD 0 = (l[0]'(by omega)).Items.length := by
            cases l with
            | nil => simp at hi
            | cons y q => rfl
          refine pw_cut (fun c => c = decide (l[i].Items.length < 1 ∨ l[i].Items.length > 8 ∨ l[i].Items.length ≠ ((l.head?.map fun y => y.Items.length).getD 0))) ?_ ?_
          · have h00 : at_ l 0 = some (l[0]'(by omega)) := at_nat_lt (i := 0) (by omega)
            simp only [pw_split, pw_op, pw_ret, Sum.elim_inl, decide_eq_true_eq, decide_eq_false_iff_not, h00, Option.some.injEq, exists_eq_left']
            refine ⟨fun h => ?_, fun h => ⟨fun h2 => ?_, fun h2 => ?_⟩⟩
            · symm; rw [decide_eq_true_eq]; omega
            · symm; rw [decide_eq_true_eq]; omega
            · rw [hh, Bool.eq_iff_iff, bne_iff_ne, decide_eq_true_eq]; omega
          rintro _ rfl
          rw [pw_split, pw_ret]
          simp only [decide_eq_true_eq, decide_eq_false_iff_not, Sum.elim_inr]
          refine ⟨fun hc => ?_, fun hc => ?_⟩
          · rw [if_pos hc] at hex; exact (hex (by omega)).symm
          · rw [if_neg hc] at hex
            have hb := hx _ (List.getElem_mem hi)
            rw [pw_op]
            refine ⟨_, rfl, ?_⟩
            refine pw_call _ (ih1 l[i] k (by omega) hb.2) fun r hr => ?_
            subst hr
            simp only [pw_split, pw_ret, bne_iff_ne, ne_eq, bne_eq_false_iff_eq, Sum.elim_inl, Sum.elim_inr]
            exact ⟨fun h0 => (hex h0).symm, fun h0 _ => by rw [if_pos ht, if_neg hc]; exact h0⟩
      · rw [pw_ret, scanE_all fun j hj => hall j hj hj]

noncomputable def vchkS (v : G.api_Value) : Int := vchk (SizeOf.sizeOf v + 1) v
theorem vcheck_w (v : G.api_Value) : Pw (p_value_Check (big + SizeOf.sizeOf v) v) fun r => r = vchkS v := (chk_w _).1 v _ (by have := big_pos; omega) (by omega)
theorem vcheckR_w (v : G.api_Value) : Pw (p_synthesisref01_Check (big + SizeOf.sizeOf v) v) fun r => r = vchkS v := (chkR_w _).1 v _ (by have := big_pos; omega) (by omega)

end Go.Proofs.Ytikgppgpailmcaa
