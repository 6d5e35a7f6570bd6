/-
  Values and names: what the program computes and what the specification computes.
-/
import Derived.Test.YtikgppgpailmcaaGfn
import Derived.Test.YtikgppgpailmcaaAlWp
namespace Go.Proofs.Ytikgppgpailmcaa
open Go.AL

section
variable {τ : Type}
/-- A loop that looks at one element after the other and may stop. -/
theorem pw_scan {x tc n : Nat} {l l' : List Nat} {A : Unit → List (Nat × D) × List Ob} {A' : Int → Unit → List (Nat × D) × List Ob} {body : Nat → Unit → Prog (Unit ⊕ (Unit ⊕ τ))} {k : Unit → Prog τ} {Q : τ → Prop} (P : Nat → Prop)
    (hb : ∀ i, i < n → (∀ j, j < i → P j) → Pw (body i ()) (Sum.elim (fun _ => P i) (Sum.elim (fun _ => False) Q))) (hk : (∀ i, i < n → P i) → Pw (k ()) Q) :
    Pw (.join l A (.rng x tc n l' A' () body (fun _ => .inl ())) k) Q := by
  refine pw_cut (fun _ => ∀ i, i < n → P i) ?_ (fun _ h => hk h)
  refine pw_rng (fun i _ => ∀ j, j < i → P j) (fun j h => absurd h (by omega)) (fun i s hi h => ?_) (fun s h => h)
  refine (hb i hi h).mono fun y hy => ?_
  cases y with
  | inl u =>
    intro j hj
    by_cases e : j = i
    · rw [e]; exact hy
    · exact h j (by omega)
  | inr y =>
    cases y with
    | inl u => exact hy.elim
    | inr r => exact hy

/-- The same with an index. -/
theorem pw_scanL {n : Nat} (hn : n ≤ 9223372036854775807) {l l' : List Nat} {A : Unit → List (Nat × D) × List Ob} {A' : Int → List (Nat × D) × List Ob} {body : Int → Prog (Int ⊕ (Unit ⊕ τ))} {k : Unit → Prog τ} {Q : τ → Prop} (P : Nat → Prop)
    (hb : ∀ i, i < n → (∀ j, j < i → P j) → Pw (body (i : Int)) (Sum.elim (fun x => x = IntKind.wrap .i64 ((i : Int) + 1) ∧ P i) (Sum.elim (fun _ => False) Q)))
    (he : Pw (body (n : Int)) (Sum.elim (fun _ => False) (Sum.elim (fun _ => True) (fun _ => False)))) (hk : (∀ i, i < n → P i) → Pw (k ()) Q) :
    Pw (.join l A (.loop l' A' 0 (fun _ y => y) body) k) Q := by
  refine pw_cut (fun _ => ∀ i, i < n → P i) ?_ (fun _ h => hk h)
  refine pw_loop (fun x => ∃ i : Nat, x = (i : Int) ∧ i ≤ n ∧ ∀ j, j < i → P j) (fun x => n - x.toNat) ⟨0, rfl, by omega, fun j h => absurd h (by omega)⟩ (by omega) ?_
  rintro _ ⟨i, rfl, hin, hP⟩
  by_cases hi : i < n
  · refine (hb i hi hP).mono fun y hy => ?_
    cases y with
    | inl u =>
      obtain ⟨rfl, hp⟩ := hy
      have hw : IntKind.wrap .i64 ((i : Int) + 1) = ((i + 1 : Nat) : Int) := by rw [w64 (by omega) (by omega)]; omega
      refine ⟨⟨i + 1, hw, by omega, fun j hj => ?_⟩, ?_⟩
      · by_cases e : j = i
        · rw [e]; exact hp
        · exact hP j (by omega)
      · show n - (IntKind.wrap .i64 ((i : Int) + 1)).toNat < n - (i : Int).toNat
        rw [hw]; omega
    | inr y =>
      cases y with
      | inl u => exact hy.elim
      | inr r => exact hy
  · have : i = n := by omega
    subst this
    refine he.mono fun y hy => ?_
    cases y with
    | inl u => exact hy.elim
    | inr y =>
      cases y with
      | inl u => exact hP
      | inr r => exact hy.elim
end

theorem byn_lt {s : List UInt8} {i : Nat} (h : i < s.length) : byn s i = some ((s[i].toNat : Nat) : Int) := by
  unfold byn; rw [List.getElem?_eq_getElem h]; rfl
theorem at_nat_lt {α : Type} {xs : List α} {i : Nat} (h : i < xs.length) : at_ xs (i : Int) = some xs[i] := by
  rw [at_nat, List.getElem?_eq_getElem h]

/-- Names. -/
def badCh (i : Nat) (c : Int) : Prop := ¬ (97 ≤ c ∧ c ≤ 122 ∨ 65 ≤ c ∧ c ≤ 90) ∧ (i = 0 ∨ (c ≠ 45 ∧ (c < 48 ∨ c > 57)))
def nameOk (s : List UInt8) : Prop := 1 ≤ s.length ∧ s.length ≤ 24 ∧ ∀ i (h : i < s.length), ¬ badCh i ((s[i].toNat : Nat) : Int)

theorem low_letter (c : UInt8) : (intBits .or .u8 ((c.toNat : Nat) : Int) 32 ≥ 97 ∧ intBits .or .u8 ((c.toNat : Nat) : Int) 32 ≤ 122) ↔ (97 ≤ ((c.toNat : Nat) : Int) ∧ ((c.toNat : Nat) : Int) ≤ 122 ∨ 65 ≤ ((c.toNat : Nat) : Int) ∧ ((c.toNat : Nat) : Int) ≤ 90) := by
  have key : ∀ n : Nat, n < 256 → ((intBits .or .u8 (n : Int) 32 ≥ 97 ∧ intBits .or .u8 (n : Int) 32 ≤ 122) ↔ (97 ≤ (n : Int) ∧ (n : Int) ≤ 122 ∨ 65 ≤ (n : Int) ∧ (n : Int) ≤ 90)) := by
    decide +kernel
  exact key c.toNat c.toNat_lt

theorem named_w (s : List UInt8) : Pw (p_grammar_named s) fun r => r = true ↔ nameOk s := by
  unfold p_grammar_named
  rw [pw_inner, pw_inner]
  refine pw_cut (fun c => c = decide ((s.length : Int) < 1 ∨ (s.length : Int) > 24)) ?_ ?_
  · simp only [pw_split, pw_ret, Sum.elim_inl, decide_eq_true_eq, decide_eq_false_iff_not]
    exact ⟨fun h => by simp [h], fun h => by simp [h]⟩
  rintro _ rfl
  rw [pw_split, pw_ret]
  simp only [decide_eq_true_eq, decide_eq_false_iff_not]
  refine ⟨fun h => by simp only [Bool.false_eq_true, false_iff]; unfold nameOk; omega, fun h => ?_⟩
  refine pw_scan (fun i => ∀ h : i < s.length, ¬ badCh i ((s[i].toNat : Nat) : Int)) (fun i hi _ => ?_) (fun hall => ?_)
  · have hll := low_letter s[i]
    simp only [pw_op, byn_lt hi, Option.some.injEq, exists_eq_left']
    refine pw_cut (fun c => c = decide (97 ≤ ((s[i].toNat : Nat) : Int) ∧ ((s[i].toNat : Nat) : Int) ≤ 122 ∨ 65 ≤ ((s[i].toNat : Nat) : Int) ∧ ((s[i].toNat : Nat) : Int) ≤ 90)) ?_ ?_
    · simp only [pw_split, pw_ret, Sum.elim_inl, decide_eq_true_eq, decide_eq_false_iff_not]
      refine ⟨fun h => ?_, fun h => ?_⟩
      · rw [decide_eq_decide, ← hll]; exact ⟨fun g => ⟨h, g⟩, fun g => g.2⟩
      · symm; rw [decide_eq_false_iff_not, ← hll]; exact fun g => h g.1
    rintro _ rfl
    refine pw_cut (fun c => c = true ↔ badCh i ((s[i].toNat : Nat) : Int)) ?_ ?_
    · simp only [pw_split, pw_ret, Sum.elim_inl, decide_eq_true_eq, decide_eq_false_iff_not, Bool.not_eq_true', Bool.not_eq_false', beq_iff_eq, bne_iff_ne, beq_eq_false_iff_ne, bne_eq_false_iff_eq, ne_eq, Bool.false_eq_true, false_iff, true_iff]
      unfold badCh
      refine ⟨fun h => ⟨fun h1 => ?_, fun h1 => ⟨fun h2 => ⟨fun h3 => ?_, fun h3 => ?_⟩, fun h2 => ?_⟩⟩, fun h => ?_⟩ <;> omega
    · rintro c hc
      simp only [pw_split, pw_ret, Sum.elim_inl, Sum.elim_inr]
      refine ⟨fun h => ?_, fun h => ?_⟩
      · have := hc.1 h
        simp only [Bool.false_eq_true, false_iff]
        exact fun hn => hn.2.2 i hi this
      · intro _ hb
        rw [hc.2 hb] at h; cases h
  · rw [pw_ret]
    simp only [true_iff]
    exact ⟨by omega, by omega, fun i hi => hall i hi hi⟩

theorem Name_w (s : List UInt8) : Pw (p_synthesisref11_Name s) fun r => r = true ↔ nameOk s := by
  unfold p_synthesisref11_Name
  rw [pw_inner]
  refine pw_scan (fun i => ∀ h : i < s.length, ¬ badCh i ((s[i].toNat : Nat) : Int)) (fun i hi _ => ?_) (fun hall => ?_)
  · rw [pw_inner]
    refine pw_cut (fun c => c = decide (97 ≤ ((s[i].toNat : Nat) : Int) ∧ ((s[i].toNat : Nat) : Int) ≤ 122 ∨ 65 ≤ ((s[i].toNat : Nat) : Int) ∧ ((s[i].toNat : Nat) : Int) ≤ 90)) ?_ ?_
    · simp only [pw_op, byn_lt hi, Option.some.injEq, exists_eq_left', pw_split, pw_ret, Sum.elim_inl, decide_eq_true_eq, decide_eq_false_iff_not]
      refine ⟨fun h => ⟨fun h1 => ?_, fun h1 => ⟨fun h2 => ?_, fun h2 => ?_⟩⟩, fun h => ⟨fun h2 => ?_, fun h2 => ?_⟩⟩
      · symm; rw [decide_eq_true_eq]; omega
      · rw [decide_eq_decide]; omega
      · symm; rw [decide_eq_false_iff_not]; omega
      · rw [decide_eq_decide]; omega
      · symm; rw [decide_eq_false_iff_not]; omega
    rintro _ rfl
    refine pw_cut (fun c => c = true ↔ badCh i ((s[i].toNat : Nat) : Int)) ?_ ?_
    · simp only [pw_op, byn_lt hi, Option.some.injEq, exists_eq_left', pw_split, pw_ret, Sum.elim_inl, decide_eq_true_eq, decide_eq_false_iff_not, Bool.not_eq_true', Bool.not_eq_false', beq_iff_eq, bne_iff_ne, beq_eq_false_iff_ne, bne_eq_false_iff_eq, ne_eq, Bool.false_eq_true, false_iff, true_iff]
      unfold badCh
      refine ⟨fun h => ⟨fun h1 => ?_, fun h1 => ⟨fun h2 => ⟨fun h3 => ?_, fun h3 => ?_⟩, fun h2 => ?_⟩⟩, fun h => ?_⟩ <;> omega
    · rintro c hc
      simp only [pw_split, pw_ret, Sum.elim_inl, Sum.elim_inr]
      refine ⟨fun h => ?_, fun h => ?_⟩
      · have := hc.1 h
        simp only [Bool.false_eq_true, false_iff]
        exact fun hn => hn.2.2 i hi this
      · intro _ hb
        rw [hc.2 hb] at h; cases h
  · refine pw_cut (fun c => c = true ↔ nameOk s) ?_ (fun c hc => by rw [pw_ret]; exact hc)
    simp only [pw_split, pw_ret, Sum.elim_inl, decide_eq_true_eq, decide_eq_false_iff_not, Bool.false_eq_true, false_iff]
    refine ⟨fun h => ⟨fun h2 => ⟨by omega, by omega, fun i hi => hall i hi hi⟩, fun hn => by have := hn.2.1; omega⟩, fun h hn => by have := hn.1; omega⟩

theorem typed_w (t : Int) : Pw (p_grammar_typed t) fun r => r = decide (1 ≤ t ∧ t ≤ 8) := by
  unfold p_grammar_typed
  simp only [pw_inner, pw_join, pw_split, pw_ret, Sum.elim_inl, decide_eq_true_eq, decide_eq_false_iff_not]
  refine ⟨fun h => ?_, fun h => ?_⟩
  · rw [decide_eq_decide]; omega
  · symm; rw [decide_eq_false_iff_not]; omega
theorem typedR_w (t : Int) : Pw (p_synthesisref11_typed t) fun r => r = decide (1 ≤ t ∧ t ≤ 8) := typed_w t

/-- Lists of numbers. -/
theorem listEq_of {α : Type} {a b : List α} (hl : a.length = b.length) (h : ∀ i (h1 : i < a.length) (h2 : i < b.length), a[i] = b[i]) : a = b :=
  List.ext_getElem hl fun i h1 h2 => h i h1 h2
theorem intsEq_w (a b : List Int) : Pw (p_slices_Equal_int_int a b) fun r => r = true ↔ a = b := by
  unfold p_slices_Equal_int_int
  simp only [G.len_int]
  rw [pw_split, pw_ret]
  simp only [bne_iff_ne, ne_eq, bne_eq_false_iff_eq, Bool.false_eq_true, false_iff]
  refine ⟨fun h e => h (by rw [e]), fun h => ?_⟩
  have hl : a.length = b.length := by omega
  refine pw_scan (fun i => ∀ (h1 : i < a.length) (h2 : i < b.length), a[i] = b[i]) (fun i hi _ => ?_) (fun hall => ?_)
  · have hb : i < b.length := by omega
    simp only [pw_op, List.getElem?_eq_getElem hi, List.getElem?_eq_getElem hb, Option.some.injEq, exists_eq_left', pw_split, pw_ret, Sum.elim_inl, Sum.elim_inr, bne_iff_ne, ne_eq, bne_eq_false_iff_eq, Bool.false_eq_true, false_iff]
    exact ⟨fun h e => h (by subst e; rfl), fun h _ _ => h⟩
  · rw [pw_ret]
    simp only [true_iff]
    exact listEq_of hl fun i h1 h2 => hall i h1 h1 h2
theorem SameInts_w (a b : List Int) : Pw (p_synthesisref11_SameInts a b) fun r => r = true ↔ a = b := by
  unfold p_synthesisref11_SameInts
  simp only [G.len_int]
  rw [pw_split, pw_ret]
  simp only [bne_iff_ne, ne_eq, bne_eq_false_iff_eq, Bool.false_eq_true, false_iff]
  refine ⟨fun h e => h (by rw [e]), fun h => ?_⟩
  have hl : a.length = b.length := by omega
  refine pw_scan (fun i => ∀ (h1 : i < a.length) (h2 : i < b.length), a[i] = b[i]) (fun i hi _ => ?_) (fun hall => ?_)
  · have hb : i < b.length := by omega
    simp only [pw_op, List.getElem?_eq_getElem hi, List.getElem?_eq_getElem hb, Option.some.injEq, exists_eq_left', pw_split, pw_ret, Sum.elim_inl, Sum.elim_inr, bne_iff_ne, ne_eq, bne_eq_false_iff_eq, Bool.false_eq_true, false_iff]
    exact ⟨fun h e => h (by subst e; rfl), fun h _ _ => h⟩
  · rw [pw_ret]
    simp only [true_iff]
    exact listEq_of hl fun i h1 h2 => hall i h1 h1 h2

theorem bl_irr : ∀ a : List UInt8, Op.bytesLess a a = false
  | [] => rfl
  | x :: a => by simp [Op.bytesLess, bl_irr a]

/-- Values whose lists have a length that a machine can hold. -/
inductive Vok : G.api_Value → Prop
  | mk (v : G.api_Value) (hl : v.Items.length ≤ 9223372036854775807) (hs : ∀ x, x ∈ v.Items → Vok x) : Vok v
theorem Vok.len {v : G.api_Value} (h : Vok v) : v.Items.length ≤ 9223372036854775807 := by cases h; assumption
theorem Vok.item {v x : G.api_Value} (h : Vok v) (hx : x ∈ v.Items) : Vok x := by
  cases h with
  | mk v hl hs => exact hs x hx
theorem item_lt {v x : G.api_Value} (h : x ∈ v.Items) : SizeOf.sizeOf x < SizeOf.sizeOf v := by
  cases v with
  | mk t n s l =>
    have := List.sizeOf_lt_of_mem h
    simp only [G.api_Value.mk.sizeOf_spec] at this ⊢
    omega
theorem val_ext {a b : G.api_Value} (h1 : a.Typ = b.Typ) (h2 : a.Num = b.Num) (h3 : a.Text = b.Text) (h4 : a.Items = b.Items) : a = b := by
  cases a; cases b; simp_all

theorem big_pos : 0 < big := by unfold big; exact Nat.two_pow_pos 64
theorem item_lt2 {v x : G.api_Value} (h : x ∈ v.Items) : SizeOf.sizeOf x + 2 ≤ SizeOf.sizeOf v := by
  cases v with
  | mk t n s l =>
    have := List.sizeOf_lt_of_mem h
    simp only [G.api_Value.mk.sizeOf_spec] at this ⊢
    omega
theorem val_sz (v : G.api_Value) : 2 ≤ SizeOf.sizeOf v := by
  cases v with
  | mk t n s l =>
    simp only [G.api_Value.mk.sizeOf_spec]
    cases l <;> simp <;> omega

theorem vcmp_w : ∀ (n : Nat) (a b : G.api_Value), SizeOf.sizeOf a < n → Pw (p_value_Compare n a b) fun r => r = 0 ↔ a = b
  | 0, a, b, h => by omega
  | n + 1, a, b, h => by
    unfold p_value_Compare
    simp only [G.len_api_Value, pw_split (x := Prog.ret _), pw_ret, decide_eq_true_eq, decide_eq_false_iff_not, Bool.not_eq_true', Bool.not_eq_false', Bool.or_eq_true, Bool.or_eq_false_iff, beq_iff_eq, beq_eq_false_iff_ne]
    refine ⟨fun h1 => ⟨fun e => by omega, fun e => by subst e; omega⟩, fun h1 => ⟨fun h2 => ⟨fun e => by omega, fun e => by subst e; omega⟩, fun h2 => ⟨fun h3 => ⟨fun e => by omega, fun e => by subst e; omega⟩, fun h3 => ⟨fun h4 => ⟨fun e => by omega, fun e => by subst e; omega⟩, fun h4 => ⟨fun h5 => ⟨fun e => by omega, fun e => ?_⟩, fun h5 => ⟨fun h6 => ⟨fun e => by omega, fun e => ?_⟩, fun h6 => ?_⟩⟩⟩⟩⟩⟩
    · subst e
      exact absurd h5 (by rw [bl_irr]; simp)
    · subst e; exact absurd rfl h6.2
    have ht : a.Text = b.Text := h6.resolve_left (by rw [h5]; simp)
    refine pw_scan (fun i => ∀ (h1 : i < a.Items.length), ∃ (h2 : i < b.Items.length), a.Items[i] = b.Items[i]) (fun i hi hprev => ?_) (fun hall => ?_)
    · rw [pw_op]
      refine ⟨_, List.getElem?_eq_getElem hi, ?_⟩
      rw [pw_split, pw_ret]
      simp only [beq_iff_eq, beq_eq_false_iff_ne, ne_eq, Sum.elim_inr]
      refine ⟨fun he => ⟨fun e => by omega, fun e => by rw [e] at hi; omega⟩, fun he => ?_⟩
      have hb : i < b.Items.length := by
        by_cases h0 : i = 0
        · omega
        · obtain ⟨hb, _⟩ := hprev (i - 1) (by omega) (by omega)
          omega
      rw [pw_op]
      refine ⟨_, List.getElem?_eq_getElem hb, ?_⟩
      refine pw_call _ (vcmp_w n a.Items[i] b.Items[i] (by have := item_lt (List.getElem_mem hi); omega)) (fun r hr => ?_)
      simp only [pw_split, pw_ret, bne_iff_ne, ne_eq, bne_eq_false_iff_eq, Sum.elim_inl, Sum.elim_inr]
      refine ⟨fun h0 => ⟨fun e => absurd e h0, fun e => ?_⟩, fun h0 _ => ⟨hb, hr.1 h0⟩⟩
      subst e; exact absurd (hr.2 rfl) h0
    · have hle : a.Items.length ≤ b.Items.length := by
        by_cases h0 : a.Items.length = 0
        · omega
        · obtain ⟨hb, _⟩ := hall (a.Items.length - 1) (by omega) (by omega)
          omega
      simp only [pw_split, pw_ret, decide_eq_true_eq, decide_eq_false_iff_not]
      refine ⟨fun hlt => ⟨fun e => by omega, fun e => by subst e; omega⟩, fun hlt => ?_⟩
      simp only [true_iff]
      refine val_ext (by omega) (by omega) ht (listEq_of (by omega) fun i h1 h2 => ?_)
      obtain ⟨_, he⟩ := hall i h1 h1
      exact he
theorem Equal_w (a b : G.api_Value) : Pw (p_value_Equal a b) fun r => r = true ↔ a = b := by
  unfold p_value_Equal f_value_Compare
  refine pw_call _ (vcmp_w _ a b (by have := big_pos; omega)) fun r hr => ?_
  rw [pw_ret, beq_iff_eq]; exact hr

theorem sign_w (c : Bool) : Pw (p_synthesisref01_sign c) fun r => r ≠ 0 := by
  unfold p_synthesisref01_sign
  simp only [pw_split, pw_ret]
  exact ⟨fun _ => by omega, fun _ => by omega⟩

theorem cmpR_w : ∀ (n : Nat), (∀ (a b : G.api_Value), Vok a → SizeOf.sizeOf a < n → Pw (p_synthesisref01_Compare n a b) fun r => r = 0 ↔ a = b) ∧
    ∀ (a b : List G.api_Value), 1 ≤ n → a.length ≤ 9223372036854775807 → (∀ x ∈ a, Vok x ∧ SizeOf.sizeOf x + 1 < n) → Pw (p_synthesisref01_CompareAll n a b) fun r => r = 0 ↔ a = b
  | 0 => ⟨fun a b _ h => by omega, fun a b h => by omega⟩
  | n + 1 => by
    obtain ⟨ih1, ih2⟩ := cmpR_w n
    constructor
    · intro a b hv h
      unfold p_synthesisref01_Compare f_synthesisref01_sign
      rw [pw_split, pw_split, pw_split]
      simp only [bne_iff_ne, ne_eq, bne_eq_false_iff_eq, Bool.not_eq_true', Bool.not_eq_false', beq_iff_eq, beq_eq_false_iff_ne]
      refine ⟨fun e => pw_call _ (sign_w _) fun r hr => pw_ret.2 ⟨fun h => absurd h hr, fun h => absurd (by rw [h]) e⟩, fun e1 => ⟨fun e => pw_call _ (sign_w _) fun r hr => pw_ret.2 ⟨fun h => absurd h hr, fun h => absurd (by rw [h]) e⟩, fun e2 => ⟨fun e => pw_call _ (sign_w _) fun r hr => pw_ret.2 ⟨fun h => absurd h hr, fun h => absurd (by rw [h]) e⟩, fun e3 => ?_⟩⟩⟩
      have h2 := val_sz a
      refine pw_call _ (ih2 a.Items b.Items (by omega) hv.len fun x hx => ⟨hv.item hx, by have := item_lt2 hx; omega⟩) fun r hr => pw_ret.2 ?_
      rw [hr]
      exact ⟨fun e => val_ext e1 e2 e3 e, fun e => by rw [e]⟩
    · intro a b _ hl hx
      unfold p_synthesisref01_CompareAll f_synthesisref01_sign
      simp only [G.len_api_Value]
      rw [pw_inner]
      refine pw_scanL (n := min a.length b.length) (by omega) (fun i => ∀ (h1 : i < a.length) (h2 : i < b.length), a[i] = b[i]) (fun i hi _ => ?_) ?_ (fun hall => ?_)
      · rw [pw_inner]
        have ha : i < a.length := by omega
        have hb : i < b.length := by omega
        refine pw_cut (fun c => c = true) ?_ ?_
        · simp only [pw_split, pw_ret, Sum.elim_inl, decide_eq_true_eq, decide_eq_false_iff_not]
          exact ⟨fun _ => by omega, fun h => by omega⟩
        rintro _ rfl
        rw [pw_split]
        refine ⟨fun _ => ?_, fun h => by cases h⟩
        rw [pw_op]
        refine ⟨_, at_nat_lt ha, ?_⟩
        rw [pw_op]
        refine ⟨_, at_nat_lt hb, ?_⟩
        refine pw_call _ (ih1 a[i] b[i] (hx _ (List.getElem_mem ha)).1 (by have := (hx _ (List.getElem_mem ha)).2; omega)) fun r hr => ?_
        simp only [pw_split, pw_ret, bne_iff_ne, ne_eq, bne_eq_false_iff_eq, Sum.elim_inl, Sum.elim_inr]
        refine ⟨fun h0 => ⟨fun e => absurd e h0, fun e => ?_⟩, fun h0 => ⟨trivial, fun _ _ => hr.1 h0⟩⟩
        subst e; exact absurd (hr.2 rfl) h0
      · rw [pw_inner]
        refine pw_cut (fun c => c = false) ?_ ?_
        · simp only [pw_split, pw_ret, Sum.elim_inl, decide_eq_true_eq, decide_eq_false_iff_not]
          exact ⟨fun _ => by omega, fun h => trivial⟩
        rintro _ rfl
        rw [pw_split]
        refine ⟨fun h => (by cases h), fun _ => ?_⟩
        rw [pw_ret]; trivial
      · rw [pw_split, pw_ret]
        simp only [beq_iff_eq, beq_eq_false_iff_ne, ne_eq, true_iff]
        refine ⟨fun e => listEq_of (by omega) fun i h1 h2 => hall i (by omega) h1 h2, fun e => pw_call _ (sign_w _) fun r hr => pw_ret.2 ⟨fun h => absurd h hr, fun h => absurd (by rw [h]) e⟩⟩
theorem EqualR_w (a b : G.api_Value) (ha : Vok a) : Pw (p_synthesisref01_Equal a b) fun r => r = true ↔ a = b := by
  unfold p_synthesisref01_Equal f_synthesisref01_Compare
  refine pw_call _ ((cmpR_w _).1 a b ha (by have := big_pos; omega)) fun r hr => ?_
  rw [pw_ret, beq_iff_eq]; exact hr

/-- Rules. -/
theorem rule_ext {a b : G.api_Rule} (h1 : a.Symbol = b.Symbol) (h2 : a.Kind = b.Kind) (h3 : a.Input = b.Input) (h4 : a.Const = b.Const) (h5 : a.Op = b.Op) (h6 : a.Args = b.Args) : a = b := by
  cases a; cases b; simp_all
theorem sameRule_w (a b : G.api_Rule) : Pw (p_grammar_sameRule a b) fun r => r = true ↔ a = b := by
  unfold p_grammar_sameRule f_slices_Equal_int_int f_value_Equal
  rw [pw_inner]
  refine pw_cut (fun r => r = true ↔ a = b) ?_ (fun r hr => pw_ret.2 hr)
  simp only [pw_split (y := Prog.ret _), pw_ret, Sum.elim_inl, beq_iff_eq, beq_eq_false_iff_ne, ne_eq, Bool.false_eq_true, false_iff]
  refine ⟨fun h1 => ⟨fun h2 => ⟨fun h3 => ⟨fun h4 => ?_, fun h e => h (by rw [e])⟩, fun h e => h (by rw [e])⟩, fun h e => h (by rw [e])⟩, fun h e => h (by rw [e])⟩
  refine pw_call _ (intsEq_w _ _) fun r hr => ?_
  simp only [pw_split, pw_ret, Sum.elim_inl, Bool.false_eq_true, false_iff]
  refine ⟨fun h5 => pw_call _ (Equal_w _ _) fun q hq => ?_, fun h e => ?_⟩
  · rw [pw_ret]
    simp only [Sum.elim_inl]
    rw [hq]
    exact ⟨fun h6 => rule_ext h1 h2 h3 h6 h4 (hr.1 h5), fun e => by rw [e]⟩
  · rw [hr.2 (by rw [e])] at h; cases h
theorem SameRule_w (a b : G.api_Rule) (ha : Vok a.Const) : Pw (p_synthesisref11_SameRule a b) fun r => r = true ↔ a = b := by
  unfold p_synthesisref11_SameRule f_synthesisref11_SameInts f_synthesisref01_Equal
  rw [pw_inner]
  refine pw_cut (fun r => r = true ↔ a = b) ?_ (fun r hr => pw_ret.2 hr)
  simp only [pw_split (y := Prog.ret _), pw_ret, Sum.elim_inl, beq_iff_eq, beq_eq_false_iff_ne, ne_eq, Bool.false_eq_true, false_iff]
  refine ⟨fun h1 => ⟨fun h2 => ⟨fun h3 => ⟨fun h4 => ?_, fun h e => h (by rw [e])⟩, fun h e => h (by rw [e])⟩, fun h e => h (by rw [e])⟩, fun h e => h (by rw [e])⟩
  refine pw_call _ (SameInts_w _ _) fun r hr => ?_
  simp only [pw_split, pw_ret, Sum.elim_inl, Bool.false_eq_true, false_iff]
  refine ⟨fun h5 => pw_call _ (EqualR_w _ _ ha) fun q hq => ?_, fun h e => ?_⟩
  · rw [pw_ret]
    simp only [Sum.elim_inl]
    rw [hq]
    exact ⟨fun h6 => rule_ext h1 h2 h3 h6 h4 (hr.1 h5), fun e => by rw [e]⟩
  · rw [hr.2 (by rw [e])] at h; cases h

end Go.Proofs.Ytikgppgpailmcaa
