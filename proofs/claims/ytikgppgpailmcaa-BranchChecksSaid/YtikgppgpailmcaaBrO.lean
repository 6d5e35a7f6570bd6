/-
  The operators' tables: the program's and the specification's are the same.
-/
import Derived.Test.YtikgppgpailmcaaBrV2
import Derived.KernelRfl
namespace Go.Proofs.Ytikgppgpailmcaa
open Go.AL

/-- The program's catalog. -/
noncomputable def CAT : List G.operator_entry := f_operator_catalog.getD []
theorem cat_some : f_operator_catalog.isSome = true := by kernel_rfl
theorem cat_eq : f_operator_catalog = some CAT := by
  unfold CAT
  cases h : f_operator_catalog with
  | none => have := cat_some; rw [h] at this; cases this
  | some l => rfl
noncomputable def TAB : List (List UInt8 × List Int × Int) := CAT.map fun e => (e.Operator.Name, e.Operator.Args, e.Operator.Result)
/-- The signature of an operator. -/
noncomputable def opS (name : List UInt8) : Option (List UInt8 × List Int × Int) := TAB.find? fun e => e.1 == name
/-- What a search for an operator has to give. -/
def OpOk (name : List UInt8) (r : G.api_Operator × Bool) : Prop :=
  match opS name with
  | some e => r.2 = true ∧ r.1.Args = e.2.1 ∧ r.1.Result = e.2.2
  | none => r.2 = false

theorem find_first {α : Type} {p : α → Bool} : ∀ {l : List α} {i : Nat} (h : i < l.length), (∀ j (hj : j < l.length), j < i → p l[j] = false) → p l[i] = true → l.find? p = some l[i]
  | [], i, h, _, _ => by simp at h
  | x :: r, 0, _, _, h0 => by simp only [List.getElem_cons_zero] at h0 ⊢; rw [List.find?_cons, h0]
  | x :: r, i + 1, h, hj, h0 => by
    have h1 := hj 0 (by simp) (by omega)
    simp only [List.getElem_cons_zero] at h1
    rw [List.find?_cons, h1]
    simp only [List.getElem_cons_succ] at h0 ⊢
    exact find_first (by simpa using h) (fun j h2 h3 => by have := hj (j + 1) (by simpa using h2) (by omega); simpa using this) h0

theorem find_w (name : List UInt8) : Pw (p_operator_find name) fun r => OpOk name (r.1.Operator, r.2) := by
  unfold p_operator_find
  rw [pw_inner, pw_join, pw_op]
  refine ⟨_, cat_eq, ?_⟩
  rw [← pw_join (l := []) (A := fun _ => ([], [])) (k := fun _ => .ret ((⟨(⟨[], [], 0⟩ : G.api_Operator), []⟩ : G.operator_entry), false))]
  simp only [G.len_operator_entry]
  have key : ∀ i (h : i < CAT.length), (TAB[i]'(by unfold TAB; simpa using h)) = (CAT[i].Operator.Name, CAT[i].Operator.Args, CAT[i].Operator.Result) := fun i h => by simp [TAB]
  have hlen : TAB.length = CAT.length := by simp [TAB]
  refine pw_scan (fun i => ∀ h : i < CAT.length, (CAT[i].Operator.Name == name) = false) (fun i hi hprev => ?_) (fun hall => ?_)
  · rw [pw_op]
    refine ⟨_, List.getElem?_eq_getElem hi, ?_⟩
    simp only [pw_split, pw_ret, Sum.elim_inl, Sum.elim_inr]
    refine ⟨fun h => ?_, fun h _ => h⟩
    have := find_first (l := TAB) (p := fun e => e.1 == name) (i := i) (by omega) (fun j hj hji => by rw [key j (by omega)]; exact hprev j hji (by omega)) (by rw [key i hi]; exact h)
    unfold OpOk opS
    rw [this, key i hi]
    exact ⟨rfl, rfl, rfl⟩
  · rw [pw_ret]
    have : TAB.find? (fun e => e.1 == name) = none := by
      rw [List.find?_eq_none]
      intro e he
      obtain ⟨i, hi, rfl⟩ := List.getElem_of_mem he
      rw [key i (by omega), hall i (by omega) (by omega)]
      simp
    unfold OpOk opS
    rw [this]
theorem Find_w (name : List UInt8) : Pw (p_operator_Find name) fun r => OpOk name r := by
  unfold p_operator_Find f_operator_find
  exact pw_call _ (find_w name) fun r hr => pw_ret.2 hr

/-- The specification's letters. -/
def letS (c : Int) : Int :=
  if c = 66 then 1 else if c = 73 then 2 else if c = 84 then 3 else if c = 86 then 4 else if c = 76 then 5 else if c = 83 then 6 else if c = 77 then 7 else if c = 80 then 8 else 0
theorem letter_w (c : Int) : Pw (p_synthesisref09_letter c) fun r => r = letS c := by
  unfold p_synthesisref09_letter
  rw [pw_inner, pw_inner]
  refine pw_scan (fun i => ∀ h : i < 8, c ≠ (([66, 73, 84, 86, 76, 83, 77, 80] : List Int)[i]'(by simpa using h))) (fun i hi hprev => ?_) (fun hall => ?_)
  · have hi8 : i < 8 := by simpa using hi
    have hb : byn [66, 73, 84, 86, 76, 83, 77, 80] i = some (([66, 73, 84, 86, 76, 83, 77, 80] : List Int)[i]'(by simpa using hi)) := by
      have : i = 0 ∨ i = 1 ∨ i = 2 ∨ i = 3 ∨ i = 4 ∨ i = 5 ∨ i = 6 ∨ i = 7 := by omega
      rcases this with rfl | rfl | rfl | rfl | rfl | rfl | rfl | rfl <;> rfl
    rw [pw_op]
    refine ⟨_, hb, ?_⟩
    simp only [pw_split, pw_ret, Sum.elim_inl, Sum.elim_inr, beq_iff_eq, beq_eq_false_iff_ne, ne_eq]
    refine ⟨fun h => ?_, fun h _ e => h e.symm⟩
    have hw : IntKind.wrap .i64 ((i : Int) + 1) = (i : Int) + 1 := w64 (by omega) (by omega)
    rw [hw]
    have : i = 0 ∨ i = 1 ∨ i = 2 ∨ i = 3 ∨ i = 4 ∨ i = 5 ∨ i = 6 ∨ i = 7 := by omega
    rcases this with rfl | rfl | rfl | rfl | rfl | rfl | rfl | rfl <;> simp only [List.getElem_cons_zero, List.getElem_cons_succ] at h <;> subst h <;> rfl
  · rw [pw_ret]
    have a0 := hall 0 (by simp) (by omega)
    have a1 := hall 1 (by simp) (by omega)
    have a2 := hall 2 (by simp) (by omega)
    have a3 := hall 3 (by simp) (by omega)
    have a4 := hall 4 (by simp) (by omega)
    have a5 := hall 5 (by simp) (by omega)
    have a6 := hall 6 (by simp) (by omega)
    have a7 := hall 7 (by simp) (by omega)
    simp only [List.getElem_cons_zero, List.getElem_cons_succ] at a0 a1 a2 a3 a4 a5 a6 a7
    unfold letS
    rw [if_neg a0, if_neg a1, if_neg a2, if_neg a3, if_neg a4, if_neg a5, if_neg a6, if_neg a7]

noncomputable def catR (f : List UInt8) : List G.A3_str := (f_synthesisref09_catalog f).getD []
theorem catR_eq (f : List UInt8) : f_synthesisref09_catalog f = some (catR f) := by
  have : (f_synthesisref09_catalog f).isSome = true := by
    unfold f_synthesisref09_catalog p_synthesisref09_catalog
    simp only [eval_split, eval_ret]
    repeat' split
    all_goals rfl
  unfold catR
  cases h : f_synthesisref09_catalog f with
  | none => rw [h] at this; cases this
  | some l => rfl
noncomputable def FAMS : List (List UInt8) := f_synthesisref09_families.getD []
theorem fams_eq : f_synthesisref09_families = some FAMS := rfl
def convS (x : G.A3_str) : List UInt8 × List Int × Int := (x.x0, x.x1.map (fun c => letS ((c.toNat : Nat) : Int)), letS (((x.x2.headD 0).toNat : Nat) : Int))
theorem tab_eq : TAB = FAMS.flatMap fun f => (catR f).map convS := by kernel_rfl
theorem rows_ok : (FAMS.all fun f => !f.isEmpty && (catR f).all fun x => !x.x2.isEmpty && decide (x.x1.length ≤ 3)) = true := by kernel_rfl

theorem pw_jop {σ τ α : Type} {l : List Nat} {A : σ → List (Nat × D) × List Ob} {κ : Ky} {m : Option α} {e : α → D} {q : α → Prog (σ ⊕ τ)} {k : σ → Prog τ} {Q : τ → Prop} {a : α} (hm : m = some a) (h : Pw (.join l A (q a) k) Q) : Pw (.join l A (.op κ m e q) k) Q := by
  rw [pw_join] at h ⊢
  exact pw_op.2 ⟨a, hm, h⟩

/-- Where an operator stands. -/
def FamOk (name r : List UInt8) : Prop :=
  (r = [] ∧ ∀ f ∈ FAMS, ∀ x ∈ catR f, (x.x0 == name) = false) ∨
  ∃ (i : Nat) (h : i < FAMS.length), FAMS[i] = r ∧ (∀ (j : Nat) (hj : j < FAMS.length), j < i → ∀ x ∈ catR FAMS[j], (x.x0 == name) = false) ∧ ∃ x ∈ catR r, (x.x0 == name) = true
theorem Family_w (name : List UInt8) : Pw (p_synthesisref09_Family name) fun r => FamOk name r := by
  unfold p_synthesisref09_Family
  rw [pw_inner]
  refine pw_jop fams_eq ?_
  simp only [G.len_str]
  refine pw_scan (fun i => ∀ h : i < FAMS.length, ∀ x ∈ catR FAMS[i], (x.x0 == name) = false) (fun i hi hprev => ?_) (fun hall => ?_)
  · refine pw_jop (List.getElem?_eq_getElem hi) ?_
    refine pw_jop (catR_eq _) ?_
    simp only [G.len_A3_str]
    refine pw_scan (fun k => ∀ h : k < (catR FAMS[i]).length, ((catR FAMS[i])[k].x0 == name) = false) (fun k hk _ => ?_) (fun hall => ?_)
    · rw [pw_op]
      refine ⟨_, List.getElem?_eq_getElem hk, ?_⟩
      simp only [pw_split, pw_ret, Sum.elim_inl, Sum.elim_inr]
      exact ⟨fun h => .inr ⟨i, hi, rfl, fun j hj hji => hprev j hji hj, _, List.getElem_mem hk, h⟩, fun h _ => h⟩
    · rw [pw_ret]
      intro _ x hx
      obtain ⟨k, hk, rfl⟩ := List.getElem_of_mem hx
      exact hall k hk hk
  · rw [pw_ret]
    refine .inl ⟨rfl, fun f hf x hx => ?_⟩
    obtain ⟨i, hi, rfl⟩ := List.getElem_of_mem hf
    exact hall i hi hi x hx

theorem conv_name (x : G.A3_str) : (convS x).1 = x.x0 := rfl
theorem fs_first {α β : Type} {g : α → Option β} {b : β} : ∀ {l : List α} {i : Nat} (h : i < l.length), (∀ j (hj : j < l.length), j < i → g l[j] = none) → g l[i] = some b → l.findSome? g = some b
  | [], i, h, _, _ => by simp at h
  | x :: r, 0, _, _, h0 => by simp only [List.getElem_cons_zero] at h0; rw [List.findSome?_cons, h0]
  | x :: r, i + 1, h, hj, h0 => by
    have h1 := hj 0 (by simp) (by omega)
    simp only [List.getElem_cons_zero] at h1
    rw [List.findSome?_cons, h1]
    simp only [List.getElem_cons_succ] at h0
    exact fs_first (by simpa using h) (fun j h2 h3 => by have := hj (j + 1) (by simpa using h2) (by omega); simpa using this) h0
theorem opS_none {name : List UInt8} (h : ∀ f ∈ FAMS, ∀ x ∈ catR f, (x.x0 == name) = false) : opS name = none := by
  unfold opS
  rw [tab_eq, List.find?_eq_none]
  intro e he
  obtain ⟨f, hf, he⟩ := List.mem_flatMap.1 he
  obtain ⟨x, hx, rfl⟩ := List.mem_map.1 he
  rw [conv_name, h f hf x hx]; simp
theorem opS_some {name : List UInt8} {i k : Nat} (hi : i < FAMS.length) (hprev : ∀ (j : Nat) (hj : j < FAMS.length), j < i → ∀ x ∈ catR FAMS[j], (x.x0 == name) = false) (hk : k < (catR FAMS[i]).length)
    (hp : ∀ q (hq : q < (catR FAMS[i]).length), q < k → ((catR FAMS[i])[q].x0 == name) = false) (h : ((catR FAMS[i])[k].x0 == name) = true) : opS name = some (convS (catR FAMS[i])[k]) := by
  unfold opS
  rw [tab_eq, List.find?_flatMap]
  refine fs_first hi (fun j hj hji => ?_) ?_
  · rw [List.find?_eq_none]
    intro e he
    obtain ⟨x, hx, rfl⟩ := List.mem_map.1 he
    rw [conv_name, hprev j hj hji x hx]; simp
  · have := find_first (l := (catR FAMS[i]).map convS) (p := fun e => e.1 == name) (i := k) (by simpa using hk) (fun q hq hqk => by rw [List.getElem_map, conv_name]; exact hp q (by simpa using hq) hqk) (by rw [List.getElem_map, conv_name]; exact h)
    rw [this, List.getElem_map]

theorem FindR_w (name : List UInt8) : Pw (p_synthesisref09_Find name) fun r => OpOk name r := by
  unfold p_synthesisref09_Find f_synthesisref09_Family f_synthesisref09_letter
  refine pw_call _ (Family_w name) fun r hr => ?_
  rw [pw_split, pw_ret]
  simp only [beq_iff_eq, beq_eq_false_iff_ne, ne_eq]
  have hrows := rows_ok
  simp only [List.all_eq_true, Bool.and_eq_true, Bool.not_eq_true', decide_eq_true_eq, List.isEmpty_eq_false_iff] at hrows
  refine ⟨fun e => ?_, fun e => ?_⟩
  · rcases hr with ⟨_, h⟩ | ⟨i, hi, rfl, _⟩
    · unfold OpOk; rw [opS_none h]
    · exact absurd e (hrows _ (List.getElem_mem hi)).1
  rcases hr with ⟨h, _⟩ | ⟨i, hi, rfl, hprev, x0, hx0, hx0n⟩
  · exact absurd h e
  refine pw_jop (catR_eq _) ?_
  simp only [G.len_A3_str]
  refine pw_scan (fun k => ∀ h : k < (catR FAMS[i]).length, ((catR FAMS[i])[k].x0 == name) = false) (fun k hk hkp => ?_) (fun hall => ?_)
  · refine pw_jop (List.getElem?_eq_getElem hk) ?_
    obtain ⟨hx2, hx1⟩ := (hrows _ (List.getElem_mem hi)).2 _ (List.getElem_mem hk)
    have hS := fun h => opS_some hi hprev hk (fun q hq hqk => hkp q hqk hq) h
    generalize hgx : (catR FAMS[i])[k] = x at hS hx2 hx1
    rw [pw_join, pw_split, pw_ret]
    refine ⟨fun h => ?_, fun h => by rw [Sum.elim_inl, pw_ret]; intro _; rw [hgx]; exact h⟩
    have hS := hS h
    obtain ⟨c, q, hc⟩ : ∃ c q, x.x2 = c :: q := by
      cases hh : x.x2 with
      | nil => exact absurd hh hx2
      | cons c q => exact ⟨c, q, rfl⟩
    rw [pw_op]
    refine ⟨((c.toNat : Nat) : Int), by rw [hc]; rfl, ?_⟩
    refine pw_call _ (letter_w _) fun r9 hr9 => ?_
    refine pw_cut (fun l => l = x.x1.map (fun c => letS ((c.toNat : Nat) : Int))) ?_ (fun l hl => ?_)
    · refine pw_loop (fun st => ∃ n : Nat, n ≤ x.x1.length ∧ st = ((n : Int), (x.x1.take n).map (fun c => letS ((c.toNat : Nat) : Int)))) (fun st => x.x1.length - st.1.toNat) ⟨0, by omega, by simp⟩ (by omega) ?_
      rintro _ ⟨n, hn, rfl⟩
      rw [pw_split]
      simp only [decide_eq_true_eq, decide_eq_false_iff_not]
      refine ⟨fun hlt => ?_, fun hge => ?_⟩
      · have hlt' : n < x.x1.length := by omega
        rw [pw_op]
        refine ⟨((x.x1[n].toNat : Nat) : Int), by unfold by_; rw [at_nat_lt hlt']; rfl, ?_⟩
        refine pw_call _ (letter_w _) fun r13 hr13 => ?_
        rw [pw_op]
        refine ⟨_, appM_lt (by simp only [List.length_map, List.length_take, List.length_cons, List.length_nil]; omega), ?_⟩
        rw [pw_ret]
        have hw : IntKind.wrap .i64 ((n : Int) + 1) = ((n + 1 : Nat) : Int) := by rw [w64 (by omega) (by omega)]; omega
        refine ⟨⟨n + 1, by omega, ?_⟩, ?_⟩
        · show (IntKind.wrap .i64 ((n : Int) + 1), _ ++ [r13]) = _
          rw [hw, hr13, List.take_succ_eq_append_getElem hlt', List.map_append]; rfl
        · show x.x1.length - (IntKind.wrap .i64 ((n : Int) + 1)).toNat < x.x1.length - (n : Int).toNat
          rw [hw]; omega
      · have : n = x.x1.length := by omega
        subst this
        rw [pw_ret]
        show (x.x1.take x.x1.length).map _ = _
        rw [List.take_length]
    · rw [pw_ret]
      show OpOk name _
      unfold OpOk
      rw [hS]
      refine ⟨rfl, hl, ?_⟩
      show r9 = letS ((((x.x2).headD 0).toNat : Nat) : Int)
      rw [hr9, hc]; rfl
  · exfalso
    obtain ⟨k, hk, rfl⟩ := List.getElem_of_mem hx0
    rw [hall k hk hk] at hx0n; cases hx0n

end Go.Proofs.Ytikgppgpailmcaa
