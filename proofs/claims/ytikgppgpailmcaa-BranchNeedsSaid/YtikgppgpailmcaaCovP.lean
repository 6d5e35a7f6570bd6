/-
  What the programs of the covers compute.
-/
import Derived.Test.YtikgppgpailmcaaAlWp
import Derived.Test.YtikgppgpailmcaaCovS
import Derived.Test.YtikgppgpailmcaaGfn
namespace Go.Proofs.Ytikgppgpailmcaa
open Go.AL Go.Cov

theorem order_w (a b : Int) : Pw (p_synthesisref13_order a b) fun r => r = sgn a b := by
  unfold p_synthesisref13_order sgn
  simp only [pw_split, pw_ret, decide_eq_true_eq, decide_eq_false_iff_not]
  refine ⟨fun h => by rw [if_pos h], fun h => ⟨fun h2 => by rw [if_neg h, if_pos (by omega)], fun h2 => by rw [if_neg h, if_neg (by omega)]⟩⟩

theorem cmp_w (a b : List Int) (ha : a.length < 9223372036854775808) : Pw (p_synthesisref13_CompareInts a b) fun r => r = cmpI a b := by
  unfold p_synthesisref13_CompareInts
  rw [pw_inner]
  refine pw_cut (fun _ => cmpI a b = sgn a.length b.length) ?_ fun _ h => ?_
  · refine pw_loop (fun st => ∃ i : Nat, st = i ∧ i ≤ a.length ∧ i ≤ b.length ∧ cmpI a b = cmpI (a.drop i) (b.drop i)) (fun st => a.length - st.toNat) ⟨0, rfl, Nat.zero_le _, Nat.zero_le _, rfl⟩ (by omega) ?_
    rintro _ ⟨i, rfl, hi1, hi2, hc⟩
    rw [pw_inner]
    refine pw_cut (fun c => c = decide (i < a.length ∧ i < b.length)) ?_ ?_
    · simp only [pw_split, pw_ret, G.len_int, Sum.elim_inl, decide_eq_true_eq, decide_eq_false_iff_not]
      refine ⟨fun h => ?_, fun h => ?_⟩
      · have : i < a.length := by omega
        simp [this]
      · have : ¬ i < a.length := by omega
        simp [this]
    · rintro _ rfl
      simp only [pw_split, pw_op, pw_ret, Sum.elim_inl, Sum.elim_inr, decide_eq_true_eq, decide_eq_false_iff_not, at_nat]
      refine ⟨fun ⟨h1, h2⟩ => ?_, fun h => ?_⟩
      · have hd := cmpI_drop a b i h1 h2
        refine ⟨_, List.getElem?_eq_getElem h1, _, List.getElem?_eq_getElem h2, fun h => by rw [hc, hd, if_pos h], fun h => ⟨_, rfl, _, rfl, fun h3 => by rw [hc, hd, if_neg h, if_pos (by omega)], fun h3 => ⟨⟨i + 1, ?_, h1, h2, by rw [hc, hd, if_neg h, if_neg (by omega)]⟩, ?_⟩⟩⟩
        · rw [w64 (by omega) (by omega)]; omega
        · rw [w64 (by omega) (by omega)]; omega
      · rw [hc, cmpI_end a b i hi1 hi2 h]
  · refine pw_call (fun r => r = sgn a.length b.length) ?_ ?_
    · rw [G.len_int, G.len_int]; exact order_w _ _
    · rintro _ rfl
      rw [pw_ret, h]

theorem sets_w (l : List (List Bool)) (n : Int) : Pw (p_synthesislaw33_sets l n) fun r => r = true → (l.length ≤ 12 ∨ (64 < l.length ∧ l.length ≤ 70)) ∧ (n ≤ 6 ∨ 16 < n) := by
  unfold p_synthesislaw33_sets
  rw [pw_inner, pw_inner]
  refine pw_cut (fun c => c = false → (l.length ≤ 12 ∨ (64 < l.length ∧ l.length ≤ 70))) ?_ fun c hc => ?_
  · simp only [pw_split, pw_ret, G.len_L_bool, Sum.elim_inl, decide_eq_true_eq, decide_eq_false_iff_not]
    refine ⟨fun _ h => (by cases h), fun h => ⟨fun h1 h2 => by omega, fun h1 _ => by omega⟩⟩
  · simp only [pw_split, pw_ret]
    refine ⟨fun _ h => (by cases h), fun h => ?_⟩
    refine pw_cut (fun _ => True) ?_ fun _ _ => ?_
    · refine pw_rng (fun _ _ => True) trivial (fun i s hi _ => ?_) fun _ _ => trivial
      rw [G.len_L_bool] at hi
      simp only [pw_op, pw_split, pw_ret, Sum.elim_inl, Sum.elim_inr]
      exact ⟨_, List.getElem?_eq_getElem hi, fun _ h => (by cases h), fun _ => trivial⟩
    · simp only [pw_join, pw_split, pw_ret, Sum.elim_inl, decide_eq_true_eq]
      exact ⟨fun h1 _ => ⟨hc h, .inl h1⟩, fun _ h2 => ⟨hc h, .inr (by omega)⟩⟩

theorem covers_w (l : List (List Bool)) (n : Nat) (hn : n ≤ 16) (hl : l.length ≤ 64) (hln : ∀ s ∈ l, s.length = n) : ∀ (F i0 m k : Nat), l.length - i0 < F → i0 ≤ l.length → m < 2 ^ n → k ≤ 16 →
    Pw (p_synthesisref33_covers F l (openOf n m) i0 k) fun r => r = resC (cv (2 ^ n - 1) ((msk l).drop i0) i0 m k) := by
  intro F
  induction F with
  | zero => intro i0 m k h; omega
  | succ F ih =>
    intro i0 m k hF hi0 hm hk
    rw [p_synthesisref33_covers, pw_inner, pw_inner]
    have hlen := openOf_length n m
    refine pw_cut (fun st => ∃ j : Nat, st = j ∧ j ≤ n ∧ (∀ j', j' < j → m.testBit j' = true) ∧ (j < n → m.testBit j = false)) ?_ ?_
    · refine pw_loop (fun st => ∃ j : Nat, st = j ∧ j ≤ n ∧ ∀ j', j' < j → m.testBit j' = true) (fun st => n - st.toNat) ⟨0, rfl, Nat.zero_le _, fun _ h => absurd h (by omega)⟩ (by omega) ?_
      rintro _ ⟨j, rfl, hj, hall⟩
      rw [pw_inner]
      refine pw_cut (fun c => c = (decide (j < n) && m.testBit j)) ?_ ?_
      · simp only [pw_split, pw_op, pw_ret, G.len_bool, hlen, Sum.elim_inl, decide_eq_true_eq, decide_eq_false_iff_not, at_nat]
        refine ⟨fun h => ⟨_, openOf_get n m j (by omega), ?_⟩, fun h => ?_⟩
        · simp [show j < n by omega]
        · simp [show ¬ j < n by omega]
      · rintro _ rfl
        simp only [pw_split, pw_ret, Sum.elim_inl, Sum.elim_inr, Bool.and_eq_true, decide_eq_true_eq, Bool.and_eq_false_iff, decide_eq_false_iff_not]
        refine ⟨fun ⟨h1, h2⟩ => ⟨⟨j + 1, ?_, h1, fun j' hj' => ?_⟩, ?_⟩, fun h => ⟨j, rfl, hj, hall, fun hjn => ?_⟩⟩
        · rw [w64 (by omega) (by omega)]; omega
        · by_cases e : j' = j
          · subst e; exact h2
          · exact hall j' (by omega)
        · rw [w64 (by omega) (by omega)]; omega
        · rcases h with h | h
          · exact absurd hjn h
          · exact h
    · rintro _ ⟨j, rfl, hj, hall, hnot⟩
      rw [pw_split, pw_ret]
      simp only [G.len_bool, hlen, beq_iff_eq, beq_eq_false_iff_ne, ne_eq]
      refine ⟨fun h => ?_, fun h => ?_⟩
      · have hjn : j = n := by omega
        subst hjn
        rw [full_of j m hm hall, cv_full]; rfl
      · have hjn : j < n := by omega
        have hnf := not_full n m j hjn (hnot hjn)
        rw [pw_split, pw_ret]
        simp only [beq_iff_eq, beq_eq_false_iff_ne, ne_eq]
        refine ⟨fun h => ?_, fun h => ?_⟩
        · have hk0 : k = 0 := by omega
          subst hk0
          rw [cv_zero _ _ _ _ hnf]; rfl
        · have hk0 : k ≠ 0 := by omega
          refine pw_cut (fun _ => cv (2 ^ n - 1) ((msk l).drop i0) i0 m k = none) ?_ fun _ h => by rw [pw_ret, h]; rfl
          refine pw_loop (fun st => ∃ i : Nat, st = i ∧ i0 ≤ i ∧ i ≤ l.length ∧ cv (2 ^ n - 1) ((msk l).drop i0) i0 m k = cv (2 ^ n - 1) ((msk l).drop i) i m k) (fun st => l.length - st.toNat) ⟨i0, rfl, Nat.le_refl _, hi0, rfl⟩ (by omega) ?_
          rintro _ ⟨i, rfl, hi1, hi2, hcv⟩
          rw [pw_split, G.len_L_bool, pw_ret]
          simp only [decide_eq_true_eq, decide_eq_false_iff_not]
          refine ⟨fun hil' => ?_, fun hil' => ?_⟩
          · have hil : i < l.length := by omega
            have hsl : l[i].length = n := hln _ (List.getElem_mem hil)
            have hxl : bmk l[i] < 2 ^ n := by rw [← hsl]; exact bits_lt _
            have hw1 : IntKind.wrap .i64 ((i : Int) + 1) = ((i + 1 : Nat) : Int) := by rw [w64 (by omega) (by omega)]; omega
            have hw2 : IntKind.wrap .i64 ((k : Int) - 1) = ((k - 1 : Nat) : Int) := by rw [w64 (by omega) (by omega)]; omega
            refine pw_cut (fun _ => cv (2 ^ n - 1) ((msk l).drop i0) i0 m k = cv (2 ^ n - 1) ((msk l).drop (i + 1)) (i + 1) m k) ?_ fun _ hq => ?_
            · rw [pw_inner, pw_inner]
              refine pw_cut (fun st => st = (openOf n (m ||| bmk l[i]), us m (bmk l[i]) n)) ?_ ?_
              · refine pw_rng (fun j st => st = (openOf j (m ||| bmk l[i]), us m (bmk l[i]) j)) ?_ (fun j st hj hst => ?_) fun st hst => ?_
                · simp [us, openOf]
                · subst hst
                  have hbt : (bmk l[i]).testBit j = l[i][j] := by rw [bits_test, List.getElem?_eq_getElem (by omega)]; rfl
                  have hap : ∀ b : Bool, appM 1 (openOf j (m ||| bmk l[i])) [b] = some (openOf j (m ||| bmk l[i]) ++ [b]) := fun b => appM_lt (by rw [openOf_length]; simp; omega)
                  have hx2 : l[i][j]? = some l[i][j] := List.getElem?_eq_getElem (by omega)
                  simp only [pw_join, pw_split, pw_op, pw_ret, Sum.elim_inl, at_nat, openOf_get n m j hj, List.getElem?_eq_getElem hil, hx2, Option.some.injEq, exists_eq_left', hap, openOf_next, us, Nat.testBit_or, hbt]
                  cases m.testBit j <;> cases us m (bmk l[i]) j <;> simp
                · subst hst
                  rfl
              · rintro _ rfl
                have hstep := cv_cons (2 ^ n - 1) (bmk l[i]) ((msk l).drop (i + 1)) i m k
                rw [if_neg hnf, if_neg hk0, ← drop_msk l i hil, ← hcv] at hstep
                simp only [pw_split, pw_ret, Sum.elim_inl]
                refine ⟨fun hu => ?_, fun hu => ?_⟩
                · have he := us_false_eq n m _ hm hxl (by simpa using hu)
                  rw [if_pos he] at hstep; exact hstep
                · have he := us_true_ne n m _ (by simpa using hu)
                  rw [if_neg he] at hstep
                  rw [hw1, hw2]
                  refine pw_call _ (ih (i + 1) (m ||| bmk l[i]) (k - 1) (by omega) (by omega) (Nat.or_lt_two_pow hm hxl) (by omega)) ?_
                  rintro _ rfl
                  cases hres : cv (2 ^ n - 1) ((msk l).drop (i + 1)) (i + 1) (m ||| bmk l[i]) (k - 1) with
                  | none =>
                    rw [hres] at hstep
                    simp only [resC, pw_split, pw_ret, Sum.elim_inl]
                    exact ⟨fun h => (by cases h), fun _ => hstep⟩
                  | some t =>
                    rw [hres] at hstep
                    have htl : t.length ≤ 64 := by
                      have := cv_len (2 ^ n - 1) _ _ _ _ _ hres
                      simp [msk] at this; omega
                    simp only [resC, pw_split, pw_op, pw_ret, Sum.elim_inr]
                    refine ⟨fun _ => ⟨_, appM_lt (by simp), _, appM_lt (by simp [nn]; omega), ?_⟩, fun h => (by cases h)⟩
                    rw [hstep]; rfl
            · rw [pw_ret, hw1]
              exact ⟨⟨i + 1, rfl, by omega, by omega, hq⟩, by simp only [Int.toNat_natCast]; omega⟩
          · have hil : i = l.length := by omega
            subst hil
            show cv _ _ _ _ _ = none
            rw [hcv, List.drop_of_length_le (by simp [msk]), cv_nil, if_neg hnf]

def cr (r : List Nat × Int) : List Int × Int := (nn r.1, r.2)
theorem covS_low {l : List (List Bool)} {N : Nat} (hN : N ≤ 16) (hl : l.length ≤ 64) (hln : ∀ s ∈ l, s.length = N) : covS l N = if nd (2 ^ N - 1) (msk l) 0 = 255 then ([], 7) else (pk (2 ^ N - 1) (msk l) 0 0, 0) := by
  have h1 : ¬ ((N : Int) < 0 ∨ 16 < (N : Int)) := by omega
  have h2 : ¬ (64 < l.length) := by omega
  have h3 : ¬ (∃ s ∈ l, (s.length : Int) ≠ N) := by rintro ⟨s, hs, hne⟩; rw [hln s hs] at hne; exact hne rfl
  unfold covS
  rw [if_neg h1, if_neg h2, if_neg h3, Int.toNat_natCast]
theorem covS_row {l : List (List Bool)} {N : Nat} (hN : N ≤ 16) (hl : l.length ≤ 64) {s : List Bool} (hs : s ∈ l) (h : (s.length : Int) ≠ N) : covS l N = ([], 2) := by
  have h1 : ¬ ((N : Int) < 0 ∨ 16 < (N : Int)) := by omega
  have h2 : ¬ (64 < l.length) := by omega
  unfold covS
  rw [if_neg h1, if_neg h2, if_pos ⟨s, hs, h⟩]
theorem set_rep {α : Type} (i N : Nat) (a b : α) (h : i < N) : (List.replicate i a ++ List.replicate (N - i) b).set i a = List.replicate (i + 1) a ++ List.replicate (N - (i + 1)) b := by
  rw [List.set_append_right _ _ (by simp)]
  simp only [List.length_replicate, Nat.sub_self]
  obtain ⟨q, hq⟩ : ∃ q, N - i = q + 1 := ⟨N - i - 1, by omega⟩
  rw [hq, show N - (i + 1) = q by omega, List.replicate_succ, List.set_cons_zero, List.replicate_succ']
  simp

theorem refcover_w (l : List (List Bool)) (n : Int) : Pw (p_synthesisref33_Cover l n) fun r => r = cr (covS l n) := by
  unfold p_synthesisref33_Cover
  rw [pw_inner, pw_inner]
  refine pw_cut (fun c => c = decide (n < 0 ∨ 16 < n)) ?_ ?_
  · simp only [pw_split, pw_ret, Sum.elim_inl, decide_eq_true_eq, decide_eq_false_iff_not]
    exact ⟨fun h => by simp [h], fun h => by simp [h]⟩
  rintro _ rfl
  simp only [pw_split, pw_ret, decide_eq_true_eq, decide_eq_false_iff_not, G.len_L_bool]
  refine ⟨fun h => by rw [covS, if_pos h]; rfl, fun h => ⟨fun h2 => by rw [covS, if_neg h, if_pos (by omega)]; rfl, fun h2 => ?_⟩⟩
  obtain ⟨N, rfl⟩ : ∃ N : Nat, n = (N : Int) := Int.eq_ofNat_of_zero_le (by omega)
  have hN : N ≤ 16 := by omega
  have hl : l.length ≤ 64 := by omega
  refine pw_cut (fun _ => ∀ s ∈ l, s.length = N) ?_ fun _ hln => ?_
  · refine pw_rng (fun i _ => ∀ i' (h : i' < l.length), i' < i → l[i'].length = N) (fun _ _ h => absurd h (by omega)) (fun i _ hi hall => ?_) fun _ hall => ?_
    · simp only [pw_op, pw_split, pw_ret, G.len_bool, List.getElem?_eq_getElem hi, Option.some.injEq, exists_eq_left', Sum.elim_inl, Sum.elim_inr, bne_iff_ne, ne_eq]
      refine ⟨fun he => ?_, fun he => ?_⟩
      · show _ = cr _
        rw [covS_row hN hl (List.getElem_mem hi) he]; rfl
      · intro i' h' hi'
        by_cases e : i' = i
        · subst e; simp at he; omega
        · exact hall i' h' (by omega)
    · intro s hs
      obtain ⟨q, hq, rfl⟩ := List.getElem_of_mem hs
      exact hall q hq hq
  · rw [pw_mem]
    refine ⟨_, mkM_lt (by omega) (by omega) (by omega), ?_⟩
    rw [Int.toNat_natCast]
    refine pw_cut (fun st => st = List.replicate N true) ?_ ?_
    · refine pw_loop (fun st => ∃ i : Nat, st = ((i : Int), List.replicate i true ++ List.replicate (N - i) false) ∧ i ≤ N) (fun st => N - st.1.toNat) ⟨0, by simp, Nat.zero_le _⟩ (by omega) ?_
      rintro _ ⟨i, rfl, hi⟩
      simp only [pw_split, pw_op, pw_mem, pw_ret, decide_eq_true_eq, decide_eq_false_iff_not, Sum.elim_inl, Sum.elim_inr]
      refine ⟨fun h => ⟨(), inM_lt (by omega) (by omega), _, setM_lt (by omega) (by simp; omega), ⟨i + 1, ?_, by omega⟩, ?_⟩, fun h => ?_⟩
      · rw [w64 (by omega) (by omega), Int.toNat_natCast, set_rep _ _ _ _ (by omega)]; rfl
      · rw [w64 (by omega) (by omega)]; omega
      · have : i = N := by omega
        subst this; simp
    · rintro _ rfl
      rw [pw_fix]
      refine ⟨by simp, ?_⟩
      have hx2 : ∀ x ∈ msk l, (2 ^ N - 1) ||| x = 2 ^ N - 1 := fun x hx => full_or _ _ (msk_lt l _ hln x hx)
      refine pw_cut (fun _ => ∀ k', k' < N + 1 → cv (2 ^ N - 1) (msk l) 0 0 k' = none) ?_ fun _ hnone => ?_
      · refine pw_loop (fun st => ∃ k : Nat, st = k ∧ k ≤ N + 1 ∧ ∀ k', k' < k → cv (2 ^ N - 1) (msk l) 0 0 k' = none) (fun st => N + 1 - st.toNat) ⟨0, rfl, Nat.zero_le _, fun _ h => absurd h (by omega)⟩ (by omega) ?_
        rintro _ ⟨k, rfl, hk, hnone⟩
        simp only [pw_split, pw_ret, decide_eq_true_eq, decide_eq_false_iff_not, Sum.elim_inl, Sum.elim_inr]
        refine ⟨fun hk2 => ?_, fun hk2 => ?_⟩
        · have hcall := covers_w l N hN hl hln big 0 0 k (by unfold big; omega) (Nat.zero_le _) (Nat.two_pow_pos _) (by omega)
          rw [List.drop_zero, openOf_zero] at hcall
          have hsm := cv_some (2 ^ N - 1) (msk l) 0 0 k hx2 (by omega)
          refine pw_call _ hcall ?_
          rintro _ rfl
          cases hres : cv (2 ^ N - 1) (msk l) 0 0 k with
          | none =>
            simp only [resC, pw_split, pw_ret, Sum.elim_inl]
            refine ⟨fun h => (by cases h), fun _ => ⟨⟨k + 1, ?_, by omega, fun k' hk' => ?_⟩, ?_⟩⟩
            · rw [w64 (by omega) (by omega)]; omega
            · by_cases e : k' = k
              · subst e; exact hres
              · exact hnone k' (by omega)
            · rw [w64 (by omega) (by omega)]; omega
          | some t =>
            simp only [resC, pw_split, pw_ret, Sum.elim_inr]
            refine ⟨fun _ => ?_, fun h => (by cases h)⟩
            have hle : nd (2 ^ N - 1) (msk l) 0 ≤ k := hsm.1 (by rw [hres]; rfl)
            have hk3 : nd (2 ^ N - 1) (msk l) 0 = k := by
              by_cases e : nd (2 ^ N - 1) (msk l) 0 = k
              · exact e
              · have h1 := hnone _ (by omega : nd (2 ^ N - 1) (msk l) 0 < k)
                have h2 := (cv_some (2 ^ N - 1) (msk l) 0 0 (nd (2 ^ N - 1) (msk l) 0) hx2 (by omega)).2 (Nat.le_refl _)
                rw [h1] at h2; cases h2
            have hpk := cv_pk (2 ^ N - 1) (msk l) 0 0 k hx2 (by omega) hk3
            rw [hres] at hpk; cases hpk
            rw [covS_low hN hl hln, if_neg (by omega)]; rfl
        · intro k' hk'; exact hnone k' (by omega)
      · have h255 : nd (2 ^ N - 1) (msk l) 0 = 255 := by
          rcases nd_miss (2 ^ N - 1) N hN (msk l) 0 (msk_lt l _ hln) with h | h
          · exact h
          · have h3 := miss_le N 0
            have h1 := hnone _ (by omega : nd (2 ^ N - 1) (msk l) 0 < N + 1)
            have h2 := (cv_some (2 ^ N - 1) (msk l) 0 0 (nd (2 ^ N - 1) (msk l) 0) hx2 (by omega)).2 (Nat.le_refl _)
            rw [h1] at h2; cases h2
        rw [pw_ret, covS_low hN hl hln, if_pos h255]; rfl

theorem add_w (v : Nat) (hv : v ≤ 255) : Pw (p_branch_add v) fun r => r = ((inc v : Nat) : Int) := by
  unfold p_branch_add inc
  simp only [pw_split, pw_ret, beq_iff_eq, beq_eq_false_iff_ne, ne_eq]
  refine ⟨fun h => ?_, fun h => ?_⟩
  · rw [if_pos (by omega)]; rfl
  · rw [if_neg (by omega), IntKind.wrap_u8]; omega
end Go.Proofs.Ytikgppgpailmcaa
