/-
  The laws on covers hold.
-/
import Derived.Test.YtikgppgpailmcaaCovQ
namespace Go.Proofs.Ytikgppgpailmcaa
open Go.AL Go.Cov

theorem alive_w : Pw p_synthesislaw33_alive fun r => r = true := by
  unfold p_synthesislaw33_alive
  refine pw_call _ (cover_w _ _) ?_
  rintro _ rfl
  have h : covS [[true, true, false], [false, true, true], [false, false, true], [true, false, true]] 3 = ([0, 1], 0) := by decide
  rw [h]
  simp only [cr, nn, List.map_cons, List.map_nil, pw_join, pw_split, pw_op, pw_ret, Sum.elim_inl, G.len_int]
  refine ⟨fun _ => ⟨fun _ => ⟨_, rfl, fun _ => ⟨_, rfl, rfl⟩, fun h => by cases h⟩, fun h => by cases h⟩, fun h => by cases h⟩

theorem pk_le (full : Nat) : ∀ (l : List Nat) (i m : Nat), (pk full l i m).length ≤ l.length
  | [], i, m => by simp [pk]
  | x :: r, i, m => by
    rw [pk]
    split
    · have := pk_le full r (i + 1) (m ||| x); simp only [List.length_cons]; omega
    · have := pk_le full r (i + 1) m; simp only [List.length_cons]; omega
theorem covS_len (l : List (List Bool)) (n : Int) : (covS l n).1.length ≤ l.length := by
  unfold covS
  split
  · simp
  · split
    · simp
    · split
      · simp
      · split
        · simp
        · have := pk_le (2 ^ n.toNat - 1) (msk l) 0 0
          simpa [msk] using this

theorem branchCovers_w (l : List (List Bool)) (n : Int) : Pw (p_synthesislaw33_BranchCovers l n) fun r => r = true := by
  unfold p_synthesislaw33_BranchCovers
  refine pw_call _ (sets_w l n) fun b hb => ?_
  rw [pw_split]
  refine ⟨fun h => pw_call _ alive_w fun _ h => pw_ret.2 h, fun h => ?_⟩
  have hs := hb (by simpa using h)
  refine pw_call _ (cover_w l n) ?_
  rintro _ rfl
  refine pw_call _ (refcover_w l n) ?_
  rintro _ rfl
  have hlen := covS_len l n
  rw [pw_join]
  refine pw_call _ (cmp_w _ _ (by simp only [cr, nn_len]; omega)) ?_
  rintro _ rfl
  rw [cmpI_self, pw_split, pw_split]
  simp only [beq_self_eq_true, forall_const]
  refine ⟨⟨pw_call _ alive_w ?_, fun h => (by cases h)⟩, fun h => (by cases h)⟩
  rintro _ rfl
  rw [pw_ret, Sum.elim_inl, pw_ret]

/-! What is picked: a cover, and none smaller. -/
theorem fold_test (x : Nat) : ∀ (s : List Nat) (m : Nat), (s.foldl (· ||| ·) m).testBit x = (m.testBit x || s.any fun v => v.testBit x)
  | [], m => by simp
  | v :: r, m => by rw [List.foldl_cons, fold_test x r, Nat.testBit_or, List.any_cons, Bool.or_assoc]
theorem fold_lt (n : Nat) : ∀ (s : List Nat) (m : Nat), m < 2 ^ n → (∀ v ∈ s, v < 2 ^ n) → s.foldl (· ||| ·) m < 2 ^ n
  | [], m, h, _ => h
  | v :: r, m, h, hs => fold_lt n r _ (Nat.or_lt_two_pow h (hs v (by simp))) fun u hu => hs u (by simp [hu])
theorem nd_sub (full : Nat) {s ls : List Nat} (h : s.Sublist ls) : ∀ m, s.foldl (· ||| ·) m = full → s.length < 255 → nd full ls m ≤ s.length := by
  induction h with
  | slnil => intro m h _; simp at h; simp [nd, h]
  | cons x _ ih => intro m h hl; rw [nd]; have := ih m h hl; omega
  | cons_cons x _ ih =>
    intro m h hl
    simp only [List.length_cons] at hl
    have := ih (m ||| x) h (by omega)
    rw [nd, List.length_cons]
    unfold inc
    split <;> omega
def vals (ls : List Nat) (t : List Nat) : List Nat := t.map fun j => (ls[j]?).getD 0
theorem pk_props (full : Nat) (ls : List Nat) : ∀ (r : List Nat) (i m : Nat), ls.drop i = r → nd full r m < 255 →
    (pk full r i m).length = nd full r m ∧ (vals ls (pk full r i m)).foldl (· ||| ·) m = full ∧ (vals ls (pk full r i m)).Sublist r ∧ ∀ j ∈ pk full r i m, j < ls.length
  | [], i, m, hd, hn => by
    simp only [nd] at hn
    split at hn
    · rename_i h; simp [pk, nd, h, vals]
    · omega
  | x :: r, i, m, hd, hn => by
    have hi : i < ls.length := by
      apply Classical.byContradiction
      intro h
      rw [List.drop_of_length_le (by omega)] at hd; cases hd
    have hd2 : ls.drop (i + 1) = r := by rw [List.drop_eq_getElem_cons hi] at hd; exact (List.cons.inj hd).2
    have hx : ls[i]? = some x := by rw [List.getElem?_eq_getElem hi]; rw [List.drop_eq_getElem_cons hi] at hd; rw [(List.cons.inj hd).1]
    have hnd : nd full (x :: r) m = min (nd full r m) (inc (nd full r (m ||| x))) := rfl
    rw [pk]
    split
    · rename_i hc
      have h1 : nd full r (m ||| x) < 255 ∧ nd full r (m ||| x) + 1 = nd full (x :: r) m := by
        have := hc.2
        unfold inc at this
        split at this <;> omega
      obtain ⟨p1, p2, p3, p4⟩ := pk_props full ls r (i + 1) (m ||| x) hd2 h1.1
      refine ⟨by rw [List.length_cons, p1]; exact h1.2, ?_, ?_, ?_⟩
      · simp only [vals, List.map_cons, hx, Option.getD_some, List.foldl_cons]; exact p2
      · simp only [vals, List.map_cons, hx, Option.getD_some]; exact p3.cons_cons x
      · intro j hj
        rcases List.mem_cons.1 hj with rfl | hj
        · exact hi
        · exact p4 j hj
    · rename_i hc
      have h1 : nd full r m = nd full (x :: r) m := by
        by_cases h0 : nd full (x :: r) m = 0
        · rw [hnd] at h0 ⊢
          have : 0 < inc (nd full r (m ||| x)) := by unfold inc; split <;> omega
          omega
        · have : inc (nd full r (m ||| x)) ≠ nd full (x :: r) m := fun h => hc ⟨by omega, h⟩
          rw [hnd] at this ⊢
          omega
      obtain ⟨p1, p2, p3, p4⟩ := pk_props full ls r (i + 1) m hd2 (by omega)
      exact ⟨by omega, p2, p3.cons x, p4⟩

def fnd (vs : List Nat) (skip : Int) (x k : Nat) : Bool := (List.range k).any fun i => decide ((i : Int) ≠ skip) && ((vs[i]?).getD 0).testBit x
def allF (vs : List Nat) (skip : Int) (n : Nat) : Bool := (List.range n).all fun x => fnd vs skip x vs.length
theorem fnd_succ (vs : List Nat) (skip : Int) (x k : Nat) : fnd vs skip x (k + 1) = (fnd vs skip x k || (decide ((k : Int) ≠ skip) && ((vs[k]?).getD 0).testBit x)) := by
  simp [fnd, List.range_succ]
theorem allF_yes (vs : List Nat) (n : Nat) (h : vs.foldl (· ||| ·) 0 = 2 ^ n - 1) : allF vs (-1) n = true := by
  unfold allF
  rw [List.all_eq_true]
  intro x hx
  have hx := List.mem_range.1 hx
  have h2 := fold_test x vs 0
  rw [h, Nat.testBit_two_pow_sub_one] at h2
  simp only [hx, decide_true, Nat.zero_testBit, Bool.false_or] at h2
  obtain ⟨v, hv, hvx⟩ := List.any_eq_true.1 h2.symm
  obtain ⟨i, hi, rfl⟩ := List.getElem_of_mem hv
  refine List.any_eq_true.2 ⟨i, List.mem_range.2 hi, ?_⟩
  rw [List.getElem?_eq_getElem hi]
  simp only [Option.getD_some, hvx, Bool.and_true, decide_eq_true_eq]
  omega
theorem allF_no (full : Nat) (ls vs : List Nat) (n s : Nat) (hf : full = 2 ^ n - 1) (hs : s < vs.length) (h255 : vs.length < 255) (hsub : vs.Sublist ls) (hlt : ∀ v ∈ ls, v < 2 ^ n) (hnd : nd full ls 0 = vs.length) : allF vs s n = false := by
  apply Bool.eq_false_iff.2
  intro hall
  have hl := List.length_eraseIdx_of_lt hs
  have hle := nd_sub full ((List.eraseIdx_sublist vs s).trans hsub) 0 ?_ (by omega)
  · omega
  · rw [hf]
    refine full_of n _ (fold_lt n _ 0 (Nat.two_pow_pos n) fun v hv => hlt v (hsub.mem ((List.eraseIdx_sublist vs s).mem hv))) fun x hx => ?_
    rw [fold_test]
    have := List.all_eq_true.1 hall x (List.mem_range.2 hx)
    obtain ⟨i, hi, hix⟩ := List.any_eq_true.1 this
    have hi := List.mem_range.1 hi
    rw [List.getElem?_eq_getElem hi] at hix
    simp only [Option.getD_some, Bool.and_eq_true, decide_eq_true_eq] at hix
    simp only [Nat.zero_testBit, Bool.false_or]
    refine List.any_eq_true.2 ⟨vs[i], ?_, hix.2⟩
    have hne : i ≠ s := by omega
    rw [List.mem_eraseIdx_iff_getElem]
    exact ⟨i, hi, hne, rfl⟩

theorem covS_cases (l : List (List Bool)) (n : Int) : ((covS l n).2 ≠ 0 ∧ (covS l n).1 = []) ∨
    ∃ N : Nat, n = (N : Int) ∧ N ≤ 16 ∧ l.length ≤ 64 ∧ (∀ s ∈ l, s.length = N) ∧ nd (2 ^ N - 1) (msk l) 0 ≠ 255 ∧ covS l n = (pk (2 ^ N - 1) (msk l) 0 0, 0) := by
  unfold covS
  split
  · left; simp
  · rename_i h1
    split
    · left; simp
    · rename_i h2
      split
      · left; simp
      · rename_i h3
        split
        · left; simp
        · rename_i h4
          right
          obtain ⟨N, rfl⟩ : ∃ N : Nat, n = (N : Int) := Int.eq_ofNat_of_zero_le (by omega)
          rw [Int.toNat_natCast] at h4 ⊢
          exact ⟨N, rfl, by omega, by omega, fun s hs => Classical.byContradiction fun h => h3 ⟨s, hs, by omega⟩, h4, rfl⟩

set_option maxHeartbeats 1000000 in
theorem branchNeeds_w (l : List (List Bool)) (n : Int) : Pw (p_synthesislaw33_BranchNeeds l n) fun r => r = true := by
  unfold p_synthesislaw33_BranchNeeds
  rw [pw_inner, pw_inner]
  refine pw_cut (fun _ => True) ?_ fun c _ => ?_
  · refine pw_call _ (sets_w l n) fun b hb => ?_
    simp only [pw_split, pw_ret, Sum.elim_inl, implies_true, and_self]
  rw [pw_split]
  refine ⟨fun _ => pw_call _ alive_w fun _ h => pw_ret.2 h, fun _ => ?_⟩
  refine pw_call _ (cover_w l n) ?_
  rintro _ rfl
  rw [pw_split]
  rcases covS_cases l n with ⟨he, hl⟩ | ⟨N, rfl, hN, hl, hln, hnd, hc⟩
  · simp only [cr, hl, bne_iff_ne, ne_eq, he, not_false_eq_true, forall_const]
    refine ⟨?_, fun h => by simp at h; exact absurd h he⟩
    rw [pw_join, pw_split]
    refine ⟨fun _ => pw_call _ alive_w ?_, fun h => by simp [nn] at h⟩
    rintro _ rfl
    rw [pw_ret, Sum.elim_inl, pw_ret]
  · rw [hc]
    simp only [cr, bne_self_eq_false, Bool.false_eq_true, false_implies, true_and, forall_const]
    have h255 : nd (2 ^ N - 1) (msk l) 0 < 255 := by
      have := nd_ub (2 ^ N - 1) (msk l) 0 (by simpa [msk] using hl); omega
    obtain ⟨p1, p2, p3, p4⟩ := pk_props (2 ^ N - 1) (msk l) (msk l) 0 0 rfl h255
    generalize pk (2 ^ N - 1) (msk l) 0 0 = t at *
    have hml : (msk l).length = l.length := by simp [msk]
    have hvl : (vals (msk l) t).length = t.length := by simp [vals]
    have hyes := allF_yes _ N p2
    have hno : ∀ s, s < t.length → allF (vals (msk l) t) s N = false := fun s hs => allF_no _ (msk l) _ N s rfl (by omega) (by omega) p3 (msk_lt l N hln) (by omega)
    refine pw_cut (fun _ => True) ?_ fun _ _ => pw_call _ alive_w fun _ h => pw_ret.2 h
    refine pw_loop (fun st => -1 ≤ st ∧ st ≤ t.length) (fun st => (t.length - st).toNat) ⟨by omega, by omega⟩ (by omega) ?_
    rintro sk ⟨hs1, hs2⟩
    rw [pw_split, pw_ret]
    simp only [G.len_int, nn_len, decide_eq_true_eq, decide_eq_false_iff_not]
    refine ⟨fun hsk => ?_, fun _ => trivial⟩
    refine pw_cut (fun _ => True) ?_ fun _ _ => ?_
    · rw [pw_inner]
      refine pw_cut (fun c => c = allF (vals (msk l) t) sk N) ?_ ?_
      · refine pw_loop (fun st => ∃ x : Nat, st.2 = (x : Int) ∧ x ≤ N ∧ st.1 = allF (vals (msk l) t) sk x) (fun st => N - st.2.toNat) ⟨0, rfl, Nat.zero_le _, rfl⟩ (by simp; omega) ?_
        rintro ⟨_, _⟩ ⟨x, rfl, hx, rfl⟩
        rw [pw_split, pw_ret]
        simp only [decide_eq_true_eq, decide_eq_false_iff_not]
        refine ⟨fun hxN => ?_, fun hxN => ?_⟩
        · refine pw_cut (fun c => c = allF (vals (msk l) t) sk (x + 1)) ?_ ?_
          · rw [pw_inner]
            refine pw_cut (fun c => c = fnd (vals (msk l) t) sk x t.length) ?_ ?_
            · refine pw_rng (fun i c => c = fnd (vals (msk l) t) sk x i) rfl ?_ ?_
              · rintro i _ hi rfl
                have htl : t[i] < l.length := by rw [← hml]; exact p4 _ (List.getElem_mem hi)
                have hti : (nn t)[i]? = some ((t[i] : Nat) : Int) := by simp [nn, hi]
                have hat : at_ l ((t[i] : Nat) : Int) = some l[t[i]] := by rw [at_nat, List.getElem?_eq_getElem htl]
                have hll : l[t[i]].length = N := hln _ (List.getElem_mem htl)
                have hvi : ((vals (msk l) t)[i]?).getD 0 = bmk l[t[i]] := by simp [vals, hi, msk, htl]
                have hbt : (bmk l[t[i]]).testBit x = l[t[i]][x] := by rw [bits_test, List.getElem?_eq_getElem (by omega)]; rfl
                have hrow : at_ l[t[i]] (x : Int) = some l[t[i]][x] := by rw [at_nat, List.getElem?_eq_getElem (by omega)]
                refine pw_cut (fun c => c = fnd (vals (msk l) t) sk x (i + 1)) ?_ ?_
                · rw [pw_inner]
                  refine pw_cut (fun c => c = false) ?_ ?_
                  · simp only [pw_op, pw_split, pw_ret, hti, hat, hll, Option.some.injEq, exists_eq_left', Sum.elim_inl, decide_eq_true_eq, decide_eq_false_iff_not, G.len_L_bool, G.len_bool]
                    refine ⟨fun h => absurd h (by omega), fun _ => ⟨fun h => absurd h (by omega), fun _ => by simp; omega⟩⟩
                  · rintro _ rfl
                    rw [fnd_succ, hvi, hbt]
                    simp only [pw_op, pw_split, pw_ret, hti, hat, hrow, Option.some.injEq, exists_eq_left', Sum.elim_inl, Bool.false_eq_true, false_implies, true_and, forall_const, bne_iff_ne, ne_eq]
                    refine ⟨fun h => by simp [h], fun h => ⟨fun h2 => by simp [h, h2], fun h2 => ?_⟩⟩
                    have : (i : Int) = sk := by simpa using h2
                    simp [h, this]
                · rintro _ rfl
                  rw [pw_ret]; rfl
              · rintro _ rfl
                rfl
            · rintro _ rfl
              rw [pw_split, pw_ret, pw_ret]
              have hs : allF (vals (msk l) t) sk (x + 1) = (allF (vals (msk l) t) sk x && fnd (vals (msk l) t) sk x t.length) := by
                simp [allF, List.range_succ, hvl]
              rw [hs]
              refine ⟨fun h => ?_, fun h => ?_⟩
              · simp only [Sum.elim_inl]
                rw [h]; simp
              · simp only [Sum.elim_inl]
                rw [h]; simp
          · rintro _ rfl
            rw [pw_ret]
            have hw : IntKind.wrap .i64 ((x : Int) + 1) = ((x + 1 : Nat) : Int) := by rw [w64 (by omega) (by omega)]; omega
            simp only [hw, Sum.elim_inl, Int.toNat_natCast]
            exact ⟨⟨x + 1, rfl, by omega, rfl⟩, by omega⟩
        · have : x = N := by omega
          subst this; rfl
      · rintro _ rfl
        rw [pw_split, pw_ret, pw_ret]
        refine ⟨fun h => ?_, fun _ => trivial⟩
        exfalso
        by_cases h0 : sk < 0
        · have : sk = -1 := by omega
          subst this
          rw [hyes] at h; simp at h
        · obtain ⟨s, rfl⟩ : ∃ s : Nat, sk = (s : Int) := Int.eq_ofNat_of_zero_le (by omega)
          rw [hno s (by omega)] at h
          simp [h0] at h
    · rw [pw_ret, w64 (by omega) (by omega)]
      refine ⟨⟨by omega, by omega⟩, ?_⟩
      show (_ - (sk + 1)).toNat < _
      omega
end Go.Proofs.Ytikgppgpailmcaa
