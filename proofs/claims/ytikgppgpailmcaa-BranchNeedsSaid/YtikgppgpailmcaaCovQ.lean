/-
  What the branch's Cover computes, and its example.
-/
import Derived.Test.YtikgppgpailmcaaCovP
namespace Go.Proofs.Ytikgppgpailmcaa
open Go.AL Go.Cov

def tabR (full p2 : Nat) (ls : List Nat) : List Int := (List.range p2).map fun m => ((nd full ls m : Nat) : Int)
theorem tabR_len (full p2 : Nat) (ls : List Nat) : (tabR full p2 ls).length = p2 := by simp [tabR]
theorem tabR_get (full p2 m : Nat) (ls : List Nat) (h : m < p2) : (tabR full p2 ls)[m]? = some ((nd full ls m : Nat) : Int) := by simp [tabR, h]
theorem tab_nil (p2 : Nat) (h : 0 < p2) : List.replicate (p2 - 1) (255 : Int) ++ List.replicate 1 0 = tabR (p2 - 1) p2 [] := by
  apply List.ext_getElem?
  intro i
  by_cases hi : i < p2
  · rw [tabR_get _ _ _ _ hi, nd]
    by_cases h2 : i < p2 - 1
    · rw [List.getElem?_append_left (by simpa using h2), if_neg (by omega)]; simp [h2]
    · rw [List.getElem?_append_right (by simp; omega), if_pos (by omega)]
      have : i - (p2 - 1) = 0 := by omega
      simp [this]
  · rw [List.getElem?_eq_none (by simp; omega), List.getElem?_eq_none (by rw [tabR_len]; omega)]
theorem ib (x y : Nat) (hx : x < 2 ^ 16) (hy : y < 2 ^ 16) : intBits .or .i64 (x : Int) (y : Int) = ((x ||| y : Nat) : Int) := or_i64 x y hx hy
theorem sh (j : Nat) (hj : j ≤ 16) : shlM .i64 1 (j : Int) = some ((2 ^ j : Nat) : Int) := by
  unfold shlM; rw [if_neg (by omega), shl_i64 j hj]
theorem nn_len (t : List Nat) : (nn t).length = t.length := by simp [nn]
theorem nn_at {t : List Nat} {i v : Nat} (h : t[i]? = some v) : at_ (nn t) (i : Int) = some (v : Int) := by
  rw [at_nat, nn, List.getElem?_map, h]; rfl
theorem nn_set (t : List Nat) (i v : Nat) : nn (t.set i v) = (nn t).set i (v : Int) := by simp [nn, List.map_set]
theorem nd_ub (full : Nat) (l : List Nat) (m : Nat) (hl : l.length ≤ 64) : nd full l m ≤ 255 := by
  rcases nd_le full l m hl with h | h <;> omega

set_option maxHeartbeats 1000000 in
theorem cover_w (l : List (List Bool)) (n : Int) : Pw (p_branch_Cover l n) fun r => r = cr (covS l n) := by
  unfold p_branch_Cover
  rw [pw_inner, pw_inner]
  refine pw_cut (fun c => c = decide (n < 0 ∨ 16 < n)) ?_ ?_
  · simp only [pw_split, pw_ret, Sum.elim_inl, decide_eq_true_eq, decide_eq_false_iff_not]
    exact ⟨fun h => by simp [h], fun h => by simp [h]⟩
  rintro _ rfl
  rw [pw_split, pw_split, pw_ret, pw_ret]
  simp only [decide_eq_true_eq, decide_eq_false_iff_not, G.len_L_bool]
  refine ⟨fun h => by rw [covS, if_pos h]; rfl, fun h => ⟨fun h2 => by rw [covS, if_neg h, if_pos (by omega)]; rfl, fun h2 => ?_⟩⟩
  obtain ⟨N, rfl⟩ : ∃ N : Nat, n = (N : Int) := Int.eq_ofNat_of_zero_le (by omega)
  have hN : N ≤ 16 := by omega
  have hl : l.length ≤ 64 := by omega
  have h16 : 2 ^ N ≤ 2 ^ 16 := Nat.pow_le_pow_right (by omega) hN
  have hpos : 0 < 2 ^ N := Nat.two_pow_pos N
  rw [pw_mem]
  refine ⟨_, mkM_lt (by omega) (by omega) (by omega), ?_⟩
  rw [Int.toNat_natCast]
  refine pw_cut (fun st => st = nn (msk l) ∧ ∀ s ∈ l, s.length = N) ?_ ?_
  · refine pw_rng (fun i st => st = nn (Xi l i) ∧ ∀ i' (h : i' < l.length), i' < i → l[i'].length = N) ⟨?_, fun _ _ h => absurd h (by omega)⟩ ?_ ?_
    · simp [Xi, msk, nn]
    · rintro i _ hi ⟨rfl, hall⟩
      refine pw_cut (fun st => st = nn (Xi l (i + 1)) ∧ l[i].length = N) ?_ ?_
      · rw [pw_op]
        refine ⟨_, List.getElem?_eq_getElem hi, ?_⟩
        rw [pw_split, pw_ret]
        simp only [G.len_bool, bne_iff_ne, ne_eq, Sum.elim_inr]
        refine ⟨fun he => ?_, fun he => ?_⟩
        · show _ = cr _
          rw [covS_row hN hl (List.getElem_mem hi) he]; rfl
        · have he2 : l[i].length = N := by simp at he; omega
          refine pw_rng (fun j st => st = nn ((Xi l i).set i (bmk (l[i].take j)))) ?_ ?_ ?_
          · rw [List.take_zero, bmk, Xi_zero l i hi]
          · rintro j _ hj rfl
            have hXl := Xi_len l i (by omega)
            have hg : ((Xi l i).set i (bmk (l[i].take j)))[i]? = some (bmk (l[i].take j)) := by rw [List.getElem?_set_self (by omega)]
            have hb1 : bmk (l[i].take j) < 2 ^ 16 := by
              have := bits_lt (l[i].take j)
              have h3 : 2 ^ (l[i].take j).length ≤ 2 ^ 16 := Nat.pow_le_pow_right (by omega) (by rw [List.length_take]; omega)
              omega
            have hb2 : 2 ^ j < 2 ^ 16 := Nat.pow_lt_pow_right (by omega) (by omega)
            have htk := bits_take l[i] j hj
            simp only [pw_join, pw_split, pw_op, pw_mem, pw_ret, Sum.elim_inl, List.getElem?_eq_getElem hj, nn_at hg, sh j (by omega), Option.some.injEq, exists_eq_left', ib _ _ hb1 hb2]
            refine ⟨fun hb => ⟨(), inM_lt (by omega) (by omega), (), inM_lt (by omega) (by omega), _, setM_lt (by omega) (by rw [nn_len, List.length_set]; omega), ?_⟩, fun hb => ?_⟩
            · rw [htk, if_pos hb, Int.toNat_natCast, ← nn_set, List.set_set]
            · rw [htk, if_neg (by simp [hb])]
          · rintro _ rfl
            show _ ∧ _
            rw [List.take_of_length_le (Nat.le_refl _), Xi_succ l i hi]; exact ⟨rfl, he2⟩
      · rintro _ ⟨rfl, he⟩
        rw [pw_ret]
        refine ⟨rfl, fun i' h' hi' => ?_⟩
        by_cases e : i' = i
        · subst e; exact he
        · exact hall i' h' (by omega)
    · rintro _ ⟨rfl, hall⟩
      refine ⟨by rw [Xi_all], fun s hs => ?_⟩
      obtain ⟨q, hq, rfl⟩ := List.getElem_of_mem hs
      exact hall q hq hq
  rintro _ ⟨rfl, hln⟩
  have hw1 : IntKind.wrap .i64 ((l.length : Int) + 1) = ((l.length + 1 : Nat) : Int) := by rw [w64 (by omega) (by omega)]; omega
  have hw2 : IntKind.wrap .i64 ((l.length : Int) - 1) = (l.length : Int) - 1 := w64 (by omega) (by omega)
  rw [hw1, hw2, pw_mem]
  refine ⟨_, mkM_lt (by omega) (by omega) (by omega), ?_⟩
  rw [pw_op]
  refine ⟨_, sh N hN, ?_⟩
  generalize hp2 : 2 ^ N = p2 at *
  have hw3 : IntKind.wrap .i64 ((p2 : Int) - 1) = ((p2 - 1 : Nat) : Int) := by rw [w64 (by omega) (by omega)]; omega
  rw [pw_mem]
  refine ⟨_, mkM_lt (by omega) (by omega) (by omega), ?_⟩
  simp only [Int.toNat_natCast]
  refine pw_cut (fun st => st = tabR (p2 - 1) p2 []) ?_ ?_
  · rw [hw3, pw_op]
    refine ⟨(0, p2 - 1), ?_, ?_⟩
    · have hb : bnM p2 (some ((p2 - 1 : Nat) : Int)) = some (p2 - 1) := by
        unfold bnM
        simp only [Int.toNat_natCast]
        rw [if_neg (by omega)]
      unfold mslM
      rw [hb]
      exact if_pos ⟨.inr rfl, Nat.sub_le _ _⟩
    · refine pw_loop (fun st => ∃ i : Nat, st = ((i : Int), List.replicate i 255 ++ List.replicate (p2 - i) 0) ∧ i ≤ p2 - 1) (fun st => p2 - st.1.toNat) ⟨0, by simp, Nat.zero_le _⟩ (by simp; omega) ?_
      rintro _ ⟨i, rfl, hi⟩
      simp only [pw_split, pw_op, pw_mem, pw_ret, decide_eq_true_eq, decide_eq_false_iff_not, Sum.elim_inl, Sum.elim_inr, Nat.sub_zero]
      refine ⟨fun h => ⟨(), inM_lt (by omega) (by omega), _, setM_lt (by omega) (by simp; omega), ⟨i + 1, ?_, by omega⟩, ?_⟩, fun h => ?_⟩
      · rw [w64 (by omega) (by omega), Int.toNat_natCast, set_rep _ _ _ _ (by omega)]; rfl
      · rw [w64 (by omega) (by omega)]; omega
      · have : i = p2 - 1 := by omega
        subst this
        rw [show p2 - (p2 - 1) = 1 by omega, tab_nil p2 hpos]
  rintro _ rfl
  rw [pw_inner, pw_fix]
  refine ⟨by rw [G.len_u8, tabR_len], ?_⟩
  rw [pw_op]
  refine ⟨(), inM_lt (by omega) (by omega), ?_⟩
  rw [pw_mem]
  refine ⟨_, setM_lt (by omega) (by simp; omega), ?_⟩
  rw [Int.toNat_natCast]
  have hmx : ∀ x ∈ msk l, x < p2 := by rw [← hp2]; exact msk_lt l N hln
  have hml : (msk l).length = l.length := by simp [msk]
  have hxg : ∀ q (h : q < l.length), (msk l)[q]? = some (bmk l[q]) := fun q h => by simp [msk, h]
  have hxb : ∀ q (h : q < l.length), bmk l[q] < p2 := fun q h => hmx _ (List.mem_of_getElem? (hxg q h))
  have hor : ∀ a b : Nat, a < p2 → b < p2 → a ||| b < p2 := by rw [← hp2]; exact fun a b ha hb => Nat.or_lt_two_pow ha hb
  have hub : ∀ q m, nd (p2 - 1) ((msk l).drop q) m ≤ 255 := fun q m => nd_ub _ _ _ (by rw [List.length_drop]; omega)
  refine pw_cut (fun st => st.length = l.length + 1 ∧ ∀ q, q ≤ l.length → st[q]? = some (tabR (p2 - 1) p2 ((msk l).drop q))) ?_ ?_
  · refine pw_loop (fun st => ∃ q : Nat, st.1 = (q : Int) - 1 ∧ q ≤ l.length ∧ st.2.length = l.length + 1 ∧ ∀ p, q ≤ p → p ≤ l.length → st.2[p]? = some (tabR (p2 - 1) p2 ((msk l).drop p))) (fun st => (st.1 + 1).toNat) ?_ (by simp; omega) ?_
    · refine ⟨l.length, rfl, Nat.le_refl _, by simp, fun p h1 h2 => ?_⟩
      have : p = l.length := by omega
      subst this
      rw [List.getElem?_set_self (by simp), List.drop_of_length_le (by omega)]
    · rintro ⟨_, st⟩ ⟨q, hq0, hq, hsl, hst⟩
      simp only at hq0 hsl hst
      subst hq0
      rw [pw_split, pw_ret]
      simp only [decide_eq_true_eq, decide_eq_false_iff_not]
      refine ⟨fun hge => ?_, fun hge => ?_⟩
      · obtain ⟨r, rfl⟩ : ∃ r, q = r + 1 := ⟨q - 1, by omega⟩
        have er : ((r + 1 : Nat) : Int) - 1 = (r : Int) := by omega
        have hw4 : IntKind.wrap .i64 ((r : Int) + 1) = ((r + 1 : Nat) : Int) := by rw [w64 (by omega) (by omega)]; omega
        have hw5 : IntKind.wrap .i64 ((r : Int) - 1) = (r : Int) - 1 := w64 (by omega) (by omega)
        simp only [er, hw4, hw5]
        have hrow := hst (r + 1) (Nat.le_refl _) hq
        refine pw_cut (fun st' => st' = st.set r (tabR (p2 - 1) p2 ((msk l).drop r))) ?_ ?_
        · rw [pw_op]
          refine ⟨_, sh N hN, ?_⟩
          rw [hp2, pw_mem]
          refine ⟨_, mkM_lt (by omega) (by omega) (by omega), ?_⟩
          simp only [Int.toNat_natCast]
          refine pw_cut (fun st' => st' = tabR (p2 - 1) p2 ((msk l).drop r)) ?_ ?_
          · refine pw_rng (fun m st' => st' = tabR (p2 - 1) m ((msk l).drop r) ++ List.replicate (p2 - m) 0) (by simp [tabR]) ?_ ?_
            · rintro m _ hm rfl
              have hx := hxg r (by omega)
              have hxb' := hxb r (by omega)
              have hl1 := tabR_len (p2 - 1) m ((msk l).drop r)
              simp only [pw_op, pw_mem, at_nat, hrow, Option.some.injEq, exists_eq_left', tabR_get _ _ _ _ hm]
              refine ⟨(), inM_lt (by omega) (by omega), (), inM_lt (by omega) (by omega), (), inM_lt (by omega) (by omega), _, (at_nat _ _).symm.trans (nn_at hx), ((nd (p2 - 1) ((msk l).drop (r + 1)) (m ||| bmk l[r]) : Nat) : Int), ?_, ?_⟩
              · rw [ib _ _ (by omega) (by omega), at_nat, tabR_get _ _ _ _ (hor _ _ hm hxb')]
              · obtain ⟨_, ha, rfl⟩ := add_w (nd (p2 - 1) ((msk l).drop (r + 1)) (m ||| bmk l[r])) (hub _ _)
                refine ⟨_, ha, (), inM_lt (by omega) (by omega), _, setM_lt (by omega) (by simp [hl1]; omega), ?_⟩
                rw [pw_ret]
                show _ = _
                rw [Int.toNat_natCast, List.set_append_right _ _ (by omega), hl1, Nat.sub_self]
                obtain ⟨q2, hq2⟩ : ∃ q2, p2 - m = q2 + 1 := ⟨p2 - m - 1, by omega⟩
                rw [hq2, show p2 - (m + 1) = q2 by omega, List.replicate_succ, List.set_cons_zero]
                have hnd : nd (p2 - 1) ((msk l).drop r) m = min (nd (p2 - 1) ((msk l).drop (r + 1)) m) (inc (nd (p2 - 1) ((msk l).drop (r + 1)) (m ||| bmk l[r]))) := by
                  rw [drop_msk l r (by omega), nd]
                have ht : tabR (p2 - 1) (m + 1) ((msk l).drop r) = tabR (p2 - 1) m ((msk l).drop r) ++ [((nd (p2 - 1) ((msk l).drop r) m : Nat) : Int)] := by simp [tabR, List.range_succ]
                rw [ht, hnd]
                simp only [List.append_assoc, List.cons_append, List.nil_append]
                congr 2
                split <;> omega
            · rintro _ rfl
              show _ = _
              simp
          · rintro _ rfl
            rw [pw_fix]
            refine ⟨by rw [G.len_u8, tabR_len], ?_⟩
            simp only [pw_op, pw_mem, pw_ret]
            exact ⟨(), inM_lt (by omega) (by omega), _, setM_lt (by omega) (by omega), by rw [Int.toNat_natCast]; rfl⟩
        · rintro _ rfl
          rw [pw_ret]
          refine ⟨⟨r, rfl, by omega, by simpa using hsl, fun p h1 h2 => ?_⟩, ?_⟩
          · by_cases e : p = r
            · subst e; rw [List.getElem?_set_self (by omega)]
            · rw [List.getElem?_set_ne (by omega)]; exact hst p (by omega) h2
          · show ((r : Int) - 1 + 1).toNat < _
            omega
      · refine ⟨hsl, fun p hp => hst p (by omega) hp⟩
  rintro st ⟨hsl, hst⟩
  have h0 := hst 0 (Nat.zero_le _)
  rw [List.drop_zero] at h0
  rw [pw_op]
  refine ⟨(), inM_lt (by omega) (by omega), ?_⟩
  rw [pw_op]
  refine ⟨_, (at_nat st 0).trans h0, ?_⟩
  rw [pw_op]
  refine ⟨_, (at_nat _ 0).trans (tabR_get _ _ _ _ hpos), ?_⟩
  have hlow := covS_low hN hl hln
  rw [hp2] at hlow
  rw [pw_split, pw_ret]
  simp only [beq_iff_eq, beq_eq_false_iff_ne, ne_eq]
  refine ⟨fun h255 => by rw [hlow, if_pos (by omega)]; rfl, fun h255 => ?_⟩
  rw [hlow, if_neg (by omega)]
  rw [pw_inner, pw_inner]
  refine pw_cut (fun st' => st' = nn (pk (p2 - 1) (msk l) 0 0)) ?_ fun _ h => by rw [pw_ret, h]; rfl
  refine pw_loop (fun s => ∃ (t : List Nat) (m j : Nat), s = (nn t, (m : Int), (j : Int)) ∧ j ≤ l.length ∧ m < p2 ∧ t.length ≤ j ∧ pk (p2 - 1) (msk l) 0 0 = t ++ pk (p2 - 1) ((msk l).drop j) j m) (fun s => l.length - s.2.2.toNat) ⟨[], 0, 0, rfl, Nat.zero_le _, hpos, Nat.le_refl _, by simp⟩ (by simp; omega) ?_
  rintro _ ⟨t, m, j, rfl, hj, hm, htl, hpk⟩
  rw [pw_split, pw_ret]
  simp only [decide_eq_true_eq, decide_eq_false_iff_not]
  refine ⟨fun hjl' => ?_, fun hjl' => ?_⟩
  · have hjl : j < l.length := by omega
    have hw4 : IntKind.wrap .i64 ((j : Int) + 1) = ((j + 1 : Nat) : Int) := by rw [w64 (by omega) (by omega)]; omega
    rw [drop_msk l j hjl, pk] at hpk
    rw [← drop_msk l j hjl] at hpk
    have hx := hxg j hjl
    have hxb' := hxb j hjl
    have hib := ib m (bmk l[j]) (by omega) (by omega)
    have hmo := hor _ _ hm hxb'
    rw [hw4]
    refine pw_cut (fun s => ∃ (t' : List Nat) (m' : Nat), s = (nn t', (m' : Int)) ∧ m' < p2 ∧ t'.length ≤ j + 1 ∧ pk (p2 - 1) (msk l) 0 0 = t' ++ pk (p2 - 1) ((msk l).drop (j + 1)) (j + 1) m') ?_ ?_
    · rw [pw_op]
      refine ⟨(), inM_lt (by omega) (by omega), ?_⟩
      rw [pw_op]
      refine ⟨_, (at_nat st j).trans (hst j hj), ?_⟩
      rw [pw_op]
      refine ⟨_, (at_nat _ m).trans (tabR_get _ _ _ _ hm), ?_⟩
      refine pw_cut (fun c => c = decide (0 < nd (p2 - 1) ((msk l).drop j) m ∧ inc (nd (p2 - 1) ((msk l).drop (j + 1)) (m ||| bmk l[j])) = nd (p2 - 1) ((msk l).drop j) m)) ?_ ?_
      · rw [pw_split, pw_ret]
        simp only [decide_eq_true_eq, decide_eq_false_iff_not, Sum.elim_inl]
        refine ⟨fun h1 => ?_, fun h1 => ?_⟩
        · obtain ⟨_, ha, rfl⟩ := add_w (nd (p2 - 1) ((msk l).drop (j + 1)) (m ||| bmk l[j])) (hub _ _)
          simp only [pw_op, pw_ret]
          refine ⟨(), inM_lt (by omega) (by omega), _, (at_nat st (j + 1)).trans (hst (j + 1) hjl), (), inM_lt (by omega) (by omega), _, nn_at hx, _, ?_, _, ha, ?_⟩
          · rw [hib, at_nat]; exact tabR_get _ _ _ _ hmo
          · have h1' : 0 < nd (p2 - 1) ((msk l).drop j) m := by omega
            show (_ == _) = decide _
            simp only [h1', true_and]
            rw [Bool.eq_iff_iff]
            simp only [beq_iff_eq, decide_eq_true_eq]
            omega
        · have h1' : ¬ 0 < nd (p2 - 1) ((msk l).drop j) m := by omega
          simp [h1']
      · rintro _ rfl
        simp only [pw_split, pw_op, pw_ret, Sum.elim_inl, decide_eq_true_eq, decide_eq_false_iff_not]
        refine ⟨fun hc => ⟨_, appM_lt (by simp [nn]; omega), (), inM_lt (by omega) (by omega), _, nn_at hx, t ++ [j], m ||| bmk l[j], ?_, hmo, by simp; omega, ?_⟩, fun hc => ⟨t, m, rfl, hm, by omega, ?_⟩⟩
        · rw [hib]; simp [nn]
        · rw [hpk, if_pos hc]; simp
        · rw [hpk, if_neg hc]
    · rintro _ ⟨t', m', rfl, hm', htl', hpk'⟩
      rw [pw_ret]
      refine ⟨⟨t', m', j + 1, rfl, hjl, hm', htl', hpk'⟩, ?_⟩
      show l.length - ((j + 1 : Nat) : Int).toNat < l.length - (j : Int).toNat
      omega
  · have hjl : j = l.length := by omega
    subst hjl
    rw [List.drop_of_length_le (by omega), pk, List.append_nil] at hpk
    rw [hpk]; rfl
end Go.Proofs.Ytikgppgpailmcaa
