/-
  The plain law of smallest covers: what the table of numbers gives, and what the search with a growing bound gives, are the same.
-/
import Derived.WalkKit
namespace Go.Cov

def inc (v : Nat) : Nat := if v = 255 then 255 else v + 1
/-- How many of the sets are needed, if m is contained already; 255: there are none. -/
def nd (full : Nat) : List Nat → Nat → Nat
  | [], m => if m = full then 0 else 255
  | x :: r, m => min (nd full r m) (inc (nd full r (m ||| x)))
/-- The sets that the table picks. -/
def pk (full : Nat) : List Nat → Nat → Nat → List Nat
  | [], _, _ => []
  | x :: r, i, m => if 0 < nd full (x :: r) m ∧ inc (nd full r (m ||| x)) = nd full (x :: r) m then i :: pk full r (i + 1) (m ||| x) else pk full r (i + 1) m
/-- The search with at most k more sets. -/
def cv (full : Nat) : List Nat → Nat → Nat → Nat → Option (List Nat)
  | l, i, m, k =>
    if m = full then some [] else if k = 0 then none else
    match l with
    | [] => none
    | x :: r => if m ||| x = m then cv full r (i + 1) m k else
      match cv full r (i + 1) (m ||| x) (k - 1) with
      | some t => some (i :: t)
      | none => cv full r (i + 1) m k

theorem cv_full (full i k : Nat) (l : List Nat) : cv full l i full k = some [] := by rw [cv.eq_def]; simp
theorem cv_zero (full i m : Nat) (l : List Nat) (h : m ≠ full) : cv full l i m 0 = none := by rw [cv.eq_def]; simp [h]
theorem cv_nil (full i m k : Nat) : cv full [] i m k = if m = full then some [] else none := by
  rw [cv]; split <;> simp
theorem cv_cons (full x : Nat) (r : List Nat) (i m k : Nat) : cv full (x :: r) i m k = if m = full then some [] else if k = 0 then none else if m ||| x = m then cv full r (i + 1) m k else
      match cv full r (i + 1) (m ||| x) (k - 1) with
      | some t => some (i :: t)
      | none => cv full r (i + 1) m k := by rw [cv]

theorem nd_full (full : Nat) (l : List Nat) (h : ∀ x ∈ l, full ||| x = full) : nd full l full = 0 := by
  induction l with
  | nil => simp [nd]
  | cons x r ih => rw [nd, ih fun y hy => h y (by simp [hy])]; simp
theorem nd_pos (full : Nat) (l : List Nat) (m : Nat) (h : m ≠ full) : 0 < nd full l m := by
  induction l generalizing m with
  | nil => simp [nd, h]
  | cons x r ih =>
    rw [nd]
    have h1 := ih m h
    have : 0 < inc (nd full r (m ||| x)) := by unfold inc; split <;> omega
    omega
theorem nd_le (full : Nat) (l : List Nat) (m : Nat) (hl : l.length ≤ 64) : nd full l m = 255 ∨ nd full l m ≤ l.length := by
  induction l generalizing m with
  | nil => simp only [nd]; split <;> simp
  | cons x r ih =>
    have h1 := ih m (by simp at hl; omega)
    have h2 := ih (m ||| x) (by simp at hl; omega)
    rw [nd]
    simp only [List.length_cons] at hl ⊢
    unfold inc
    split <;> omega
theorem inc_le (v k : Nat) (hk : k < 255) : inc v ≤ k ↔ v ≤ k - 1 ∧ 0 < k := by
  unfold inc; split <;> omega

/-- The search finds something exactly if the table's number is small enough. -/
theorem cv_some (full : Nat) : ∀ (l : List Nat) (i m k : Nat), (∀ x ∈ l, full ||| x = full) → k < 255 → ((cv full l i m k).isSome ↔ nd full l m ≤ k)
  | [], i, m, k, _, hk => by
    rw [cv_nil, nd]; split
    · simp
    · simp; omega
  | x :: r, i, m, k, hx, hk => by
    rw [cv_cons]
    by_cases hm : m = full
    · subst hm; rw [if_pos rfl, nd_full _ _ hx]; simp
    · rw [if_neg hm]
      have hp := nd_pos full (x :: r) m hm
      by_cases hk0 : k = 0
      · rw [if_pos hk0]; simp; omega
      · rw [if_neg hk0]
        have hr : ∀ y ∈ r, full ||| y = full := fun y hy => hx y (by simp [hy])
        have ih1 := cv_some full r (i + 1) m k hr hk
        by_cases hmx : m ||| x = m
        · rw [if_pos hmx, ih1, nd, hmx]
          unfold inc; split <;> omega
        · rw [if_neg hmx]
          have ih2 := cv_some full r (i + 1) (m ||| x) (k - 1) hr (by omega)
          rw [nd]
          have hi := inc_le (nd full r (m ||| x)) k hk
          cases hc : cv full r (i + 1) (m ||| x) (k - 1) with
          | some t => rw [hc] at ih2; simp at ih2 ⊢; omega
          | none => rw [hc] at ih2; simp at ih2 ⊢; rw [ih1]; omega

/-- At the least bound the search finds what the table picks. -/
theorem cv_pk (full : Nat) : ∀ (l : List Nat) (i m k : Nat), (∀ x ∈ l, full ||| x = full) → k < 255 → nd full l m = k → cv full l i m k = some (pk full l i m)
  | [], i, m, k, _, hk, h => by
    rw [cv_nil]; simp only [nd] at h
    split at h
    · rename_i hm; simp [pk, hm]
    · omega
  | x :: r, i, m, k, hx, hk, h => by
    rw [cv_cons]
    have hr : ∀ y ∈ r, full ||| y = full := fun y hy => hx y (by simp [hy])
    by_cases hm : m = full
    · subst hm
      rw [if_pos rfl]
      have hz : ∀ (l : List Nat) j, (∀ y ∈ l, m ||| y = m) → pk m l j m = [] := by
        intro l
        induction l with
        | nil => intro j _; rfl
        | cons y t ih =>
          intro j hy
          have h0 := nd_full m (y :: t) hy
          rw [pk, if_neg (by omega)]
          exact ih (j + 1) fun z hz => hy z (by simp [hz])
      rw [hz _ _ hx]
    · rw [if_neg hm]
      have hp := nd_pos full (x :: r) m hm
      rw [if_neg (by omega)]
      have ih1 := cv_some full r (i + 1) m k hr hk
      have hnd : nd full (x :: r) m = min (nd full r m) (inc (nd full r (m ||| x))) := rfl
      by_cases hmx : m ||| x = m
      · rw [if_pos hmx]
        have hlow : nd full r m = k := by
          rw [hnd, hmx] at h; unfold inc at h; split at h <;> omega
        have hne : ¬ (0 < nd full (x :: r) m ∧ inc (nd full r (m ||| x)) = nd full (x :: r) m) := by
          rw [hmx, h]; unfold inc; split <;> omega
        rw [pk, if_neg hne]
        exact cv_pk full r (i + 1) m k hr hk hlow
      · rw [if_neg hmx]
        have ih2 := cv_some full r (i + 1) (m ||| x) (k - 1) hr (by omega)
        by_cases hin : inc (nd full r (m ||| x)) = k
        · have hlow : nd full r (m ||| x) = k - 1 := by unfold inc at hin; split at hin <;> omega
          rw [cv_pk full r (i + 1) (m ||| x) (k - 1) hr (by omega) hlow]
          rw [pk, if_pos ⟨hp, by rw [h, hin]⟩]
        · have hge : ¬ (nd full r (m ||| x) ≤ k - 1) := by
            intro hle
            have := (inc_le (nd full r (m ||| x)) k hk).2 ⟨hle, by omega⟩
            rw [hnd] at h; omega
          cases hc : cv full r (i + 1) (m ||| x) (k - 1) with
          | some t => rw [hc] at ih2; simp at ih2; omega
          | none =>
            simp only
            rw [pk, if_neg (by rw [h]; omega)]
            have hlow : nd full r m = k := by
              have h2 : nd full (x :: r) m ≤ k := by omega
              rw [hnd] at h
              have : inc (nd full r (m ||| x)) ≤ k → False := fun hle => hge ((inc_le _ k hk).1 hle).1
              omega
            exact cv_pk full r (i + 1) m k hr hk hlow

theorem cv_len (full : Nat) : ∀ (l : List Nat) (i m k : Nat) (t : List Nat), cv full l i m k = some t → t.length ≤ l.length
  | [], i, m, k, t, h => by
    rw [cv_nil] at h; split at h
    · cases h; simp
    · cases h
  | x :: r, i, m, k, t, h => by
    rw [cv_cons] at h
    split at h
    · cases h; simp
    · split at h
      · cases h
      · split at h
        · have := cv_len full r _ _ _ t h; simp; omega
        · cases hc : cv full r (i + 1) (m ||| x) (k - 1) with
          | some u => rw [hc] at h; cases h; have := cv_len full r _ _ _ u hc; simp; omega
          | none => rw [hc] at h; have := cv_len full r _ _ _ t h; simp; omega

/-- Bits of m, below n, that are missing. -/
def miss : Nat → Nat → Nat
  | 0, _ => 0
  | n + 1, m => (if m.testBit n then 0 else 1) + miss n m
theorem miss_le (n m : Nat) : miss n m ≤ n := by
  induction n with
  | zero => simp [miss]
  | succ n ih => simp only [miss]; split <;> omega
theorem miss_or_le (n m x : Nat) : miss n (m ||| x) ≤ miss n m := by
  induction n with
  | zero => simp [miss]
  | succ n ih =>
    simp only [miss, Nat.testBit_or]
    cases m.testBit n <;> cases x.testBit n <;> simp <;> omega
theorem miss_or_lt (n m x : Nat) (k : Nat) (hk : k < n) (h1 : m.testBit k = false) (h2 : x.testBit k = true) : miss n (m ||| x) < miss n m := by
  induction n with
  | zero => omega
  | succ n ih =>
    have hle := miss_or_le n m x
    simp only [miss, Nat.testBit_or]
    by_cases hkn : k = n
    · subst hkn; rw [h1, h2]; simp; omega
    · have := ih (by omega)
      cases m.testBit n <;> cases x.testBit n <;> simp <;> omega
theorem or_ne (n m x : Nat) (hx : x < 2 ^ n) (h : m ||| x ≠ m) : ∃ k, k < n ∧ m.testBit k = false ∧ x.testBit k = true := by
  apply Classical.byContradiction
  intro hn
  apply h
  apply Nat.eq_of_testBit_eq
  intro k
  rw [Nat.testBit_or]
  cases hm : m.testBit k
  · cases hxk : x.testBit k
    · rfl
    · exfalso
      refine hn ⟨k, ?_, hm, hxk⟩
      apply Classical.byContradiction
      intro hk
      have := Nat.testBit_lt_two_pow (x := x) (i := k) (Nat.lt_of_lt_of_le hx (Nat.pow_le_pow_right (by omega) (by omega)))
      rw [this] at hxk; cases hxk
  · rfl
/-- No more sets are needed than elements are missing. -/
theorem nd_miss (full n : Nat) (hn : n ≤ 16) (l : List Nat) (m : Nat) (hl : ∀ x ∈ l, x < 2 ^ n) : nd full l m = 255 ∨ nd full l m ≤ miss n m := by
  induction l generalizing m with
  | nil => simp only [nd]; split <;> simp
  | cons x r ih =>
    have h1 := ih m fun y hy => hl y (by simp [hy])
    have h2 := ih (m ||| x) fun y hy => hl y (by simp [hy])
    rw [nd]
    by_cases hmx : m ||| x = m
    · rw [hmx]; unfold inc; split <;> omega
    · obtain ⟨k, hk, hk1, hk2⟩ := or_ne n m x (hl x (by simp)) hmx
      have := miss_or_lt n m x k hk hk1 hk2
      have hb := miss_le n m
      unfold inc; split <;> omega

/-- The search with a growing bound. -/
def grow (full : Nat) (l : List Nat) : Nat → Nat → Option (List Nat)
  | 0, _ => none
  | f + 1, k => match cv full l 0 0 k with
    | some t => some t
    | none => grow full l f (k + 1)
theorem grow_eq (full : Nat) (l : List Nat) (hx : ∀ x ∈ l, full ||| x = full) : ∀ (f k : Nat), k + f < 255 → k ≤ nd full l 0 → (nd full l 0 = 255 ∨ nd full l 0 < k + f) →
    grow full l f k = if nd full l 0 = 255 then none else some (pk full l 0 0)
  | 0, k, hf, h1, h2 => by rw [grow]; rw [if_pos (by omega)]
  | f + 1, k, hf, h1, h2 => by
    rw [grow]
    have hs := cv_some full l 0 0 k hx (by omega)
    by_cases hk : nd full l 0 = k
    · rw [cv_pk full l 0 0 k hx (by omega) hk, if_neg (by omega)]
    · cases hc : cv full l 0 0 k with
      | some t => rw [hc] at hs; simp at hs; omega
      | none => exact grow_eq full l hx f (k + 1) (by omega) (by omega) (by omega)

end Go.Cov
