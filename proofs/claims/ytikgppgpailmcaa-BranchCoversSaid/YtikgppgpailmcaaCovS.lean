/-
  Sets as numbers, and the answer of a search for smallest covers, in plain values.
-/
import Derived.Test.YtikgppgpailmcaaCovLaw
namespace Go.Cov

def bmk : List Bool → Nat
  | [] => 0
  | b :: r => (if b then 1 else 0) + 2 * bmk r
theorem bits_test (s : List Bool) : ∀ j, (bmk s).testBit j = (s[j]?).getD false := by
  induction s with
  | nil => intro j; simp [bmk]
  | cons b r ih =>
    intro j
    cases j with
    | zero => simp only [bmk, Nat.testBit_zero]; cases b <;> simp <;> omega
    | succ j =>
      rw [Nat.testBit_succ]
      have : bmk (b :: r) / 2 = bmk r := by simp only [bmk]; cases b <;> simp <;> omega
      rw [this, ih]; simp
theorem bits_lt (s : List Bool) : bmk s < 2 ^ s.length := by
  induction s with
  | nil => simp [bmk]
  | cons b r ih => simp only [bmk, List.length_cons, Nat.pow_succ]; split <;> omega
def openOf (n m : Nat) : List Bool := (List.range n).map fun j => !m.testBit j
theorem openOf_length (n m : Nat) : (openOf n m).length = n := by simp [openOf]
theorem full_of (n m : Nat) (hm : m < 2 ^ n) (h : ∀ j, j < n → m.testBit j = true) : m = 2 ^ n - 1 := by
  apply Nat.eq_of_testBit_eq
  intro j
  rw [Nat.testBit_two_pow_sub_one]
  by_cases hj : j < n
  · simp [hj, h j hj]
  · simp only [hj, decide_false]
    exact Nat.testBit_lt_two_pow (Nat.lt_of_lt_of_le hm (Nat.pow_le_pow_right (by omega) (by omega)))
theorem not_full (n m j : Nat) (hj : j < n) (h : m.testBit j = false) : m ≠ 2 ^ n - 1 := by
  intro e; rw [e, Nat.testBit_two_pow_sub_one] at h; simp at h; omega

def msk (l : List (List Bool)) : List Nat := l.map bmk
def us (m x : Nat) : Nat → Bool
  | 0 => false
  | j + 1 => us m x j || (!m.testBit j && x.testBit j)
theorem us_or (m x : Nat) : ∀ j, us m x j = false → ∀ i, i < j → (m ||| x).testBit i = m.testBit i
  | 0, _, i, h => by omega
  | j + 1, h, i, hi => by
    simp only [us, Bool.or_eq_false_iff] at h
    by_cases hij : i = j
    · subst hij
      rw [Nat.testBit_or]
      have := h.2
      revert this
      cases m.testBit i <;> cases x.testBit i <;> simp
    · exact us_or m x j h.1 i (by omega)
theorem us_true (m x : Nat) : ∀ j, us m x j = true → ∃ i, i < j ∧ m.testBit i = false ∧ x.testBit i = true
  | 0, h => by simp [us] at h
  | j + 1, h => by
    simp only [us, Bool.or_eq_true, Bool.and_eq_true, Bool.not_eq_true'] at h
    rcases h with h | h
    · obtain ⟨i, h1, h2⟩ := us_true m x j h; exact ⟨i, by omega, h2⟩
    · exact ⟨j, by omega, h⟩
theorem us_false_eq (n m x : Nat) (hm : m < 2 ^ n) (hx : x < 2 ^ n) (h : us m x n = false) : m ||| x = m := by
  apply Nat.eq_of_testBit_eq
  intro i
  by_cases hi : i < n
  · exact us_or m x n h i hi
  · have h1 := Nat.testBit_lt_two_pow (x := m) (i := i) (Nat.lt_of_lt_of_le hm (Nat.pow_le_pow_right (by omega) (by omega)))
    have h2 := Nat.testBit_lt_two_pow (x := x) (i := i) (Nat.lt_of_lt_of_le hx (Nat.pow_le_pow_right (by omega) (by omega)))
    rw [Nat.testBit_or, h1, h2]; rfl
theorem us_true_ne (n m x : Nat) (h : us m x n = true) : m ||| x ≠ m := by
  obtain ⟨i, _, h1, h2⟩ := us_true m x n h
  intro e
  have := congrArg (·.testBit i) e
  simp only [Nat.testBit_or, h1, h2] at this
  cases this
theorem drop_msk (l : List (List Bool)) (i : Nat) (h : i < l.length) : (msk l).drop i = bmk l[i] :: (msk l).drop (i + 1) := by
  rw [List.drop_eq_getElem_cons (by simpa [msk] using h)]; simp [msk]

def covS (l : List (List Bool)) (n : Int) : List Nat × Int :=
  if n < 0 ∨ 16 < n then ([], 1) else if 64 < l.length then ([], 2) else if ∃ s ∈ l, (s.length : Int) ≠ n then ([], 2) else
  if nd (2 ^ n.toNat - 1) (msk l) 0 = 255 then ([], 7) else (pk (2 ^ n.toNat - 1) (msk l) 0 0, 0)
theorem msk_lt (l : List (List Bool)) (n : Nat) (h : ∀ s ∈ l, s.length = n) : ∀ x ∈ msk l, x < 2 ^ n := fun x hx => by
  obtain ⟨s, hs, rfl⟩ := List.mem_map.1 hx
  rw [← h s hs]; exact bits_lt s
theorem full_or (n x : Nat) (h : x < 2 ^ n) : (2 ^ n - 1) ||| x = 2 ^ n - 1 := by
  apply Nat.eq_of_testBit_eq
  intro j
  rw [Nat.testBit_or, Nat.testBit_two_pow_sub_one]
  by_cases hj : j < n
  · simp [hj]
  · have := Nat.testBit_lt_two_pow (x := x) (i := j) (Nat.lt_of_lt_of_le h (Nat.pow_le_pow_right (by omega) (by omega)))
    simp [hj, this]
theorem inc_ub (v : Nat) (h : v ≤ 255) : inc v ≤ 255 := by unfold inc; split <;> omega
theorem or_i64 (x y : Nat) (hx : x < 2 ^ 16) (hy : y < 2 ^ 16) : IntKind.i64.wrap (((BitVec.ofInt IntKind.i64.bits (x : Int) ||| BitVec.ofInt IntKind.i64.bits (y : Int)).toNat : Nat) : Int) = ((x ||| y : Nat) : Int) := by
  have h := Nat.or_lt_two_pow hx hy
  have e : ∀ z : Nat, z < 2 ^ 16 → (BitVec.ofInt IntKind.i64.bits (z : Int)).toNat = z := fun z hz => by
    rw [BitVec.ofInt_natCast, BitVec.toNat_ofNat]
    exact Nat.mod_eq_of_lt (Nat.lt_trans hz (by decide))
  rw [BitVec.toNat_or, e x hx, e y hy, IntWalk.i64_in _ (by omega)]
theorem shl_i64 (j : Nat) (hj : j ≤ 16) : IntKind.i64.wrap (1 * 2 ^ (min (j : Int).toNat IntKind.i64.bits)) = ((2 ^ j : Nat) : Int) := by
  have h : min (j : Int).toNat IntKind.i64.bits = j := by
    rw [Int.toNat_natCast]; exact Nat.min_eq_left (Nat.le_trans hj (by decide))
  have h2 : 2 ^ j ≤ 2 ^ 16 := Nat.pow_le_pow_right (by omega) hj
  have h3 : ((2 : Int) ^ j) = ((2 ^ j : Nat) : Int) := by simp
  rw [h, Int.one_mul, h3]
  generalize 2 ^ j = q at h2 ⊢
  exact IntWalk.i64_in _ (by omega)
theorem bits_take (s : List Bool) (j : Nat) (h : j < s.length) : bmk (s.take (j + 1)) = if s[j] then bmk (s.take j) ||| 2 ^ j else bmk (s.take j) := by
  apply Nat.eq_of_testBit_eq
  intro i
  have e1 : (bmk (s.take (j + 1))).testBit i = ((s.take (j + 1))[i]?).getD false := bits_test _ _
  have e2 : (bmk (s.take j)).testBit i = ((s.take j)[i]?).getD false := bits_test _ _
  rw [e1]
  split
  · rename_i hs
    rw [Nat.testBit_or, e2, Nat.testBit_two_pow]
    simp only [List.getElem?_take]
    by_cases h1 : i < j
    · simp [h1, show i < j + 1 by omega, show ¬ j = i by omega]
    · by_cases h2 : j = i
      · subst h2; simp [hs, h]
      · simp [h1, show ¬ i < j + 1 by omega, h2]
  · rename_i hs
    rw [e2]
    simp only [List.getElem?_take]
    by_cases h1 : i < j
    · simp [h1, show i < j + 1 by omega]
    · by_cases h2 : i = j
      · subst h2; simpa [h] using hs
      · simp [h1, show ¬ i < j + 1 by omega]

def Xi (l : List (List Bool)) (i : Nat) : List Nat := msk (l.take i) ++ List.replicate (l.length - i) 0
theorem Xi_len (l : List (List Bool)) (i : Nat) (h : i ≤ l.length) : (Xi l i).length = l.length := by simp [Xi, msk]; omega
theorem Xi_succ (l : List (List Bool)) (i : Nat) (h : i < l.length) : (Xi l i).set i (bmk l[i]) = Xi l (i + 1) := by
  unfold Xi
  have h1 : (msk (l.take i)).length = i := by simp [msk]; omega
  rw [List.set_append_right _ _ (by omega), h1, Nat.sub_self]
  obtain ⟨q, hq⟩ : ∃ q, l.length - i = q + 1 := ⟨l.length - i - 1, by omega⟩
  rw [hq, show l.length - (i + 1) = q by omega, List.replicate_succ, List.set_cons_zero]
  have h2 : msk (l.take (i + 1)) = msk (l.take i) ++ [bmk l[i]] := by
    rw [List.take_succ_eq_append_getElem h]; simp only [msk, List.map_append, List.map_cons, List.map_nil]
  rw [h2]; simp
theorem Xi_zero (l : List (List Bool)) (i : Nat) (h : i < l.length) : (Xi l i).set i 0 = Xi l i := by
  unfold Xi
  have h1 : (msk (l.take i)).length = i := by simp [msk]; omega
  rw [List.set_append_right _ _ (by omega), h1, Nat.sub_self]
  obtain ⟨q, hq⟩ : ∃ q, l.length - i = q + 1 := ⟨l.length - i - 1, by omega⟩
  rw [hq, List.replicate_succ, List.set_cons_zero]
theorem Xi_all (l : List (List Bool)) : Xi l l.length = msk l := by simp [Xi]

def sgn (a b : Int) : Int := if a < b then -1 else if b < a then 1 else 0
def cmpI : List Int → List Int → Int
  | [], [] => 0
  | [], _ :: _ => -1
  | _ :: _, [] => 1
  | a :: x, b :: y => if a < b then -1 else if b < a then 1 else cmpI x y

theorem cmpI_drop (a b : List Int) (i : Nat) (ha : i < a.length) (hb : i < b.length) : cmpI (a.drop i) (b.drop i) = if a[i] < b[i] then -1 else if b[i] < a[i] then 1 else cmpI (a.drop (i + 1)) (b.drop (i + 1)) := by
  rw [List.drop_eq_getElem_cons ha, List.drop_eq_getElem_cons hb, cmpI]
theorem cmpI_end (a b : List Int) (i : Nat) (ha : i ≤ a.length) (hb : i ≤ b.length) (h : ¬ (i < a.length ∧ i < b.length)) : cmpI (a.drop i) (b.drop i) = sgn a.length b.length := by
  by_cases h1 : i < a.length
  · have h2 : i = b.length := by omega
    subst h2
    rw [List.drop_eq_getElem_cons h1, List.drop_length, cmpI, sgn, if_neg (by omega), if_pos (by omega)]
  · have h2 : i = a.length := by omega
    subst h2
    rw [List.drop_length]
    by_cases h3 : a.length < b.length
    · rw [List.drop_eq_getElem_cons h3, cmpI, sgn, if_pos (by omega)]
    · rw [List.drop_of_length_le (by omega), cmpI, sgn, if_neg (by omega), if_neg (by omega)]

theorem cmpI_self (a : List Int) : cmpI a a = 0 := by
  induction a with
  | nil => rfl
  | cons x r ih => rw [cmpI, if_neg (by omega), if_neg (by omega), ih]
def nn (t : List Nat) : List Int := t.map Int.ofNat
def resC (o : Option (List Nat)) : List Int × Bool := match o with
  | some t => (nn t, true)
  | none => ([], false)
theorem openOf_get (n m j : Nat) (h : j < n) : (openOf n m)[j]? = some (!m.testBit j) := by simp [openOf, h]
theorem openOf_next (j m : Nat) : openOf (j + 1) m = openOf j m ++ [!m.testBit j] := by simp [openOf, List.range_succ]
theorem openOf_zero (n : Nat) : openOf n 0 = List.replicate n true := by simp [openOf, List.map_const']
end Go.Cov
