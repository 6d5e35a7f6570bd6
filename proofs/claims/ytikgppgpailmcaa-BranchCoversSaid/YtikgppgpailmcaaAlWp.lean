/-
  What a program gives, by assertions.
-/
import Derived.Test.YtikgppgpailmcaaAlPlain
namespace Go.AL
section
variable {τ σ ρ α : Type}

/-- The program gives a value, and it is in Q. -/
def Pw (p : Prog τ) (Q : τ → Prop) : Prop := ∃ r, p.eval = some r ∧ Q r
theorem Pw.eval {p : Prog τ} {v : τ} (h : Pw p fun r => r = v) : p.eval = some v := by
  obtain ⟨r, h1, rfl⟩ := h; exact h1
theorem Pw.mono {p : Prog τ} {Q R : τ → Prop} (h : Pw p Q) (hr : ∀ r, Q r → R r) : Pw p R := let ⟨r, h1, h2⟩ := h; ⟨r, h1, hr r h2⟩
theorem pw_eval {p : Prog τ} {v : τ} {Q : τ → Prop} (h : p.eval = some v) : Pw p Q ↔ Q v :=
  ⟨fun ⟨r, h1, h2⟩ => by rw [h] at h1; cases h1; exact h2, fun hq => ⟨v, h, hq⟩⟩

theorem pw_ret {r : τ} {Q : τ → Prop} : Pw (.ret r) Q ↔ Q r := pw_eval rfl
theorem pw_inner {p : Prog τ} {Q : τ → Prop} : Pw (.inner p) Q ↔ Pw p Q := Iff.rfl
theorem pw_op {κ : Ky} {m : Option α} {e : α → D} {k : α → Prog τ} {Q : τ → Prop} : Pw (.op κ m e k) Q ↔ ∃ a, m = some a ∧ Pw (k a) Q := by
  unfold Pw
  rw [eval_op]
  constructor
  · intro ⟨r, h1, h2⟩
    obtain ⟨a, ha, h3⟩ := Option.bind_eq_some_iff.1 h1
    exact ⟨a, ha, r, h3, h2⟩
  · intro ⟨a, ha, r, h3, h2⟩
    exact ⟨r, by rw [ha]; exact h3, h2⟩
theorem pw_mem {κ : Ky} {m : Option α} {c : α → Ob} {k : α → Prog τ} {Q : τ → Prop} : Pw (.mem κ m c k) Q ↔ ∃ a, m = some a ∧ Pw (k a) Q := by
  unfold Pw
  rw [eval_mem]
  constructor
  · intro ⟨r, h1, h2⟩
    obtain ⟨a, ha, h3⟩ := Option.bind_eq_some_iff.1 h1
    exact ⟨a, ha, r, h3, h2⟩
  · intro ⟨a, ha, r, h3, h2⟩
    exact ⟨r, by rw [ha]; exact h3, h2⟩
theorem pw_call {κ : Ky} {q : Prog α} {e : α → D} {k : α → Prog τ} {Q : τ → Prop} (R : α → Prop) (h : Pw q R) (hk : ∀ a, R a → Pw (k a) Q) : Pw (.op κ q.eval e k) Q := by
  obtain ⟨a, h1, h2⟩ := h
  exact pw_op.2 ⟨a, h1, hk a h2⟩
theorem pw_fix {i t len k : Nat} {xs : List (List D)} {p : Prog τ} {Q : τ → Prop} : Pw (.fix i t len k xs p) Q ↔ xs.length = len ∧ Pw p Q := by
  unfold Pw
  rw [eval_fix]
  constructor
  · intro ⟨r, h1, h2⟩
    split at h1
    · rename_i h; exact ⟨h, r, h1, h2⟩
    · cases h1
  · intro ⟨h, r, h1, h2⟩
    exact ⟨r, by rw [if_pos h]; exact h1, h2⟩
theorem pw_split {t : Nat} {c : Bool} {x y : Prog τ} {Q : τ → Prop} : Pw (.split t c x y) Q ↔ (c = true → Pw x Q) ∧ (c = false → Pw y Q) := by
  unfold Pw
  rw [eval_split]
  cases c <;> simp
theorem pw_join {l : List Nat} {A : σ → List (Nat × D) × List Ob} {m : Prog (σ ⊕ τ)} {k : σ → Prog τ} {Q : τ → Prop} : Pw (.join l A m k) Q ↔ Pw m (Sum.elim (fun st => Pw (k st) Q) Q) := by
  unfold Pw
  rw [eval_join]
  constructor
  · intro ⟨r, h1, h2⟩
    unfold joinE at h1
    split at h1
    · rename_i st h; exact ⟨_, h, r, h1, h2⟩
    · rename_i r' h; cases h1; exact ⟨_, h, h2⟩
    · cases h1
  · intro ⟨x, h1, h2⟩
    rw [h1]
    cases x with
    | inl st => exact h2
    | inr r => exact ⟨r, rfl, h2⟩
/-- With an assertion between. -/
theorem pw_cut {l : List Nat} {A : σ → List (Nat × D) × List Ob} {m : Prog (σ ⊕ τ)} {k : σ → Prog τ} {Q : τ → Prop} (R : σ → Prop) (h : Pw m (Sum.elim R Q)) (hk : ∀ st, R st → Pw (k st) Q) : Pw (.join l A m k) Q :=
  pw_join.2 (h.mono fun x hx => by
    cases x with
    | inl st => exact hk st hx
    | inr r => exact hx)
theorem pw_rng {x tc n : Nat} {l : List Nat} {A : Int → σ → List (Nat × D) × List Ob} {st : σ} {body : Nat → σ → Prog (σ ⊕ τ)} {ex : σ → τ} {Q : τ → Prop} (I : Nat → σ → Prop) (h0 : I 0 st)
    (hb : ∀ i s, i < n → I i s → Pw (body i s) (Sum.elim (I (i + 1)) Q)) (hx : ∀ s, I n s → Q (ex s)) : Pw (.rng x tc n l A st body ex) Q := by
  unfold Pw
  rw [eval_rng]
  have : ∀ k i s, i + k = n → I i s → ∃ r, rngE (fun i st => (body i st).eval) ex k i s = some r ∧ Q r := by
    intro k
    induction k with
    | zero => intro i s hi hI; exact ⟨_, rfl, hx s (by rwa [← hi])⟩
    | succ k ih =>
      intro i s hi hI
      obtain ⟨y, h1, h2⟩ := hb i s (by omega) hI
      rw [rngE, h1]
      cases y with
      | inl s' => exact ih (i + 1) s' (by omega) h2
      | inr r => exact ⟨r, rfl, h2⟩
  exact this n 0 st (by omega) h0
theorem pw_loop {l : List Nat} {A : σ → List (Nat × D) × List Ob} {st : σ} {nx : σ → ρ → σ} {body : σ → Prog (ρ ⊕ τ)} {Q : τ → Prop} (I : σ → Prop) (μ : σ → Nat) (h0 : I st) (hμ : μ st < 18446744073709551616)
    (hb : ∀ s, I s → Pw (body s) (Sum.elim (fun x => I (nx s x) ∧ μ (nx s x) < μ s) Q)) : Pw (.loop l A st nx body) Q := by
  unfold Pw
  rw [eval_loop]
  have : ∀ k s, μ s < k → I s → ∃ r, loopE nx (fun st => (body st).eval) k s = some r ∧ Q r := by
    intro k
    induction k with
    | zero => intro s hi; omega
    | succ k ih =>
      intro s hi hI
      obtain ⟨y, h1, h2⟩ := hb s hI
      rw [loopE, h1]
      cases y with
      | inl x => exact ih _ (by have := h2.2; omega) h2.1
      | inr r => exact ⟨r, rfl, h2⟩
  exact this _ st (by unfold big; omega) h0

theorem at_lt {xs : List α} {i : Int} (h0 : 0 ≤ i) (h : i < xs.length) : at_ xs i = some (xs[i.toNat]'(by omega)) := by
  unfold at_
  rw [if_neg (by omega), List.getElem?_eq_getElem]
theorem setM_lt {xs : List α} {i : Int} {v : α} (h0 : 0 ≤ i) (h : i < xs.length) : setM xs i v = some (xs.set i.toNat v) := by
  unfold setM; rw [if_pos ⟨h0, h⟩]
theorem inM_lt {n : Int} {len : Nat} (h0 : 0 ≤ n) (h : n < len) : inM n len = some () := by
  unfold inM; rw [if_pos ⟨h0, h⟩]
theorem mkM_lt {bytes : Nat} {n : Int} {z : α} (h0 : 0 ≤ n) (h : (bytes : Int) * n ≤ 281474976710656) (h2 : n ≤ 9223372036854775807) : mkM bytes n n z = some (List.replicate n.toNat z) := by
  unfold mkM; rw [if_pos ⟨rfl, h0, h, h2⟩]
theorem appM_lt {bytes : Nat} {xs ys : List α} (h : (xs.length + ys.length) * bytes ≤ 140737488355328) : appM bytes xs ys = some (xs ++ ys) := by
  unfold appM; rw [if_pos h]
theorem w64 {n : Int} (h1 : -9223372036854775808 ≤ n) (h2 : n < 9223372036854775808) : IntKind.wrap .i64 n = n := IntWalk.i64_in n ⟨h1, by omega⟩
end
end Go.AL
