/-
  An array that is written no more becomes a slice that is only read.
-/
import Derived.Test.YtikgppgpailmcaaAlBody
namespace Go.AL

section
variable {P : Program} {w : World} {Z : Zone} {m : List Nat} {cl : Cl} {s : AS} {a : Act}

def clDrop (cl : Cl) (i : Nat) : Cl := fun k => if k = .obj i then none else match k with
  | .cell i' j => if i' = i then none else cl (.cell i' j)
  | k => cl k

theorem clDrop_some {i k b} (h : clDrop cl i k = some b) : k ≠ .obj i ∧ cl k = some b := by
  unfold clDrop at h
  split at h
  · cases h
  · rename_i hk
    refine ⟨hk, ?_⟩
    split at h
    · split at h
      · cases h
      · exact h
    · exact h

theorem Rel.sealed (h : Rel w Z m cl s a) {i t len k : Nat} {cs : List D} {xs : List (List D)} (hs : s.S[i]? = some (.arr cs)) (ht : s.get t = .msl i 0 len) (hx : cs = xs.flatten) (hxl : xs.length = len) (hk : ∀ x ∈ xs, x.length = k) (_htn : t < s.n) :
    ∃ Z' cl', Rel w Z' m cl' { s with S := s.S.set i .dead, env := (t, .sl xs) :: s.env, eqs := [] } a ∧ Step w Z m cl w Z' m cl' := by
  have hv := h.rv t
  rw [ht] at hv
  obtain ⟨cap, b, ⟨hcap, hmx⟩, hm, hve⟩ : ∃ cap b, (len ≤ cap ∧ len ≤ 9223372036854775807) ∧ m[i]? = some b ∧ a.tmps.getD t Go.undef = .slice (some ⟨b, 0, none⟩) len cap := by
    generalize a.tmps.getD t Go.undef = u at hv
    cases hv; exact ⟨_, _, by assumption, by assumption, rfl⟩
  obtain ⟨h1, h2, vs, e, h3, h4, h6, h5⟩ := h.aro i cs b hs hm
  have hilt : i < s.S.length := (List.getElem?_eq_some_iff.1 hs).1
  have hfl : ∀ (ys : List (List D)), (∀ x ∈ ys, x.length = k) → ys.flatten.length = ys.length * k := by
    intro ys
    induction ys with
    | nil => intro _; simp
    | cons y r ih => intro hy; rw [List.flatten_cons, List.length_append, ih fun z hz => hy z (by simp [hz]), hy y (by simp), List.length_cons, Nat.add_mul]; omega
  have hget : ∀ (ys : List (List D)), (∀ x ∈ ys, x.length = k) → ∀ (i j : Nat) (x : List D) (d : D), ys[i]? = some x → x[j]? = some d → ys.flatten[i * k + j]? = some d := by
    intro ys
    induction ys with
    | nil => intro _ i j x d hx; simp at hx
    | cons y r ih =>
      intro hy i j x d hx hd
      have hyk := hy y (by simp)
      rw [List.flatten_cons]
      cases i with
      | zero =>
        simp at hx; subst hx
        have hj : j < k := by rw [← hyk]; exact (List.getElem?_eq_some_iff.1 hd).1
        rw [Nat.zero_mul, Nat.zero_add, List.getElem?_append_left (by omega)]; exact hd
      | succ i =>
        simp at hx
        rw [List.getElem?_append_right (by rw [hyk, Nat.add_mul]; omega), hyk, show (i + 1) * k + j - k = i * k + j by rw [Nat.add_mul]; omega]
        exact ih (fun z hz => hy z (by simp [hz])) i j x d hx hd
  let Z' : Zone := fun b' o => Z b' o ∨ (b' = b ∧ o < cs.length)
  have cellb : ∀ o, o < cs.length → ∃ v, vs[o]? = some v ∧ w.cell? ⟨b, o, none⟩ = some v := fun o ho => by
    have hlt : o < vs.size := by omega
    exact ⟨vs[o], by simp [hlt], by simp [World.cell?, h3, hlt]⟩
  have hst : Step w Z m cl w Z' m (clDrop cl i) := {
    os := rfl, tape := rfl, output := rfl, size := Nat.le_refl _
    frame := fun _ _ _ => rfl
    zmono := fun _ _ h => .inl h
    zold := fun b' o _ hk hz => hz.resolve_right fun ⟨e, _⟩ => hk (.obj i) (by rw [e]; exact h1)
    keep := fun _ _ _ => rfl
    clm := fun k b' hk => .inr ⟨k, (clDrop_some hk).2⟩ }
  have own : ∀ k d v, k ≠ .obj i → (∀ j, k ≠ .cell i j) → Own w Z cl k d v → Own w Z' (clDrop cl i) k d v := fun k d v hk hk2 ho sz xs hd b' off cap hv hlt => by
    obtain ⟨q1, q2, q3, q4, q5⟩ := ho sz xs hd b' off cap hv hlt
    have hb : b' ≠ b := fun e => hk (h.inj _ _ b (by rw [← e]; exact q2) h1)
    refine ⟨q1, ?_, q3, fun o hz => q4 o (hz.resolve_right fun ⟨e, _⟩ => hb e), q5⟩
    unfold clDrop
    rw [if_neg hk]
    cases k with
    | cell i' j =>
      have : i' ≠ i := fun e => hk2 j (by rw [e])
      simp only [this, if_false]; exact q2
    | slot t => exact q2
    | obj i' => exact q2
  refine ⟨Z', clDrop cl i, ?_, hst⟩
  have hlen : cs.length = len * k := by rw [hx, hfl xs hk, hxl]
  have hnew : Rv w Z' m (.sl xs) (.slice (some ⟨b, 0, none⟩) len cap) := by
    rw [← hxl]
    refine .sl k xs b 0 cap (fun i j => vs.getD (i * k + j) Go.undef) ⟨by omega, by omega⟩ hk (fun i' j x d hx' hd => ?_) (fun i' j x d hx' hd => ?_)
    · have hc := hget xs hk i' j x d hx' hd
      rw [← hx] at hc
      have hlt : i' * k + j < cs.length := (List.getElem?_eq_some_iff.1 hc).1
      obtain ⟨v, hv1, hv2⟩ := cellb _ hlt
      refine ⟨.inr ⟨rfl, by rw [Nat.zero_add]; exact hlt⟩, ?_, ?_⟩
      · rw [Nat.zero_add, hv2]; simp [Array.getD_eq_getD_getElem?, hv1]
      · simp only [Array.getD_eq_getD_getElem?, hv1, Option.getD_some]
        exact h6 v (Array.mem_of_getElem? hv1)
    · have hc := hget xs hk i' j x d hx' hd
      rw [← hx] at hc
      have hlt : i' * k + j < cs.length := (List.getElem?_eq_some_iff.1 hc).1
      obtain ⟨v, hv1, hv2⟩ := cellb _ hlt
      simp only [Array.getD_eq_getD_getElem?, hv1, Option.getD_some]
      exact hst.rv (h5 _ d v hc hv1)
  have hget2 : ∀ x, (AS.mk ((t, .sl xs) :: s.env) [] (s.S.set i .dead) s.n s.muts s.app).get x = if t = x then .sl xs else s.get x := fun x => rfl
  have notdead : ∀ {i' : Nat} {ob : Ob}, (s.S.set i .dead)[i']? = some ob → ob ≠ .dead → i ≠ i' ∧ s.S[i']? = some ob := fun {i' ob} hs' hne => by
    by_cases hii : i = i'
    · subst hii
      rw [List.getElem?_set_self hilt] at hs'; cases hs'; exact absurd rfl hne
    · rw [List.getElem?_set_ne hii] at hs'; exact ⟨hii, hs'⟩
  have keepcl : ∀ i', i ≠ i' → clDrop cl i (.obj i') = cl (.obj i') := fun i' hii => by
    unfold clDrop; rw [if_neg (by simpa using fun e => hii e.symm)]
  exact {
    zc := fun b' o hz => by
      rcases hz with hz | ⟨rfl, ho⟩
      · exact h.zc b' o hz
      · obtain ⟨v, _, hv2⟩ := cellb o ho; exact ⟨v, hv2⟩
    inj := fun k k' b' hk hk' => h.inj k k' b' (clDrop_some hk).2 (clDrop_some hk').2
    lt := fun k b' hk => h.lt k b' (clDrop_some hk).2
    ml := by simp [h.ml]
    mlt := h.mlt
    obj := fun i' cs' b' hs' hm' => by
      obtain ⟨hii, hs2⟩ := notdead hs' (by simp)
      obtain ⟨g1, g2, vs2, e2, g3, g4, g6, g5⟩ := h.obj i' cs' b' hs2 hm'
      have hb : b' ≠ b := fun e => by have := h.inj _ _ b (by rw [← e]; exact g1) h1; simp at this; exact hii this.symm
      refine ⟨by rw [keepcl i' hii]; exact g1, fun o hz => hz.elim (g2 o) fun ⟨e, _⟩ => hb e, vs2, e2, g3, g4, g6, fun j d v hd hv => ⟨hst.rv (g5 j d v hd hv).1, own _ _ _ (by simp) (by simpa using fun e => absurd e.symm hii) (g5 j d v hd hv).2⟩⟩
    aro := fun i' cs' b' hs' hm' => by
      obtain ⟨hii, hs2⟩ := notdead hs' (by simp)
      obtain ⟨g1, g2, vs2, e2, g3, g4, g6, g5⟩ := h.aro i' cs' b' hs2 hm'
      have hb : b' ≠ b := fun e => by have := h.inj _ _ b (by rw [← e]; exact g1) h1; simp at this; exact hii this.symm
      exact ⟨by rw [keepcl i' hii]; exact g1, fun o hz => hz.elim (g2 o) fun ⟨e, _⟩ => hb e, vs2, e2, g3, g4, g6, fun j d v hd hv => hst.rv (g5 j d v hd hv)⟩
    mpo := fun i' L' b' hs' hm' => by
      obtain ⟨hii, hs2⟩ := notdead hs' (by simp)
      obtain ⟨g1, es, c, g3, g4, g5⟩ := h.mpo i' L' b' hs2 hm'
      exact ⟨by rw [keepcl i' hii]; exact g1, es, c, g3, g4, fun j p e hp he => ⟨hst.rv (g5 j p e hp he).1, hst.rv (g5 j p e hp he).2⟩⟩
    objlt := fun i' b' hk => by simp; exact h.objlt i' b' (clDrop_some hk).2
    sz := h.sz
    df := h.df
    rv := fun x => by
      rw [hget2]; split
      · rename_i e; subst e; rw [hve]; exact hnew
      · exact hst.rv (h.rv x)
    ow := fun x => by
      rw [hget2]; split
      · exact Own.of_ne (by simp)
      · exact own _ _ _ (by simp) (by simp) (h.ow x)
    eqv := fun x y hxy => by cases hxy
    eqc := fun x i j cs b vs e fr hxy hs hm hh => by cases hxy }

end
end Go.AL
