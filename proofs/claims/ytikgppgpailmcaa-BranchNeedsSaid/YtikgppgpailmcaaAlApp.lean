/-
  append, onto a slice that the function may extend.
-/
import Derived.Test.YtikgppgpailmcaaAlEff
namespace Go.AL

section
variable {P : Program} {w : World} {Z : Zone} {m : List Nat} {cl : Cl} {s : AS} {a : Act}

/-- A slice's cells, laid out. -/
structure Laid (w : World) (Z : Zone) (m : List Nat) (k : Nat) (xs : List (List D)) (v : Value) (vs : List Value) : Prop where
  len : vs.length = xs.length * k
  shape : (∃ p, v = .slice p 0 0) ∧ xs = [] ∨ ∃ b off cap, v = .slice (some ⟨b, off, none⟩) xs.length cap ∧ xs.length ≤ cap ∧
    ∀ (q : Nat) u, vs[q]? = some u → Z b (off + q) ∧ w.cell? ⟨b, off + q, none⟩ = some u ∧ u.oneCell' = true
  rv : ∀ (i j : Nat) x d, xs[i]? = some x → x[j]? = some d → ∃ u, vs[i * k + j]? = some u ∧ Rv w Z [] d u

theorem Rv.laid {xs : List (List D)} {v : Value} {k : Nat} (h : Rv w Z m (.sl xs) v) (hk : ∀ x ∈ xs, x.length = k) (hk0 : k ≠ 0) : ∃ vs, Laid w Z m k xs v vs := by
  cases h
  case slnil => exact ⟨[], by simp, .inl ⟨⟨_, rfl⟩, rfl⟩, fun i j x d hx => by simp at hx⟩
  case slz a => exact ⟨[], by simp, .inl ⟨⟨_, rfl⟩, rfl⟩, fun i j x d hx => by simp at hx⟩
  case sl sz b off cap c hcap hsz hc hv =>
    by_cases hx0 : xs = []
    · subst hx0
      exact ⟨[], by simp, .inr ⟨b, off, cap, rfl, hcap.1, fun q u h => by simp at h⟩, fun i j x d hx => by simp at hx⟩
    · have hsk : sz = k := by
        cases xs with
        | nil => exact absurd rfl hx0
        | cons x r => rw [← hsz x (by simp), hk x (by simp)]
      subst hsk
      have lt : ∀ i j, i < xs.length → j < sz → i * sz + j < xs.length * sz := fun i j hi hj => by
        have : (i + 1) * sz ≤ xs.length * sz := Nat.mul_le_mul_right _ hi
        rw [Nat.add_mul, Nat.one_mul] at this; omega
      refine ⟨(List.range (xs.length * sz)).map fun q => c (q / sz) (q % sz), by simp, .inr ⟨b, off, cap, rfl, hcap.1, fun q u h => ?_⟩, fun i j x d hx hd => ?_⟩
      · simp only [List.getElem?_map, Option.map_eq_some_iff] at h
        obtain ⟨q', hq', rfl⟩ := h
        have hq : q' = q ∧ q < xs.length * sz := by
          have := List.getElem?_eq_some_iff.1 hq'
          obtain ⟨h1, h2⟩ := this
          simp at h1 h2; exact ⟨h2.symm, h1⟩
        obtain ⟨rfl, hlt⟩ := hq
        have hi : q' / sz < xs.length := Nat.div_lt_of_lt_mul (by rw [Nat.mul_comm]; exact hlt)
        have hj : q' % sz < sz := Nat.mod_lt _ (by omega)
        have hxi : xs[q' / sz]? = some xs[q' / sz] := List.getElem?_eq_getElem hi
        have hxl : xs[q' / sz].length = sz := hsz _ (List.getElem_mem hi)
        have := hc (q' / sz) (q' % sz) _ _ hxi (List.getElem?_eq_getElem (by rw [hxl]; exact hj))
        rw [show off + q' = off + q' / sz * sz + q' % sz by rw [Nat.add_assoc, Nat.div_add_mod' q' sz]]
        exact this
      · have hi : i < xs.length := (List.getElem?_eq_some_iff.1 hx).1
        have hj : j < sz := by rw [← hsz x (List.mem_of_getElem? hx)]; exact (List.getElem?_eq_some_iff.1 hd).1
        refine ⟨c i j, ?_, hv i j x d hx hd⟩
        simp only [List.getElem?_map, Option.map_eq_some_iff]
        refine ⟨i * sz + j, by simp [lt i j hi hj], ?_⟩
        rw [Nat.mul_comm i sz, Nat.mul_add_div (by omega), Nat.div_eq_of_lt hj, Nat.mul_add_mod, Nat.mod_eq_of_lt hj, Nat.add_zero]

/-- The other way round. -/
theorem Rv.ofLaid {xs : List (List D)} {b off cap k : Nat} {vs : List Value} (hk : ∀ x ∈ xs, x.length = k) (hcap : xs.length ≤ cap) (hmx : xs.length ≤ 9223372036854775807)
    (hcell : ∀ (q : Nat) u, vs[q]? = some u → Z b (off + q) ∧ w.cell? ⟨b, off + q, none⟩ = some u ∧ u.oneCell' = true)
    (hrv : ∀ (i j : Nat) x d, xs[i]? = some x → x[j]? = some d → ∃ u, vs[i * k + j]? = some u ∧ Rv w Z [] d u) :
    Rv w Z m (.sl xs) (.slice (some ⟨b, off, none⟩) xs.length cap) := by
  refine .sl k xs b off cap (fun i j => vs.getD (i * k + j) Go.undef) ⟨hcap, hmx⟩ hk (fun i j x d hx hd => ?_) (fun i j x d hx hd => ?_)
  · obtain ⟨u, h1, h2⟩ := hrv i j x d hx hd
    have := hcell _ u h1
    rw [← Nat.add_assoc] at this
    simpa [List.getD, h1] using this
  · obtain ⟨u, h1, h2⟩ := hrv i j x d hx hd
    simpa [List.getD, h1] using h2

theorem Laid.append {k : Nat} {xs ys : List (List D)} {v u : Value} {vs us : List Value} {Z' : Zone} {w' : World} (h1 : Laid w Z m k xs v vs) (h2 : Laid w Z m k ys u us)
    (hrv : ∀ d u, Rv w Z [] d u → Rv w' Z' [] d u) :
    ∀ (i j : Nat) x d, (xs ++ ys)[i]? = some x → x[j]? = some d → ∃ u, (vs ++ us)[i * k + j]? = some u ∧ Rv w' Z' [] d u := by
  intro i j x d hx hd
  by_cases hi : i < xs.length
  · rw [List.getElem?_append_left hi] at hx
    obtain ⟨z, h3, h4⟩ := h1.rv i j x d hx hd
    refine ⟨z, ?_, hrv _ _ h4⟩
    have : i * k + j < vs.length := (List.getElem?_eq_some_iff.1 h3).1
    rw [List.getElem?_append_left this]; exact h3
  · rw [List.getElem?_append_right (by omega)] at hx
    obtain ⟨z, h3, h4⟩ := h2.rv (i - xs.length) j x d hx hd
    refine ⟨z, ?_, hrv _ _ h4⟩
    have e : i * k + j = vs.length + ((i - xs.length) * k + j) := by
      rw [h1.len]
      obtain ⟨t, rfl⟩ : ∃ t, i = xs.length + t := ⟨i - xs.length, by omega⟩
      rw [Nat.add_mul, show xs.length + t - xs.length = t by omega]; omega
    rw [e, List.getElem?_append_right (by omega), show vs.length + ((i - xs.length) * k + j) - vs.length = (i - xs.length) * k + j by omega]
    exact h3

theorem Rel.ext {s' : AS} (h : Rel w Z m cl s a) (hS : s'.S = s.S) (hn : s'.n = s.n) (he : s'.eqs = s.eqs) (hg : ∀ t, s'.get t = s.get t) : Rel w Z m cl s' a where
  toRelS := by rw [hS]; exact h.toRelS
  sz := by rw [hn]; exact h.sz
  df := h.df
  rv t := by rw [hg]; exact h.rv t
  ow t := by rw [hg]; exact h.ow t
  eqv x y hxy := h.eqv x y (by rw [← he]; exact hxy)
  eqc x i j cs b vs e fr hxy hs hm hh := h.eqc x i j cs b vs e fr (by rw [← he]; exact hxy) (by rw [← hS]; exact hs) hm hh

theorem Rel.degrade (h : Rel w Z m cl s a) (t : Nat) : Rel w Z m cl (s.degrade t) a := by
  have hget : ∀ x, (s.degrade t).get x = if t = x then (s.get t).dis else s.get x := fun x => by simp only [AS.degrade, AS.get, lk]
  exact {
    toRelS := h.toRelS
    sz := h.sz
    df := h.df
    rv := fun x => by
      rw [hget]; split
      · rename_i e; subst e; exact (h.rv _).dis
      · exact h.rv x
    ow := fun x => by
      rw [hget]; split
      · exact Own.dis
      · exact h.ow x
    eqv := h.eqv
    eqc := h.eqc }

theorem laid_load {k : Nat} {xs : List (List D)} {v : Value} {vs : List Value} (h : Laid w Z m k xs v vs) (w' : World) (hw : ∀ b o, Z b o → w'.cell? ⟨b, o, none⟩ = w.cell? ⟨b, o, none⟩) :
    (Builtin.firstCells k xs.length v).run P w' = .ok vs.toArray w' := by
  rcases h.shape with ⟨⟨p, rfl⟩, rfl⟩ | ⟨b, off, cap, rfl, _, hc⟩
  · have : vs = [] := by have := h.len; simpa using this
    subst this
    cases p with
    | none => exact run_firstCells_none (w := w') ..
    | some a => exact run_firstCells_some (w := w') (P := P) k 0 a 0 0 [] (by simp) fun j u hj => by simp at hj
  · refine run_firstCells_some (w := w') (P := P) k xs.length ⟨b, off, none⟩ xs.length cap vs h.len fun j u hj => ?_
    rw [addr_add]
    obtain ⟨h1, h2, _⟩ := hc j u hj
    rw [hw _ _ h1]; exact h2

theorem laid_len {k : Nat} {xs : List (List D)} {v : Value} {vs : List Value} (h : Laid w Z m k xs v vs) : ∃ p c, v = .slice p xs.length c ∧ xs.length ≤ c := by
  rcases h.shape with ⟨⟨p, rfl⟩, rfl⟩ | ⟨b, off, cap, rfl, h1, _⟩
  · exact ⟨_, _, rfl, Nat.le_refl _⟩
  · exact ⟨_, _, rfl, h1⟩

/-- A new block, of which the first cells will not be written. -/
theorem QStep.allocN {S} (h : RelS w Z m cl S) (vs : Array Value) (e : TypeId) (n : Nat) (hn : n ≤ vs.size) : QStep w Z (w.alloc (.cells vs e)) (fun b o => Z b o ∨ (b = w.heap.size ∧ o < n)) where
  os := rfl
  tape := rfl
  output := rfl
  size := by simp
  heap b hb := Go.RowKit.Below.heap_alloc w _ b hb
  zmono b o hz := .inl hz
  zold b o hb hz := hz.resolve_right (by omega)
  zc b o hz := by
    rcases hz with hz | ⟨rfl, ho⟩
    · obtain ⟨v, hv⟩ := h.zc b o hz
      exact ⟨v, by rw [World.cell?_alloc_lt w _ ⟨b, o, none⟩ (cell_lt hv)]; exact hv⟩
    · exact ⟨vs[o], by rw [World.cell?_alloc_new]; simp [show o < vs.size by omega]⟩

theorem QStep.drew {S} (h : RelS w Z m cl S) : QStep w Z w.drew Z :=
  ⟨rfl, rfl, rfl, Nat.le_refl _, fun _ _ => rfl, fun _ _ h => h, fun _ _ _ h => h, h.zc⟩

theorem heap_new (w : World) (o : Obj) : (w.alloc o).heap[w.heap.size]? = some o := by show (w.heap.push o)[w.heap.size]? = some o; simp

theorem zeroCells_size (z : Array Value) (n : Nat) : (Builtin.zeroCells z n).size = n * z.size := by simp [Builtin.zeroCells]

theorem degO_twice (s : AS) (ov : Option Nat) : ∀ t, ((s.degO ov).degO ov).get t = (s.degO ov).get t := by
  intro t
  cases ov with
  | none => rfl
  | some v =>
    simp only [AS.degO, AS.degrade, AS.get, lk]
    by_cases h : v = t
    · simp only [h, if_true]; cases lk s.env t <;> rfl
    · simp [h]

theorem put_eqs (s : AS) (u : Nat) (d : D) : (s.put (some u) d).eqs = if u < s.n then s.eqs.filter (fun p => p.1 != u && p.2 != Loc.slot u) else s.eqs := by
  unfold AS.put; simp only; split <;> rfl

theorem put_ext {s s' : AS} (hn : s'.n = s.n) (hg : ∀ t, s'.get t = s.get t) (u : Nat) (d : D) : ∀ t, (s'.put (some u) d).get t = (s.put (some u) d).get t := by
  intro t; rw [AS.get_put, AS.get_put, hn, hg]

/-- append: the base is the function's own. -/
theorem append_sound {T T2 e k by_ : Nat} {ty : TypeId} {b x : Operand} {z : Nat} {xs ys : List (List D)} {dst : Nat} (ov : Option Nat)
    (hr : Rel w Z m cl s a) (ht : tel P T = some (e, k, by_)) (hz : tze P T = true) (hk0 : k ≠ 0) (hT2 : tel P T2 ≠ none)
    (hb : Rv w Z m (.sl xs) (a.eval b)) (hown : Own w Z cl (.slot (ov.getD 0)) (.osl z xs) (a.eval b)) (hov : ov = none → xs = [] ∧ z = 0)
    (hzk : z = k ∨ (xs = [] ∧ z = 0)) (hxk : ∀ x ∈ xs, x.length = k) (hy : Rv w Z m (.sl ys) (a.eval x)) (hyk : ∀ y ∈ ys, y.length = k)
    (hroom : (xs.length + ys.length) * by_ ≤ 140737488355328) (h63 : xs.length + ys.length ≤ 9223372036854775807) (hdst : dst < s.n) (hne : ov ≠ some dst)
    {K : Act → World → Prop} 
    (hK : ∀ v w' Z' cl', Rel w' Z' m cl' ((s.degO ov).put (some dst) (.osl k (xs ++ ys))) (a.put (some dst) v) → Step w Z m cl w' Z' m cl' → K (a.put (some dst) v) w') :
    ∃ v w', (Builtin.append_ #[T, T2] ty #[a.eval b, a.eval x]).run P w = .ok v w' ∧ K (a.put (some dst) v) w' := by
  obtain ⟨hu, i, zv, hi, hiz, hzc, hik, hib⟩ := tze_spec hz ht
  obtain ⟨vs, hv⟩ := hb.laid hxk hk0
  obtain ⟨us, hus⟩ := hy.laid hyk hk0
  obtain ⟨p, cap, hbe, hcap⟩ := laid_len hv
  obtain ⟨p2, cap2, hxe, hcap2⟩ := laid_len hus
  obtain ⟨u2, hu2⟩ : ∃ e2, P.underlying T2 = some (.slice e2) := by
    unfold tel at hT2
    split at hT2
    · exact ⟨_, by assumption⟩
    · exact absurd rfl hT2
  have hlay := hv.append hus (Z' := Z) (w' := w) (fun d u h => h)
  have hlen : (vs ++ us).length = (xs ++ ys).length * k := by simp [hv.len, hus.len, Nat.add_mul]
  have hkk : ∀ x ∈ xs ++ ys, x.length = k := fun x hx => (List.mem_append.1 hx).elim (hxk x) (hyk x)
  by_cases hfit : xs.length + ys.length ≤ cap
  · by_cases hy0 : ys = []
    · -- nothing is appended
      subst hy0
      have hus0 : us = [] := by have := hus.len; simpa using this
      have hrun : (Builtin.append_ #[T, T2] ty #[a.eval b, a.eval x]).run P w = .ok (a.eval b) w := by
        have hf2 := laid_load (P := P) hus w (fun _ _ _ => rfl)
        rw [hbe]
        rw [hxe] at hf2 ⊢
        have hfit' : xs.length ≤ cap := hcap
        cases p <;> simp [Builtin.append_, run_underlying hu, run_underlying hu2, sizeOf, typeInfo, zeroValue, hi, hiz, Builtin.lenOf, hfit', hik, hus0, storeCells] at hf2 ⊢ <;> simp [hf2, storeCells]
      refine ⟨_, _, hrun, ?_⟩
      cases ov with
      | none =>
        obtain ⟨hx0, hz0⟩ := hov rfl
        have hg := hr.give none dst hdst none (fun b hb => by cases hb) (.osl k (xs ++ []) _ (by rw [List.append_nil]; exact hb) (fun e => absurd e hk0)) (fun sz zs hd b' off c hval hlt => by
          simp only [D.osl.injEq] at hd
          obtain ⟨rfl, rfl⟩ := hd
          rw [List.append_nil] at hval hlt
          exact absurd hz0 (hown z xs rfl b' off c hval hlt).1)
        refine hK _ _ _ _ hg ((Step.refl w Z m cl).withCl fun k' b' hk' => ?_)
        rcases give_src hk' with ⟨_, e2⟩ | ⟨_, e2, _⟩
        · cases e2
        · exact .inr ⟨k', e2⟩
      | some t =>
        have hg := hr.give (some t) dst hdst (cl (.slot t)) (fun b hb => ⟨hr.lt _ _ hb, fun k' hk' => .inr ⟨t, rfl, hr.inj _ _ _ hk' hb⟩⟩) (.osl k (xs ++ []) _ (by rw [List.append_nil]; exact hb) (fun e => absurd e hk0)) (fun sz zs hd b' off c hval hlt => by
          simp only [D.osl.injEq] at hd
          obtain ⟨rfl, rfl⟩ := hd
          rw [List.append_nil] at hval hlt ⊢
          obtain ⟨q1, q2, q3, q4, q5⟩ := hown z xs rfl b' off c hval hlt
          have hzk' : z = k := hzk.resolve_right fun h => q1 h.2
          subst hzk'
          exact ⟨q1, by simp only [AL.give, if_true]; exact q2, q3, q4, q5⟩)
        refine hK _ _ _ _ hg ((Step.refl w Z m cl).withCl fun k' b' hk' => ?_)
        rcases give_src hk' with ⟨_, e2⟩ | ⟨_, e2, _⟩
        · exact .inr ⟨_, e2⟩
        · exact .inr ⟨k', e2⟩
    · -- into the room behind the base
      have hn0 : 0 < ys.length := List.length_pos_iff.2 hy0
      rcases hv.shape with ⟨⟨p0, hsh⟩, hx0⟩ | ⟨b', off, cap', hsh, hcap', hcells⟩
      · exfalso; rw [hbe] at hsh; simp at hsh; omega
      have hcc : cap' = cap := by rw [hbe] at hsh; simp at hsh; exact hsh.2.symm
      subst hcc
      obtain ⟨q1, q2, q3, q4, vs2, e2, q5, q6⟩ := hown z xs rfl b' off cap' hsh (by omega)
      have hzk' : z = k := hzk.resolve_right fun h => q1 h.2
      subst hzk'
      obtain ⟨t, rfl⟩ : ∃ t, ov = some t := by
        cases ov with
        | none => exact absurd (hov rfl).2 q1
        | some t => exact ⟨t, rfl⟩
      simp only [Option.getD_some] at q2
      have hz0 : 0 < z := Nat.pos_of_ne_zero q1
      have hroom2 : off + xs.length * z + us.length ≤ vs2.size := by
        rw [hus.len]
        have : (xs.length + ys.length) * z ≤ cap' * z := Nat.mul_le_mul_right _ hfit
        rw [Nat.add_mul] at this; omega
      have hone : ∀ u ∈ us, u.oneCell' = true := fun u hu => by
        obtain ⟨q, hq⟩ := List.getElem?_of_mem hu
        rcases hus.shape with ⟨_, h0⟩ | ⟨_, _, _, _, _, hc⟩
        · exact absurd h0 hy0
        · exact (hc q u hq).2.2
      let vs' : Array Value := (vs2.toList.take (off + xs.length * z + 0) ++ us ++ vs2.toList.drop (off + xs.length * z + 0 + us.length)).toArray
      have hstore := run_storeCells_at P b' (off + xs.length * z) e2 us 0 vs2 w q5 (by omega) hone
      have hrun : (Builtin.append_ #[T, T2] ty #[a.eval b, a.eval x]).run P w = .ok (.slice (some ⟨b', off, none⟩) (xs.length + ys.length) cap') (w.setRow b' vs') := by
        have hf2 := laid_load (P := P) hus w (fun _ _ _ => rfl)
        rw [hsh]
        rw [hxe] at hf2 ⊢
        simp [Builtin.append_, run_underlying hu, run_underlying hu2, sizeOf, typeInfo, hi, Builtin.lenOf, hfit, hik, hf2, addr_add, hstore, vs']
      refine ⟨_, _, hrun, ?_⟩
      have hsz' : vs'.size = vs2.size := by simp [vs']; omega
      have get1 : ∀ o, o < off + xs.length * z → vs'[o]? = vs2[o]? := fun o ho => by
        simp only [vs', Nat.add_zero, List.getElem?_toArray]
        rw [List.append_assoc, List.getElem?_append_left (by simp; omega), List.getElem?_take, if_pos ho]; simp
      have get2 : ∀ q u, us[q]? = some u → vs'[off + xs.length * z + q]? = some u := fun q u hq => by
        have hql : q < us.length := (List.getElem?_eq_some_iff.1 hq).1
        simp only [vs', Nat.add_zero, List.getElem?_toArray]
        have htl : (vs2.toList.take (off + xs.length * z)).length = off + xs.length * z := by
          have : vs2.toList.length = vs2.size := rfl
          rw [List.length_take]; omega
        rw [List.append_assoc, List.getElem?_append_right (by rw [htl]; omega), htl, Nat.add_sub_cancel_left, List.getElem?_append_left hql]
        exact hq
      have u : Upd w Z cl (.slot t) b' vs2 vs' e2 (fun o => off + xs.length * z ≤ o ∧ o < off + (xs.length + ys.length) * z) :=
        ⟨q2, q5, hsz', fun o hz => get1 o (q4 o hz), fun o ho => by have := ho.2; rw [Nat.add_mul] at this; rw [hus.len] at hroom2; omega⟩
      have hrd := hr.degrade t
      have hrn := u.rel hrd (fun z' zs => by simp only [AS.degrade, AS.get, lk, if_true]; cases lk s.env t <;> simp [D.dis])
      have hst : Step w Z m cl (w.setRow b' vs') (zUp Z b' (fun o => off + xs.length * z ≤ o ∧ o < off + (xs.length + ys.length) * z)) m cl := u.step
      have hrv : Rv (w.setRow b' vs') (zUp Z b' (fun o => off + xs.length * z ≤ o ∧ o < off + (xs.length + ys.length) * z)) m (.sl (xs ++ ys)) (.slice (some ⟨b', off, none⟩) (xs ++ ys).length cap') := by
        refine Rv.ofLaid (k := z) (vs := vs ++ us) hkk (by simpa using hfit) (by simpa using h63) (fun q' u' hq => ?_) (hv.append hus fun d u h => hst.rv h)
        by_cases hql : q' < vs.length
        · rw [List.getElem?_append_left hql] at hq
          obtain ⟨c1, c2, c3⟩ := hcells q' u' hq
          exact ⟨.inl c1, by rw [u.cell _ _ c1]; exact c2, c3⟩
        · rw [List.getElem?_append_right (by omega)] at hq
          have hqu : q' - vs.length < us.length := (List.getElem?_eq_some_iff.1 hq).1
          have hvl := hv.len
          have hul := hus.len
          refine ⟨.inr ⟨rfl, by omega, by rw [Nat.add_mul]; omega⟩, ?_, hone u' (List.mem_of_getElem? hq)⟩
          rw [cell_setRow_same w b' _ vs2 vs' e2 (0, 0) q5, show off + q' = off + xs.length * z + (q' - vs.length) by omega]
          exact get2 _ _ hq
      have hg := hrn.give (some t) dst hdst (some b') (fun b'' hb => by
          cases hb
          exact ⟨by simp; exact hr.lt _ _ q2, fun k' hk' => .inr ⟨t, rfl, hr.inj _ _ _ hk' q2⟩⟩) (.osl z (xs ++ ys) _ hrv (fun e => absurd e hk0)) (fun sz zs hd b'' off'' c hval hlt => by
          simp only [D.osl.injEq] at hd
          obtain ⟨rfl, rfl⟩ := hd
          simp only [Value.slice.injEq, Option.some.injEq, Addr.mk.injEq, and_true] at hval
          obtain ⟨⟨rfl, rfl⟩, _, rfl⟩ := hval
          refine ⟨q1, by simp [AL.give], hkk, fun o ho => ?_, vs', e2, setRow_heap w b' vs2 vs' e2 (0, 0) q5, by rw [hsz']; exact q6⟩
          rcases ho with ho | ⟨_, ho⟩
          · have := q4 o ho; simp only [List.length_append, Nat.add_mul]; omega
          · simpa using ho.2)
      have hx : (xs ++ ys).length = xs.length + ys.length := by simp
      rw [hx] at hg
      refine hK _ _ _ _ (hg.ext (by rw [AS.put_S, AS.put_S]; rfl) (by rw [AS.put_n, AS.put_n]; rfl) (by rw [put_eqs, put_eqs]; rfl) (fun y => ?_)) (hst.withCl fun k' b'' hk' => ?_)
      · refine (put_ext (by rfl) (fun y => ?_) dst _ y).symm
        exact degO_twice s (some t) y
      · rcases give_src hk' with ⟨_, e2⟩ | ⟨_, e2, _⟩
        · cases e2; exact .inr ⟨_, q2⟩
        · exact .inr ⟨k', e2⟩
  · -- a new block
    have h48 : Builtin.nextslicecap (xs.length + ys.length) cap * by_ ≤ 281474976710656 := growslice_fits (by omega) hroom
    let nc := (Question.appendCap (xs.length + ys.length) cap e).cut (w.tape w.drawn (.appendCap (xs.length + ys.length) cap e))
    have hnc : xs.length + ys.length ≤ nc := by show _ ≤ Question.cut _ _; unfold Question.cut; exact Nat.le_add_right _ _
    let cells : Array Value := vs.toArray ++ us.toArray ++ Builtin.zeroCells zv.cells (nc - (xs.length + ys.length))
    have hcs : cells.size = nc * k := by
      simp only [cells, Array.size_append, zeroCells_size, hzc, List.size_toArray]
      rw [hv.len, hus.len, ← Nat.add_mul, ← Nat.add_mul]; congr 1; omega
    have hnk : (xs.length + ys.length) * k ≤ cells.size := by rw [hcs]; exact Nat.mul_le_mul_right _ hnc
    have hrun : (Builtin.append_ #[T, T2] ty #[a.eval b, a.eval x]).run P w = .ok (.slice (some ⟨w.heap.size, 0, none⟩) (xs.length + ys.length) nc) (w.drew.alloc (.cells cells e)) := by
      have hf1 := laid_load (P := P) hv w.drew (fun _ _ _ => rfl)
      have hf2 := laid_load (P := P) hus w.drew (fun _ _ _ => rfl)
      rw [hbe] at hf1 ⊢
      rw [hxe] at hf2 ⊢
      have e1 : ¬ ((9223372036854775807 : Int) < (xs.length : Int) + (ys.length : Int)) := by omega
      have e2 : ¬ (281474976710656 < Builtin.nextslicecap (xs.length + ys.length) cap * by_) := by omega
      simp [Builtin.append_, run_underlying hu, run_underlying hu2, sizeOf, typeInfo, zeroValue, hi, hiz, Builtin.lenOf, hfit, e1, hib, e2, hik, Question.forced, hf1, hf2, newRow]
      exact ⟨rfl, by simp only [cells, nc, Array.append_assoc]⟩
    refine ⟨_, _, hrun, ?_⟩
    have hrd : Rel w.drew Z m cl s a := (QStep.drew hr.toRelS).rel hr
    have q := QStep.allocN hrd.toRelS cells e ((xs.length + ys.length) * k) hnk
    have hrn := q.rel hrd
    have hst : Step w Z m cl (w.drew.alloc (.cells cells e)) (fun b o => Z b o ∨ (b = w.drew.heap.size ∧ o < (xs.length + ys.length) * k)) m cl := ((QStep.drew hr.toRelS).step hr.toRelS).trans (q.step hrd.toRelS)
    have hrv : Rv (w.drew.alloc (.cells cells e)) (fun b o => Z b o ∨ (b = w.drew.heap.size ∧ o < (xs.length + ys.length) * k)) m (.sl (xs ++ ys)) (.slice (some ⟨w.heap.size, 0, none⟩) (xs ++ ys).length nc) := by
      refine Rv.ofLaid (k := k) (vs := vs ++ us) hkk (by simpa using hnc) (by simpa using h63) (fun q' u hq => ?_) (hv.append hus fun d u h => hst.rv h)
      have hq1 : q' < (vs ++ us).length := (List.getElem?_eq_some_iff.1 hq).1
      have hq2 : q' < (xs.length + ys.length) * k := by rw [hlen] at hq1; simpa using hq1
      refine ⟨.inr ⟨rfl, by omega⟩, ?_, ?_⟩
      · rw [Nat.zero_add]
        show (w.drew.alloc (.cells cells e)).cell? ⟨w.drew.heap.size, q', none⟩ = some u
        rw [World.cell?_alloc_new]
        simp only [cells]
        rw [Array.getElem?_append_left (by simp; simpa using hq1)]
        simpa using hq
      · by_cases hql : q' < vs.length
        · rw [List.getElem?_append_left hql] at hq
          rcases hv.shape with ⟨_, h0⟩ | ⟨b', off, cap', _, _, hc⟩
          · have := hv.len; rw [h0] at this; simp at this; rw [this] at hql; simp at hql
          · exact (hc q' u hq).2.2
        · rw [List.getElem?_append_right (by omega)] at hq
          rcases hus.shape with ⟨_, h0⟩ | ⟨b', off, cap', _, _, hc⟩
          · have := hus.len; rw [h0] at this; simp at this; rw [this] at hq; simp at hq
          · exact (hc _ u hq).2.2
    have hg := hrn.give ov dst hdst (some w.heap.size) (fun b hb => by
        cases hb
        refine ⟨by simp, fun k' hk' => ?_⟩
        have := hr.lt k' _ hk'; omega) (.osl k (xs ++ ys) _ hrv (fun e => absurd e hk0)) (fun sz zs hd b off c hval hlt => by
          simp only [D.osl.injEq] at hd
          obtain ⟨rfl, rfl⟩ := hd
          simp only [Value.slice.injEq, Option.some.injEq, Addr.mk.injEq, and_true] at hval
          obtain ⟨⟨rfl, rfl⟩, _, rfl⟩ := hval
          refine ⟨hk0, by simp [AL.give], hkk, fun o ho => ?_, cells, e, heap_new w.drew _, by rw [hcs]; omega⟩
          rcases ho with ho | ⟨_, ho⟩
          · obtain ⟨v', hv'⟩ := hr.zc _ _ ho
            have := cell_lt hv'; omega
          · simpa using ho)
    have hx : (xs ++ ys).length = xs.length + ys.length := by simp
    rw [hx] at hg
    refine hK _ _ _ _ hg (hst.withCl fun k' b hk' => ?_)
    rcases give_src hk' with ⟨_, e2⟩ | ⟨_, e2, _⟩
    · cases e2; exact .inl (Nat.le_refl _)
    · exact .inr ⟨k', e2⟩

end
end Go.AL
