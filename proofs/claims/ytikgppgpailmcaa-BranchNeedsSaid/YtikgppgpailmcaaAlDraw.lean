/-
  A region whose order Go leaves open, where every operation is quiet: one walk in the order of the text stands for all orders.
-/
import Derived.Test.YtikgppgpailmcaaAlCode
namespace Go.AL

/-- Which operations come before, in every order. -/
def mskOf (acc : List Nat) (o : Oper) : Nat :=
  o.after.toList.foldl (fun x e => if Region.binds .any e then x ||| 2 ^ e.on ||| acc.getD e.on 0 else x) 0
def msks : List Oper → List Nat → List Nat
  | [], acc => acc
  | o :: r, acc => msks r (acc ++ [mskOf acc o])

def drawOk (all : Array Oper) (n : Nat) : Bool :=
  let ms := msks all.toList []
  Region.noSelect all &&
  (all.toList.zipIdx.all fun (o, j) =>
    (o.dst.all (· < n)) && (o.after.toList.all fun e => !Region.binds .any e || e.on < j) &&
    (List.range j).all fun i => match all[i]? with
      | some x => x.apart all o || (ms.getD j 0).testBit i
      | none => true)

/-- Quiet operations one behind the other. -/
def qopl (P : Program) (all : Array Oper) : List Oper → AS → (AS → Prop) → Prop
  | [], s, K => K s
  | o :: r, s, K =>
    aguard (pst (fun d => qopl P all r (s.put o.dst d) K) (dep _) fun d => AV P o s d) (qopl P all r (s.put o.dst skD) K) (dep _) (dep _) (awant all s o)

theorem msks_get : ∀ (l : List Oper) (acc : List Nat) (j : Nat), j < acc.length → (msks l acc).getD j 0 = acc.getD j 0
  | [], acc, j, _ => rfl
  | o :: r, acc, j, h => by
    rw [msks, msks_get r _ j (by simp; omega)]
    simp [List.getD, List.getElem?_append_left h]

theorem msks_spec : ∀ (l : List Oper) (acc : List Nat) (j : Nat) (o : Oper), l[j]? = some o →
    (msks l acc).getD (acc.length + j) 0 = mskOf ((msks l acc).take (acc.length + j)) o
  | [], acc, j, o, h => by simp at h
  | x :: r, acc, 0, o, h => by
    simp at h; subst h
    rw [msks, Nat.add_zero, msks_get r _ _ (by simp)]
    have pre : ∀ (l : List Oper) (acc : List Nat), (msks l acc).take acc.length = acc := by
      intro l
      induction l with
      | nil => intro acc; simp [msks]
      | cons y t ih => intro acc; rw [msks]; have := ih (acc ++ [mskOf acc y]); have h2 := congrArg (List.take acc.length) this; simpa [List.take_take] using h2
    have := pre (x :: r) acc
    rw [msks] at this
    rw [this]
    simp [List.getD]
  | x :: r, acc, j + 1, o, h => by
    have := msks_spec r (acc ++ [mskOf acc x]) j o (by simpa using h)
    rw [msks]
    simp only [List.length_append, List.length_cons, List.length_nil, Nat.zero_add] at this
    rw [show acc.length + (j + 1) = acc.length + 1 + j by omega]
    exact this

/-- What is before what is done is done. -/
theorem before_done {all : Array Oper} {listed : Nat → Prop} (hc : ∀ j o, all[j]? = some o → listed j → ∀ e ∈ o.after, Region.binds .any e = true → listed e.on)
    (hlt : ∀ j o, all[j]? = some o → ∀ e ∈ o.after, Region.binds .any e = true → e.on < j) :
    ∀ (j : Nat) (o : Oper), all[j]? = some o → (∀ e ∈ o.after, Region.binds .any e = true → listed e.on) → ∀ i, ((msks all.toList []).getD j 0).testBit i = true → listed i := by
  intro j
  induction j using Nat.strongRecOn with
  | _ j ih =>
    intro o ho hl i hi
    have hs := msks_spec all.toList [] j o (by simpa using ho)
    simp only [List.length_nil, Nat.zero_add] at hs
    rw [hs] at hi
    unfold mskOf at hi
    have key : ∀ (es : List Edge) (x : Nat), (∀ e ∈ es, e ∈ o.after) → (es.foldl (fun x e => if Region.binds .any e then x ||| 2 ^ e.on ||| ((msks all.toList []).take j).getD e.on 0 else x) x).testBit i = true → x.testBit i = true ∨ listed i := by
      intro es
      induction es with
      | nil => intro x _ h; exact .inl h
      | cons e r ihr =>
        intro x he h
        simp only [List.foldl_cons] at h
        rcases ihr _ (fun e' h' => he e' (by simp [h'])) h with h | h
        · split at h
          · rename_i hb
            simp only [Nat.testBit_or, Bool.or_eq_true] at h
            have hmem := he e (by simp)
            rcases h with (h | h) | h
            · exact .inl h
            · rw [Nat.testBit_two_pow] at h
              right; have : e.on = i := by simpa using h
              rw [← this]; exact hl e hmem hb
            · right
              have hlt' := hlt j o ho e hmem hb
              have hon := hl e hmem hb
              have hsz : e.on < all.size := by have := (Array.getElem?_eq_some_iff.1 ho).1; omega
              have hoe : all[e.on]? = some all[e.on] := by simp [hsz]
              refine ih e.on hlt' _ hoe (fun e' h1 h2 => hc e.on _ hoe hon e' h1 h2) i ?_
              simpa [List.getD, List.getElem?_take, hlt'] using h
          · exact .inl h
        · exact .inr h
    rcases key o.after.toList 0 (fun e h => by simpa using h) hi with h | h
    · simp at h
    · exact h

def dl1 (t : Option Nat) (b : Bool) (d : D) : List (Nat × D) :=
  match t, b with
  | some t, true => [(t, d)]
  | _, _ => []
theorem dl1_mem {t : Option Nat} {b : Bool} {d : D} {x : Nat × D} (h : x ∈ dl1 t b d) : t = some x.1 ∧ b = true ∧ x.2 = d := by
  cases t <;> cases b <;> simp [dl1] at h; subst h; simp

/-- The slots that some of the operations have written. -/
def dl (all : Array Oper) (vals : Nat → D) (p : Nat → Bool) : Nat → List (Nat × D)
  | 0 => []
  | n + 1 => dl1 ((all[n]?).bind (·.dst)) (p n) (vals n) ++ dl all vals p n

theorem lk_append (x y : List (Nat × D)) (t : Nat) (h : ∀ p ∈ x, p.1 ≠ t) : lk (x ++ y) t = lk y t := by
  induction x with
  | nil => rfl
  | cons p r ih =>
    have h1 := h p (by simp)
    obtain ⟨q, d⟩ := p
    simp only [List.cons_append, lk, if_neg h1]
    exact ih fun p hp => h p (by simp [hp])

theorem dl_congr (all : Array Oper) (vals : Nat → D) (p q : Nat → Bool) (e : List (Nat × D)) (t : Nat) : ∀ (n n' : Nat), n ≤ n' → (∀ k, k < n → (all[k]?).bind (·.dst) = some t → p k = q k) →
    (∀ k, n ≤ k → k < n' → (all[k]?).bind (·.dst) = some t → q k = false) → lk (dl all vals p n ++ e) t = lk (dl all vals q n' ++ e) t := by
  intro n n' hn
  have base : ∀ n, (∀ k, k < n → (all[k]?).bind (·.dst) = some t → p k = q k) → lk (dl all vals p n ++ e) t = lk (dl all vals q n ++ e) t := by
    intro n
    induction n with
    | zero => intro _; rfl
    | succ n ih =>
      intro h
      have ih' := ih fun k hk => h k (by omega)
      simp only [dl, List.append_assoc]
      by_cases ht : (all[n]?).bind (·.dst) = some t
      · rw [h n (by omega) ht]
        cases hq : q n
        · simpa [dl1, hq] using ih'
        · simp [dl1, lk, ht]
      · have a1 : ∀ b : Bool, ∀ x ∈ dl1 ((all[n]?).bind (·.dst)) b (vals n), x.1 ≠ t := fun b x hx e => ht (by rw [(dl1_mem hx).1, e])
        rw [lk_append _ _ _ (a1 _), lk_append _ _ _ (a1 _)]
        exact ih'
  intro h1 h2
  rw [base n h1]
  induction n' with
  | zero => have : n = 0 := by omega
            subst this; rfl
  | succ n' ih =>
    by_cases he : n = n' + 1
    · subst he; rfl
    · rw [ih (by omega) (fun k a b => h2 k a (by omega))]
      simp only [dl, List.append_assoc]
      refine (lk_append _ _ _ ?_).symm
      intro x hx e
      obtain ⟨h3, h4, _⟩ := dl1_mem hx
      rw [e] at h3
      have := h2 n' (by omega) (by omega) h3
      rw [h4] at this; cases this

section
variable {P : Program} {s : AS}

/-- The state behind some of the operations. -/
def stt (s : AS) (all : Array Oper) (vals : Nat → D) (p : Nat → Bool) : AS := { s with env := dl all vals p all.size ++ s.env, eqs := [] }

/-- What the walk in the order of the text has found. -/
def Found (P : Program) (all : Array Oper) (s : AS) (vals : Nat → D) : Prop :=
  ∀ (j : Nat) (o : Oper), all[j]? = some o → ∃ b, awant all { s with env := dl all vals (fun _ => true) j ++ s.env, eqs := [] } o = some b ∧
    if b then AV P o { s with env := dl all vals (fun _ => true) j ++ s.env, eqs := [] } (vals j) else vals j = skD

theorem bndD_congr {s s' : AS} {dflt : Nat} {b : Option Operand} {l : Nat} (h : ∀ o, b = some o → s'.ev o = s.ev o) (hb : bndD s dflt b l) : bndD s' dflt b l := by
  cases b with
  | none => exact hb
  | some o => obtain ⟨kd, n, h1, h2⟩ := hb; exact ⟨kd, n, by rw [h o rfl]; exact h1, h2⟩

theorem sliceD_congr {s s' : AS} {t : Nat} {x d : D} {lo hi mx : Option Operand} (h1 : ∀ o, lo = some o → s'.ev o = s.ev o) (h2 : ∀ o, hi = some o → s'.ev o = s.ev o) (h3 : ∀ o, mx = some o → s'.ev o = s.ev o)
    (h : sliceD P t x s lo hi mx d) : sliceD P t x s' lo hi mx d := by
  have hm : ∀ k h ys, mxD s k hi mx h ys d → mxD s' k hi mx h ys d := fun k h ys hh => by
    cases mx with
    | none => exact hh
    | some o => obtain ⟨g1, g2, g3⟩ := hh; exact ⟨g1, bndD_congr (fun o ho => h3 o ho) g2, g3⟩
  cases x <;> simp only [sliceD] at h ⊢
  case str u => obtain ⟨a1, a2, l, hh, a3, a4, a5⟩ := h; exact ⟨a1, a2, l, hh, bndD_congr h1 a3, bndD_congr h2 a4, a5⟩
  case sl xs => obtain ⟨e, k, b, l, hh, a1, a2, a3, a4, a5, a6, a7⟩ := h; exact ⟨e, k, b, l, hh, a1, bndD_congr h1 a2, bndD_congr h2 a3, a4, a5, a6, hm _ _ _ a7⟩
  case osl z xs => obtain ⟨e, k, b, l, hh, a1, a2, a3, a4, a5, a6, a7⟩ := h; exact ⟨e, k, b, l, hh, a1, bndD_congr h1 a2, bndD_congr h2 a3, a4, a5, a6, hm _ _ _ a7⟩
  case msl i off len => obtain ⟨a0, e, k, b, l, hh, a1, a2, a3, a4⟩ := h; exact ⟨a0, e, k, b, l, hh, a1, bndD_congr h1 a2, bndD_congr h2 a3, a4⟩

theorem AV_congr {o : Oper} {s s' : AS} {d : D} (hS : s'.S = s.S) (he : ∀ x ∈ o.op.operands, s'.ev x = s.ev x) (h : AV P o s d) : AV P o s' d := by
  obtain ⟨dst, op, type, pos, after, guard⟩ := o
  unfold AV at h ⊢
  cases op <;> simp only [Op.operands, List.mem_toArray, List.mem_cons, List.not_mem_nil, or_false, forall_eq_or_imp, forall_eq] at he <;> simp only at h ⊢
  all_goals first
    | exact h
    | (simp only [he]; exact h)
    | (simp only [hS, he]; exact h)
    | skip
  case slice t x lo hi mx =>
    rw [he x (by simp)]
    exact sliceD_congr (fun o ho => he o (by subst ho; simp)) (fun o ho => he o (by subst ho; simp)) (fun o ho => he o (by subst ho; simp)) h
  case buildSlice t n ps =>
    obtain ⟨e, k, b, h1, h2, h3, h4, h5, h6⟩ := h
    have hp : ∀ p ∈ ps.toList, s'.ev p.2 = s.ev p.2 := fun p hp => he p.2 (List.mem_map.2 ⟨p, hp, rfl⟩)
    have hok : ∀ (qs : List (Nat × Operand)) i, (∀ p ∈ qs, s'.ev p.2 = s.ev p.2) → partsOk s k i qs → partsOk s' k i qs := by
      intro qs
      induction qs with
      | nil => intro i _ h; exact h
      | cons p r ih =>
        obtain ⟨q, x⟩ := p
        rintro i hq ⟨g1, g2, g3, g4⟩
        have hx : s'.ev x = s.ev x := hq (q, x) (by simp)
        exact ⟨g1, by rw [hx]; exact g2, by rw [hx]; exact g3, ih (i + 1) (fun p hp => hq p (by simp [hp])) g4⟩
    refine ⟨e, k, b, h1, h2, h3, hok _ _ hp h4, h5, ?_⟩
    rw [h6, partsCells_eq, partsCells_eq]; congr 1
    exact List.map_congr_left fun p hpm => by rw [hp p hpm]
  case build t ps =>
    have hp : ∀ p ∈ ps.toList, s'.ev p.2 = s.ev p.2 := fun p hp => he p.2 (List.mem_map.2 ⟨p, hp, rfl⟩)
    have key : ∀ (pl : Nat → Option (Nat × Nat × Bool)) (qs : List (Nat × Operand)) zs, (∀ p ∈ qs, s'.ev p.2 = s.ev p.2) → fillD pl s' qs zs = fillD pl s qs zs := by
      intro pl qs
      induction qs with
      | nil => intro zs _; rfl
      | cons p r ih =>
        obtain ⟨q, x⟩ := p
        intro zs hq
        have hx : s'.ev x = s.ev x := hq (q, x) (by simp)
        simp only [fillD, hx]
        split
        · split
          · exact ih _ fun p hp => hq p (by simp [hp])
          · rfl
        · rfl
    rcases h with ⟨h0, zs, cs, h1, h2, h3⟩ | ⟨n, k, zs, cs, h0, h1, h2, h3⟩
    · exact .inl ⟨h0, zs, cs, h1, by rw [key _ _ _ hp]; exact h2, h3⟩
    · exact .inr ⟨n, k, zs, cs, h0, h1, by rw [key _ _ _ hp]; exact h2, h3⟩
  case makeFunc fn first captured =>
    obtain ⟨f, h1, h2, h3⟩ := h
    refine ⟨f, h1, h2, ?_⟩
    rw [h3]
    congr 1
    exact List.map_congr_left fun x hx => by rw [he x (by simp; exact .inr (by simpa using hx))]
  case call c =>
    obtain ⟨callee, args, argTypes⟩ := c
    have ha : ∀ x ∈ args.toList, s'.ev x = s.ev x := fun x hx => he x (by simp only [Call.operands, Array.mem_append]; exact .inr (by simpa using hx))
    have hm : args.toList.map s'.ev = args.toList.map s.ev := List.map_congr_left ha
    have hm' : (args.toList.map fun x => (s'.ev x).dis) = args.toList.map fun x => (s.ev x).dis := List.map_congr_left fun x hx => by rw [ha x hx]
    cases callee with
    | invoke r n => exact h
    | value g =>
      have hg : s'.ev g = s.ev g := he g (by simp [Call.operands])
      obtain ⟨f, cap, h1, h2, h3, h4⟩ := h
      exact ⟨f, cap, by rw [hg]; exact h1, h2, by rw [hm', hS]; exact h3, h4⟩
    | builtin b =>
      cases b <;> simp only at h ⊢
      case len =>
        obtain ⟨x, t, hx, ht, n, hn, hd⟩ := h
        exact ⟨x, t, hx, ht, n, by rw [ha x (by simpa using Array.mem_of_getElem? hx)]; exact hn, hd⟩
      case min => rw [hm]; exact h
      case max => rw [hm]; exact h

theorem dl_vals (all : Array Oper) (p : Nat → Bool) (v v' : Nat → D) : ∀ n, (∀ j, j < n → v j = v' j) → dl all v p n = dl all v' p n
  | 0, _ => rfl
  | n + 1, h => by simp only [dl]; rw [h n (by omega), dl_vals all p v v' n fun j hj => h j (by omega)]

def sq (s : AS) (all : Array Oper) (vals : Nat → D) (k : Nat) : AS := { s with env := dl all vals (fun _ => true) k ++ s.env, eqs := [] }

theorem sq_put {all : Array Oper} {vals : Nat → D} {k : Nat} {o : Oper} (ho : all[k]? = some o) (hd : o.dst.all (· < s.n) = true) : (sq s all vals k).put o.dst (vals k) = sq s all vals (k + 1) := by
  unfold sq
  simp only [dl, ho, Option.bind_some]
  cases hdd : o.dst with
  | none => simp [AS.put, dl1]
  | some t =>
    rw [hdd] at hd
    have : t < s.n := by simpa using hd
    simp [AS.put, dl1, this]

theorem qopl_found {all : Array Oper} (hd : ∀ (j : Nat) (o : Oper), all[j]? = some o → o.dst.all (· < s.n) = true) {K : AS → Prop} : ∀ (l : List Oper) (k : Nat) (v0 : Nat → D), (∀ j : Nat, l[j]? = all[k + j]?) →
    qopl P all l (sq s all v0 k) K → ∃ vals : Nat → D, (∀ j, j < k → vals j = v0 j) ∧
      (∀ (j : Nat) (o : Oper), k ≤ j → all[j]? = some o → ∃ b, awant all (sq s all vals j) o = some b ∧ if b then AV P o (sq s all vals j) (vals j) else vals j = skD) ∧
      K (sq s all vals (k + l.length))
  | [], k, v0, hl, h => ⟨v0, fun _ _ => rfl, fun j o hj ho => by
      exfalso
      have := hl (j - k)
      rw [show k + (j - k) = j by omega, ho] at this
      simp at this, h⟩
  | o :: r, k, v0, hl, h => by
    have h0 : all[k]? = some o := by have := hl 0; simpa using this.symm
    have hl' : ∀ j : Nat, r[j]? = all[k + 1 + j]? := fun j => by have := hl (j + 1); simp at this; rw [this]; congr 1; omega
    have go : ∀ d, qopl P all r ((sq s all v0 k).put o.dst d) K → (∃ b, awant all (sq s all v0 k) o = some b ∧ if b then AV P o (sq s all v0 k) d else d = skD) →
        ∃ vals : Nat → D, (∀ j, j < k → vals j = v0 j) ∧
      (∀ (j : Nat) (o : Oper), k ≤ j → all[j]? = some o → ∃ b, awant all (sq s all vals j) o = some b ∧ if b then AV P o (sq s all vals j) (vals j) else vals j = skD) ∧
      K (sq s all vals (k + (r.length + 1))) := by
      intro d hq hf
      let v1 : Nat → D := fun j => if j = k then d else v0 j
      have e1 : sq s all v1 k = sq s all v0 k := by
        unfold sq; rw [dl_vals all _ v1 v0 k fun j hj => by simp only [v1]; rw [if_neg (by omega)]]
      have e2 : (sq s all v0 k).put o.dst d = sq s all v1 (k + 1) := by
        rw [← sq_put h0 (hd k o h0), e1]; simp [v1]
      rw [e2] at hq
      obtain ⟨vals, p1, p2, p3⟩ := qopl_found hd r (k + 1) v1 hl' hq
      refine ⟨vals, fun j hj => by rw [p1 j (by omega)]; simp only [v1]; rw [if_neg (by omega)], fun j o' hj ho' => ?_, by rw [show k + (r.length + 1) = k + 1 + r.length by omega]; exact p3⟩
      by_cases hjk : j = k
      · subst hjk
        rw [h0] at ho'; cases ho'
        have e3 : sq s all vals j = sq s all v0 j := by
          rw [← e1]; unfold sq; rw [dl_vals all _ vals v1 j fun i hi => p1 i (by omega)]
        rw [e3, p1 j (by omega)]
        simpa [v1] using hf
      · exact p2 j o' (by omega) ho'
    simp only [qopl, aguard] at h
    simp only [List.length_cons]
    cases hw : awant all (sq s all v0 k) o with
    | none => rw [hw] at h; exact h.elim
    | some b =>
      rw [hw] at h
      cases b with
      | true =>
        obtain ⟨d, hav, hq⟩ := h
        exact go d hq ⟨true, hw, hav⟩
      | false => exact go skD h ⟨false, hw, rfl⟩

theorem AS.get_ext_rel {w Z m cl a} {s s' : AS} (h : Rel w Z m cl s a) (hS : s'.S = s.S) (hn : s'.n = s.n) (he : s'.eqs = []) (hg : ∀ t, s'.get t = s.get t) : Rel w Z m cl s' a :=
  h.le ⟨hS, hn, he, fun t => .inr (.inl (hg t))⟩

def cntU (listed : Array Bool) : Nat → Nat
  | 0 => 0
  | n + 1 => (if listed.getD n false then 0 else 1) + cntU listed n

theorem cntU_set (listed : Array Bool) (i : Nat) : ∀ n, i < n → i < listed.size → listed.getD i false = false → cntU (listed.setIfInBounds i true) n + 1 = cntU listed n
  | 0, h, _, _ => by omega
  | n + 1, h, hs, hu => by
    have far : ∀ n, n ≤ i → cntU (listed.setIfInBounds i true) n = cntU listed n := by
      intro n
      induction n with
      | zero => intro _; rfl
      | succ n ih => intro hn; simp only [cntU]; rw [ih (by omega), getD_set_ne false (by omega)]
    simp only [cntU]
    by_cases hi : i = n
    · subst hi
      rw [far i (Nat.le_refl _), hu]
      have : (listed.setIfInBounds i true).getD i false = true := by simp [hs]
      rw [this]; simp; omega
    · rw [getD_set_ne false hi]
      have := cntU_set listed i n (by omega) hs hu
      omega

theorem cntU_zero (listed : Array Bool) : ∀ n, cntU listed n = 0 → ∀ i, i < n → listed.getD i false = true
  | 0, _, i, h => by omega
  | n + 1, h, i, hi => by
    simp only [cntU] at h
    by_cases hin : i = n
    · subst hin
      cases hl : listed.getD i false
      · rw [hl] at h; simp at h
      · rfl
    · exact cntU_zero listed n (by omega) i (by omega)

structure DrawOk (all : Array Oper) (n : Nat) : Prop where
  dst : ∀ (j : Nat) (o : Oper), all[j]? = some o → o.dst.all (· < n) = true
  lt : ∀ (j : Nat) (o : Oper), all[j]? = some o → ∀ e ∈ o.after, Region.binds .any e = true → e.on < j
  ap : ∀ (i j : Nat) (x o : Oper), i < j → all[i]? = some x → all[j]? = some o → x.apart all o = true ∨ ((msks all.toList []).getD j 0).testBit i = true

theorem drawOk_spec {all : Array Oper} {n : Nat} (h : drawOk all n = true) : DrawOk all n := by
  unfold drawOk at h
  simp only [Bool.and_eq_true, List.all_eq_true] at h
  obtain ⟨_, h⟩ := h
  have each : ∀ (j : Nat) (o : Oper), all[j]? = some o → (o, j) ∈ all.toList.zipIdx := fun j o ho => by
    rw [List.mem_zipIdx_iff_getElem?]; simpa using ho
  refine ⟨fun j o ho => (h (o, j) (each j o ho)).1.1, fun j o ho e he hb => ?_, fun i j x o hij hx ho => ?_⟩
  · have := (h (o, j) (each j o ho)).1.2 e (by simpa using he)
    simpa [hb] using this
  · have := (h (o, j) (each j o ho)).2 i (by simpa using hij)
    rw [hx] at this
    simpa using this

theorem awant_congr {all : Array Oper} {s s' : AS} {o : Oper} (h : ∀ t ∈ o.looksAt all, s'.get t = s.get t) : awant all s' o = awant all s o := by
  unfold awant
  cases hg : o.guard with
  | none => rfl
  | some jb =>
    obtain ⟨j, b⟩ := jb
    simp only
    cases ht : (all[j]?).bind (·.dst) with
    | none => rfl
    | some t =>
      simp only
      rw [h t (by unfold Oper.looksAt; rw [hg]; simp [ht])]

theorem AV_congr' {all : Array Oper} {o : Oper} {s s' : AS} {d : D} (hS : s'.S = s.S) (h : ∀ t ∈ o.looksAt all, s'.get t = s.get t) (hav : AV P o s d) : AV P o s' d := by
  refine AV_congr hS (fun x hx => ?_) hav
  cases x with
  | tmp t => exact h t (by unfold Oper.looksAt; exact List.mem_append_left _ (List.mem_filterMap.2 ⟨.tmp t, by simpa using hx, rfl⟩))
  | _ => rfl

theorem getD_ft {listed : Array Bool} {i : Nat} (h : listed.getD i true = false) : i < listed.size ∧ listed.getD i false = false := by
  rcases Nat.lt_or_ge i listed.size with h' | h'
  · simp [h'] at h ⊢; exact h
  · simp [Array.getElem?_eq_none h'] at h

theorem stt_all {all : Array Oper} {s : AS} {vals : Nat → D} {p : Nat → Bool} (h : ∀ k, k < all.size → p k = true) {w Z m cl a} (hr : Rel w Z m cl (stt s all vals p) a) :
    Rel w Z m cl (stt s all vals fun _ => true) a :=
  AS.get_ext_rel hr rfl rfl rfl fun t => (dl_congr all vals p (fun _ => true) s.env t all.size all.size (Nat.le_refl _) (fun k hk _ => h k hk) (fun k h1 h2 => by omega)).symm

theorem draw_any {all : Array Oper} {s : AS} {vals : Nat → D} (hok : DrawOk all s.n) (hf : Found P all s vals) {Q' : Exit → Act → World → Prop}
    : ∀ (fuel : Nat) (listed : Array Bool) (w : World) (Z : Zone) (m : List Nat) (cl : Cl) (a : Act), listed.size = all.size → cntU listed all.size ≤ fuel →
    (∀ (j : Nat) o, all[j]? = some o → listed.getD j false = true → ∀ e ∈ o.after, Region.binds .any e = true → listed.getD e.on false = true) →
    Rel w Z m cl (stt s all vals fun k => listed.getD k false) a →
    (∀ a' w' Z' m' cl', Rel w' Z' m' cl' (stt s all vals fun _ => true) a' → Step w Z m cl w' Z' m' cl' → Q' .normal a' w') →
    wpAny P .any all Q' fuel listed a w := by
  have nil : ∀ (listed : Array Bool), listed.size = all.size → (∀ i, i < all.size → listed.getD i false = true) → Region.ready .any all listed = [] := fun listed hsz hall => by
    cases hrd : Region.ready .any all listed with
    | nil => rfl
    | cons i r =>
      have hi : i ∈ Region.ready .any all listed := by rw [hrd]; simp
      obtain ⟨h1, _⟩ := mem_ready.1 hi
      obtain ⟨h2, h3⟩ := getD_ft h1
      rw [hall i (by omega)] at h3; cases h3
  have full : ∀ (listed : Array Bool), listed.size = all.size → Region.ready .any all listed = [] → ∀ i, i < all.size → listed.getD i false = true := fun listed hsz hrd i => by
    induction i using Nat.strongRecOn with
    | _ i ih =>
      intro hi
      cases hl : listed.getD i false with
      | true => rfl
      | false =>
        exfalso
        have hlt : i < listed.size := by omega
        have : i ∈ Region.ready .any all listed := mem_ready.2 ⟨by simpa [hlt] using hl, all[i], by simp [hi], fun e he hb => by
          have := hok.lt i all[i] (by simp [hi]) e he hb
          exact ih e.on this (by omega)⟩
        rw [hrd] at this; cases this
  intro fuel
  induction fuel with
  | zero =>
    intro listed w Z m cl a hsz hc hcl hr hq
    have hall := cntU_zero listed all.size (by omega)
    exact ⟨nil listed hsz hall, hq _ _ _ _ _ (stt_all hall hr) (Step.refl _ _ _ _)⟩
  | succ fuel ih =>
    intro listed w Z m cl a hsz hc hcl hr hq
    refine ⟨fun hrd => hq _ _ _ _ _ (stt_all (full listed hsz hrd) hr) (Step.refl _ _ _ _), fun i hi => ?_⟩
    obtain ⟨hun, o, ho, hafter⟩ := mem_ready.1 hi
    obtain ⟨hlt, hun'⟩ := getD_ft hun
    have hbef : ∀ k, ((msks all.toList []).getD i 0).testBit k = true → listed.getD k false = true :=
      before_done (listed := fun k => listed.getD k false = true) hcl hok.lt i o ho hafter
    have hnot : ∀ k y, i < k → all[k]? = some y → ((msks all.toList []).getD k 0).testBit i = true → listed.getD k false = false := fun k y _ hy hb => by
      cases hl : listed.getD k false with
      | false => rfl
      | true =>
        have := before_done (listed := fun k => listed.getD k false = true) hcl hok.lt k y hy (hcl k y hy hl) i hb
        rw [this] at hun'; cases hun'
    have hget : ∀ t ∈ o.looksAt all, (stt s all vals fun k => listed.getD k false).get t = (sq s all vals i).get t := fun t ht => by
      refine (dl_congr all vals (fun _ => true) (fun k => listed.getD k false) s.env t i all.size (by omega) (fun k hk hd => ?_) (fun k h1 h2 hd => ?_)).symm
      · have hx : all[k]? = some (all[k]'(by omega)) := by simp [show k < all.size by omega]
        rw [hx] at hd; simp only [Option.bind_some] at hd
        rcases hok.ap k i _ o hk hx ho with h | h
        · exact absurd ht ((Oper.apart_spec h).1 t hd)
        · exact (hbef k h).symm
      · by_cases hki : k = i
        · subst hki; exact hun'
        · have hx : all[k]? = some (all[k]'(by omega)) := by simp [show k < all.size by omega]
          rw [hx] at hd; simp only [Option.bind_some] at hd
          rcases hok.ap i k o _ (by omega) ho hx with h | h
          · exact absurd ht ((Oper.apart_spec h).2.2 t hd)
          · exact hnot k _ (by omega) hx h
    have next : ∀ (v : Value) (w' : World) (Z' : Zone) (cl' : Cl) (m' : List Nat) (a' : Act), Rel w' Z' m' cl' ((stt s all vals fun k => listed.getD k false).put o.dst (vals i)) a' → Step w Z m cl w' Z' m' cl' →
        wpAny P .any all Q' fuel (listed.setIfInBounds i true) a' w' := fun v w' Z' cl' m' a' hr' hst => by
      refine ih (listed.setIfInBounds i true) w' Z' m' cl' a' (by simpa using hsz) ?_ ?_ ?_ (fun a2 w2 Z2 m2 cl2 h1 h2 => hq a2 w2 Z2 m2 cl2 h1 (hst.trans h2))
      · have := cntU_set listed i all.size (by omega) hlt hun'; omega
      · intro j y hy hl e he hb
        by_cases hji : j = i
        · subst hji; rw [ho] at hy; cases hy; exact getD_set_true (hafter e he hb)
        · rw [getD_set_ne false (Ne.symm hji)] at hl
          exact getD_set_true (hcl j y hy hl e he hb)
      · refine AS.get_ext_rel hr' (by rw [AS.put_S]; rfl) (by rw [AS.put_n]; rfl) rfl fun t => ?_
        have self : (listed.setIfInBounds i true).getD i false = true := by simp [hlt]
        have other : (o.dst ≠ some t) → (stt s all vals fun k => (listed.setIfInBounds i true).getD k false).get t = (stt s all vals fun k => listed.getD k false).get t := fun hne => by
          refine dl_congr all vals _ _ s.env t all.size all.size (Nat.le_refl _) (fun k hk hd => ?_) (fun k h1 h2 => by omega)
          by_cases hki : k = i
          · subst hki; rw [ho] at hd; exact absurd hd hne
          · exact getD_set_ne false (Ne.symm hki)
        cases hd : o.dst with
        | none => rw [hd] at other; exact other (by simp)
        | some u =>
          have hun2 := hok.dst i o ho
          rw [hd] at hun2
          have hu : u < s.n := by simpa using hun2
          rw [AS.get_put, if_pos (show u < (stt s all vals fun k => listed.getD k false).n from hu)]
          by_cases hut : u = t
          · subst hut
            rw [if_pos rfl]
            show lk (dl all vals _ all.size ++ s.env) u = _
            rw [← dl_congr all vals (fun k => (listed.setIfInBounds i true).getD k false) (fun k => (listed.setIfInBounds i true).getD k false) s.env u (i + 1) all.size (by omega) (fun _ _ _ => rfl) (fun k h1 h2 hdk => ?_)]
            · simp only [dl, ho, Option.bind_some, hd, self, dl1]; simp [lk]
            · have hx : all[k]? = some (all[k]'(by omega)) := by simp [show k < all.size by omega]
              rw [hx] at hdk; simp only [Option.bind_some] at hdk
              rw [getD_set_ne false (by omega)]
              rcases hok.ap i k o _ (by omega) ho hx with h | h
              · exact absurd hdk ((Oper.apart_spec h).2.1 u hd)
              · exact hnot k _ (by omega) hx h
          · rw [if_neg hut]
            rw [hd] at other; exact other (by simpa using hut)
    obtain ⟨b, hb, hv⟩ := hf i o ho
    have hwant := awant_true hr ((awant_congr hget).trans hb)
    unfold wpOp
    simp only [ho]
    cases b with
    | false =>
      rw [if_neg (by rw [hwant]; simp)]
      simp only [Bool.false_eq_true, if_false] at hv
      exact next Go.undef w Z cl m _ (by rw [hv]; exact hr.put o.dst skD Go.undef skD_rv fun _ _ => skD_own) (Step.refl _ _ _ _)
    | true =>
      rw [if_pos hwant]
      simp only [if_true] at hv
      have hv' : AV P o (stt s all vals fun k => listed.getD k false) (vals i) := AV_congr' (all := all) (s := sq s all vals i) rfl hget hv
      refine .inl (av_sound hv' hr fun v w' Z' q hrv hown => ?_)
      exact next v w' Z' cl m _ ((q.rel hr).put o.dst (vals i) v hrv fun t _ => hown cl t) (q.step hr.toRelS)

/-- A region whose order is open, all its operations quiet. -/
theorem AWp.draw {id : Nat} {ops : Array Oper} {K : AS → Prop} {Q : Exit → AS → Prop} (hm : P.follows .mixedOrders = true) (hok : drawOk ops s.n = true) (h : qopl P ops ops.toList { s with eqs := [] } K)
    (hk : ∀ s, K s → Q .normal s) : AWp P (.region id ops true) Q s := by
  intro w Z m cl a hr
  have hok' := drawOk_spec hok
  obtain ⟨vals, _, h2, h3⟩ := qopl_found (s := s) hok'.dst ops.toList 0 (fun _ => .undef) (fun j => by simp) h
  have hf : Found P ops s vals := fun j o ho => h2 j o (Nat.zero_le _) ho
  refine wp_region_any hm ?_
  let wd : World := { w with drawn := w.drawn + 1 }
  have hst : Step w Z m cl wd Z m cl := ⟨rfl, rfl, rfl, Nat.le_refl _, fun _ _ _ => rfl, fun _ _ h => h, fun _ _ _ _ h => h, fun _ _ _ => rfl, fun k _ h => .inr ⟨k, h⟩⟩
  have hq : QStep w Z wd Z := ⟨rfl, rfl, rfl, Nat.le_refl _, fun _ _ => rfl, fun _ _ h => h, fun _ _ _ h => h, hr.zc⟩
  have hr' : Rel wd Z m cl s a := hq.rel hr
  have hun : ∀ k, (Array.replicate ops.size false).getD k false = false := fun k => by simp [Array.getD]
  refine draw_any hok' hf ops.size (Array.replicate ops.size false) wd Z m cl a (by simp) ?_ ?_ ?_ ?_
  · have : ∀ (l : Array Bool) n, cntU l n ≤ n := by
      intro l n
      induction n with
      | zero => simp [cntU]
      | succ n ih => simp only [cntU]; split <;> omega
    exact this _ _
  · intro j o _ hl; rw [hun] at hl; cases hl
  · refine AS.get_ext_rel hr' rfl rfl rfl fun t => ?_
    refine (dl_congr ops vals (fun _ => true) _ s.env t 0 ops.size (Nat.zero_le _) (fun k hk => by omega) (fun k _ _ _ => hun k)).symm
  · intro a' w' Z' m' cl' h4 h5
    refine ⟨_, Z', m', cl', hk _ h3, ?_, hst.trans h5⟩
    simpa [sq, stt] using h4

end

end Go.AL
