/-
  From what a row reads to the values that a contract speaks of, and the row's end.
-/
import Derived.Test.YtikgppgpailmcaaAlPlain
import Derived.ProofKit
namespace Go.AL
open Go.ChangeShapes Go.WideShapes Go.RowKit

/-- All cells that exist. -/
def allZ (w : World) : Zone := fun b o => ∃ v, w.cell? ⟨b, o, none⟩ = some v

/-- Cells that stand for plain ones. -/
def RvL (w : World) (ds : List D) (cs : List Value) : Prop :=
  ds.length = cs.length ∧ (∀ v ∈ cs, v.oneCell' = true) ∧ ∀ (i : Nat) (d : D) (v : Value), ds[i]? = some d → cs[i]? = some v → Rv w (allZ w) [] d v
theorem RvL.one {w : World} {d : D} {v : Value} (h1 : v.oneCell' = true) (h : Rv w (allZ w) [] d v) : RvL w [d] [v] := by
  refine ⟨rfl, fun u hu => by simp only [List.mem_singleton] at hu; rw [hu]; exact h1, fun i d' v' hd hv => ?_⟩
  match i, hd, hv with
  | 0, hd, hv => simp only [List.getElem?_cons_zero, Option.some.injEq] at hd hv; subst hd; subst hv; exact h
  | i + 1, hd, _ => simp at hd
theorem RvL.app {w : World} {ds ds' : List D} {cs cs' : List Value} (h : RvL w ds cs) (h' : RvL w ds' cs') : RvL w (ds ++ ds') (cs ++ cs') := by
  refine ⟨by rw [List.length_append, List.length_append, h.1, h'.1], fun u hu => ?_, fun i d v hd hv => ?_⟩
  · rcases List.mem_append.1 hu with hu | hu
    · exact h.2.1 u hu
    · exact h'.2.1 u hu
  · by_cases hi : i < ds.length
    · rw [List.getElem?_append_left hi] at hd
      rw [List.getElem?_append_left (by rw [← h.1]; exact hi)] at hv
      exact h.2.2 i d v hd hv
    · rw [List.getElem?_append_right (by omega)] at hd
      rw [List.getElem?_append_right (by rw [← h.1]; omega), ← h.1] at hv
      exact h'.2.2 _ d v hd hv

section
variable {H : Type} {enc : TypeId × Value → H} {P : Program} {w : World} {α β : Type}

/-- What is read at the type t is a plain value's cells. -/
def Reads (enc : TypeId × Value → H) (P : Program) (w : World) (n : Nat) (t : TypeId) (C : α → List D) (Q : α → Prop) : Prop :=
  ∀ fuel, fuel ≤ n → ∀ cs x, DataW.trod enc P w 0 (fun _ => true) true fuel t cs = some x → ∃ a, Q a ∧ RvL w (C a) cs

theorem reads_bool {t n : Nat} {C : Bool → List D} (hC : ∀ b, C b = [.bool b]) (ht : P.underlying t = some .bool) : Reads enc P w n t C (fun _ => True) := by
  intro fuel _ cs x h
  obtain ⟨b, rfl, _⟩ := DataW.trod_bool ht h
  exact ⟨b, trivial, by rw [hC]; exact .one rfl (.bool b)⟩
theorem reads_int {t n : Nat} {k : IntKind} {C : Int → List D} (hC : ∀ i, C i = [.int k i]) (ht : P.underlying t = some (.int k)) : Reads enc P w n t C (fun i => (Lit.int k i).wf = true) := by
  intro fuel _ cs x h
  obtain ⟨b, rfl, _, hw⟩ := DataW.trod_int ht h
  exact ⟨b, hw, by rw [hC]; exact .one rfl (.int k b)⟩
theorem reads_str {t n : Nat} {C : List UInt8 → List D} (hC : ∀ i, C i = [.str i]) (ht : P.underlying t = some .string) : Reads enc P w n t C (fun s => s.length ≤ 9223372036854775807) := by
  intro fuel _ cs x h
  obtain ⟨s, rfl, _, hw⟩ := DataW.trod_string ht h
  have hl : s.data.toList.length ≤ 9223372036854775807 := by rw [Array.length_toList]; exact hw
  refine ⟨s.data.toList, hl, ?_⟩
  rw [hC]
  refine .one rfl ?_
  have : (⟨s.data.toList.toArray⟩ : ByteArray) = s := by cases s; simp
  have h2 := Rv.str (w := w) (Z := allZ w) (m := []) s.data.toList hl
  rw [this] at h2
  exact h2

theorem list_of {Q : α → Prop} {p : Nat → α → Prop} : ∀ {n : Nat}, (∀ i, i < n → ∃ a, Q a ∧ p i a) → ∃ xs : List α, xs.length = n ∧ (∀ a ∈ xs, Q a) ∧ ∀ i a, xs[i]? = some a → p i a
  | 0, _ => ⟨[], rfl, by simp, by simp⟩
  | n + 1, h => by
    obtain ⟨xs, hl, hq, hp⟩ := list_of (n := n) fun i hi => h i (by omega)
    obtain ⟨a, ha, hpa⟩ := h n (by omega)
    refine ⟨xs ++ [a], by simp [hl], fun b hb => ?_, fun i b hb => ?_⟩
    · rcases List.mem_append.1 hb with hb | hb
      · exact hq b hb
      · simp only [List.mem_singleton] at hb; rw [hb]; exact ha
    · by_cases hi : i < n
      · rw [List.getElem?_append_left (by omega)] at hb; exact hp i b hb
      · rw [List.getElem?_append_right (by omega)] at hb
        have : i = n := by
          have := (List.getElem?_eq_some_iff.1 hb).1
          simp at this; omega
        subst this
        simp only [hl, Nat.sub_self, List.getElem?_cons_zero, Option.some.injEq] at hb
        rw [← hb]; exact hpa

theorem reads_slice {t e n : Nat} {C : α → List D} {S : List α → List (List D)} {C' : List α → List D} {Q : α → Prop} {k : Nat} (hS : ∀ xs, S xs = xs.map C) (hC : ∀ xs, C' xs = [.sl (S xs)]) (hk : ∀ a, (C a).length = k) (hk0 : 0 < k)
    (ht : P.underlying t = some (.slice e)) (he : P.cellsOf e = k) (h : ∀ m, m < n → Reads enc P w m e C Q) : Reads enc P w n t C' (fun xs => xs.length ≤ 9223372036854775807 ∧ ∀ x ∈ xs, Q x) := by
  intro fuel hfuel cs x hx
  rcases DataW.trod_slice ht hx with ⟨rfl, _⟩ | ⟨a, len, cap, elems, rest, m, hm, rfl, _, _, hl, hmx, hlen, hel, hsp, _⟩
  · refine ⟨[], ⟨by simp, by simp⟩, ?_⟩
    rw [hC, hS]
    exact .one rfl .slnil
  · obtain ⟨hrl, hre⟩ := hsp rfl
    have hel' : ∀ i, i < cap → ∃ y, (w.cells? 0 (a.add (i * k)) k).bind (DataW.trod enc P w 0 (fun _ => true) true m e) = some y := by
      intro i hi
      by_cases h1 : i < len
      · have := hel i h1
        rw [he] at this
        exact ⟨elems[i]'(by omega), by rw [this, List.getElem?_eq_getElem]⟩
      · have := hre (i - len) (by omega)
        rw [he, show len + (i - len) = i by omega] at this
        exact ⟨rest[i - len]'(by omega), by rw [this, List.getElem?_eq_getElem]⟩
    by_cases hcap : cap = 0
    · have h0 : len = 0 := by omega
      subst h0; subst hcap
      refine ⟨[], ⟨by simp, by simp⟩, ?_⟩
      rw [hC, hS]
      exact .one rfl (.slz a)
    · have hspot : a.spot = none := by
        obtain ⟨y, hy⟩ := hel' 0 (by omega)
        obtain ⟨cs', h1, _⟩ := Option.bind_eq_some_iff.1 hy
        obtain ⟨_, hl2, h3⟩ := World.cells?_some h1
        have := h3 0 hk0
        rw [Nat.zero_mul] at this
        have e0 : ∀ b : Addr, b.add 0 = b := fun b => by simp [Addr.add]
        rw [e0, e0, List.getElem?_eq_getElem (by omega)] at this
        unfold World.cell? at this
        split at this
        · split at this
          · cases this
          · rename_i hh; simpa using hh
        · cases this
      obtain ⟨b, off, sp⟩ := a
      simp only at hspot
      subst hspot
      obtain ⟨xs, hxl, hxq, hxp⟩ := list_of (n := len) (Q := Q) (p := fun i a => ∃ cs' : List Value, cs'.length = k ∧ (∀ j, j < k → w.cell? ⟨b, off + i * k + j, none⟩ = cs'[j]?) ∧ RvL w (C a) cs') fun i hi => by
        obtain ⟨y, hy⟩ := hel' i (by omega)
        obtain ⟨cs', h1, h2⟩ := Option.bind_eq_some_iff.1 hy
        obtain ⟨_, hl2, h3⟩ := World.cells?_some h1
        obtain ⟨a, ha, hr⟩ := h m (by omega) m (Nat.le_refl _) cs' y h2
        refine ⟨a, ha, cs', hl2, fun j hj => ?_, hr⟩
        have := h3 j hj
        rwa [addr_add, addr_add] at this
      refine ⟨xs, ⟨by rw [hxl]; exact Nat.le_trans hl hmx, hxq⟩, ?_⟩
      rw [hC]
      refine .one rfl ?_
      have hSl : (S xs).length = len := by rw [hS, List.length_map, hxl]
      rw [← hSl]
      have key : ∀ (i j : Nat) (x : List D) (d : D), (S xs)[i]? = some x → x[j]? = some d → ∃ v, w.cell? ⟨b, off + i * k + j, none⟩ = some v ∧ v.oneCell' = true ∧ Rv w (allZ w) [] d v := by
        intro i j x d hx hd
        rw [hS, List.getElem?_map] at hx
        simp only [Option.map_eq_some_iff] at hx
        obtain ⟨a, ha, rfl⟩ := hx
        obtain ⟨cs', hl2, h3, hr⟩ := hxp i a ha
        have hj : j < k := by rw [← hk a]; exact (List.getElem?_eq_some_iff.1 hd).1
        have hv : cs'[j]? = some (cs'[j]'(by omega)) := List.getElem?_eq_getElem _
        exact ⟨_, by rw [h3 j hj]; exact hv, hr.2.1 _ (List.mem_of_getElem? hv), hr.2.2 j d _ hd hv⟩
      refine .sl k (S xs) b off cap (fun i j => (w.cell? ⟨b, off + i * k + j, none⟩).getD default) ⟨by rw [hSl]; exact hl, by rw [hSl]; exact Nat.le_trans hl hmx⟩ (rows hS hk) (fun i j x d hx hd => ?_) (fun i j x d hx hd => ?_)
      · obtain ⟨v, hv, h1, _⟩ := key i j x d hx hd
        exact ⟨⟨v, hv⟩, by rw [hv]; rfl, by rw [hv]; exact h1⟩
      · obtain ⟨v, hv, _, h2⟩ := key i j x d hx hd
        rw [hv]; exact h2

/-- An argument of one cell. -/
theorem reads_arg1 {t : TypeId} {C : α → List D} {Q : α → Prop} {d : α → D} (hC : ∀ a, C a = [d a]) (h : ∀ n, Reads enc P w n t C Q) {v : Value} {x : DataW H} {ps : List MemPlace} (ha : v.oneCell' = true) (hv : DataW.Trod enc P w 0 (fun _ => true) true t v x ps) : ∃ a, Q a ∧ Rv w (allZ w) [] (d a) v := by
  obtain ⟨fuel, hf⟩ := hv
  obtain ⟨a, hq, hl, _, hr⟩ := h fuel fuel (Nat.le_refl _) _ _ hf
  refine ⟨a, hq, hr 0 (d a) v (by rw [hC]; rfl) ?_⟩
  cases v <;> simp_all [Value.cells, Value.oneCell']
/-- An argument that is a struct. -/
theorem reads_agg {t : TypeId} {C : α → List D} {Q : α → Prop} (h : ∀ n, Reads enc P w n t C Q) {vs : Array Value} {x : DataW H} {ps : List MemPlace} (hv : DataW.Trod enc P w 0 (fun _ => true) true t (.agg vs) x ps) : ∃ a, Q a ∧ Rv w (allZ w) [] (.agg (C a)) (.agg vs) := by
  obtain ⟨fuel, hf⟩ := hv
  obtain ⟨a, hq, hl, h1, hr⟩ := h fuel fuel (Nat.le_refl _) _ _ hf
  exact ⟨a, hq, .agg _ _ (by simpa [Value.cells] using hl) (fun v hv => h1 v (by simpa [Value.cells] using hv)) fun i d v hd hv => hr i d v hd (by simpa [Value.cells] using hv)⟩

theorem arg_slice {t e : TypeId} {C : α → List D} {Q : α → Prop} {d : α → D} (hC : ∀ a, C a = [d a]) (h : ∀ n, Reads enc P w n t C Q) (ht : P.underlying t = some (.slice e)) {v : Value} {r : Reach} {b : Nat} {x : DataW H} {ps : List MemPlace} (hk : Value.okWide P w r b t v)
    (hv : DataW.Trod enc P w 0 (fun _ => true) true t v x ps) : ∃ a, Q a ∧ Rv w (allZ w) [] (d a) v := by
  obtain ⟨a, l, c, rfl⟩ := okWide_slice ht hk
  exact reads_arg1 hC h rfl hv
theorem arg_int {t : TypeId} {k : IntKind} {C : α → List D} {Q : α → Prop} {d : α → D} (hC : ∀ a, C a = [d a]) (h : ∀ n, Reads enc P w n t C Q) (ht : P.underlying t = some (.int k)) {v : Value} {r : Reach} {b : Nat} {x : DataW H} {ps : List MemPlace} (hk : Value.okWide P w r b t v)
    (hv : DataW.Trod enc P w 0 (fun _ => true) true t v x ps) : ∃ a, Q a ∧ Rv w (allZ w) [] (d a) v := by
  obtain ⟨a, rfl⟩ := okWide_int ht hk
  exact reads_arg1 hC h rfl hv
theorem arg_str {t : TypeId} {C : α → List D} {Q : α → Prop} {d : α → D} (hC : ∀ a, C a = [d a]) (h : ∀ n, Reads enc P w n t C Q) (ht : P.underlying t = some .string) {v : Value} {r : Reach} {b : Nat} {x : DataW H} {ps : List MemPlace} (hk : Value.okWide P w r b t v)
    (hv : DataW.Trod enc P w 0 (fun _ => true) true t v x ps) : ∃ a, Q a ∧ Rv w (allZ w) [] (d a) v := by
  obtain ⟨a, rfl⟩ := okWide_string ht hk
  exact reads_arg1 hC h rfl hv
theorem arg_struct {t : TypeId} {fs : Array Field} {C : α → List D} {Q : α → Prop} (h : ∀ n, Reads enc P w n t C Q) (ht : P.underlying t = some (.struct fs)) {v : Value} {r : Reach} {b : Nat} {x : DataW H} {ps : List MemPlace} (hk : Value.okWide P w r b t v)
    (hv : DataW.Trod enc P w 0 (fun _ => true) true t v x ps) : ∃ a, Q a ∧ Rv w (allZ w) [] (.agg (C a)) v := by
  obtain ⟨a, rfl, _⟩ := okWide_struct ht hk
  exact reads_agg h hv

/-- The arguments, one by one. -/
def Rvs (w : World) : List D → List Value → Prop
  | [], [] => True
  | d :: ds, v :: vs => Rv w (allZ w) [] d v ∧ Rvs w ds vs
  | _, _ => False
theorem Rvs.get : ∀ {ds : List D} {vs : List Value}, Rvs w ds vs → ds.length = vs.length ∧ ∀ (i : Nat) (d : D) (v : Value), ds[i]? = some d → vs[i]? = some v → Rv w (allZ w) [] d v
  | [], [], _ => ⟨rfl, by simp⟩
  | d :: ds, v :: vs, ⟨h1, h2⟩ => by
    obtain ⟨g1, g2⟩ := Rvs.get h2
    refine ⟨by simp [g1], fun i d' v' hd hv => ?_⟩
    cases i with
    | zero => simp only [List.getElem?_cons_zero, Option.some.injEq] at hd hv; subst hd; subst hv; exact h1
    | succ i => exact g2 i d' v' (by simpa using hd) (by simpa using hv)
  | [], _ :: _, h => h.elim
  | _ :: _, [], h => h.elim
theorem QStep.below {w' : World} {Z Z' : Zone} (h : QStep w Z w' Z') : Below w.heap.size w w' := ⟨h.os, h.tape, h.output, h.size, h.heap⟩

theorem trodAll_stays (hl : laidOutB P = true) {W W' : World} (hb : Below W.heap.size W W') : ∀ {ts : List TypeId} {vs : List Value} {ds : List (DataW H)} {ps : List MemPlace}, ts.all (fun t => P.readableRec t && decide (t < P.types.size)) = true →
    DataW.TrodAll enc P W 0 (fun _ => true) true ts vs ds ps → (∀ x ∈ ps, x.block < W.heap.size) → DataW.TrodAll enc P W' 0 (fun b => decide (b < W.heap.size)) true ts vs ds ps
  | [], [], [], ps, _, h, _ => h
  | t :: ts, v :: vs, d :: ds, ps, hr, ⟨p, q, h1, h2, h3⟩, hlt => by
    subst h3
    simp only [List.all_cons, Bool.and_eq_true, decide_eq_true_eq] at hr
    exact ⟨p, q, Below.trod hl hr.1.1 hr.1.2 h1 hb fun x hx => hlt x (List.mem_append_left _ hx), trodAll_stays hl hb hr.2 h2 fun x hx => hlt x (List.mem_append_right _ hx), rfl⟩
  | [], _ :: _, _, _, _, h, _ => h.elim
  | [], [], _ :: _, _, _, h, _ => h.elim
  | _ :: _, [], _, _, _, h, _ => h.elim
  | _ :: _, _ :: _, [], _, _, h, _ => h.elim

/-- The end of a row 'true; the input reads as it did'. -/
theorem row_post {f : Func} {s : ChangeSpec} {apart fresh handsOn : Bool} {W W' : World} {args : Array Value} {v : Value} {ds gs : List (DataW H)} {ps : List MemPlace} {tb : TypeId} (hl : laidOutB P = true) (hvars : s.vars = [])
    (hr : f.params.toList.all (fun t => P.readableRec t && decide (t < P.types.size)) = true) (hrt : f.resultTypes.toList = [tb]) (hn : f.resultTypes.size = 1) (htb : P.underlying tb = some .bool)
    (hW : DataW.Whole enc P f.params.toList s.vars apart W args.toList ds gs ps) (hs1 : (s.fn H (ds ++ gs)).results = [.lit (.bool true)]) (hs2 : (s.fn H (ds ++ gs)).args = ds) (hs3 : (s.fn H (ds ++ gs)).vars = [])
    (hv : v = .bool true) (hb : Below W.heap.size W W') : s.post enc P f apart fresh handsOn false W args v W' := by
  have hlt := hW.lt
  have hW0 := hW
  obtain ⟨p, q, hA, hV, hp, _, _⟩ := hW0
  rw [hvars] at hV
  obtain ⟨rfl, rfl⟩ := trodVars_none hV
  rw [List.append_nil] at hp
  subst hp
  subst hv
  refine ⟨ds, [], ps, [], ps, [], hW, ?_, ?_, ?_, hb.frame _, fun h => by cases h⟩
  · rw [hs1, hrt, hn]
    refine trodAll_mk1 ⟨1, ?_⟩
    simp [DataW.trod, htb, Value.cells]
  · rw [hs2]
    exact trodAll_stays hl hb hr hA hlt
  · rw [hs3, hvars]; rfl

/-- The whole of a row 'true; the input reads as it did': the arguments stand for plain ones, and the function is known to give true there. -/
theorem row_calls {F : Nat} {f : Func} {s : ChangeSpec} {apart fresh handsOn : Bool} {W : World} {args : Array Value} {ds gs : List (DataW H)} {ps : List MemPlace} {tb : TypeId} {ar : List D} (hl : laidOutB P = true) (hvars : s.vars = [])
    (hr : f.params.toList.all (fun t => P.readableRec t && decide (t < P.types.size)) = true) (hrt : f.resultTypes.toList = [tb]) (hn : f.resultTypes.size = 1) (htb : P.underlying tb = some .bool)
    (hW : DataW.Whole enc P f.params.toList s.vars apart W args.toList ds gs ps) (hs1 : (s.fn H (ds ++ gs)).results = [.lit (.bool true)]) (hs2 : (s.fn H (ds ++ gs)).args = ds) (hs3 : (s.fn H (ds ++ gs)).vars = [])
    (hc : (Ky.call F ar).ok P (.bool true)) (ha : Rvs W ar args.toList) : Calls P F args W fun e W' => ∃ v, e = .returned v ∧ s.post enc P f apart fresh handsOn false W args v W' := by
  obtain ⟨g1, g2⟩ := ha.get
  refine (hc.2.1 W (allZ W) [] args (fun b o h => h) (by simp) (by simpa using g1) (fun i d v hd hv => g2 i d v hd (by simpa using hv))).mono fun e W' h => ?_
  obtain ⟨v, Z', rfl, hv, hq⟩ := h
  exact ⟨v, rfl, row_post hl hvars hr hrt hn htb hW hs1 hs2 hs3 hv.bool_inv hq.below⟩
end
end Go.AL
