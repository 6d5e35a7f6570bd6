/-
  Maps with strings for keys: reading and writing, in abstract values.
-/
import Derived.Test.YtikgppgpailmcaaAlOps
import Derived.MapKept
namespace Go.AL

/-- What stands at the key u, z if nothing does. -/
def mgetD : List (D × D) → List UInt8 → D → D → Prop
  | [], _, z, d => d = z.dis
  | (.str v, x) :: r, u, z, d => if v = u then d = x.dis else mgetD r u z d
  | _ :: _, _, _, _ => False
def msetL : List (D × D) → List UInt8 → D → Option (List (D × D))
  | [], u, v => some [(.str u, v.dis)]
  | (.str w, x) :: r, u, v => if w = u then some ((.str u, v.dis) :: r) else (msetL r u v).map ((.str w, x) :: ·)
  | _ :: _, _, _ => none
/-- The zero of the elements of a map type whose keys are strings. -/
def tmpz (P : Program) (t : Nat) : Option D :=
  match P.underlying t with
  | some (.map kt et) => match P.underlying kt, (P.info? et).bind (·.zero) with
    | some .string, some zv => if zv.oneCell' then some (ofConst1 zv).dis else none
    | _, _ => none
  | _ => none
theorem tmpz_spec {P : Program} {t : Nat} {z : D} (h : tmpz P t = some z) : ∃ kt et i zv, P.underlying t = some (.map kt et) ∧ P.underlying kt = some .string ∧ P.info? et = some i ∧ i.zero = some zv ∧ zv.oneCell' = true ∧ z = (ofConst1 zv).dis := by
  unfold tmpz at h
  split at h
  · rename_i kt et hu
    split at h
    · rename_i zv hk hz
      split at h
      · rename_i h1
        cases hi : P.info? et with
        | none => rw [hi] at hz; cases hz
        | some i => rw [hi] at hz; exact ⟨kt, et, i, zv, hu, hk, hi, hz, h1, (Option.some.inj h).symm⟩
      · cases h
    · cases h
  · cases h

section
variable {P : Program} {w : World} {Z : Zone}
def MRel (w : World) (Z : Zone) (L : List (D × D)) (es : List MapEntry) : Prop :=
  es.length = L.length ∧ ∀ (j : Nat) p e, L[j]? = some p → es[j]? = some e → Rv w Z [] p.1 e.key ∧ Rv w Z [] p.2 e.val
theorem MRel.cons {p : D × D} {L : List (D × D)} {e : MapEntry} {es : List MapEntry} : MRel w Z (p :: L) (e :: es) ↔ (Rv w Z [] p.1 e.key ∧ Rv w Z [] p.2 e.val) ∧ MRel w Z L es := by
  constructor
  · intro ⟨h1, h2⟩
    exact ⟨h2 0 p e rfl rfl, by simpa using h1, fun j p' e' hp he => h2 (j + 1) p' e' (by simpa using hp) (by simpa using he)⟩
  · intro ⟨h1, h2, h3⟩
    refine ⟨by simp [h2], fun j p' e' hp he => ?_⟩
    cases j with
    | zero => simp at hp he; subst hp; subst he; exact h1
    | succ j => exact h3 j p' e' (by simpa using hp) (by simpa using he)

theorem key_inv {m : List Nat} {u : List UInt8} {v : Value} (h : Rv w Z m (.str u) v) : v = .string ⟨u.toArray⟩ := by cases h; rfl
theorem same_str (u v : List UInt8) : Instr.sameNow .string (.string ⟨u.toArray⟩) (.string ⟨v.toArray⟩) = some (decide (v = u)) := by
  simp only [Instr.sameNow, Option.some.injEq]
  rw [Bool.eq_iff_iff, MapKept.bytes_beq, decide_eq_true_eq]
  constructor
  · intro h
    have := congrArg (fun b => b.data.toList) h
    simpa using this.symm
  · intro h; rw [h]

theorem find_rel {u : List UInt8} {z d : D} : ∀ (L : List (D × D)) (es : List MapEntry) (i : Nat), MRel w Z L es → mgetD L u z d →
    (Instr.findNow .string (.string ⟨u.toArray⟩) es i = some none ∧ d = z.dis) ∨ ∃ j v, Instr.findNow .string (.string ⟨u.toArray⟩) es i = some (some (j, v)) ∧ Rv w Z [] d v
  | [], es, i, h, hd => by
    have : es = [] := by have := h.1; simpa using this
    subst this
    exact .inl ⟨rfl, hd⟩
  | (k, x) :: r, [], i, h, hd => by have := h.1; simp at this
  | (k, x) :: r, e :: es, i, h, hd => by
    obtain ⟨⟨h1, h2⟩, h3⟩ := MRel.cons.1 h
    cases k <;> simp only [mgetD] at hd
    rename_i v
    have hek := key_inv h1
    rw [Instr.findNow, hek, same_str]
    split at hd
    · rename_i hvu
      subst hvu
      right
      refine ⟨i, e.val, by simp, ?_⟩
      rw [hd]; exact h2.dis
    · rename_i hvu
      simp only [hvu, decide_false]
      exact find_rel r es (i + 1) h3 hd

theorem lookup_rel {t r : Nat} {u : List UInt8} {z d : D} {L : List (D × D)} {es : Array MapEntry} {clk : Nat} (ht : tmpz P t = some z) (hh : w.heap[r]? = some (.map es clk)) (h : MRel w Z L es.toList) (hd : mgetD L u z d) :
    ∃ v, (Instr.lookup t (.map (some r)) (.string ⟨u.toArray⟩) false).run P w = .ok v w ∧ Rv w Z [] d v := by
  obtain ⟨kt, et, i, zv, h1, h2, h3, h4, h5, rfl⟩ := tmpz_spec ht
  have hck : (Instr.checkKey es.isEmpty 10000 kt (.string ⟨u.toArray⟩)).run P w = .ok () w := MapKept.run_checkKey (k := .string ⟨u.toArray⟩) h2 (by simp [MapKept.IsKey]) _ 9999
  rcases find_rel L es.toList 0 h hd with ⟨hf, hdz⟩ | ⟨j, v, hf, hv⟩
  · refine ⟨zv, ?_, ?_⟩
    · simp [Instr.lookup, run_underlying h1, MapKept.run_getObj_map hh, hck, MapKept.run_findKey h2 hf, zeroValue, run_typeInfo w h3, h4, Result.andThen]
    · rw [hdz]; exact (ofConst1_rv _ _ _ _).dis.dis
  · refine ⟨v, ?_, hv⟩
    simp [Instr.lookup, run_underlying h1, MapKept.run_getObj_map hh, hck, MapKept.run_findKey h2 hf, Result.andThen]

theorem mset_rel {u : List UInt8} {v : D} {val : Value} (hu : u.length ≤ 9223372036854775807) (hv : Rv w Z [] v.dis val) : ∀ (L L' : List (D × D)) (es : List MapEntry) (i : Nat), MRel w Z L es → msetL L u v = some L' →
    (Instr.findNow .string (.string ⟨u.toArray⟩) es i = some none ∧ ∀ clk, MRel w Z L' (es ++ [⟨.string ⟨u.toArray⟩, val, clk⟩])) ∨
    ∃ j x e, Instr.findNow .string (.string ⟨u.toArray⟩) es i = some (some (i + j, x)) ∧ es[j]? = some e ∧ e.key = .string ⟨u.toArray⟩ ∧ MRel w Z L' (es.set j ⟨.string ⟨u.toArray⟩, val, e.born⟩)
  | [], L', es, i, h, hs => by
    have : es = [] := by have := h.1; simpa using this
    subst this
    simp only [msetL, Option.some.injEq] at hs
    subst hs
    left
    refine ⟨rfl, fun clk => ?_⟩
    rw [List.nil_append, MRel.cons]
    exact ⟨⟨.str u hu, hv⟩, rfl, by simp⟩
  | (k, x) :: r, L', [], i, h, hs => by have := h.1; simp at this
  | (k, x) :: r, L', e :: es, i, h, hs => by
    obtain ⟨⟨h1, h2⟩, h3⟩ := MRel.cons.1 h
    cases k <;> simp only [msetL, reduceCtorEq] at hs
    rename_i w'
    have hek := key_inv h1
    rw [Instr.findNow, hek, same_str]
    split at hs
    · rename_i hwu
      subst hwu
      simp only [Option.some.injEq] at hs
      subst hs
      right
      refine ⟨0, e.val, e, by simp, rfl, hek, ?_⟩
      rw [List.set_cons_zero, MRel.cons]
      exact ⟨⟨by rw [← hek]; exact h1, hv⟩, h3⟩
    · rename_i hwu
      simp only [hwu, decide_false]
      cases hr : msetL r u v with
      | none => rw [hr] at hs; cases hs
      | some r' =>
        rw [hr] at hs
        simp only [Option.map_some, Option.some.injEq] at hs
        subst hs
        rcases mset_rel hu hv r r' es (i + 1) h3 hr with ⟨g1, g2⟩ | ⟨j, y, e', g1, g2, g3, g4⟩
        · exact .inl ⟨g1, fun clk => MRel.cons.2 ⟨⟨h1, h2⟩, g2 clk⟩⟩
        · refine .inr ⟨j + 1, y, e', by rw [g1]; congr 3; omega, by simpa using g2, g3, ?_⟩
          rw [List.set_cons_succ]
          exact MRel.cons.2 ⟨⟨h1, h2⟩, g4⟩

theorem mapUpdate_rel {t r : Nat} {u : List UInt8} {z v : D} {val : Value} {L L' : List (D × D)} {es : Array MapEntry} {clk : Nat} (ht : tmpz P t = some z) (hh : w.heap[r]? = some (.map es clk)) (h : MRel w Z L es.toList) (hs : msetL L u v = some L')
    (hu : u.length ≤ 9223372036854775807) (hv : Rv w Z [] v.dis val) :
    ∃ es' clk', (Instr.mapUpdate t (.map (some r)) (.string ⟨u.toArray⟩) val).run P w = .ok () { w with heap := w.heap.setIfInBounds r (.map es' clk') } ∧ MRel w Z L' es'.toList := by
  obtain ⟨kt, et, i, zv, h1, h2, h3, h4, h5, rfl⟩ := tmpz_spec ht
  have hkey : MapKept.IsKey .string (.string ⟨u.toArray⟩) := by simp [MapKept.IsKey]
  have hck : (Instr.checkKey false 10000 kt (.string ⟨u.toArray⟩)).run P w = .ok () w := MapKept.run_checkKey h2 hkey _ 9999
  rcases mset_rel hu hv L L' es.toList 0 h hs with ⟨hf, g⟩ | ⟨j, x, e, hf, g1, g2, g3⟩
  · refine ⟨es.push ⟨.string ⟨u.toArray⟩, val, clk⟩, clk + 1, ?_, by rw [Array.toList_push]; exact g clk⟩
    simp [Instr.mapUpdate, run_underlying h1, MapKept.run_getObj_map hh, hck, MapKept.run_findKey h2 hf, MapKept.run_setObj_map _ hh, Result.andThen]
  · rw [Nat.zero_add] at hf
    have hj : es[j]? = some e := by simpa using g1
    refine ⟨es.modify j fun e => { e with key := .string ⟨u.toArray⟩, val := val }, clk, ?_, ?_⟩
    · simp [Instr.mapUpdate, run_underlying h1, MapKept.run_getObj_map hh, hck, MapKept.run_findKey h2 hf, hj, g2, MapKept.run_keyThatStays hkey, MapKept.run_setObj_map _ hh, Result.andThen]
    · have : (es.modify j fun e => { e with key := .string ⟨u.toArray⟩, val := val }).toList = es.toList.set j ⟨.string ⟨u.toArray⟩, val, e.born⟩ := by
        rw [Array.toList_modify]
        apply List.ext_getElem?
        intro q
        rw [List.getElem?_modify, List.getElem?_set]
        by_cases hq : j = q
        · subst hq
          have hlt := (List.getElem?_eq_some_iff.1 g1).1
          simp only [if_true, g1, hlt]; rfl
        · simp only [if_neg hq]; simp
      rw [this]; exact g3
end
end Go.AL
