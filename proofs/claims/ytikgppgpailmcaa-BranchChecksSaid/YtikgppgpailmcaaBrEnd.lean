/-
  The row BranchChecks: whatever the input, it gives true, and the input reads as it did.
  Conditions: none but the row's own (each argument's reading has an end: no list that holds itself).
-/
import Derived.Test.YtikgppgpailmcaaBrC
import Derived.Test.YtikgppgpailmcaaAlRow
namespace Go.Proofs.Ytikgppgpailmcaa
open Go.ChangeShapes Go.WideShapes Go.ChangeAt Go.RowKit Go.AL

theorem Try.own : ownKnob Try.prog.godebug = none := by kernel_rfl
theorem Try.laidOut : laidOutB Try.prog = true := by kernel_rfl

section
variable {w : World} {a b : List D} {cs : List Value}
/- The cells of a struct, field after field. -/
theorem rvl_nil {o : Nat} (h : cs.length = o) : RvL w [] (cs.drop o) := by
  subst h
  rw [List.drop_length]
  exact ⟨rfl, fun v h => (by cases h), fun i d v h => by simp at h⟩
theorem rvl_cons {o c o' : Nat} (h : RvL w a ((cs.drop o).take c)) (e : o' = o + c) (h' : RvL w b (cs.drop o')) : RvL w (a ++ b) (cs.drop o) := by
  subst e
  rw [← List.drop_drop] at h'
  have := h.app h'
  rwa [List.take_append_drop] at this
end

section
variable {H : Type} {enc : TypeId × Value → H} {P : Program} {w : World} {α : Type}
/-- Each field is read. -/
def Fields (enc : TypeId × Value → H) (P : Program) (w : World) (m : Nat) (fs : Array Field) (cs : List Value) : Prop :=
  ∀ (i : Nat) (f : Field), fs[i]? = some f → ∃ y, DataW.trod enc P w 0 (fun _ => true) true m f.type ((cs.drop f.offset).take (P.cellsOf f.type)) = some y
theorem Fields.at {m : Nat} {fs : Array Field} {cs : List Value} (hf : Fields enc P w m fs cs) (i o c : Nat) {t : TypeId} {f : Field} {C : α → List D} {Q : α → Prop} (hi : fs[i]? = some f) (h : Reads enc P w m t C Q) (ht : f.type = t) (ho : f.offset = o) (hc : P.cellsOf t = c) :
    ∃ a, Q a ∧ RvL w (C a) ((cs.drop o).take c) := by
  obtain ⟨y, hy⟩ := hf i f hi
  subst ht; subst ho; subst hc
  exact h m (Nat.le_refl _) _ y hy
theorem reads_struct {t : TypeId} {n : Nat} {fs : Array Field} {C : α → List D} {Q : α → Prop} (ht : P.underlying t = some (.struct fs))
    (h : ∀ m, m < n → ∀ cs : List Value, cs.length = P.cellsOf t → Fields enc P w m fs cs → ∃ a, Q a ∧ RvL w (C a) (cs.drop 0)) : Reads enc P w n t C Q := by
  intro fuel hfuel cs x hx
  obtain ⟨xs, m, rfl, _, hl, hlen, hf⟩ := DataW.trod_struct ht hx
  refine h m (by omega) cs hl fun i f hi => ?_
  have h1 : i < xs.length := by
    rw [hlen]
    exact (Array.getElem?_eq_some_iff.1 hi).1
  exact ⟨xs[i], by rw [hf i f hi, List.getElem?_eq_getElem h1]⟩
end

section
variable {H : Type} {enc : TypeId × Value → H} {w : World}
theorem rd_int (n : Nat) : Reads enc Try.prog w n 3 G.C_int (fun i => (Lit.int .i64 i).wf = true) := reads_int (fun _ => rfl) Try.underlying3
theorem rd_int64 (n : Nat) : Reads enc Try.prog w n 2 G.C_int (fun i => (Lit.int .i64 i).wf = true) := reads_int (fun _ => rfl) Try.underlying2
theorem rd_str (n : Nat) : Reads enc Try.prog w n 9 G.C_str (fun s => s.length ≤ 9223372036854775807) := reads_str (fun _ => rfl) Try.underlying9
theorem rd_L_int (n : Nat) : Reads enc Try.prog w n 25 (fun xs => [.sl (G.S_int xs)]) (fun xs => xs.length ≤ 9223372036854775807 ∧ ∀ x ∈ xs, (Lit.int .i64 x).wf = true) :=
  reads_slice G.hS_int (fun _ => rfl) G.hk_int (by omega) Try.underlying25 (by kernel_rfl) fun m _ => rd_int m
/-- Values: to any depth. -/
theorem rd_Value : ∀ (n : Nat), Reads enc Try.prog w n 64 G.C_api_Value Vok := by
  intro n
  induction n using Nat.strongRecOn with
  | ind n ih =>
    refine reads_struct Try.underlying64 fun m hm cs hl hf => ?_
    obtain ⟨x0, _, r0⟩ := hf.at 0 0 1 rfl (rd_int m) rfl rfl (by kernel_rfl)
    obtain ⟨x1, _, r1⟩ := hf.at 1 1 1 rfl (rd_int64 m) rfl rfl (by kernel_rfl)
    obtain ⟨x2, _, r2⟩ := hf.at 2 2 1 rfl (rd_str m) rfl rfl (by kernel_rfl)
    have hr : Reads enc Try.prog w m 62 (fun xs => [.sl (G.S_api_Value xs)]) (fun xs => xs.length ≤ 9223372036854775807 ∧ ∀ x ∈ xs, Vok x) :=
      reads_slice G.hS_api_Value (fun _ => rfl) G.hk_api_Value (by omega) Try.underlying62 (by kernel_rfl) fun k hk => ih k (by omega)
    obtain ⟨x3, q3, r3⟩ := hf.at 3 3 1 rfl hr rfl rfl (by kernel_rfl)
    exact ⟨⟨x0, x1, x2, x3⟩, .mk _ q3.1 q3.2, rvl_cons r0 rfl (rvl_cons r1 rfl (rvl_cons r2 rfl (rvl_cons r3 rfl (rvl_nil (hl.trans (by kernel_rfl))))))⟩
theorem rd_Rule (n : Nat) : Reads enc Try.prog w n 66 G.C_api_Rule Rok := by
  refine reads_struct Try.underlying66 fun m hm cs hl hf => ?_
  obtain ⟨x0, _, r0⟩ := hf.at 0 0 1 rfl (rd_int m) rfl rfl (by kernel_rfl)
  obtain ⟨x1, _, r1⟩ := hf.at 1 1 1 rfl (rd_int m) rfl rfl (by kernel_rfl)
  obtain ⟨x2, _, r2⟩ := hf.at 2 2 1 rfl (rd_int m) rfl rfl (by kernel_rfl)
  obtain ⟨x3, q3, r3⟩ := hf.at 3 3 4 rfl (rd_Value m) rfl rfl (by kernel_rfl)
  obtain ⟨x4, _, r4⟩ := hf.at 4 7 1 rfl (rd_str m) rfl rfl (by kernel_rfl)
  obtain ⟨x5, q5, r5⟩ := hf.at 5 8 1 rfl (rd_L_int m) rfl rfl (by kernel_rfl)
  exact ⟨⟨x0, x1, x2, x3, x4, x5⟩, ⟨q3, q5.1⟩, rvl_cons r0 rfl (rvl_cons r1 rfl (rvl_cons r2 rfl (rvl_cons r3 rfl (rvl_cons r4 rfl (rvl_cons r5 rfl (rvl_nil (hl.trans (by kernel_rfl))))))))⟩
theorem rd_L_Rule (n : Nat) : Reads enc Try.prog w n 32 (fun xs => [.sl (G.S_api_Rule xs)]) (fun xs => xs.length ≤ 9223372036854775807 ∧ ∀ x ∈ xs, Rok x) :=
  reads_slice G.hS_api_Rule (fun _ => rfl) G.hk_api_Rule (by omega) Try.underlying32 (by kernel_rfl) fun m _ => rd_Rule m
theorem rd_Symbol (n : Nat) : Reads enc Try.prog w n 57 G.C_api_Symbol (fun _ => True) := by
  refine reads_struct Try.underlying57 fun m hm cs hl hf => ?_
  obtain ⟨x0, _, r0⟩ := hf.at 0 0 1 rfl (rd_str m) rfl rfl (by kernel_rfl)
  obtain ⟨x1, _, r1⟩ := hf.at 1 1 1 rfl (rd_int m) rfl rfl (by kernel_rfl)
  exact ⟨⟨x0, x1⟩, trivial, rvl_cons r0 rfl (rvl_cons r1 rfl (rvl_nil (hl.trans (by kernel_rfl))))⟩
theorem rd_L_Symbol (n : Nat) : Reads enc Try.prog w n 31 (fun xs => [.sl (G.S_api_Symbol xs)]) (fun xs => xs.length ≤ 9223372036854775807 ∧ ∀ x ∈ xs, True) :=
  reads_slice G.hS_api_Symbol (fun _ => rfl) G.hk_api_Symbol (by omega) Try.underlying31 (by kernel_rfl) fun m _ => rd_Symbol m
theorem rd_Language (n : Nat) : Reads enc Try.prog w n 34 G.C_api_Language Lok := by
  refine reads_struct Try.underlying34 fun m hm cs hl hf => ?_
  obtain ⟨x0, _, r0⟩ := hf.at 0 0 1 rfl (rd_str m) rfl rfl (by kernel_rfl)
  obtain ⟨x1, _, r1⟩ := hf.at 1 1 1 rfl (rd_L_int m) rfl rfl (by kernel_rfl)
  obtain ⟨x2, _, r2⟩ := hf.at 2 2 1 rfl (rd_L_Symbol m) rfl rfl (by kernel_rfl)
  obtain ⟨x3, q3, r3⟩ := hf.at 3 3 1 rfl (rd_L_Rule m) rfl rfl (by kernel_rfl)
  exact ⟨⟨x0, x1, x2, x3⟩, q3.2, rvl_cons r0 rfl (rvl_cons r1 rfl (rvl_cons r2 rfl (rvl_cons r3 rfl (rvl_nil (hl.trans (by kernel_rfl))))))⟩
/-- Terms: to any depth. -/
theorem rd_Term : ∀ (n : Nat), Reads enc Try.prog w n 38 G.C_api_Term (fun _ => True) := by
  intro n
  induction n using Nat.strongRecOn with
  | ind n ih =>
    refine reads_struct Try.underlying38 fun m hm cs hl hf => ?_
    obtain ⟨x0, _, r0⟩ := hf.at 0 0 1 rfl (rd_int m) rfl rfl (by kernel_rfl)
    have hr : Reads enc Try.prog w m 36 (fun xs => [.sl (G.S_api_Term xs)]) (fun xs => xs.length ≤ 9223372036854775807 ∧ ∀ x ∈ xs, True) :=
      reads_slice G.hS_api_Term (fun _ => rfl) G.hk_api_Term (by omega) Try.underlying36 (by kernel_rfl) fun k hk => ih k (by omega)
    obtain ⟨x1, _, r1⟩ := hf.at 1 1 1 rfl hr rfl rfl (by kernel_rfl)
    exact ⟨⟨x0, x1⟩, trivial, rvl_cons r0 rfl (rvl_cons r1 rfl (rvl_nil (hl.trans (by kernel_rfl))))⟩
theorem rd_Branch (n : Nat) : Reads enc Try.prog w n 54 G.C_api_Branch (fun _ => True) := by
  refine reads_struct Try.underlying54 fun m hm cs hl hf => ?_
  obtain ⟨x0, _, r0⟩ := hf.at 0 0 2 rfl (rd_Term m) rfl rfl (by kernel_rfl)
  obtain ⟨x1, _, r1⟩ := hf.at 1 2 2 rfl (rd_Term m) rfl rfl (by kernel_rfl)
  exact ⟨⟨x0, x1⟩, trivial, rvl_cons r0 rfl (rvl_cons r1 rfl (rvl_nil (hl.trans (by kernel_rfl))))⟩
theorem rd_L_Branch (n : Nat) : Reads enc Try.prog w n 35 (fun xs => [.sl (G.S_api_Branch xs)]) (fun xs => xs.length ≤ 9223372036854775807 ∧ ∀ x ∈ xs, True) :=
  reads_slice G.hS_api_Branch (fun _ => rfl) G.hk_api_Branch (by omega) Try.underlying35 (by kernel_rfl) fun m _ => rd_Branch m
theorem rd_Decisions (n : Nat) : Reads enc Try.prog w n 40 G.C_api_Decisions (fun _ => True) := by
  refine reads_struct Try.underlying40 fun m hm cs hl hf => ?_
  obtain ⟨x0, _, r0⟩ := hf.at 0 0 1 rfl (rd_L_Branch m) rfl rfl (by kernel_rfl)
  obtain ⟨x1, _, r1⟩ := hf.at 1 1 2 rfl (rd_Term m) rfl rfl (by kernel_rfl)
  exact ⟨⟨x0, x1⟩, trivial, rvl_cons r0 rfl (rvl_cons r1 rfl (rvl_nil (hl.trans (by kernel_rfl))))⟩
end

set_option maxRecDepth 100000 in
theorem branchChecks_lifted (os : Os) (started : os.Started) (H : Type) (enc : TypeId × Value → H) :
    ReturnsInHanded {} Try.checked os 5 .any (Rows.branchChecksSpec.pre6 enc Try.prog Try.f5 Rows.branchChecksRow.domain false) (Rows.branchChecksSpec.post enc Try.prog Try.f5 false true false false) := by
  refine returnsInHanded_of_change (C := Try.checked) Try.own started (by kernel_rfl) Try.func5
    (ChangeSpec.witness6 (enc := enc) (C := Try.checked) false ⟨#[], #[.agg #[.string ⟨#[]⟩, .slice none 0 0, .slice none 0 0, .slice none 0 0], .int .i64 0, .agg #[.slice none 0 0, .int .i64 0, .slice none 0 0]], []⟩ 8 (by kernel_rfl) (by kernel_rfl) (by kernel_rfl) (by kernel_rfl)) ?_
  intro W base args ds gs before hval0 hW hcnd _
  have hval : ∀ (j : Nat) t v, Try.f5.params[j]? = some t → args[j]? = some v → Value.okWide Try.prog W .any base t v := hval0
  obtain ⟨p, q, hA0, hV, _, _, _⟩ := id hW
  have hA : DataW.TrodAll enc Try.prog W 0 (fun _ => true) true Try.f5.params.toList args.toList ds p := hA0
  obtain ⟨rfl, _⟩ := trodVars_none hV
  rw [Try.params5] at hA hval
  obtain ⟨v0, v1, v2, d0, d1, d2, p0, p1, p2, rfl, rfl, _, h0, h1, h2⟩ := trodAll_three hA
  obtain ⟨l, hl, r0⟩ := arg_struct rd_Language Try.underlying34 (hval 0 34 v0 rfl rfl) h0
  obtain ⟨n, hn, r1⟩ := arg_int (d := fun i => .int .i64 i) (fun _ => rfl) rd_int Try.underlying3 (hval 1 3 v1 rfl rfl) h1
  obtain ⟨d, hd, r2⟩ := arg_struct rd_Decisions Try.underlying40 (hval 2 40 v2 rfl rfl) h2
  exact row_calls (ar := [.agg (G.C_api_Language l), .int .i64 n, .agg (G.C_api_Decisions d)]) Try.laidOut rfl (by kernel_rfl) (by kernel_rfl) (by kernel_rfl) Try.underlying4 hW rfl rfl rfl
    (c_synthesislaw33_BranchChecks l n d true (branchChecks_w l hl n d).eval) ⟨r0, r1, r2, trivial⟩

theorem branchChecks_holds : Rows.BranchChecksSaid :=
  OpenClaim.holds_of_wide 5 Try.f5 rfl rfl rfl rfl rfl rfl rfl ⟨rfl, rfl, rfl, rfl, rfl⟩ rfl rfl rfl rfl rfl (by kernel_rfl) Try.func5 (by kernel_rfl)
    (of_decide_eq_true (by kernel_rfl)) (by unfold Func.isWrapper; first | (rw [if_pos (by decide +kernel)]; kernel_rfl) | (rw [if_neg (by decide +kernel)]; exact ⟨rfl, rfl⟩))
    (fun os started H enc _ => branchChecks_lifted os started H enc)
#print axioms branchChecks_holds
end Go.Proofs.Ytikgppgpailmcaa
