/-
  The rows BranchCovers and BranchNeeds: whatever the input, they give true, and the input reads as it did.
  Conditions: none.
-/
import Derived.Test.YtikgppgpailmcaaCovR
import Derived.Test.YtikgppgpailmcaaAlRow
namespace Go.Proofs.Ytikgppgpailmcaa
open Go.ChangeShapes Go.WideShapes Go.ChangeAt Go.RowKit Go.AL

theorem Try.own : ownKnob Try.prog.godebug = none := by kernel_rfl
theorem Try.laidOut : laidOutB Try.prog = true := by kernel_rfl

section
variable {H : Type} {enc : TypeId × Value → H} {w : World}
theorem rd_bool (n : Nat) : Reads enc Try.prog w n 4 G.C_bool (fun _ => True) := reads_bool (fun _ => rfl) Try.underlying4
theorem rd_int (n : Nat) : Reads enc Try.prog w n 3 G.C_int (fun i => (Lit.int .i64 i).wf = true) := reads_int (fun _ => rfl) Try.underlying3
theorem rd_L_bool (n : Nat) : Reads enc Try.prog w n 30 G.C_L_bool (fun xs => xs.length ≤ 9223372036854775807 ∧ ∀ x ∈ xs, True) :=
  reads_slice G.hS_bool (fun _ => rfl) G.hk_bool (by omega) Try.underlying30 (by kernel_rfl) fun m _ => rd_bool m
theorem rd_LL_bool (n : Nat) : Reads enc Try.prog w n 22 (fun xs => [.sl (G.S_L_bool xs)]) (fun xs => xs.length ≤ 9223372036854775807 ∧ ∀ x ∈ xs, x.length ≤ 9223372036854775807 ∧ ∀ y ∈ x, True) :=
  reads_slice G.hS_L_bool (fun _ => rfl) G.hk_L_bool (by omega) Try.underlying22 (by kernel_rfl) fun m _ => rd_L_bool m
end

set_option maxRecDepth 100000 in
theorem branchCovers_lifted (os : Os) (started : os.Started) (H : Type) (enc : TypeId × Value → H) :
    ReturnsInHanded {} Try.checked os 3 .any (Rows.branchCoversSpec.pre6 enc Try.prog Try.f3 Rows.branchCoversRow.domain false) (Rows.branchCoversSpec.post enc Try.prog Try.f3 false true false false) := by
  refine returnsInHanded_of_change (C := Try.checked) Try.own started (by kernel_rfl) Try.func3
    (ChangeSpec.witness6 (enc := enc) (C := Try.checked) false ⟨#[], #[.slice none 0 0, .int .i64 0], []⟩ 8 (by kernel_rfl) (by kernel_rfl) (by kernel_rfl) (by kernel_rfl)) ?_
  intro W base args ds gs before hval0 hW hcnd _
  have hval : ∀ (j : Nat) t v, Try.f3.params[j]? = some t → args[j]? = some v → Value.okWide Try.prog W .any base t v := hval0
  obtain ⟨p, q, hA0, hV, _, _, _⟩ := id hW
  have hA : DataW.TrodAll enc Try.prog W 0 (fun _ => true) true Try.f3.params.toList args.toList ds p := hA0
  obtain ⟨rfl, _⟩ := trodVars_none hV
  rw [Try.params3] at hA hval
  obtain ⟨v0, v1, d0, d1, p0, p1, rfl, rfl, _, h0, h1⟩ := trodAll_two hA
  obtain ⟨l, hl, r0⟩ := arg_slice (d := fun xs => .sl (G.S_L_bool xs)) (fun _ => rfl) rd_LL_bool Try.underlying22 (hval 0 22 v0 rfl rfl) h0
  obtain ⟨n, hn, r1⟩ := arg_int (d := fun i => .int .i64 i) (fun _ => rfl) rd_int Try.underlying3 (hval 1 3 v1 rfl rfl) h1
  exact row_calls (ar := [.sl (G.S_L_bool l), .int .i64 n]) Try.laidOut rfl (by kernel_rfl) (by kernel_rfl) (by kernel_rfl) Try.underlying4 hW rfl rfl rfl
    (c_synthesislaw33_BranchCovers l n true (branchCovers_w l n).eval) ⟨r0, r1, trivial⟩

theorem branchCovers_holds : Rows.BranchCoversSaid :=
  OpenClaim.holds_of_wide 3 Try.f3 rfl rfl rfl rfl rfl rfl rfl ⟨rfl, rfl, rfl, rfl, rfl⟩ rfl rfl rfl rfl rfl (by kernel_rfl) Try.func3 (by kernel_rfl)
    (of_decide_eq_true (by kernel_rfl)) (by unfold Func.isWrapper; first | (rw [if_pos (by decide +kernel)]; kernel_rfl) | (rw [if_neg (by decide +kernel)]; exact ⟨rfl, rfl⟩))
    (fun os started H enc _ => branchCovers_lifted os started H enc)

set_option maxRecDepth 100000 in
theorem branchNeeds_lifted (os : Os) (started : os.Started) (H : Type) (enc : TypeId × Value → H) :
    ReturnsInHanded {} Try.checked os 4 .any (Rows.branchNeedsSpec.pre6 enc Try.prog Try.f4 Rows.branchNeedsRow.domain false) (Rows.branchNeedsSpec.post enc Try.prog Try.f4 false true false false) := by
  refine returnsInHanded_of_change (C := Try.checked) Try.own started (by kernel_rfl) Try.func4
    (ChangeSpec.witness6 (enc := enc) (C := Try.checked) false ⟨#[], #[.slice none 0 0, .int .i64 0], []⟩ 8 (by kernel_rfl) (by kernel_rfl) (by kernel_rfl) (by kernel_rfl)) ?_
  intro W base args ds gs before hval0 hW hcnd _
  have hval : ∀ (j : Nat) t v, Try.f4.params[j]? = some t → args[j]? = some v → Value.okWide Try.prog W .any base t v := hval0
  obtain ⟨p, q, hA0, hV, _, _, _⟩ := id hW
  have hA : DataW.TrodAll enc Try.prog W 0 (fun _ => true) true Try.f4.params.toList args.toList ds p := hA0
  obtain ⟨rfl, _⟩ := trodVars_none hV
  rw [Try.params4] at hA hval
  obtain ⟨v0, v1, d0, d1, p0, p1, rfl, rfl, _, h0, h1⟩ := trodAll_two hA
  obtain ⟨l, hl, r0⟩ := arg_slice (d := fun xs => .sl (G.S_L_bool xs)) (fun _ => rfl) rd_LL_bool Try.underlying22 (hval 0 22 v0 rfl rfl) h0
  obtain ⟨n, hn, r1⟩ := arg_int (d := fun i => .int .i64 i) (fun _ => rfl) rd_int Try.underlying3 (hval 1 3 v1 rfl rfl) h1
  exact row_calls (ar := [.sl (G.S_L_bool l), .int .i64 n]) Try.laidOut rfl (by kernel_rfl) (by kernel_rfl) (by kernel_rfl) Try.underlying4 hW rfl rfl rfl
    (c_synthesislaw33_BranchNeeds l n true (branchNeeds_w l n).eval) ⟨r0, r1, trivial⟩

theorem branchNeeds_holds : Rows.BranchNeedsSaid :=
  OpenClaim.holds_of_wide 4 Try.f4 rfl rfl rfl rfl rfl rfl rfl ⟨rfl, rfl, rfl, rfl, rfl⟩ rfl rfl rfl rfl rfl (by kernel_rfl) Try.func4 (by kernel_rfl)
    (of_decide_eq_true (by kernel_rfl)) (by unfold Func.isWrapper; first | (rw [if_pos (by decide +kernel)]; kernel_rfl) | (rw [if_neg (by decide +kernel)]; exact ⟨rfl, rfl⟩))
    (fun os started H enc _ => branchNeeds_lifted os started H enc)
#print axioms branchCovers_holds
#print axioms branchNeeds_holds
end Go.Proofs.Ytikgppgpailmcaa
