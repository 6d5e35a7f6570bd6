/-
  The functions' programs in plain values, and their contracts.
-/
import Derived.Test.YtikgppgpailmcaaTab
import Derived.Test.YtikgppgpailmcaaGty
import Derived.Lib.Strings
import Derived.Lib.Slices
import Derived.Lib.Walk
import Derived.Lib.Bytealg
namespace Go.Proofs.Ytikgppgpailmcaa
open Go.AL
abbrev tt := ttOf Try.rows
noncomputable def p_synthesislaw33_sets (l : List (List Bool)) (n : Int) : Prog (Bool) :=
    .inner (.inner (.join (σ := Bool) [0, 1] (fun st_1 => ([(18, .bool st_1)], []))
    (.split 9 (decide (((G.S_L_bool l).length : Int) > 70))
    (.ret (.inl (true)))
    (.split 13 (decide (((G.S_L_bool l).length : Int) > 12))
    (.ret (.inl (decide (((G.S_L_bool l).length : Int) ≤ 64))))
    (.ret (.inl (false)))))
    fun st_1 =>
    .split 18 (st_1)
    (.ret false)
    (.join (σ := Unit) [1] (fun _ => ([], []))
    (.rng (σ := Unit) 0 22 ((G.S_L_bool l).length) [0, 1] (fun i _ => ([(5, .int .i64 i)], [])) () (fun i_5 _ =>
    .op (.idx 1 (.sl (G.S_L_bool l)) (i_5 : Int)) ((l)[i_5]?) (fun (x_7 : List Bool) => .iptr (G.C_L_bool x_7)) fun x_7 =>
    .split 30 (decide (((G.S_bool x_7).length : Int) > 20))
    (.ret (.inr (.inr (false))))
    (.ret (.inl ()))) fun _ => .inl ())
    fun _ =>
    .join (σ := Bool) [] (fun st_9 => ([(4, .bool st_9)], []))
    (.split 33 (decide (n ≤ 6))
    (.ret (.inl (true)))
    (.ret (.inl (decide (n > 16)))))
    fun st_9 =>
    .ret st_9)))
noncomputable def f_synthesislaw33_sets (l : List (List Bool)) (n : Int) : Option (Bool) := (p_synthesislaw33_sets l n).eval
theorem c_synthesislaw33_sets (l : List (List Bool)) (n : Int) (res_ : Bool) (h : f_synthesislaw33_sets l n = some res_) : (Ky.call 6 [.sl (G.S_L_bool l), .int .i64 n]).ok Try.prog (.bool res_) :=
  Ky.of_check (tt := tt) (enc := fun (r : Bool) => .bool r) (muts := []) (app := []) Try.tabOk Try.mixed Try.func6 (by kernel_rfl) rfl rfl Try.ntmps6 (by kernel_rfl) (fun _ _ _ h => (by cases h)) (p := p_synthesislaw33_sets l n) (
    ok_inner (ok_inner (ok_join (ok_split (fun b_3 =>
    ok_ret) (fun b_3 =>
    ok_split (fun b_2 =>
    ok_ret) (fun b_2 =>
    ok_ret))) fun st_1 =>
    ok_split (fun b_11 =>
    ok_ret) (fun b_11 =>
    ok_join (ok_rng fun i_5 st_6 _ =>
    ok_op (fun _ h => ixn G.hS_L_bool G.hk_L_bool h) fun x_7 hx_7 =>
    ok_split (fun b_8 =>
    ok_ret) (fun b_8 =>
    ok_ret)) fun st_4 =>
    ok_join (ok_split (fun b_10 =>
    ok_ret) (fun b_10 =>
    ok_ret)) fun st_9 =>
    ok_ret)))) h

noncomputable def p_branch_add (n : Int) : Prog (Int) :=
    .split 4 (n == 255)
    (.ret 255)
    (.ret (IntKind.wrap .u8 (n + 1)))
noncomputable def f_branch_add (n : Int) : Option (Int) := (p_branch_add n).eval
theorem c_branch_add (n : Int) (res_ : Int) (h : f_branch_add n = some res_) : (Ky.call 17 [.int .u8 n]).ok Try.prog (.int .u8 res_) :=
  Ky.of_check (tt := tt) (enc := fun (r : Int) => .int .u8 r) (muts := []) (app := []) Try.tabOk Try.mixed Try.func17 (by kernel_rfl) rfl rfl Try.ntmps17 (by kernel_rfl) (fun _ _ _ h => (by cases h)) (p := p_branch_add n) (
    ok_split (fun b_1 =>
    ok_ret) (fun b_1 =>
    ok_ret)) h

noncomputable def p_branch_Cover (a0 : List (List Bool)) (a1 : Int) : Prog ((List Int) × Int) :=
    .inner (.inner (.join (σ := Bool) [0, 1] (fun st_1 => ([(26, .bool st_1)], []))
    (.split 23 (decide (a1 < 0))
    (.ret (.inl (true)))
    (.ret (.inl (decide (a1 > 16)))))
    fun st_1 =>
    .split 26 (st_1)
    (.ret ([], 1))
    (.split 29 (decide (((G.S_L_bool a0).length : Int) > 64))
    (.ret ([], 2))
    (.mem (.mkS 1 8 (G.C_int 0) ((G.S_L_bool a0).length : Int) ((G.S_L_bool a0).length : Int)) (mkM 8 ((G.S_L_bool a0).length : Int) ((G.S_L_bool a0).length : Int) 0) (fun (l_3 : List Int) => .arr (G.S_int l_3).flatten) fun l_3 =>
    .join (σ := (List Int)) [0, 1, 6] (fun st_4 => ([], [.arr (G.S_int st_4).flatten]))
    (.rng (σ := (List Int)) 0 36 ((G.S_L_bool a0).length) [0, 1, 6, 33, 34] (fun i st_6 => ([(35, .int .i64 i)], [.arr (G.S_int st_6).flatten])) (l_3) (fun i_5 st_6 =>
    .join (σ := (List Int)) [0, 1, 6, 33, 34, 35] (fun st_7 => ([], [.arr (G.S_int st_7).flatten]))
    (.op (.idx 1 (.sl (G.S_L_bool a0)) (i_5 : Int)) ((a0)[i_5]?) (fun (x_8 : List Bool) => .iptr (G.C_L_bool x_8)) fun x_8 =>
    .split 43 (((G.S_bool x_8).length : Int) != a1)
    (.ret (.inr (.inr (.inr (([], 2))))))
    (.rng (σ := (List Int)) 44 47 ((G.S_bool x_8).length) [0, 1, 6, 7, 33, 34, 35, 44, 45] (fun i st_10 => ([(46, .int .i64 i)], [.arr (G.S_int st_10).flatten])) (st_6) (fun i_9 st_10 =>
    .join (σ := (List Int)) [0, 1, 6, 7, 33, 34, 35, 44, 45, 46] (fun st_11 => ([], [.arr (G.S_int st_11).flatten]))
    (.op (.idx 1 (.sl (G.S_bool x_8)) (i_9 : Int)) ((x_8)[i_9]?) (fun (x_12 : Bool) => .iptr (G.C_bool x_12)) fun x_12 =>
    .split 51 (x_12)
    (.op (.idx 1 (.msl 0 0 (Int.toNat ((G.S_L_bool a0).length : Int))) (i_5 : Int)) (inM (i_5 : Int) (Int.toNat ((G.S_L_bool a0).length : Int))) (fun (_ : Unit) => .eref 0 (0 + Int.toNat (i_5 : Int) * 1)) fun u_13 =>
    .op (.ld false 1 (G.S_int st_10).flatten (0 + Int.toNat (i_5 : Int) * 1)) (at_ st_10 (i_5 : Int)) (fun (x_14 : Int) => .int .i64 x_14) fun x_14 =>
    .op (.bin .shl (.int .i64 1) (.int .i64 (i_9 : Int))) (shlM .i64 1 (i_9 : Int)) (fun (r_15 : Int) => .int .i64 r_15) fun r_15 =>
    .op (.idx 1 (.msl 0 0 (Int.toNat ((G.S_L_bool a0).length : Int))) (i_5 : Int)) (inM (i_5 : Int) (Int.toNat ((G.S_L_bool a0).length : Int))) (fun (_ : Unit) => .eref 0 (0 + Int.toNat (i_5 : Int) * 1)) fun u_16 =>
    .mem (.set false 1 (G.S_int st_10).flatten [.int .i64 (intBits .or .i64 x_14 r_15)] (0 + Int.toNat (i_5 : Int) * 1)) (setM st_10 (i_5 : Int) (intBits .or .i64 x_14 r_15)) (fun (l_17 : List Int) => .arr (G.S_int l_17).flatten) fun l_17 =>
    .ret (.inl (l_17)))
    (.ret (.inl (st_10))))
    fun st_11 =>
    .ret (.inl (st_11))) fun st_10 => .inl (st_10)))
    fun st_7 =>
    .ret (.inl (st_7))) fun st_6 => .inl (st_6))
    fun st_4 =>
    .mem (.mkS 1 24 (G.C_L_u8 []) (IntKind.wrap .i64 (((G.S_L_bool a0).length : Int) + 1)) (IntKind.wrap .i64 (((G.S_L_bool a0).length : Int) + 1))) (mkM 24 (IntKind.wrap .i64 (((G.S_L_bool a0).length : Int) + 1)) (IntKind.wrap .i64 (((G.S_L_bool a0).length : Int) + 1)) []) (fun (l_20 : List (List Int)) => .arr (G.S_L_u8 l_20).flatten) fun l_20 =>
    .op (.bin .shl (.int .i64 1) (.int .i64 a1)) (shlM .i64 1 a1) (fun (r_21 : Int) => .int .i64 r_21) fun r_21 =>
    .mem (.mkS 1 1 (G.C_u8 0) r_21 r_21) (mkM 1 r_21 r_21 0) (fun (l_22 : List Int) => .arr (G.S_u8 l_22).flatten) fun l_22 =>
    .join (σ := (List Int)) [0, 1, 6, 11, 12] (fun st_23 => ([], [.arr (G.S_int st_4).flatten, .arr (G.S_L_u8 l_20).flatten, .arr (G.S_u8 st_23).flatten]))
    (.op (.slc false 1 (.msl 2 0 (Int.toNat r_21)) (bd none) (bd (some (IntKind.wrap .i64 (((Int.toNat r_21) : Int) - 1)))) none) (mslM (Int.toNat r_21) none (some (IntKind.wrap .i64 (((Int.toNat r_21) : Int) - 1)))) (fun (p_24 : Nat × Nat) => .msl 2 (0 + p_24.1 * 1) (p_24.2 - p_24.1 : Nat)) fun p_24 =>
    .loop (σ := Int × (List Int)) (ρ := Int × (List Int)) [0, 1, 6, 11, 12, 74] (fun st_25 => ([(75, .int .i64 st_25.1)], [.arr (G.S_int st_4).flatten, .arr (G.S_L_u8 l_20).flatten, .arr (G.S_u8 st_25.2).flatten])) (0, l_22) (fun _ y => y) fun st_25 =>
    .split 76 (decide (st_25.1 < ((p_24.2 - p_24.1 : Nat) : Int)))
    (.op (.idx 1 (.msl 2 0 (Int.toNat r_21)) st_25.1) (inM st_25.1 (Int.toNat r_21)) (fun (_ : Unit) => .eref 2 (0 + Int.toNat st_25.1 * 1)) fun u_26 =>
    .mem (.set false 1 (G.S_u8 st_25.2).flatten [.int .u8 255] (0 + Int.toNat st_25.1 * 1)) (setM st_25.2 st_25.1 255) (fun (l_27 : List Int) => .arr (G.S_u8 l_27).flatten) fun l_27 =>
    .ret (.inl (IntKind.wrap .i64 (st_25.1 + 1), l_27)))
    (.ret (.inr (.inl (st_25.2)))))
    fun st_23 =>
    .inner (.fix 2 12 (Int.toNat r_21) 1 (G.S_u8 st_23) (
    .op (.idx 1 (.msl 1 0 (Int.toNat (IntKind.wrap .i64 (((G.S_L_bool a0).length : Int) + 1)))) ((G.S_L_bool a0).length : Int)) (inM ((G.S_L_bool a0).length : Int) (Int.toNat (IntKind.wrap .i64 (((G.S_L_bool a0).length : Int) + 1)))) (fun (_ : Unit) => .eref 1 (0 + Int.toNat ((G.S_L_bool a0).length : Int) * 1)) fun u_30 =>
    .mem (.set false 1 (G.S_L_u8 l_20).flatten [.sl (G.S_u8 st_23)] (0 + Int.toNat ((G.S_L_bool a0).length : Int) * 1)) (setM l_20 ((G.S_L_bool a0).length : Int) st_23) (fun (l_31 : List (List Int)) => .arr (G.S_L_u8 l_31).flatten) fun l_31 =>
    .join (σ := (List (List Int))) [0, 6, 11] (fun st_32 => ([], [.arr (G.S_int st_4).flatten, .arr (G.S_L_u8 st_32).flatten]))
    (.loop (σ := Int × (List (List Int))) (ρ := Int × (List (List Int))) [0, 1, 6, 11] (fun st_33 => ([(14, .int .i64 st_33.1)], [.arr (G.S_int st_4).flatten, .arr (G.S_L_u8 st_33.2).flatten])) (IntKind.wrap .i64 (((G.S_L_bool a0).length : Int) - 1), l_31) (fun _ y => y) fun st_33 =>
    .split 91 (decide (st_33.1 ≥ 0))
    (.join (σ := (List (List Int))) [0, 1, 6, 11, 14] (fun st_34 => ([], [.arr (G.S_int st_4).flatten, .arr (G.S_L_u8 st_34).flatten]))
    (.op (.bin .shl (.int .i64 1) (.int .i64 a1)) (shlM .i64 1 a1) (fun (r_35 : Int) => .int .i64 r_35) fun r_35 =>
    .mem (.mkS 1 1 (G.C_u8 0) r_35 r_35) (mkM 1 r_35 r_35 0) (fun (l_36 : List Int) => .arr (G.S_u8 l_36).flatten) fun l_36 =>
    .join (σ := (List Int)) [0, 1, 6, 11, 14, 15] (fun st_37 => ([], [.arr (G.S_int st_4).flatten, .arr (G.S_L_u8 st_33.2).flatten, .arr (G.S_u8 st_37).flatten]))
    (.rng (σ := (List Int)) 15 100 ((Int.toNat r_35)) [0, 1, 6, 11, 14, 15, 98] (fun i st_39 => ([(99, .int .i64 i)], [.arr (G.S_int st_4).flatten, .arr (G.S_L_u8 st_33.2).flatten, .arr (G.S_u8 st_39).flatten])) (l_36) (fun i_38 st_39 =>
    .op (.idx 1 (.msl 1 0 (Int.toNat (IntKind.wrap .i64 (((G.S_L_bool a0).length : Int) + 1)))) (IntKind.wrap .i64 (st_33.1 + 1))) (inM (IntKind.wrap .i64 (st_33.1 + 1)) (Int.toNat (IntKind.wrap .i64 (((G.S_L_bool a0).length : Int) + 1)))) (fun (_ : Unit) => .eref 1 (0 + Int.toNat (IntKind.wrap .i64 (st_33.1 + 1)) * 1)) fun u_40 =>
    .op (.ld false 1 (G.S_L_u8 st_33.2).flatten (0 + Int.toNat (IntKind.wrap .i64 (st_33.1 + 1)) * 1)) (at_ st_33.2 (IntKind.wrap .i64 (st_33.1 + 1))) (fun (x_41 : List Int) => .sl (G.S_u8 x_41)) fun x_41 =>
    .op (.idx 1 (.sl (G.S_u8 x_41)) (i_38 : Int)) ((x_41)[i_38]?) (fun (x_42 : Int) => .iptr (G.C_u8 x_42)) fun x_42 =>
    .op (.idx 1 (.msl 1 0 (Int.toNat (IntKind.wrap .i64 (((G.S_L_bool a0).length : Int) + 1)))) (IntKind.wrap .i64 (st_33.1 + 1))) (inM (IntKind.wrap .i64 (st_33.1 + 1)) (Int.toNat (IntKind.wrap .i64 (((G.S_L_bool a0).length : Int) + 1)))) (fun (_ : Unit) => .eref 1 (0 + Int.toNat (IntKind.wrap .i64 (st_33.1 + 1)) * 1)) fun u_43 =>
    .op (.ld false 1 (G.S_L_u8 st_33.2).flatten (0 + Int.toNat (IntKind.wrap .i64 (st_33.1 + 1)) * 1)) (at_ st_33.2 (IntKind.wrap .i64 (st_33.1 + 1))) (fun (x_44 : List Int) => .sl (G.S_u8 x_44)) fun x_44 =>
    .op (.idx 1 (.msl 0 0 (Int.toNat ((G.S_L_bool a0).length : Int))) st_33.1) (inM st_33.1 (Int.toNat ((G.S_L_bool a0).length : Int))) (fun (_ : Unit) => .eref 0 (0 + Int.toNat st_33.1 * 1)) fun u_45 =>
    .op (.ld false 1 (G.S_int st_4).flatten (0 + Int.toNat st_33.1 * 1)) (at_ st_4 st_33.1) (fun (x_46 : Int) => .int .i64 x_46) fun x_46 =>
    .op (.idx 1 (.sl (G.S_u8 x_44)) (intBits .or .i64 (i_38 : Int) x_46)) (at_ x_44 (intBits .or .i64 (i_38 : Int) x_46)) (fun (x_47 : Int) => .iptr (G.C_u8 x_47)) fun x_47 =>
    .op (.call 17 [.int .u8 x_47]) (f_branch_add x_47) (fun (r_48 : Int) => .int .u8 r_48) fun r_48 =>
    .op (.idx 1 (.msl 2 0 (Int.toNat r_35)) (i_38 : Int)) (inM (i_38 : Int) (Int.toNat r_35)) (fun (_ : Unit) => .eref 2 (0 + Int.toNat (i_38 : Int) * 1)) fun u_49 =>
    .mem (.set false 1 (G.S_u8 st_39).flatten [.int .u8 (if r_48 < x_42 then r_48 else x_42)] (0 + Int.toNat (i_38 : Int) * 1)) (setM st_39 (i_38 : Int) (if r_48 < x_42 then r_48 else x_42)) (fun (l_50 : List Int) => .arr (G.S_u8 l_50).flatten) fun l_50 =>
    .ret (.inl (l_50))) fun st_39 => .inl (st_39))
    fun st_37 =>
    .fix 2 15 (Int.toNat r_35) 1 (G.S_u8 st_37) (
    .op (.idx 1 (.msl 1 0 (Int.toNat (IntKind.wrap .i64 (((G.S_L_bool a0).length : Int) + 1)))) st_33.1) (inM st_33.1 (Int.toNat (IntKind.wrap .i64 (((G.S_L_bool a0).length : Int) + 1)))) (fun (_ : Unit) => .eref 1 (0 + Int.toNat st_33.1 * 1)) fun u_52 =>
    .mem (.set false 1 (G.S_L_u8 st_33.2).flatten [.sl (G.S_u8 st_37)] (0 + Int.toNat st_33.1 * 1)) (setM st_33.2 st_33.1 st_37) (fun (l_53 : List (List Int)) => .arr (G.S_L_u8 l_53).flatten) fun l_53 =>
    .ret (.inl (l_53))))
    fun st_34 =>
    .ret (.inl (IntKind.wrap .i64 (st_33.1 - 1), st_34)))
    (.ret (.inr (.inl (st_33.2)))))
    fun st_32 =>
    .op (.idx 1 (.msl 1 0 (Int.toNat (IntKind.wrap .i64 (((G.S_L_bool a0).length : Int) + 1)))) 0) (inM 0 (Int.toNat (IntKind.wrap .i64 (((G.S_L_bool a0).length : Int) + 1)))) (fun (_ : Unit) => .eref 1 (0 + Int.toNat 0 * 1)) fun u_55 =>
    .op (.ld false 1 (G.S_L_u8 st_32).flatten (0 + Int.toNat 0 * 1)) (at_ st_32 0) (fun (x_56 : List Int) => .sl (G.S_u8 x_56)) fun x_56 =>
    .op (.idx 1 (.sl (G.S_u8 x_56)) 0) (at_ x_56 0) (fun (x_57 : Int) => .iptr (G.C_u8 x_57)) fun x_57 =>
    .split 138 (x_57 == 255)
    (.ret ([], 7))
    (.inner (.inner (.join (σ := (List Int)) [] (fun st_58 => ([(17, .osl 1 (G.S_int st_58))], []))
    (.loop (σ := (List Int) × Int × Int) (ρ := (List Int) × Int × Int) [6, 11, 140] (fun st_59 => ([(17, .osl 1 (G.S_int st_59.1)), (18, .int .i64 st_59.2.1), (141, .int .i64 st_59.2.2)], [.arr (G.S_int st_4).flatten, .arr (G.S_L_u8 st_32).flatten])) ([], 0, 0) (fun _ y => y) fun st_59 =>
    .split 142 (decide (st_59.2.2 < ((G.S_L_bool a0).length : Int)))
    (.join (σ := (List Int) × Int) [6, 11, 140, 141] (fun st_60 => ([(17, .osl 1 (G.S_int st_60.1)), (18, .int .i64 st_60.2)], [.arr (G.S_int st_4).flatten, .arr (G.S_L_u8 st_32).flatten]))
    (.op (.idx 1 (.msl 1 0 (Int.toNat (IntKind.wrap .i64 (((G.S_L_bool a0).length : Int) + 1)))) st_59.2.2) (inM st_59.2.2 (Int.toNat (IntKind.wrap .i64 (((G.S_L_bool a0).length : Int) + 1)))) (fun (_ : Unit) => .eref 1 (0 + Int.toNat st_59.2.2 * 1)) fun u_61 =>
    .op (.ld false 1 (G.S_L_u8 st_32).flatten (0 + Int.toNat st_59.2.2 * 1)) (at_ st_32 st_59.2.2) (fun (x_62 : List Int) => .sl (G.S_u8 x_62)) fun x_62 =>
    .op (.idx 1 (.sl (G.S_u8 x_62)) st_59.2.1) (at_ x_62 st_59.2.1) (fun (x_63 : Int) => .iptr (G.C_u8 x_63)) fun x_63 =>
    .join (σ := Bool) [6, 11, 17, 18, 19, 140, 141] (fun st_64 => ([(170, .bool st_64)], [.arr (G.S_int st_4).flatten, .arr (G.S_L_u8 st_32).flatten]))
    (.split 153 (decide (x_63 > 0))
    (.op (.idx 1 (.msl 1 0 (Int.toNat (IntKind.wrap .i64 (((G.S_L_bool a0).length : Int) + 1)))) (IntKind.wrap .i64 (st_59.2.2 + 1))) (inM (IntKind.wrap .i64 (st_59.2.2 + 1)) (Int.toNat (IntKind.wrap .i64 (((G.S_L_bool a0).length : Int) + 1)))) (fun (_ : Unit) => .eref 1 (0 + Int.toNat (IntKind.wrap .i64 (st_59.2.2 + 1)) * 1)) fun u_65 =>
    .op (.ld false 1 (G.S_L_u8 st_32).flatten (0 + Int.toNat (IntKind.wrap .i64 (st_59.2.2 + 1)) * 1)) (at_ st_32 (IntKind.wrap .i64 (st_59.2.2 + 1))) (fun (x_66 : List Int) => .sl (G.S_u8 x_66)) fun x_66 =>
    .op (.idx 1 (.msl 0 0 (Int.toNat ((G.S_L_bool a0).length : Int))) st_59.2.2) (inM st_59.2.2 (Int.toNat ((G.S_L_bool a0).length : Int))) (fun (_ : Unit) => .eref 0 (0 + Int.toNat st_59.2.2 * 1)) fun u_67 =>
    .op (.ld false 1 (G.S_int st_4).flatten (0 + Int.toNat st_59.2.2 * 1)) (at_ st_4 st_59.2.2) (fun (x_68 : Int) => .int .i64 x_68) fun x_68 =>
    .op (.idx 1 (.sl (G.S_u8 x_66)) (intBits .or .i64 st_59.2.1 x_68)) (at_ x_66 (intBits .or .i64 st_59.2.1 x_68)) (fun (x_69 : Int) => .iptr (G.C_u8 x_69)) fun x_69 =>
    .op (.call 17 [.int .u8 x_69]) (f_branch_add x_69) (fun (r_70 : Int) => .int .u8 r_70) fun r_70 =>
    .ret (.inl (r_70 == x_63)))
    (.ret (.inl (false))))
    fun st_64 =>
    .split 170 (st_64)
    (.op (.app 1 8 (G.S_int st_59.1) (G.S_int [st_59.2.2])) (appM 8 st_59.1 [st_59.2.2]) (fun (l_72 : List Int) => .osl 1 (G.S_int l_72)) fun l_72 =>
    .op (.idx 1 (.msl 0 0 (Int.toNat ((G.S_L_bool a0).length : Int))) st_59.2.2) (inM st_59.2.2 (Int.toNat ((G.S_L_bool a0).length : Int))) (fun (_ : Unit) => .eref 0 (0 + Int.toNat st_59.2.2 * 1)) fun u_73 =>
    .op (.ld false 1 (G.S_int st_4).flatten (0 + Int.toNat st_59.2.2 * 1)) (at_ st_4 st_59.2.2) (fun (x_74 : Int) => .int .i64 x_74) fun x_74 =>
    .ret (.inl (l_72, intBits .or .i64 st_59.2.1 x_74)))
    (.ret (.inl (st_59.1, st_59.2.1))))
    fun st_60 =>
    .ret (.inl (st_60.1, st_60.2, IntKind.wrap .i64 (st_59.2.2 + 1))))
    (.ret (.inr (.inl (st_59.1)))))
    fun st_58 =>
    .ret (st_58, 0))))))))))
noncomputable def f_branch_Cover (a0 : List (List Bool)) (a1 : Int) : Option ((List Int) × Int) := (p_branch_Cover a0 a1).eval
theorem c_branch_Cover (a0 : List (List Bool)) (a1 : Int) (res_ : (List Int) × Int) (h : f_branch_Cover a0 a1 = some res_) : (Ky.call 8 [.sl (G.S_L_bool a0), .int .i64 a1]).ok Try.prog (.tup [.sl (G.S_int res_.1), .int .i64 res_.2]) :=
  Ky.of_check (tt := tt) (enc := fun (r : (List Int) × Int) => .tup [.sl (G.S_int r.1), .int .i64 r.2]) (muts := [32, 65, 68, 96]) (app := [171]) Try.tabOk Try.mixed Try.func8 (by kernel_rfl) rfl rfl Try.ntmps8 (by kernel_rfl) (fun _ _ _ h => (by cases h)) (p := p_branch_Cover a0 a1) (
    ok_inner (ok_inner (ok_join (ok_split (fun b_2 =>
    ok_ret) (fun b_2 =>
    ok_ret)) fun st_1 =>
    ok_split (fun b_79 =>
    ok_ret) (fun b_79 =>
    ok_split (fun b_78 =>
    ok_ret) (fun b_78 =>
    ok_mem (fun _ h => mkS_ok G.hS_int h) fun l_3 hl_3 =>
    ok_join (ok_rng fun i_5 st_6 _ =>
    ok_join (ok_op (fun _ h => ixn G.hS_L_bool G.hk_L_bool h) fun x_8 hx_8 =>
    ok_split (fun b_19 =>
    ok_ret) (fun b_19 =>
    ok_rng fun i_9 st_10 _ =>
    ok_join (ok_op (fun _ h => ixn G.hS_bool G.hk_bool h) fun x_12 hx_12 =>
    ok_split (fun b_18 =>
    ok_op (fun _ h => ixm h) fun u_13 hu_13 =>
    ok_op (fun _ h => ld0 G.hS_int G.hk_int h rfl rfl) fun x_14 hx_14 =>
    ok_op (fun _ h => bshl h) fun r_15 hr_15 =>
    ok_op (fun _ h => ixm h) fun u_16 hu_16 =>
    ok_mem (fun _ h => set1 G.hS_int G.hk_int h rfl rfl) fun l_17 hl_17 =>
    ok_ret) (fun b_18 =>
    ok_ret)) fun st_11 =>
    ok_ret)) fun st_7 =>
    ok_ret) fun st_4 =>
    ok_mem (fun _ h => mkS_ok G.hS_L_u8 h) fun l_20 hl_20 =>
    ok_op (fun _ h => bshl h) fun r_21 hr_21 =>
    ok_mem (fun _ h => mkS_ok G.hS_u8 h) fun l_22 hl_22 =>
    ok_join (ok_op (fun _ h => slm h) fun p_24 hp_24 =>
    ok_loop fun st_25 =>
    ok_split (fun b_28 =>
    ok_op (fun _ h => ixm h) fun u_26 hu_26 =>
    ok_mem (fun _ h => set1 G.hS_u8 G.hk_u8 h rfl rfl) fun l_27 hl_27 =>
    ok_ret) (fun b_28 =>
    ok_ret)) fun st_23 =>
    ok_inner (ok_fix (rows G.hS_u8 G.hk_u8) (
    ok_op (fun _ h => ixm h) fun u_30 hu_30 =>
    ok_mem (fun _ h => set1 G.hS_L_u8 G.hk_L_u8 h rfl rfl) fun l_31 hl_31 =>
    ok_join (ok_loop fun st_33 =>
    ok_split (fun b_54 =>
    ok_join (ok_op (fun _ h => bshl h) fun r_35 hr_35 =>
    ok_mem (fun _ h => mkS_ok G.hS_u8 h) fun l_36 hl_36 =>
    ok_join (ok_rng fun i_38 st_39 _ =>
    ok_op (fun _ h => ixm h) fun u_40 hu_40 =>
    ok_op (fun _ h => ld0 G.hS_L_u8 G.hk_L_u8 h rfl rfl) fun x_41 hx_41 =>
    ok_op (fun _ h => ixn G.hS_u8 G.hk_u8 h) fun x_42 hx_42 =>
    ok_op (fun _ h => ixm h) fun u_43 hu_43 =>
    ok_op (fun _ h => ld0 G.hS_L_u8 G.hk_L_u8 h rfl rfl) fun x_44 hx_44 =>
    ok_op (fun _ h => ixm h) fun u_45 hu_45 =>
    ok_op (fun _ h => ld0 G.hS_int G.hk_int h rfl rfl) fun x_46 hx_46 =>
    ok_op (fun _ h => ix G.hS_u8 G.hk_u8 h) fun x_47 hx_47 =>
    ok_op (fun _ h => c_branch_add _ _ h) fun r_48 hr_48 =>
    ok_op (fun _ h => ixm h) fun u_49 hu_49 =>
    ok_mem (fun _ h => set1 G.hS_u8 G.hk_u8 h rfl rfl) fun l_50 hl_50 =>
    ok_ret) fun st_37 =>
    ok_fix (rows G.hS_u8 G.hk_u8) (
    ok_op (fun _ h => ixm h) fun u_52 hu_52 =>
    ok_mem (fun _ h => set1 G.hS_L_u8 G.hk_L_u8 h rfl rfl) fun l_53 hl_53 =>
    ok_ret)) fun st_34 =>
    ok_ret) (fun b_54 =>
    ok_ret)) fun st_32 =>
    ok_op (fun _ h => ixm h) fun u_55 hu_55 =>
    ok_op (fun _ h => ld0 G.hS_L_u8 G.hk_L_u8 h rfl rfl) fun x_56 hx_56 =>
    ok_op (fun _ h => ix G.hS_u8 G.hk_u8 h) fun x_57 hx_57 =>
    ok_split (fun b_77 =>
    ok_ret) (fun b_77 =>
    ok_inner (ok_inner (ok_join (ok_loop fun st_59 =>
    ok_split (fun b_76 =>
    ok_join (ok_op (fun _ h => ixm h) fun u_61 hu_61 =>
    ok_op (fun _ h => ld0 G.hS_L_u8 G.hk_L_u8 h rfl rfl) fun x_62 hx_62 =>
    ok_op (fun _ h => ix G.hS_u8 G.hk_u8 h) fun x_63 hx_63 =>
    ok_join (ok_split (fun b_71 =>
    ok_op (fun _ h => ixm h) fun u_65 hu_65 =>
    ok_op (fun _ h => ld0 G.hS_L_u8 G.hk_L_u8 h rfl rfl) fun x_66 hx_66 =>
    ok_op (fun _ h => ixm h) fun u_67 hu_67 =>
    ok_op (fun _ h => ld0 G.hS_int G.hk_int h rfl rfl) fun x_68 hx_68 =>
    ok_op (fun _ h => ix G.hS_u8 G.hk_u8 h) fun x_69 hx_69 =>
    ok_op (fun _ h => c_branch_add _ _ h) fun r_70 hr_70 =>
    ok_ret) (fun b_71 =>
    ok_ret)) fun st_64 =>
    ok_split (fun b_75 =>
    ok_op (fun _ h => ap G.hS_int G.hk_int (by omega) rfl h) fun l_72 hl_72 =>
    ok_op (fun _ h => ixm h) fun u_73 hu_73 =>
    ok_op (fun _ h => ld0 G.hS_int G.hk_int h rfl rfl) fun x_74 hx_74 =>
    ok_ret) (fun b_75 =>
    ok_ret)) fun st_60 =>
    ok_ret) (fun b_76 =>
    ok_ret)) fun st_58 =>
    ok_ret)))))))))) h

noncomputable def p_synthesislaw33_alive  : Prog (Bool) :=
    .op (.call 8 [.sl (G.S_L_bool [[true, true, false], [false, true, true], [false, false, true], [true, false, true]]), .int .i64 3]) (f_branch_Cover [[true, true, false], [false, true, true], [false, false, true], [true, false, true]] 3) (fun (r_1 : (List Int) × Int) => .tup [.sl (G.S_int r_1.1), .int .i64 r_1.2]) fun r_1 =>
    .join (σ := Bool) [] (fun st_2 => ([(0, .bool st_2)], []))
    (.split 14 (r_1.2 == 0)
    (.split 19 (((G.S_int r_1.1).length : Int) == 2)
    (.op (.idx 1 (.sl (G.S_int r_1.1)) 0) (at_ r_1.1 0) (fun (x_3 : Int) => .iptr (G.C_int x_3)) fun x_3 =>
    .split 25 (x_3 == 0)
    (.op (.idx 1 (.sl (G.S_int r_1.1)) 1) (at_ r_1.1 1) (fun (x_4 : Int) => .iptr (G.C_int x_4)) fun x_4 =>
    .ret (.inl (x_4 == 1)))
    (.ret (.inl (false))))
    (.ret (.inl (false))))
    (.ret (.inl (false))))
    fun st_2 =>
    .ret st_2
noncomputable def f_synthesislaw33_alive  : Option (Bool) := (p_synthesislaw33_alive ).eval
theorem c_synthesislaw33_alive  (res_ : Bool) (h : f_synthesislaw33_alive  = some res_) : (Ky.call 7 []).ok Try.prog (.bool res_) :=
  Ky.of_check (tt := tt) (enc := fun (r : Bool) => .bool r) (muts := []) (app := []) Try.tabOk Try.mixed Try.func7 (by kernel_rfl) rfl rfl Try.ntmps7 (by kernel_rfl) (fun _ _ _ h => (by cases h)) (p := p_synthesislaw33_alive ) (
    ok_op (fun _ h => c_branch_Cover _ _ _ h) fun r_1 hr_1 =>
    ok_join (ok_split (fun b_7 =>
    ok_split (fun b_6 =>
    ok_op (fun _ h => ix G.hS_int G.hk_int h) fun x_3 hx_3 =>
    ok_split (fun b_5 =>
    ok_op (fun _ h => ix G.hS_int G.hk_int h) fun x_4 hx_4 =>
    ok_ret) (fun b_5 =>
    ok_ret)) (fun b_6 =>
    ok_ret)) (fun b_7 =>
    ok_ret)) fun st_2 =>
    ok_ret) h

noncomputable def p_synthesisref33_covers : Nat → List (List Bool) → List Bool → Int → Int → Prog ((List Int) × Bool)
  | 0, _, _, _, _ => .fail
  | n_ + 1, a0, a1, a2, a3 =>
    .inner (.inner (.join (σ := Int) [0, 1, 2, 3] (fun st_1 => ([(10, .int .i64 st_1)], []))
    (.loop (σ := Int) (ρ := Int) [0, 1, 2, 3] (fun st_2 => ([(10, .int .i64 st_2)], [])) (0) (fun _ y => y) fun st_2 =>
    .inner (.join (σ := Bool) [0, 1, 2, 3, 10] (fun st_3 => ([(28, .bool st_3)], []))
    (.split 22 (decide (st_2 < ((G.S_bool a1).length : Int)))
    (.op (.idx 1 (.sl (G.S_bool a1)) st_2) (at_ a1 st_2) (fun (x_4 : Bool) => .iptr (G.C_bool x_4)) fun x_4 =>
    .ret (.inl (!x_4)))
    (.ret (.inl (false))))
    fun st_3 =>
    .split 28 (st_3)
    (.ret (.inl (IntKind.wrap .i64 (st_2 + 1))))
    (.ret (.inr (.inl (st_2))))))
    fun st_1 =>
    .split 34 (st_1 == ((G.S_bool a1).length : Int))
    (.ret ([], true))
    (.split 36 (a3 == 0)
    (.ret ([], false))
    (.join (σ := Unit) [] (fun _ => ([], []))
    (.loop (σ := Int) (ρ := Int) [0, 1, 3] (fun st_8 => ([(11, .int .i64 st_8)], [])) (a2) (fun _ y => y) fun st_8 =>
    .split 41 (decide (st_8 < ((G.S_L_bool a0).length : Int)))
    (.join (σ := Unit) [0, 1, 3, 11] (fun _ => ([], []))
    (.inner (.inner (.join (σ := (List Bool) × Bool) [0, 1, 3, 11] (fun st_10 => ([(12, .osl 1 (G.S_bool st_10.1)), (13, .bool st_10.2)], []))
    (.rng (σ := (List Bool) × Bool) 1 47 ((G.S_bool a1).length) [0, 1, 3, 11] (fun i st_12 => ([(14, .int .i64 i), (12, .osl 1 (G.S_bool st_12.1)), (13, .bool st_12.2)], [])) ([], false) (fun i_11 st_12 =>
    .join (σ := (List Bool) × Bool) [0, 1, 3, 11, 14] (fun st_13 => ([(12, .osl 1 (G.S_bool st_13.1)), (13, .bool st_13.2)], []))
    (.join (σ := (List Bool)) [0, 1, 3, 11, 13, 14] (fun st_14 => ([(12, .osl 1 (G.S_bool st_14))], []))
    (.op (.idx 1 (.sl (G.S_bool a1)) (i_11 : Int)) ((a1)[i_11]?) (fun (x_15 : Bool) => .iptr (G.C_bool x_15)) fun x_15 =>
    .split 55 (x_15)
    (.op (.idx 1 (.sl (G.S_L_bool a0)) st_8) (at_ a0 st_8) (fun (x_16 : List Bool) => .iptr (G.C_L_bool x_16)) fun x_16 =>
    .op (.idx 1 (.sl (G.S_bool x_16)) (i_11 : Int)) ((x_16)[i_11]?) (fun (x_17 : Bool) => .iptr (G.C_bool x_17)) fun x_17 =>
    .op (.app 1 1 (G.S_bool st_12.1) (G.S_bool [!x_17])) (appM 1 st_12.1 [!x_17]) (fun (l_18 : List Bool) => .osl 1 (G.S_bool l_18)) fun l_18 =>
    .ret (.inl (l_18)))
    (.op (.app 1 1 (G.S_bool st_12.1) (G.S_bool [false])) (appM 1 st_12.1 [false]) (fun (l_19 : List Bool) => .osl 1 (G.S_bool l_19)) fun l_19 =>
    .ret (.inl (l_19))))
    fun st_14 =>
    .split 68 (st_12.2)
    (.ret (.inl (st_14, true)))
    (.op (.idx 1 (.sl (G.S_bool a1)) (i_11 : Int)) ((a1)[i_11]?) (fun (x_21 : Bool) => .iptr (G.C_bool x_21)) fun x_21 =>
    .split 73 (x_21)
    (.op (.idx 1 (.sl (G.S_L_bool a0)) st_8) (at_ a0 st_8) (fun (x_22 : List Bool) => .iptr (G.C_L_bool x_22)) fun x_22 =>
    .op (.idx 1 (.sl (G.S_bool x_22)) (i_11 : Int)) ((x_22)[i_11]?) (fun (x_23 : Bool) => .iptr (G.C_bool x_23)) fun x_23 =>
    .ret (.inl (st_14, x_23)))
    (.ret (.inl (st_14, false)))))
    fun st_13 =>
    .ret (.inl (st_13.1, st_13.2))) fun st_12 => .inl (st_12.1, st_12.2))
    fun st_10 =>
    .split 84 (!st_10.2)
    (.ret (.inl ()))
    (.op (.call 18 [.sl (G.S_L_bool a0), .sl (G.S_bool st_10.1), .int .i64 (IntKind.wrap .i64 (st_8 + 1)), .int .i64 (IntKind.wrap .i64 (a3 - 1))]) ((p_synthesisref33_covers n_ a0 st_10.1 (IntKind.wrap .i64 (st_8 + 1)) (IntKind.wrap .i64 (a3 - 1))).eval) (fun (r_26 : (List Int) × Bool) => .tup [.sl (G.S_int r_26.1), .bool r_26.2]) fun r_26 =>
    .split 95 (r_26.2)
    (.op (.app 1 8 (G.S_int []) (G.S_int [st_8])) (appM 8 [] [st_8]) (fun (l_27 : List Int) => .osl 1 (G.S_int l_27)) fun l_27 =>
    .op (.app 1 8 (G.S_int l_27) (G.S_int r_26.1)) (appM 8 l_27 r_26.1) (fun (l_28 : List Int) => .osl 1 (G.S_int l_28)) fun l_28 =>
    .ret (.inr (.inr (.inr ((l_28, true))))))
    (.ret (.inl ()))))))
    fun _ =>
    .ret (.inl (IntKind.wrap .i64 (st_8 + 1))))
    (.ret (.inr (.inl ()))))
    fun _ =>
    .ret ([], false)))))
noncomputable def f_synthesisref33_covers (a0 : List (List Bool)) (a1 : List Bool) (a2 : Int) (a3 : Int) : Option ((List Int) × Bool) := (p_synthesisref33_covers big a0 a1 a2 a3).eval
theorem cn_synthesisref33_covers : ∀ n, (∀ (a0 : List (List Bool)) (a1 : List Bool) (a2 : Int) (a3 : Int) (res_ : (List Int) × Bool), (p_synthesisref33_covers n a0 a1 a2 a3).eval = some res_ → (Ky.call 18 [.sl (G.S_L_bool a0), .sl (G.S_bool a1), .int .i64 a2, .int .i64 a3]).ok Try.prog (.tup [.sl (G.S_int res_.1), .bool res_.2])) := by
  intro n
  induction n with
  | zero => exact fun a0 a1 a2 a3 _ h => by simp [p_synthesisref33_covers] at h
  | succ n_ ih =>
    have ih_synthesisref33_covers := ih
    exact fun a0 a1 a2 a3 res_ h => Ky.of_check (tt := tt) (enc := fun (r : (List Int) × Bool) => .tup [.sl (G.S_int r.1), .bool r.2]) (muts := []) (app := [50, 96, 100]) Try.tabOk Try.mixed Try.func18 (by kernel_rfl) rfl rfl Try.ntmps18 (by kernel_rfl) (fun _ _ _ h => (by cases h)) (p := p_synthesisref33_covers (n_ + 1) a0 a1 a2 a3) (
    ok_inner (ok_inner (ok_join (ok_loop fun st_2 =>
    ok_inner (ok_join (ok_split (fun b_5 =>
    ok_op (fun _ h => ix G.hS_bool G.hk_bool h) fun x_4 hx_4 =>
    ok_ret) (fun b_5 =>
    ok_ret)) fun st_3 =>
    ok_split (fun b_6 =>
    ok_ret) (fun b_6 =>
    ok_ret))) fun st_1 =>
    ok_split (fun b_33 =>
    ok_ret) (fun b_33 =>
    ok_split (fun b_32 =>
    ok_ret) (fun b_32 =>
    ok_join (ok_loop fun st_8 =>
    ok_split (fun b_31 =>
    ok_join (ok_inner (ok_inner (ok_join (ok_rng fun i_11 st_12 _ =>
    ok_join (ok_join (ok_op (fun _ h => ixn G.hS_bool G.hk_bool h) fun x_15 hx_15 =>
    ok_split (fun b_20 =>
    ok_op (fun _ h => ix G.hS_L_bool G.hk_L_bool h) fun x_16 hx_16 =>
    ok_op (fun _ h => ixn G.hS_bool G.hk_bool h) fun x_17 hx_17 =>
    ok_op (fun _ h => ap G.hS_bool G.hk_bool (by omega) rfl h) fun l_18 hl_18 =>
    ok_ret) (fun b_20 =>
    ok_op (fun _ h => ap G.hS_bool G.hk_bool (by omega) rfl h) fun l_19 hl_19 =>
    ok_ret)) fun st_14 =>
    ok_split (fun b_25 =>
    ok_ret) (fun b_25 =>
    ok_op (fun _ h => ixn G.hS_bool G.hk_bool h) fun x_21 hx_21 =>
    ok_split (fun b_24 =>
    ok_op (fun _ h => ix G.hS_L_bool G.hk_L_bool h) fun x_22 hx_22 =>
    ok_op (fun _ h => ixn G.hS_bool G.hk_bool h) fun x_23 hx_23 =>
    ok_ret) (fun b_24 =>
    ok_ret))) fun st_13 =>
    ok_ret) fun st_10 =>
    ok_split (fun b_30 =>
    ok_ret) (fun b_30 =>
    ok_op (fun _ h => ih_synthesisref33_covers _ _ _ _ _ h) fun r_26 hr_26 =>
    ok_split (fun b_29 =>
    ok_op (fun _ h => ap G.hS_int G.hk_int (by omega) rfl h) fun l_27 hl_27 =>
    ok_op (fun _ h => ap G.hS_int G.hk_int (by omega) rfl h) fun l_28 hl_28 =>
    ok_ret) (fun b_29 =>
    ok_ret))))) fun st_9 =>
    ok_ret) (fun b_31 =>
    ok_ret)) fun st_7 =>
    ok_ret))))) h
theorem c_synthesisref33_covers (a0 : List (List Bool)) (a1 : List Bool) (a2 : Int) (a3 : Int) (res_ : (List Int) × Bool) (h : f_synthesisref33_covers a0 a1 a2 a3 = some res_) : (Ky.call 18 [.sl (G.S_L_bool a0), .sl (G.S_bool a1), .int .i64 a2, .int .i64 a3]).ok Try.prog (.tup [.sl (G.S_int res_.1), .bool res_.2]) := cn_synthesisref33_covers big a0 a1 a2 a3 res_ h

noncomputable def p_synthesisref33_Cover (sets : List (List Bool)) (n : Int) : Prog ((List Int) × Int) :=
    .inner (.inner (.join (σ := Bool) [0, 1] (fun st_1 => ([(17, .bool st_1)], []))
    (.split 14 (decide (n < 0))
    (.ret (.inl (true)))
    (.ret (.inl (decide (n > 16)))))
    fun st_1 =>
    .split 17 (st_1)
    (.ret ([], 1))
    (.split 20 (decide (((G.S_L_bool sets).length : Int) > 64))
    (.ret ([], 2))
    (.join (σ := Unit) [0, 1] (fun _ => ([], []))
    (.rng (σ := Unit) 0 24 ((G.S_L_bool sets).length) [0, 1] (fun i _ => ([(6, .int .i64 i)], [])) () (fun i_4 _ =>
    .op (.idx 1 (.sl (G.S_L_bool sets)) (i_4 : Int)) ((sets)[i_4]?) (fun (x_6 : List Bool) => .iptr (G.C_L_bool x_6)) fun x_6 =>
    .split 33 (((G.S_bool x_6).length : Int) != n)
    (.ret (.inr (.inr (([], 2)))))
    (.ret (.inl ()))) fun _ => .inl ())
    fun _ =>
    .mem (.mkS 1 1 (G.C_bool false) n n) (mkM 1 n n false) (fun (l_8 : List Bool) => .arr (G.S_bool l_8).flatten) fun l_8 =>
    .join (σ := (List Bool)) [0, 1, 7] (fun st_9 => ([], [.arr (G.S_bool st_9).flatten]))
    (.loop (σ := Int × (List Bool)) (ρ := Int × (List Bool)) [0, 1, 7] (fun st_10 => ([(8, .int .i64 st_10.1)], [.arr (G.S_bool st_10.2).flatten])) (0, l_8) (fun _ y => y) fun st_10 =>
    .split 38 (decide (st_10.1 < n))
    (.op (.idx 1 (.msl 0 0 (Int.toNat n)) st_10.1) (inM st_10.1 (Int.toNat n)) (fun (_ : Unit) => .eref 0 (0 + Int.toNat st_10.1 * 1)) fun u_11 =>
    .mem (.set false 1 (G.S_bool st_10.2).flatten [.bool true] (0 + Int.toNat st_10.1 * 1)) (setM st_10.2 st_10.1 true) (fun (l_12 : List Bool) => .arr (G.S_bool l_12).flatten) fun l_12 =>
    .ret (.inl (IntKind.wrap .i64 (st_10.1 + 1), l_12)))
    (.ret (.inr (.inl (st_10.2)))))
    fun st_9 =>
    .fix 0 7 (Int.toNat n) 1 (G.S_bool st_9) (
    .join (σ := Unit) [] (fun _ => ([], []))
    (.loop (σ := Int) (ρ := Int) [0, 1, 7] (fun st_15 => ([(9, .int .i64 st_15)], [])) (0) (fun _ y => y) fun st_15 =>
    .split 46 (decide (st_15 ≤ n))
    (.op (.call 18 [.sl (G.S_L_bool sets), .sl (G.S_bool st_9), .int .i64 0, .int .i64 st_15]) (f_synthesisref33_covers sets st_9 0 st_15) (fun (r_16 : (List Int) × Bool) => .tup [.sl (G.S_int r_16.1), .bool r_16.2]) fun r_16 =>
    .split 56 (r_16.2)
    (.ret (.inr (.inr ((r_16.1, 0)))))
    (.ret (.inl (IntKind.wrap .i64 (st_15 + 1)))))
    (.ret (.inr (.inl ()))))
    fun _ =>
    .ret ([], 7))))))
noncomputable def f_synthesisref33_Cover (sets : List (List Bool)) (n : Int) : Option ((List Int) × Int) := (p_synthesisref33_Cover sets n).eval
theorem c_synthesisref33_Cover (sets : List (List Bool)) (n : Int) (res_ : (List Int) × Int) (h : f_synthesisref33_Cover sets n = some res_) : (Ky.call 9 [.sl (G.S_L_bool sets), .int .i64 n]).ok Try.prog (.tup [.sl (G.S_int res_.1), .int .i64 res_.2]) :=
  Ky.of_check (tt := tt) (enc := fun (r : (List Int) × Int) => .tup [.sl (G.S_int r.1), .int .i64 r.2]) (muts := [35]) (app := []) Try.tabOk Try.mixed Try.func9 (by kernel_rfl) rfl rfl Try.ntmps9 (by kernel_rfl) (fun _ _ _ h => (by cases h)) (p := p_synthesisref33_Cover sets n) (
    ok_inner (ok_inner (ok_join (ok_split (fun b_2 =>
    ok_ret) (fun b_2 =>
    ok_ret)) fun st_1 =>
    ok_split (fun b_20 =>
    ok_ret) (fun b_20 =>
    ok_split (fun b_19 =>
    ok_ret) (fun b_19 =>
    ok_join (ok_rng fun i_4 st_5 _ =>
    ok_op (fun _ h => ixn G.hS_L_bool G.hk_L_bool h) fun x_6 hx_6 =>
    ok_split (fun b_7 =>
    ok_ret) (fun b_7 =>
    ok_ret)) fun st_3 =>
    ok_mem (fun _ h => mkS_ok G.hS_bool h) fun l_8 hl_8 =>
    ok_join (ok_loop fun st_10 =>
    ok_split (fun b_13 =>
    ok_op (fun _ h => ixm h) fun u_11 hu_11 =>
    ok_mem (fun _ h => set1 G.hS_bool G.hk_bool h rfl rfl) fun l_12 hl_12 =>
    ok_ret) (fun b_13 =>
    ok_ret)) fun st_9 =>
    ok_fix (rows G.hS_bool G.hk_bool) (
    ok_join (ok_loop fun st_15 =>
    ok_split (fun b_18 =>
    ok_op (fun _ h => c_synthesisref33_covers _ _ _ _ _ h) fun r_16 hr_16 =>
    ok_split (fun b_17 =>
    ok_ret) (fun b_17 =>
    ok_ret)) (fun b_18 =>
    ok_ret)) fun st_14 =>
    ok_ret)))))) h

noncomputable def p_synthesisref13_order (a : Int) (b : Int) : Prog (Int) :=
    .split 7 (decide (a < b))
    (.ret (-1))
    (.split 10 (decide (a > b))
    (.ret 1)
    (.ret 0))
noncomputable def f_synthesisref13_order (a : Int) (b : Int) : Option (Int) := (p_synthesisref13_order a b).eval
theorem c_synthesisref13_order (a : Int) (b : Int) (res_ : Int) (h : f_synthesisref13_order a b = some res_) : (Ky.call 19 [.int .i64 a, .int .i64 b]).ok Try.prog (.int .i64 res_) :=
  Ky.of_check (tt := tt) (enc := fun (r : Int) => .int .i64 r) (muts := []) (app := []) Try.tabOk Try.mixed Try.func19 (by kernel_rfl) rfl rfl Try.ntmps19 (by kernel_rfl) (fun _ _ _ h => (by cases h)) (p := p_synthesisref13_order a b) (
    ok_split (fun b_2 =>
    ok_ret) (fun b_2 =>
    ok_split (fun b_1 =>
    ok_ret) (fun b_1 =>
    ok_ret))) h

noncomputable def p_synthesisref13_CompareInts (a : List Int) (b : List Int) : Prog (Int) :=
    .inner (.join (σ := Unit) [0, 1] (fun _ => ([], []))
    (.loop (σ := Int) (ρ := Int) [0, 1] (fun st_2 => ([(5, .int .i64 st_2)], [])) (0) (fun _ y => y) fun st_2 =>
    .inner (.join (σ := Bool) [0, 1, 5] (fun st_3 => ([(15, .bool st_3)], []))
    (.split 10 (decide (st_2 < ((G.S_int a).length : Int)))
    (.ret (.inl (decide (st_2 < ((G.S_int b).length : Int)))))
    (.ret (.inl (false))))
    fun st_3 =>
    .split 15 (st_3)
    (.op (.idx 1 (.sl (G.S_int a)) st_2) (at_ a st_2) (fun (x_5 : Int) => .iptr (G.C_int x_5)) fun x_5 =>
    .op (.idx 1 (.sl (G.S_int b)) st_2) (at_ b st_2) (fun (x_6 : Int) => .iptr (G.C_int x_6)) fun x_6 =>
    .split 26 (decide (x_5 < x_6))
    (.ret (.inr (.inr ((-1)))))
    (.op (.idx 1 (.sl (G.S_int a)) st_2) (some x_5) (fun (x_7 : Int) => .iptr (G.C_int x_7)) fun x_7 =>
    .op (.idx 1 (.sl (G.S_int b)) st_2) (some x_6) (fun (x_8 : Int) => .iptr (G.C_int x_8)) fun x_8 =>
    .split 35 (decide (x_7 > x_8))
    (.ret (.inr (.inr (1))))
    (.ret (.inl (IntKind.wrap .i64 (st_2 + 1))))))
    (.ret (.inr (.inl ())))))
    fun _ =>
    .op (.call 19 [.int .i64 ((G.S_int a).length : Int), .int .i64 ((G.S_int b).length : Int)]) (f_synthesisref13_order ((G.S_int a).length : Int) ((G.S_int b).length : Int)) (fun (r_12 : Int) => .int .i64 r_12) fun r_12 =>
    .ret r_12)
noncomputable def f_synthesisref13_CompareInts (a : List Int) (b : List Int) : Option (Int) := (p_synthesisref13_CompareInts a b).eval
theorem c_synthesisref13_CompareInts (a : List Int) (b : List Int) (res_ : Int) (h : f_synthesisref13_CompareInts a b = some res_) : (Ky.call 10 [.sl (G.S_int a), .sl (G.S_int b)]).ok Try.prog (.int .i64 res_) :=
  Ky.of_check (tt := tt) (enc := fun (r : Int) => .int .i64 r) (muts := []) (app := []) Try.tabOk Try.mixed Try.func10 (by kernel_rfl) rfl rfl Try.ntmps10 (by kernel_rfl) (fun _ _ _ h => (by cases h)) (p := p_synthesisref13_CompareInts a b) (
    ok_inner (ok_join (ok_loop fun st_2 =>
    ok_inner (ok_join (ok_split (fun b_4 =>
    ok_ret) (fun b_4 =>
    ok_ret)) fun st_3 =>
    ok_split (fun b_11 =>
    ok_op (fun _ h => ix G.hS_int G.hk_int h) fun x_5 hx_5 =>
    ok_op (fun _ h => ix G.hS_int G.hk_int h) fun x_6 hx_6 =>
    ok_split (fun b_10 =>
    ok_ret) (fun b_10 =>
    ok_op (fun _ e => Option.some.inj e ▸ ix G.hS_int G.hk_int hx_5) fun x_7 hx_7 =>
    ok_op (fun _ e => Option.some.inj e ▸ ix G.hS_int G.hk_int hx_6) fun x_8 hx_8 =>
    ok_split (fun b_9 =>
    ok_ret) (fun b_9 =>
    ok_ret))) (fun b_11 =>
    ok_ret))) fun st_1 =>
    ok_op (fun _ h => c_synthesisref13_order _ _ _ h) fun r_12 hr_12 =>
    ok_ret)) h

noncomputable def p_synthesislaw33_BranchCovers (l : List (List Bool)) (n : Int) : Prog (Bool) :=
    .op (.call 6 [.sl (G.S_L_bool l), .int .i64 n]) (f_synthesislaw33_sets l n) (fun (r_1 : Bool) => .bool r_1) fun r_1 =>
    .split 12 (!r_1)
    (.op (.call 7 []) f_synthesislaw33_alive (fun (r_2 : Bool) => .bool r_2) fun r_2 =>
    .ret r_2)
    (.op (.call 8 [.sl (G.S_L_bool l), .int .i64 n]) (f_branch_Cover l n) (fun (r_3 : (List Int) × Int) => .tup [.sl (G.S_int r_3.1), .int .i64 r_3.2]) fun r_3 =>
    .op (.call 9 [.sl (G.S_L_bool l), .int .i64 n]) (f_synthesisref33_Cover l n) (fun (r_4 : (List Int) × Int) => .tup [.sl (G.S_int r_4.1), .int .i64 r_4.2]) fun r_4 =>
    .join (σ := Bool) [] (fun st_5 => ([(4, .bool st_5)], []))
    (.op (.call 10 [.sl (G.S_int r_3.1), .sl (G.S_int r_4.1)]) (f_synthesisref13_CompareInts r_3.1 r_4.1) (fun (r_6 : Int) => .int .i64 r_6) fun r_6 =>
    .split 30 (r_6 == 0)
    (.split 35 (r_3.2 == r_4.2)
    (.op (.call 7 []) f_synthesislaw33_alive (fun (r_7 : Bool) => .bool r_7) fun r_7 =>
    .ret (.inl (r_7)))
    (.ret (.inl (false))))
    (.ret (.inl (false))))
    fun st_5 =>
    .ret st_5)
noncomputable def f_synthesislaw33_BranchCovers (l : List (List Bool)) (n : Int) : Option (Bool) := (p_synthesislaw33_BranchCovers l n).eval
theorem c_synthesislaw33_BranchCovers (l : List (List Bool)) (n : Int) (res_ : Bool) (h : f_synthesislaw33_BranchCovers l n = some res_) : (Ky.call 3 [.sl (G.S_L_bool l), .int .i64 n]).ok Try.prog (.bool res_) :=
  Ky.of_check (tt := tt) (enc := fun (r : Bool) => .bool r) (muts := []) (app := []) Try.tabOk Try.mixed Try.func3 (by kernel_rfl) rfl rfl Try.ntmps3 (by kernel_rfl) (fun _ _ _ h => (by cases h)) (p := p_synthesislaw33_BranchCovers l n) (
    ok_op (fun _ h => c_synthesislaw33_sets _ _ _ h) fun r_1 hr_1 =>
    ok_split (fun b_10 =>
    ok_op (fun _ h => c_synthesislaw33_alive  _ h) fun r_2 hr_2 =>
    ok_ret) (fun b_10 =>
    ok_op (fun _ h => c_branch_Cover _ _ _ h) fun r_3 hr_3 =>
    ok_op (fun _ h => c_synthesisref33_Cover _ _ _ h) fun r_4 hr_4 =>
    ok_join (ok_op (fun _ h => c_synthesisref13_CompareInts _ _ _ h) fun r_6 hr_6 =>
    ok_split (fun b_9 =>
    ok_split (fun b_8 =>
    ok_op (fun _ h => c_synthesislaw33_alive  _ h) fun r_7 hr_7 =>
    ok_ret) (fun b_8 =>
    ok_ret)) (fun b_9 =>
    ok_ret)) fun st_5 =>
    ok_ret)) h

noncomputable def p_synthesislaw33_BranchNeeds (a0 : List (List Bool)) (a1 : Int) : Prog (Bool) :=
    .inner (.inner (.join (σ := Bool) [0, 1] (fun st_1 => ([(19, .bool st_1)], []))
    (.op (.call 6 [.sl (G.S_L_bool a0), .int .i64 a1]) (f_synthesislaw33_sets a0 a1) (fun (r_2 : Bool) => .bool r_2) fun r_2 =>
    .split 16 (!r_2)
    (.ret (.inl (true)))
    (.ret (.inl (decide (a1 > 6)))))
    fun st_1 =>
    .split 19 (st_1)
    (.op (.call 7 []) f_synthesislaw33_alive (fun (r_4 : Bool) => .bool r_4) fun r_4 =>
    .ret r_4)
    (.op (.call 8 [.sl (G.S_L_bool a0), .int .i64 a1]) (f_branch_Cover a0 a1) (fun (r_5 : (List Int) × Int) => .tup [.sl (G.S_int r_5.1), .int .i64 r_5.2]) fun r_5 =>
    .split 28 (r_5.2 != 0)
    (.join (σ := Bool) [] (fun st_6 => ([(4, .bool st_6)], []))
    (.split 32 (((G.S_int r_5.1).length : Int) == 0)
    (.op (.call 7 []) f_synthesislaw33_alive (fun (r_7 : Bool) => .bool r_7) fun r_7 =>
    .ret (.inl (r_7)))
    (.ret (.inl (false))))
    fun st_6 =>
    .ret st_6)
    (.join (σ := Unit) [] (fun _ => ([], []))
    (.loop (σ := Int) (ρ := Int) [0, 1, 5] (fun st_10 => ([(7, .int .i64 st_10)], [])) ((-1)) (fun _ y => y) fun st_10 =>
    .split 38 (decide (st_10 < ((G.S_int r_5.1).length : Int)))
    (.join (σ := Unit) [0, 1, 5, 7] (fun _ => ([], []))
    (.inner (.join (σ := Bool) [0, 1, 5, 7] (fun st_12 => ([(8, .bool st_12)], []))
    (.loop (σ := Bool × Int) (ρ := Bool × Int) [0, 1, 5, 7] (fun st_13 => ([(8, .bool st_13.1), (9, .int .i64 st_13.2)], [])) (true, 0) (fun _ y => y) fun st_13 =>
    .split 43 (decide (st_13.2 < a1))
    (.join (σ := Bool) [0, 1, 5, 7, 9] (fun st_14 => ([(8, .bool st_14)], []))
    (.inner (.join (σ := Bool) [0, 1, 5, 7, 8, 9] (fun st_15 => ([(10, .bool st_15)], []))
    (.rng (σ := Bool) 5 49 ((G.S_int r_5.1).length) [0, 1, 5, 7, 8, 9] (fun i st_17 => ([(11, .int .i64 i), (10, .bool st_17)], [])) (false) (fun i_16 st_17 =>
    .join (σ := Bool) [0, 1, 5, 7, 8, 9, 11] (fun st_18 => ([(10, .bool st_18)], []))
    (.inner (.join (σ := Bool) [0, 1, 5, 7, 8, 9, 10, 11] (fun st_19 => ([(77, .bool st_19)], []))
    (.op (.idx 1 (.sl (G.S_int r_5.1)) (i_16 : Int)) ((r_5.1)[i_16]?) (fun (x_20 : Int) => .iptr (G.C_int x_20)) fun x_20 =>
    .split 57 (decide (x_20 < 0))
    (.ret (.inl (true)))
    (.op (.idx 1 (.sl (G.S_int r_5.1)) (i_16 : Int)) (some x_20) (fun (x_21 : Int) => .iptr (G.C_int x_21)) fun x_21 =>
    .split 66 (decide (x_21 ≥ ((G.S_L_bool a0).length : Int)))
    (.ret (.inl (true)))
    (.op (.idx 1 (.sl (G.S_int r_5.1)) (i_16 : Int)) (some x_20) (fun (x_22 : Int) => .iptr (G.C_int x_22)) fun x_22 =>
    .op (.idx 1 (.sl (G.S_L_bool a0)) x_22) (at_ a0 x_22) (fun (x_23 : List Bool) => .iptr (G.C_L_bool x_23)) fun x_23 =>
    .ret (.inl (decide (st_13.2 ≥ ((G.S_bool x_23).length : Int)))))))
    fun st_19 =>
    .split 77 (st_19)
    (.ret (.inr (.inr (.inr (.inr (.inr (.inr (.inr (.inr (.inr (false)))))))))))
    (.split 79 (st_17)
    (.ret (.inl (true)))
    (.split 83 ((i_16 : Int) != st_10)
    (.op (.idx 1 (.sl (G.S_int r_5.1)) (i_16 : Int)) ((r_5.1)[i_16]?) (fun (x_26 : Int) => .iptr (G.C_int x_26)) fun x_26 =>
    .op (.idx 1 (.sl (G.S_L_bool a0)) x_26) (at_ a0 x_26) (fun (x_27 : List Bool) => .iptr (G.C_L_bool x_27)) fun x_27 =>
    .op (.idx 1 (.sl (G.S_bool x_27)) st_13.2) (at_ x_27 st_13.2) (fun (x_28 : Bool) => .iptr (G.C_bool x_28)) fun x_28 =>
    .ret (.inl (x_28)))
    (.ret (.inl (false)))))))
    fun st_18 =>
    .ret (.inl (st_18))) fun st_17 => .inl (st_17))
    fun st_15 =>
    .split 97 (st_13.1)
    (.ret (.inl (st_15)))
    (.ret (.inl (false)))))
    fun st_14 =>
    .ret (.inl (st_14, IntKind.wrap .i64 (st_13.2 + 1))))
    (.ret (.inr (.inl (st_13.1)))))
    fun st_12 =>
    .split 103 (st_12 != (decide (st_10 < 0)))
    (.ret (.inr (.inr (.inr (false)))))
    (.ret (.inl ()))))
    fun _ =>
    .ret (.inl (IntKind.wrap .i64 (st_10 + 1))))
    (.ret (.inr (.inl ()))))
    fun _ =>
    .op (.call 7 []) f_synthesislaw33_alive (fun (r_36 : Bool) => .bool r_36) fun r_36 =>
    .ret r_36))))
noncomputable def f_synthesislaw33_BranchNeeds (a0 : List (List Bool)) (a1 : Int) : Option (Bool) := (p_synthesislaw33_BranchNeeds a0 a1).eval
theorem c_synthesislaw33_BranchNeeds (a0 : List (List Bool)) (a1 : Int) (res_ : Bool) (h : f_synthesislaw33_BranchNeeds a0 a1 = some res_) : (Ky.call 4 [.sl (G.S_L_bool a0), .int .i64 a1]).ok Try.prog (.bool res_) :=
  Ky.of_check (tt := tt) (enc := fun (r : Bool) => .bool r) (muts := []) (app := []) Try.tabOk Try.mixed Try.func4 (by kernel_rfl) rfl rfl Try.ntmps4 (by kernel_rfl) (fun _ _ _ h => (by cases h)) (p := p_synthesislaw33_BranchNeeds a0 a1) (
    ok_inner (ok_inner (ok_join (ok_op (fun _ h => c_synthesislaw33_sets _ _ _ h) fun r_2 hr_2 =>
    ok_split (fun b_3 =>
    ok_ret) (fun b_3 =>
    ok_ret)) fun st_1 =>
    ok_split (fun b_38 =>
    ok_op (fun _ h => c_synthesislaw33_alive  _ h) fun r_4 hr_4 =>
    ok_ret) (fun b_38 =>
    ok_op (fun _ h => c_branch_Cover _ _ _ h) fun r_5 hr_5 =>
    ok_split (fun b_37 =>
    ok_join (ok_split (fun b_8 =>
    ok_op (fun _ h => c_synthesislaw33_alive  _ h) fun r_7 hr_7 =>
    ok_ret) (fun b_8 =>
    ok_ret)) fun st_6 =>
    ok_ret) (fun b_37 =>
    ok_join (ok_loop fun st_10 =>
    ok_split (fun b_35 =>
    ok_join (ok_inner (ok_join (ok_loop fun st_13 =>
    ok_split (fun b_33 =>
    ok_join (ok_inner (ok_join (ok_rng fun i_16 st_17 _ =>
    ok_join (ok_inner (ok_join (ok_op (fun _ h => ixn G.hS_int G.hk_int h) fun x_20 hx_20 =>
    ok_split (fun b_25 =>
    ok_ret) (fun b_25 =>
    ok_op (fun _ e => Option.some.inj e ▸ ixn G.hS_int G.hk_int hx_20) fun x_21 hx_21 =>
    ok_split (fun b_24 =>
    ok_ret) (fun b_24 =>
    ok_op (fun _ e => Option.some.inj e ▸ ixn G.hS_int G.hk_int hx_20) fun x_22 hx_22 =>
    ok_op (fun _ h => ix G.hS_L_bool G.hk_L_bool h) fun x_23 hx_23 =>
    ok_ret))) fun st_19 =>
    ok_split (fun b_31 =>
    ok_ret) (fun b_31 =>
    ok_split (fun b_30 =>
    ok_ret) (fun b_30 =>
    ok_split (fun b_29 =>
    ok_op (fun _ h => ixn G.hS_int G.hk_int h) fun x_26 hx_26 =>
    ok_op (fun _ h => ix G.hS_L_bool G.hk_L_bool h) fun x_27 hx_27 =>
    ok_op (fun _ h => ix G.hS_bool G.hk_bool h) fun x_28 hx_28 =>
    ok_ret) (fun b_29 =>
    ok_ret))))) fun st_18 =>
    ok_ret) fun st_15 =>
    ok_split (fun b_32 =>
    ok_ret) (fun b_32 =>
    ok_ret))) fun st_14 =>
    ok_ret) (fun b_33 =>
    ok_ret)) fun st_12 =>
    ok_split (fun b_34 =>
    ok_ret) (fun b_34 =>
    ok_ret))) fun st_11 =>
    ok_ret) (fun b_35 =>
    ok_ret)) fun st_9 =>
    ok_op (fun _ h => c_synthesislaw33_alive  _ h) fun r_36 hr_36 =>
    ok_ret))))) h

noncomputable def p_synthesisref01_Count : Nat → List G.api_Value → Int → Prog (Int)
  | 0, _, _ => .fail
  | n_ + 1, l, most =>
    .inner (.inner (.join (σ := Int) [] (fun st_1 => ([(5, .int .i64 st_1)], []))
    (.loop (σ := Int × Int) (ρ := Int × Int) [0, 1] (fun st_2 => ([(5, .int .i64 st_2.1), (6, .int .i64 st_2.2)], [])) (0, 0) (fun _ y => y) fun st_2 =>
    .inner (.join (σ := Bool) [0, 1, 5, 6] (fun st_3 => ([(15, .bool st_3)], []))
    (.split 11 (decide (st_2.2 < ((G.S_api_Value l).length : Int)))
    (.ret (.inl (decide (st_2.1 ≤ most))))
    (.ret (.inl (false))))
    fun st_3 =>
    .split 15 (st_3)
    (.op (.idx 4 (.sl (G.S_api_Value l)) st_2.2) (at_ l st_2.2) (fun (x_5 : G.api_Value) => .iptr (G.C_api_Value x_5)) fun x_5 =>
    .op (.call 43 [.sl (G.S_api_Value x_5.Items), .int .i64 (IntKind.wrap .i64 (most - st_2.1))]) ((p_synthesisref01_Count n_ x_5.Items (IntKind.wrap .i64 (most - st_2.1))).eval) (fun (r_6 : Int) => .int .i64 r_6) fun r_6 =>
    .ret (.inl (IntKind.wrap .i64 (st_2.1 + (IntKind.wrap .i64 (1 + r_6))), IntKind.wrap .i64 (st_2.2 + 1))))
    (.ret (.inr (.inl (st_2.1))))))
    fun st_1 =>
    .ret st_1))
noncomputable def f_synthesisref01_Count (l : List G.api_Value) (most : Int) : Option (Int) := (p_synthesisref01_Count (big + (SizeOf.sizeOf l)) l most).eval
theorem cn_synthesisref01_Count : ∀ n, (∀ (l : List G.api_Value) (most : Int) (res_ : Int), (p_synthesisref01_Count n l most).eval = some res_ → (Ky.call 43 [.sl (G.S_api_Value l), .int .i64 most]).ok Try.prog (.int .i64 res_)) := by
  intro n
  induction n with
  | zero => exact fun l most _ h => by simp [p_synthesisref01_Count] at h
  | succ n_ ih =>
    have ih_synthesisref01_Count := ih
    exact fun l most res_ h => Ky.of_check (tt := tt) (enc := fun (r : Int) => .int .i64 r) (muts := []) (app := []) Try.tabOk Try.mixed Try.func43 (by kernel_rfl) rfl rfl Try.ntmps43 (by kernel_rfl) (fun _ _ _ h => (by cases h)) (p := p_synthesisref01_Count (n_ + 1) l most) (
    ok_inner (ok_inner (ok_join (ok_loop fun st_2 =>
    ok_inner (ok_join (ok_split (fun b_4 =>
    ok_ret) (fun b_4 =>
    ok_ret)) fun st_3 =>
    ok_split (fun b_7 =>
    ok_op (fun _ h => ix G.hS_api_Value G.hk_api_Value h) fun x_5 hx_5 =>
    ok_op (fun _ h => ih_synthesisref01_Count _ _ _ h) fun r_6 hr_6 =>
    ok_ret) (fun b_7 =>
    ok_ret))) fun st_1 =>
    ok_ret))) h
theorem c_synthesisref01_Count (l : List G.api_Value) (most : Int) (res_ : Int) (h : f_synthesisref01_Count l most = some res_) : (Ky.call 43 [.sl (G.S_api_Value l), .int .i64 most]).ok Try.prog (.int .i64 res_) := cn_synthesisref01_Count (big + (SizeOf.sizeOf l)) l most res_ h

noncomputable def p_synthesisref01_shallow : Nat → G.api_Value → Int → Prog (Bool)
  | 0, _, _ => .fail
  | n_ + 1, v, levels =>
    .inner (.inner (.join (σ := Bool) [1, 2] (fun st_1 => ([(13, .bool st_1)], []))
    (.split 8 (levels == 0)
    (.ret (.inl (true)))
    (.ret (.inl (decide ((v.Text.length : Int) > 100)))))
    fun st_1 =>
    .split 13 (st_1)
    (.ret false)
    (.join (σ := Unit) [] (fun _ => ([], []))
    (.loop (σ := Int) (ρ := Int) [1, 2] (fun st_4 => ([(5, .int .i64 st_4)], [])) (0) (fun _ y => y) fun st_4 =>
    .split 18 (decide (st_4 < ((G.S_api_Value v.Items).length : Int)))
    (.op (.idx 4 (.sl (G.S_api_Value v.Items)) st_4) (at_ v.Items st_4) (fun (x_5 : G.api_Value) => .iptr (G.C_api_Value x_5)) fun x_5 =>
    .op (.call 44 [.agg [.int .i64 x_5.Typ, .int .i64 x_5.Num, .str x_5.Text, .sl (G.S_api_Value x_5.Items)], .int .i64 (IntKind.wrap .i64 (levels - 1))]) ((p_synthesisref01_shallow n_ x_5 (IntKind.wrap .i64 (levels - 1))).eval) (fun (r_6 : Bool) => .bool r_6) fun r_6 =>
    .split 29 (!r_6)
    (.ret (.inr (.inr (false))))
    (.ret (.inl (IntKind.wrap .i64 (st_4 + 1)))))
    (.ret (.inr (.inl ()))))
    fun _ =>
    .ret true)))
noncomputable def f_synthesisref01_shallow (v : G.api_Value) (levels : Int) : Option (Bool) := (p_synthesisref01_shallow (big + (SizeOf.sizeOf v)) v levels).eval
theorem cn_synthesisref01_shallow : ∀ n, (∀ (v : G.api_Value) (levels : Int) (res_ : Bool), (p_synthesisref01_shallow n v levels).eval = some res_ → (Ky.call 44 [.agg (G.C_api_Value v), .int .i64 levels]).ok Try.prog (.bool res_)) := by
  intro n
  induction n with
  | zero => exact fun v levels _ h => by simp [p_synthesisref01_shallow] at h
  | succ n_ ih =>
    have ih_synthesisref01_shallow := ih
    exact fun v levels res_ h => Ky.of_check (tt := tt) (enc := fun (r : Bool) => .bool r) (muts := []) (app := []) Try.tabOk Try.mixed Try.func44 (by kernel_rfl) rfl rfl Try.ntmps44 (by kernel_rfl) (fun _ _ _ h => (by cases h)) (p := p_synthesisref01_shallow (n_ + 1) v levels) (
    ok_inner (ok_inner (ok_join (ok_split (fun b_2 =>
    ok_ret) (fun b_2 =>
    ok_ret)) fun st_1 =>
    ok_split (fun b_9 =>
    ok_ret) (fun b_9 =>
    ok_join (ok_loop fun st_4 =>
    ok_split (fun b_8 =>
    ok_op (fun _ h => ix G.hS_api_Value G.hk_api_Value h) fun x_5 hx_5 =>
    ok_op (fun _ h => ih_synthesisref01_shallow _ _ _ h) fun r_6 hr_6 =>
    ok_split (fun b_7 =>
    ok_ret) (fun b_7 =>
    ok_ret)) (fun b_8 =>
    ok_ret)) fun st_3 =>
    ok_ret)))) h
theorem c_synthesisref01_shallow (v : G.api_Value) (levels : Int) (res_ : Bool) (h : f_synthesisref01_shallow v levels = some res_) : (Ky.call 44 [.agg (G.C_api_Value v), .int .i64 levels]).ok Try.prog (.bool res_) := cn_synthesisref01_shallow (big + (SizeOf.sizeOf v)) v levels res_ h

noncomputable def p_synthesisref01_Small (v : G.api_Value) : Prog (Bool) :=
    .inner (.join (σ := Bool) [] (fun st_1 => ([(2, .bool st_1)], []))
    (.op (.call 43 [.sl [G.C_api_Value v], .int .i64 90]) (f_synthesisref01_Count [v] 90) (fun (r_2 : Int) => .int .i64 r_2) fun r_2 =>
    .split 7 (decide (r_2 ≤ 90))
    (.op (.call 44 [.agg [.int .i64 v.Typ, .int .i64 v.Num, .str v.Text, .sl (G.S_api_Value v.Items)], .int .i64 8]) (f_synthesisref01_shallow v 8) (fun (r_3 : Bool) => .bool r_3) fun r_3 =>
    .ret (.inl (r_3)))
    (.ret (.inl (false))))
    fun st_1 =>
    .ret st_1)
noncomputable def f_synthesisref01_Small (v : G.api_Value) : Option (Bool) := (p_synthesisref01_Small v).eval
theorem c_synthesisref01_Small (v : G.api_Value) (res_ : Bool) (h : f_synthesisref01_Small v = some res_) : (Ky.call 29 [.agg (G.C_api_Value v)]).ok Try.prog (.bool res_) :=
  Ky.of_check (tt := tt) (enc := fun (r : Bool) => .bool r) (muts := []) (app := []) Try.tabOk Try.mixed Try.func29 (by kernel_rfl) rfl rfl Try.ntmps29 (by kernel_rfl) (fun _ _ _ h => (by cases h)) (p := p_synthesisref01_Small v) (
    ok_inner (ok_join (ok_op (fun _ h => by simpa only [G.cons_api_Value, G.nil_api_Value] using (fun _ h => c_synthesisref01_Count _ _ _ h) _ h) fun r_2 hr_2 =>
    ok_split (fun b_4 =>
    ok_op (fun _ h => c_synthesisref01_shallow _ _ _ h) fun r_3 hr_3 =>
    ok_ret) (fun b_4 =>
    ok_ret)) fun st_1 =>
    ok_ret)) h

noncomputable def p_synthesisref13_Few (a0 : G.api_Language) : Prog (Bool) :=
    .inner (.inner (.join (σ := Bool) [1] (fun st_1 => ([(27, .bool st_1)], []))
    (.split 10 (decide ((a0.Name.length : Int) > 40))
    (.ret (.inl (true)))
    (.split 16 (decide (((G.S_int a0.Inputs).length : Int) > 6))
    (.ret (.inl (true)))
    (.split 22 (decide (((G.S_api_Symbol a0.Symbols).length : Int) > 18))
    (.ret (.inl (true)))
    (.ret (.inl (decide (((G.S_api_Rule a0.Rules).length : Int) > 30)))))))
    fun st_1 =>
    .split 27 (st_1)
    (.ret false)
    (.join (σ := Unit) [1] (fun _ => ([], []))
    (.loop (σ := Int) (ρ := Int) [1] (fun st_6 => ([(3, .int .i64 st_6)], [])) (0) (fun _ y => y) fun st_6 =>
    .split 32 (decide (st_6 < ((G.S_api_Symbol a0.Symbols).length : Int)))
    (.op (.idx 2 (.sl (G.S_api_Symbol a0.Symbols)) st_6) (at_ a0.Symbols st_6) (fun (x_7 : G.api_Symbol) => .iptr (G.C_api_Symbol x_7)) fun x_7 =>
    .split 42 (decide ((x_7.Name.length : Int) > 40))
    (.ret (.inr (.inr (false))))
    (.ret (.inl (IntKind.wrap .i64 (st_6 + 1)))))
    (.ret (.inr (.inl ()))))
    fun _ =>
    .join (σ := Unit) [] (fun _ => ([], []))
    (.loop (σ := Int) (ρ := Int) [1] (fun st_11 => ([(4, .int .i64 st_11)], [])) (0) (fun _ y => y) fun st_11 =>
    .split 47 (decide (st_11 < ((G.S_api_Rule a0.Rules).length : Int)))
    (.op (.idx 9 (.sl (G.S_api_Rule a0.Rules)) st_11) (at_ a0.Rules st_11) (fun (x_12 : G.api_Rule) => .iptr (G.C_api_Rule x_12)) fun x_12 =>
    .join (σ := Bool) [1, 4] (fun st_13 => ([(70, .bool st_13)], []))
    (.op (.call 29 [.agg [.int .i64 x_12.Const.Typ, .int .i64 x_12.Const.Num, .str x_12.Const.Text, .sl (G.S_api_Value x_12.Const.Items)]]) (f_synthesisref01_Small x_12.Const) (fun (r_14 : Bool) => .bool r_14) fun r_14 =>
    .split 59 (!r_14)
    (.ret (.inl (true)))
    (.split 65 (decide ((x_12.Op.length : Int) > 40))
    (.ret (.inl (true)))
    (.ret (.inl (decide (((G.S_int x_12.Args).length : Int) > 6))))))
    fun st_13 =>
    .split 70 (st_13)
    (.ret (.inr (.inr (false))))
    (.ret (.inl (IntKind.wrap .i64 (st_11 + 1)))))
    (.ret (.inr (.inl ()))))
    fun _ =>
    .ret true)))
noncomputable def f_synthesisref13_Few (a0 : G.api_Language) : Option (Bool) := (p_synthesisref13_Few a0).eval
theorem c_synthesisref13_Few (a0 : G.api_Language) (res_ : Bool) (h : f_synthesisref13_Few a0 = some res_) : (Ky.call 20 [.agg (G.C_api_Language a0)]).ok Try.prog (.bool res_) :=
  Ky.of_check (tt := tt) (enc := fun (r : Bool) => .bool r) (muts := []) (app := []) Try.tabOk Try.mixed Try.func20 (by kernel_rfl) rfl rfl Try.ntmps20 (by kernel_rfl) (fun _ _ _ h => (by cases h)) (p := p_synthesisref13_Few a0) (
    ok_inner (ok_inner (ok_join (ok_split (fun b_4 =>
    ok_ret) (fun b_4 =>
    ok_split (fun b_3 =>
    ok_ret) (fun b_3 =>
    ok_split (fun b_2 =>
    ok_ret) (fun b_2 =>
    ok_ret)))) fun st_1 =>
    ok_split (fun b_19 =>
    ok_ret) (fun b_19 =>
    ok_join (ok_loop fun st_6 =>
    ok_split (fun b_9 =>
    ok_op (fun _ h => ix G.hS_api_Symbol G.hk_api_Symbol h) fun x_7 hx_7 =>
    ok_split (fun b_8 =>
    ok_ret) (fun b_8 =>
    ok_ret)) (fun b_9 =>
    ok_ret)) fun st_5 =>
    ok_join (ok_loop fun st_11 =>
    ok_split (fun b_18 =>
    ok_op (fun _ h => ix G.hS_api_Rule G.hk_api_Rule h) fun x_12 hx_12 =>
    ok_join (ok_op (fun _ h => c_synthesisref01_Small _ _ h) fun r_14 hr_14 =>
    ok_split (fun b_16 =>
    ok_ret) (fun b_16 =>
    ok_split (fun b_15 =>
    ok_ret) (fun b_15 =>
    ok_ret))) fun st_13 =>
    ok_split (fun b_17 =>
    ok_ret) (fun b_17 =>
    ok_ret)) (fun b_18 =>
    ok_ret)) fun st_10 =>
    ok_ret)))) h

noncomputable def p_synthesisref13_Light (l : G.api_Language) : Prog (Bool) :=
    .inner (.join (σ := Bool) [] (fun st_1 => ([(2, .bool st_1)], []))
    (.op (.call 20 [.agg [.str l.Name, .sl (G.S_int l.Inputs), .sl (G.S_api_Symbol l.Symbols), .sl (G.S_api_Rule l.Rules)]]) (f_synthesisref13_Few l) (fun (r_2 : Bool) => .bool r_2) fun r_2 =>
    .split 5 (r_2)
    (.split 11 (decide (((G.S_int l.Inputs).length : Int) ≤ 3))
    (.split 17 (decide (((G.S_api_Symbol l.Symbols).length : Int) ≤ 6))
    (.ret (.inl (decide (((G.S_api_Rule l.Rules).length : Int) ≤ 12))))
    (.ret (.inl (false))))
    (.ret (.inl (false))))
    (.ret (.inl (false))))
    fun st_1 =>
    .ret st_1)
noncomputable def f_synthesisref13_Light (l : G.api_Language) : Option (Bool) := (p_synthesisref13_Light l).eval
theorem c_synthesisref13_Light (l : G.api_Language) (res_ : Bool) (h : f_synthesisref13_Light l = some res_) : (Ky.call 11 [.agg (G.C_api_Language l)]).ok Try.prog (.bool res_) :=
  Ky.of_check (tt := tt) (enc := fun (r : Bool) => .bool r) (muts := []) (app := []) Try.tabOk Try.mixed Try.func11 (by kernel_rfl) rfl rfl Try.ntmps11 (by kernel_rfl) (fun _ _ _ h => (by cases h)) (p := p_synthesisref13_Light l) (
    ok_inner (ok_join (ok_op (fun _ h => c_synthesisref13_Few _ _ h) fun r_2 hr_2 =>
    ok_split (fun b_5 =>
    ok_split (fun b_4 =>
    ok_split (fun b_3 =>
    ok_ret) (fun b_3 =>
    ok_ret)) (fun b_4 =>
    ok_ret)) (fun b_5 =>
    ok_ret)) fun st_1 =>
    ok_ret)) h

noncomputable def p_synthesisref13_left : Nat → G.api_Term → Int → Prog (Int)
  | 0, _, _ => .fail
  | n_ + 1, t, most =>
    .inner (.inner (.join (σ := Int) [] (fun st_1 => ([(1, .int .i64 st_1)], []))
    (.loop (σ := Int × Int) (ρ := Int × Int) [2] (fun st_2 => ([(1, .int .i64 st_2.1), (5, .int .i64 st_2.2)], [])) (IntKind.wrap .i64 (most - 1), 0) (fun _ y => y) fun st_2 =>
    .inner (.join (σ := Bool) [1, 2, 5] (fun st_3 => ([(16, .bool st_3)], []))
    (.split 13 (decide (st_2.2 < ((G.S_api_Term t.Args).length : Int)))
    (.ret (.inl (decide (st_2.1 ≥ 0))))
    (.ret (.inl (false))))
    fun st_3 =>
    .split 16 (st_3)
    (.op (.idx 2 (.sl (G.S_api_Term t.Args)) st_2.2) (at_ t.Args st_2.2) (fun (x_5 : G.api_Term) => .iptr (G.C_api_Term x_5)) fun x_5 =>
    .op (.call 30 [.agg [.int .i64 x_5.Rule, .sl (G.S_api_Term x_5.Args)], .int .i64 st_2.1]) ((p_synthesisref13_left n_ x_5 st_2.1).eval) (fun (r_6 : Int) => .int .i64 r_6) fun r_6 =>
    .ret (.inl (r_6, IntKind.wrap .i64 (st_2.2 + 1))))
    (.ret (.inr (.inl (st_2.1))))))
    fun st_1 =>
    .ret st_1))
noncomputable def f_synthesisref13_left (t : G.api_Term) (most : Int) : Option (Int) := (p_synthesisref13_left (big + (SizeOf.sizeOf t)) t most).eval
theorem cn_synthesisref13_left : ∀ n, (∀ (t : G.api_Term) (most : Int) (res_ : Int), (p_synthesisref13_left n t most).eval = some res_ → (Ky.call 30 [.agg (G.C_api_Term t), .int .i64 most]).ok Try.prog (.int .i64 res_)) := by
  intro n
  induction n with
  | zero => exact fun t most _ h => by simp [p_synthesisref13_left] at h
  | succ n_ ih =>
    have ih_synthesisref13_left := ih
    exact fun t most res_ h => Ky.of_check (tt := tt) (enc := fun (r : Int) => .int .i64 r) (muts := []) (app := []) Try.tabOk Try.mixed Try.func30 (by kernel_rfl) rfl rfl Try.ntmps30 (by kernel_rfl) (fun _ _ _ h => (by cases h)) (p := p_synthesisref13_left (n_ + 1) t most) (
    ok_inner (ok_inner (ok_join (ok_loop fun st_2 =>
    ok_inner (ok_join (ok_split (fun b_4 =>
    ok_ret) (fun b_4 =>
    ok_ret)) fun st_3 =>
    ok_split (fun b_7 =>
    ok_op (fun _ h => ix G.hS_api_Term G.hk_api_Term h) fun x_5 hx_5 =>
    ok_op (fun _ h => ih_synthesisref13_left _ _ _ h) fun r_6 hr_6 =>
    ok_ret) (fun b_7 =>
    ok_ret))) fun st_1 =>
    ok_ret))) h
theorem c_synthesisref13_left (t : G.api_Term) (most : Int) (res_ : Int) (h : f_synthesisref13_left t most = some res_) : (Ky.call 30 [.agg (G.C_api_Term t), .int .i64 most]).ok Try.prog (.int .i64 res_) := cn_synthesisref13_left (big + (SizeOf.sizeOf t)) t most res_ h

noncomputable def p_synthesisref13_Within (t : G.api_Term) (most : Int) : Prog (Bool) :=
    .op (.call 30 [.agg [.int .i64 t.Rule, .sl (G.S_api_Term t.Args)], .int .i64 most]) (f_synthesisref13_left t most) (fun (r_1 : Int) => .int .i64 r_1) fun r_1 =>
    .ret (decide (r_1 ≥ 0))
noncomputable def f_synthesisref13_Within (t : G.api_Term) (most : Int) : Option (Bool) := (p_synthesisref13_Within t most).eval
theorem c_synthesisref13_Within (t : G.api_Term) (most : Int) (res_ : Bool) (h : f_synthesisref13_Within t most = some res_) : (Ky.call 21 [.agg (G.C_api_Term t), .int .i64 most]).ok Try.prog (.bool res_) :=
  Ky.of_check (tt := tt) (enc := fun (r : Bool) => .bool r) (muts := []) (app := []) Try.tabOk Try.mixed Try.func21 (by kernel_rfl) rfl rfl Try.ntmps21 (by kernel_rfl) (fun _ _ _ h => (by cases h)) (p := p_synthesisref13_Within t most) (
    ok_op (fun _ h => c_synthesisref13_left _ _ _ h) fun r_1 hr_1 =>
    ok_ret) h

noncomputable def p_synthesislaw33_few (d : G.api_Decisions) : Prog (Bool) :=
    .inner (.inner (.join (σ := Bool) [1] (fun st_1 => ([(13, .bool st_1)], []))
    (.split 8 (decide (((G.S_api_Branch d.Branches).length : Int) > 18))
    (.ret (.inl (true)))
    (.op (.call 21 [.agg [.int .i64 d.Else.Rule, .sl (G.S_api_Term d.Else.Args)], .int .i64 12]) (f_synthesisref13_Within d.Else 12) (fun (r_2 : Bool) => .bool r_2) fun r_2 =>
    .ret (.inl (!r_2))))
    fun st_1 =>
    .split 13 (st_1)
    (.ret false)
    (.join (σ := Unit) [] (fun _ => ([], []))
    (.loop (σ := Int) (ρ := Int) [1] (fun st_5 => ([(3, .int .i64 st_5)], [])) (0) (fun _ y => y) fun st_5 =>
    .split 18 (decide (st_5 < ((G.S_api_Branch d.Branches).length : Int)))
    (.inner (.join (σ := Bool) [1, 3] (fun st_6 => ([(38, .bool st_6)], []))
    (.op (.idx 4 (.sl (G.S_api_Branch d.Branches)) st_5) (at_ d.Branches st_5) (fun (x_7 : G.api_Branch) => .iptr (G.C_api_Branch x_7)) fun x_7 =>
    .op (.call 21 [.agg [.int .i64 x_7.Test.Rule, .sl (G.S_api_Term x_7.Test.Args)], .int .i64 12]) (f_synthesisref13_Within x_7.Test 12) (fun (r_8 : Bool) => .bool r_8) fun r_8 =>
    .split 29 (!r_8)
    (.ret (.inl (true)))
    (.op (.idx 4 (.sl (G.S_api_Branch d.Branches)) st_5) (some x_7) (fun (x_9 : G.api_Branch) => .iptr (G.C_api_Branch x_9)) fun x_9 =>
    .op (.call 21 [.agg [.int .i64 x_9.Then.Rule, .sl (G.S_api_Term x_9.Then.Args)], .int .i64 12]) (f_synthesisref13_Within x_9.Then 12) (fun (r_10 : Bool) => .bool r_10) fun r_10 =>
    .ret (.inl (!r_10))))
    fun st_6 =>
    .split 38 (st_6)
    (.ret (.inr (.inr (false))))
    (.ret (.inl (IntKind.wrap .i64 (st_5 + 1))))))
    (.ret (.inr (.inl ()))))
    fun _ =>
    .ret true)))
noncomputable def f_synthesislaw33_few (d : G.api_Decisions) : Option (Bool) := (p_synthesislaw33_few d).eval
theorem c_synthesislaw33_few (d : G.api_Decisions) (res_ : Bool) (h : f_synthesislaw33_few d = some res_) : (Ky.call 12 [.agg (G.C_api_Decisions d)]).ok Try.prog (.bool res_) :=
  Ky.of_check (tt := tt) (enc := fun (r : Bool) => .bool r) (muts := []) (app := []) Try.tabOk Try.mixed Try.func12 (by kernel_rfl) rfl rfl Try.ntmps12 (by kernel_rfl) (fun _ _ _ h => (by cases h)) (p := p_synthesislaw33_few d) (
    ok_inner (ok_inner (ok_join (ok_split (fun b_3 =>
    ok_ret) (fun b_3 =>
    ok_op (fun _ h => c_synthesisref13_Within _ _ _ h) fun r_2 hr_2 =>
    ok_ret)) fun st_1 =>
    ok_split (fun b_14 =>
    ok_ret) (fun b_14 =>
    ok_join (ok_loop fun st_5 =>
    ok_split (fun b_13 =>
    ok_inner (ok_join (ok_op (fun _ h => ix G.hS_api_Branch G.hk_api_Branch h) fun x_7 hx_7 =>
    ok_op (fun _ h => c_synthesisref13_Within _ _ _ h) fun r_8 hr_8 =>
    ok_split (fun b_11 =>
    ok_ret) (fun b_11 =>
    ok_op (fun _ e => Option.some.inj e ▸ ix G.hS_api_Branch G.hk_api_Branch hx_7) fun x_9 hx_9 =>
    ok_op (fun _ h => c_synthesisref13_Within _ _ _ h) fun r_10 hr_10 =>
    ok_ret)) fun st_6 =>
    ok_split (fun b_12 =>
    ok_ret) (fun b_12 =>
    ok_ret))) (fun b_13 =>
    ok_ret)) fun st_4 =>
    ok_ret)))) h

noncomputable def p_grammar_named (s : List UInt8) : Prog (Bool) :=
    .inner (.inner (.join (σ := Bool) [0] (fun st_1 => ([(13, .bool st_1)], []))
    (.split 9 (decide ((s.length : Int) < 1))
    (.ret (.inl (true)))
    (.ret (.inl (decide ((s.length : Int) > 24)))))
    fun st_1 =>
    .split 13 (st_1)
    (.ret false)
    (.join (σ := Unit) [] (fun _ => ([], []))
    (.rng (σ := Unit) 0 17 (s.length) [0, 15] (fun i _ => ([(16, .int .i64 i)], [])) () (fun i_4 _ =>
    .op (.stridx (.str s) (i_4 : Int)) (byn s i_4) (fun (c_6 : Int) => .int .u8 c_6) fun c_6 =>
    .join (σ := Bool) [0, 3, 4, 15, 16] (fun st_7 => ([(5, .bool st_7)], []))
    (.split 25 (decide ((intBits .or .u8 c_6 32) ≥ 97))
    (.ret (.inl (decide ((intBits .or .u8 c_6 32) ≤ 122))))
    (.ret (.inl (false))))
    fun st_7 =>
    .join (σ := Bool) [0, 15, 16] (fun st_9 => ([(47, .bool st_9)], []))
    (.split 32 (!st_7)
    (.split 35 ((i_4 : Int) == 0)
    (.ret (.inl (true)))
    (.split 38 (c_6 != 45)
    (.split 41 (decide (c_6 < 48))
    (.ret (.inl (true)))
    (.ret (.inl (decide (c_6 > 57)))))
    (.ret (.inl (false)))))
    (.ret (.inl (false))))
    fun st_9 =>
    .split 47 (st_9)
    (.ret (.inr (.inr (false))))
    (.ret (.inl ()))) fun _ => .inl ())
    fun _ =>
    .ret true)))
noncomputable def f_grammar_named (s : List UInt8) : Option (Bool) := (p_grammar_named s).eval
theorem c_grammar_named (s : List UInt8) (res_ : Bool) (h : f_grammar_named s = some res_) : (Ky.call 31 [.str s]).ok Try.prog (.bool res_) :=
  Ky.of_check (tt := tt) (enc := fun (r : Bool) => .bool r) (muts := []) (app := []) Try.tabOk Try.mixed Try.func31 (by kernel_rfl) rfl rfl Try.ntmps31 (by kernel_rfl) (fun _ _ _ h => (by cases h)) (p := p_grammar_named s) (
    ok_inner (ok_inner (ok_join (ok_split (fun b_2 =>
    ok_ret) (fun b_2 =>
    ok_ret)) fun st_1 =>
    ok_split (fun b_15 =>
    ok_ret) (fun b_15 =>
    ok_join (ok_rng fun i_4 st_5 _ =>
    ok_op (fun _ h => sxn h) fun c_6 hc_6 =>
    ok_join (ok_split (fun b_8 =>
    ok_ret) (fun b_8 =>
    ok_ret)) fun st_7 =>
    ok_join (ok_split (fun b_13 =>
    ok_split (fun b_12 =>
    ok_ret) (fun b_12 =>
    ok_split (fun b_11 =>
    ok_split (fun b_10 =>
    ok_ret) (fun b_10 =>
    ok_ret)) (fun b_11 =>
    ok_ret))) (fun b_13 =>
    ok_ret)) fun st_9 =>
    ok_split (fun b_14 =>
    ok_ret) (fun b_14 =>
    ok_ret)) fun st_3 =>
    ok_ret)))) h

noncomputable def p_grammar_typed (t : Int) : Prog (Bool) :=
    .inner (.join (σ := Bool) [] (fun st_1 => ([(2, .bool st_1)], []))
    (.split 5 (decide (t ≥ 1))
    (.ret (.inl (decide (t ≤ 8))))
    (.ret (.inl (false))))
    fun st_1 =>
    .ret st_1)
noncomputable def f_grammar_typed (t : Int) : Option (Bool) := (p_grammar_typed t).eval
theorem c_grammar_typed (t : Int) (res_ : Bool) (h : f_grammar_typed t = some res_) : (Ky.call 32 [.int .i64 t]).ok Try.prog (.bool res_) :=
  Ky.of_check (tt := tt) (enc := fun (r : Bool) => .bool r) (muts := []) (app := []) Try.tabOk Try.mixed Try.func32 (by kernel_rfl) rfl rfl Try.ntmps32 (by kernel_rfl) (fun _ _ _ h => (by cases h)) (p := p_grammar_typed t) (
    ok_inner (ok_join (ok_split (fun b_2 =>
    ok_ret) (fun b_2 =>
    ok_ret)) fun st_1 =>
    ok_ret)) h

noncomputable def p_slices_Equal_int_int (s1 : List Int) (s2 : List Int) : Prog (Bool) :=
    .split 10 (((G.S_int s1).length : Int) != ((G.S_int s2).length : Int))
    (.ret false)
    (.join (σ := Unit) [] (fun _ => ([], []))
    (.rng (σ := Unit) 0 14 ((G.S_int s1).length) [0, 1, 12] (fun i _ => ([(13, .int .i64 i)], [])) () (fun i_2 _ =>
    .op (.idx 1 (.sl (G.S_int s1)) (i_2 : Int)) ((s1)[i_2]?) (fun (x_4 : Int) => .iptr (G.C_int x_4)) fun x_4 =>
    .op (.idx 1 (.sl (G.S_int s2)) (i_2 : Int)) ((s2)[i_2]?) (fun (x_5 : Int) => .iptr (G.C_int x_5)) fun x_5 =>
    .split 24 (x_4 != x_5)
    (.ret (.inr (.inr (false))))
    (.ret (.inl ()))) fun _ => .inl ())
    fun _ =>
    .ret true)
noncomputable def f_slices_Equal_int_int (s1 : List Int) (s2 : List Int) : Option (Bool) := (p_slices_Equal_int_int s1 s2).eval
theorem c_slices_Equal_int_int (s1 : List Int) (s2 : List Int) (res_ : Bool) (h : f_slices_Equal_int_int s1 s2 = some res_) : (Ky.call 50 [.sl (G.S_int s1), .sl (G.S_int s2)]).ok Try.prog (.bool res_) :=
  Ky.of_check (tt := tt) (enc := fun (r : Bool) => .bool r) (muts := []) (app := []) Try.tabOk Try.mixed Try.func50 (by kernel_rfl) rfl rfl Try.ntmps50 (by kernel_rfl) (fun _ _ _ h => (by cases h)) (p := p_slices_Equal_int_int s1 s2) (
    ok_split (fun b_7 =>
    ok_ret) (fun b_7 =>
    ok_join (ok_rng fun i_2 st_3 _ =>
    ok_op (fun _ h => ixn G.hS_int G.hk_int h) fun x_4 hx_4 =>
    ok_op (fun _ h => ixn G.hS_int G.hk_int h) fun x_5 hx_5 =>
    ok_split (fun b_6 =>
    ok_ret) (fun b_6 =>
    ok_ret)) fun st_1 =>
    ok_ret)) h

noncomputable def p_value_Compare : Nat → G.api_Value → G.api_Value → Prog (Int)
  | 0, _, _ => .fail
  | n_ + 1, a0, a1 =>
    .split 8 (decide (a0.Typ < a1.Typ))
    (.ret (-1))
    (.split 14 (decide (a0.Typ > a1.Typ))
    (.ret 1)
    (.split 20 (decide (a0.Num < a1.Num))
    (.ret (-1))
    (.split 26 (decide (a0.Num > a1.Num))
    (.ret 1)
    (.split 32 (Op.bytesLess a0.Text a1.Text)
    (.ret (-1))
    (.split 38 (!(Op.bytesLess a0.Text a1.Text || a0.Text == a1.Text))
    (.ret 1)
    (.join (σ := Unit) [2, 3] (fun _ => ([], []))
    (.rng (σ := Unit) 45 48 ((G.S_api_Value a0.Items).length) [2, 3, 45, 46] (fun i _ => ([(47, .int .i64 i)], [])) () (fun i_2 _ =>
    .op (.idx 4 (.sl (G.S_api_Value a0.Items)) (i_2 : Int)) ((a0.Items)[i_2]?) (fun (x_4 : G.api_Value) => .iptr (G.C_api_Value x_4)) fun x_4 =>
    .split 56 ((i_2 : Int) == ((G.S_api_Value a1.Items).length : Int))
    (.ret (.inr (.inr (1))))
    (.op (.idx 4 (.sl (G.S_api_Value a1.Items)) (i_2 : Int)) ((a1.Items)[i_2]?) (fun (x_5 : G.api_Value) => .iptr (G.C_api_Value x_5)) fun x_5 =>
    .op (.call 63 [.agg [.int .i64 x_4.Typ, .int .i64 x_4.Num, .str x_4.Text, .sl (G.S_api_Value x_4.Items)], .agg [.int .i64 x_5.Typ, .int .i64 x_5.Num, .str x_5.Text, .sl (G.S_api_Value x_5.Items)]]) ((p_value_Compare n_ x_4 x_5).eval) (fun (r_6 : Int) => .int .i64 r_6) fun r_6 =>
    .split 65 (r_6 != 0)
    (.ret (.inr (.inr (r_6))))
    (.ret (.inl ())))) fun _ => .inl ())
    fun _ =>
    .split 74 (decide (((G.S_api_Value a0.Items).length : Int) < ((G.S_api_Value a1.Items).length : Int)))
    (.ret (-1))
    (.ret 0)))))))
noncomputable def f_value_Compare (a0 : G.api_Value) (a1 : G.api_Value) : Option (Int) := (p_value_Compare (big + (SizeOf.sizeOf a0 + SizeOf.sizeOf a1)) a0 a1).eval
theorem cn_value_Compare : ∀ n, (∀ (a0 : G.api_Value) (a1 : G.api_Value) (res_ : Int), (p_value_Compare n a0 a1).eval = some res_ → (Ky.call 63 [.agg (G.C_api_Value a0), .agg (G.C_api_Value a1)]).ok Try.prog (.int .i64 res_)) := by
  intro n
  induction n with
  | zero => exact fun a0 a1 _ h => by simp [p_value_Compare] at h
  | succ n_ ih =>
    have ih_value_Compare := ih
    exact fun a0 a1 res_ h => Ky.of_check (tt := tt) (enc := fun (r : Int) => .int .i64 r) (muts := []) (app := []) Try.tabOk Try.mixed Try.func63 (by kernel_rfl) rfl rfl Try.ntmps63 (by kernel_rfl) (fun _ _ _ h => (by cases h)) (p := p_value_Compare (n_ + 1) a0 a1) (
    ok_split (fun b_15 =>
    ok_ret) (fun b_15 =>
    ok_split (fun b_14 =>
    ok_ret) (fun b_14 =>
    ok_split (fun b_13 =>
    ok_ret) (fun b_13 =>
    ok_split (fun b_12 =>
    ok_ret) (fun b_12 =>
    ok_split (fun b_11 =>
    ok_ret) (fun b_11 =>
    ok_split (fun b_10 =>
    ok_ret) (fun b_10 =>
    ok_join (ok_rng fun i_2 st_3 _ =>
    ok_op (fun _ h => ixn G.hS_api_Value G.hk_api_Value h) fun x_4 hx_4 =>
    ok_split (fun b_8 =>
    ok_ret) (fun b_8 =>
    ok_op (fun _ h => ixn G.hS_api_Value G.hk_api_Value h) fun x_5 hx_5 =>
    ok_op (fun _ h => ih_value_Compare _ _ _ h) fun r_6 hr_6 =>
    ok_split (fun b_7 =>
    ok_ret) (fun b_7 =>
    ok_ret))) fun st_1 =>
    ok_split (fun b_9 =>
    ok_ret) (fun b_9 =>
    ok_ret)))))))) h
theorem c_value_Compare (a0 : G.api_Value) (a1 : G.api_Value) (res_ : Int) (h : f_value_Compare a0 a1 = some res_) : (Ky.call 63 [.agg (G.C_api_Value a0), .agg (G.C_api_Value a1)]).ok Try.prog (.int .i64 res_) := cn_value_Compare (big + (SizeOf.sizeOf a0 + SizeOf.sizeOf a1)) a0 a1 res_ h

noncomputable def p_value_Equal (a : G.api_Value) (b : G.api_Value) : Prog (Bool) :=
    .op (.call 63 [.agg [.int .i64 a.Typ, .int .i64 a.Num, .str a.Text, .sl (G.S_api_Value a.Items)], .agg [.int .i64 b.Typ, .int .i64 b.Num, .str b.Text, .sl (G.S_api_Value b.Items)]]) (f_value_Compare a b) (fun (r_1 : Int) => .int .i64 r_1) fun r_1 =>
    .ret (r_1 == 0)
noncomputable def f_value_Equal (a : G.api_Value) (b : G.api_Value) : Option (Bool) := (p_value_Equal a b).eval
theorem c_value_Equal (a : G.api_Value) (b : G.api_Value) (res_ : Bool) (h : f_value_Equal a b = some res_) : (Ky.call 51 [.agg (G.C_api_Value a), .agg (G.C_api_Value b)]).ok Try.prog (.bool res_) :=
  Ky.of_check (tt := tt) (enc := fun (r : Bool) => .bool r) (muts := []) (app := []) Try.tabOk Try.mixed Try.func51 (by kernel_rfl) rfl rfl Try.ntmps51 (by kernel_rfl) (fun _ _ _ h => (by cases h)) (p := p_value_Equal a b) (
    ok_op (fun _ h => c_value_Compare _ _ _ h) fun r_1 hr_1 =>
    ok_ret) h

noncomputable def p_grammar_sameRule (a : G.api_Rule) (b : G.api_Rule) : Prog (Bool) :=
    .inner (.join (σ := Bool) [] (fun st_1 => ([(4, .bool st_1)], []))
    (.split 10 (a.Symbol == b.Symbol)
    (.split 17 (a.Kind == b.Kind)
    (.split 24 (a.Input == b.Input)
    (.split 31 (a.Op == b.Op)
    (.op (.call 50 [.sl (G.S_int a.Args), .sl (G.S_int b.Args)]) (f_slices_Equal_int_int a.Args b.Args) (fun (r_2 : Bool) => .bool r_2) fun r_2 =>
    .split 38 (r_2)
    (.op (.call 51 [.agg [.int .i64 a.Const.Typ, .int .i64 a.Const.Num, .str a.Const.Text, .sl (G.S_api_Value a.Const.Items)], .agg [.int .i64 b.Const.Typ, .int .i64 b.Const.Num, .str b.Const.Text, .sl (G.S_api_Value b.Const.Items)]]) (f_value_Equal a.Const b.Const) (fun (r_3 : Bool) => .bool r_3) fun r_3 =>
    .ret (.inl (r_3)))
    (.ret (.inl (false))))
    (.ret (.inl (false))))
    (.ret (.inl (false))))
    (.ret (.inl (false))))
    (.ret (.inl (false))))
    fun st_1 =>
    .ret st_1)
noncomputable def f_grammar_sameRule (a : G.api_Rule) (b : G.api_Rule) : Option (Bool) := (p_grammar_sameRule a b).eval
theorem c_grammar_sameRule (a : G.api_Rule) (b : G.api_Rule) (res_ : Bool) (h : f_grammar_sameRule a b = some res_) : (Ky.call 36 [.agg (G.C_api_Rule a), .agg (G.C_api_Rule b)]).ok Try.prog (.bool res_) :=
  Ky.of_check (tt := tt) (enc := fun (r : Bool) => .bool r) (muts := []) (app := []) Try.tabOk Try.mixed Try.func36 (by kernel_rfl) rfl rfl Try.ntmps36 (by kernel_rfl) (fun _ _ _ h => (by cases h)) (p := p_grammar_sameRule a b) (
    ok_inner (ok_join (ok_split (fun b_8 =>
    ok_split (fun b_7 =>
    ok_split (fun b_6 =>
    ok_split (fun b_5 =>
    ok_op (fun _ h => c_slices_Equal_int_int _ _ _ h) fun r_2 hr_2 =>
    ok_split (fun b_4 =>
    ok_op (fun _ h => c_value_Equal _ _ _ h) fun r_3 hr_3 =>
    ok_ret) (fun b_4 =>
    ok_ret)) (fun b_5 =>
    ok_ret)) (fun b_6 =>
    ok_ret)) (fun b_7 =>
    ok_ret)) (fun b_8 =>
    ok_ret)) fun st_1 =>
    ok_ret)) h

noncomputable def p_grammar_symbol (l : G.api_Language) (i : Int) : Prog (Bool) :=
    .inner (.join (σ := Bool) [] (fun st_1 => ([(4, .bool st_1)], []))
    (.split 7 (decide (i ≥ 0))
    (.ret (.inl (decide (i < ((G.S_api_Symbol l.Symbols).length : Int)))))
    (.ret (.inl (false))))
    fun st_1 =>
    .ret st_1)
noncomputable def f_grammar_symbol (l : G.api_Language) (i : Int) : Option (Bool) := (p_grammar_symbol l i).eval
theorem c_grammar_symbol (l : G.api_Language) (i : Int) (res_ : Bool) (h : f_grammar_symbol l i = some res_) : (Ky.call 45 [.agg (G.C_api_Language l), .int .i64 i]).ok Try.prog (.bool res_) :=
  Ky.of_check (tt := tt) (enc := fun (r : Bool) => .bool r) (muts := []) (app := []) Try.tabOk Try.mixed Try.func45 (by kernel_rfl) rfl rfl Try.ntmps45 (by kernel_rfl) (fun _ _ _ h => (by cases h)) (p := p_grammar_symbol l i) (
    ok_inner (ok_join (ok_split (fun b_2 =>
    ok_ret) (fun b_2 =>
    ok_ret)) fun st_1 =>
    ok_ret)) h

noncomputable def p_grammar_same (a : Int) (b : Int) : Prog (Int) :=
    .split 7 (a != b)
    (.ret 3)
    (.ret 0)
noncomputable def f_grammar_same (a : Int) (b : Int) : Option (Int) := (p_grammar_same a b).eval
theorem c_grammar_same (a : Int) (b : Int) (res_ : Int) (h : f_grammar_same a b = some res_) : (Ky.call 46 [.int .i64 a, .int .i64 b]).ok Try.prog (.int .i64 res_) :=
  Ky.of_check (tt := tt) (enc := fun (r : Int) => .int .i64 r) (muts := []) (app := []) Try.tabOk Try.mixed Try.func46 (by kernel_rfl) rfl rfl Try.ntmps46 (by kernel_rfl) (fun _ _ _ h => (by cases h)) (p := p_grammar_same a b) (
    ok_split (fun b_1 =>
    ok_ret) (fun b_1 =>
    ok_ret)) h

noncomputable def p_value_unused (v : G.api_Value) : Prog (Bool) :=
    .inner (.inner (.inner (.join (σ := Bool) [1, 4] (fun st_1 => ([(5, .bool st_1)], []))
    (.split 5 (v.Typ == 1)
    (.ret (.inl (true)))
    (.split 5 (v.Typ == 2)
    (.ret (.inl (true)))
    (.ret (.inl (v.Typ == 4)))))
    fun st_1 =>
    .split 5 (st_1)
    (.join (σ := Bool) [] (fun st_4 => ([(2, .bool st_4)], []))
    (.split 12 (v.Text == [])
    (.ret (.inl (((G.S_api_Value v.Items).length : Int) == 0)))
    (.ret (.inl (false))))
    fun st_4 =>
    .ret st_4)
    (.join (σ := Bool) [1] (fun st_6 => ([(18, .bool st_6)], []))
    (.split 18 (v.Typ == 3)
    (.ret (.inl (true)))
    (.ret (.inl (v.Typ == 8))))
    fun st_6 =>
    .split 18 (st_6)
    (.join (σ := Bool) [] (fun st_8 => ([(2, .bool st_8)], []))
    (.split 24 (v.Num == 0)
    (.ret (.inl (((G.S_api_Value v.Items).length : Int) == 0)))
    (.ret (.inl (false))))
    fun st_8 =>
    .ret st_8)
    (.join (σ := Bool) [] (fun st_10 => ([(2, .bool st_10)], []))
    (.split 33 (v.Num == 0)
    (.ret (.inl (v.Text == [])))
    (.ret (.inl (false))))
    fun st_10 =>
    .ret st_10)))))
noncomputable def f_value_unused (v : G.api_Value) : Option (Bool) := (p_value_unused v).eval
theorem c_value_unused (v : G.api_Value) (res_ : Bool) (h : f_value_unused v = some res_) : (Ky.call 57 [.agg (G.C_api_Value v)]).ok Try.prog (.bool res_) :=
  Ky.of_check (tt := tt) (enc := fun (r : Bool) => .bool r) (muts := []) (app := []) Try.tabOk Try.mixed Try.func57 (by kernel_rfl) rfl rfl Try.ntmps57 (by kernel_rfl) (fun _ _ _ h => (by cases h)) (p := p_value_unused v) (
    ok_inner (ok_inner (ok_inner (ok_join (ok_split (fun b_3 =>
    ok_ret) (fun b_3 =>
    ok_split (fun b_2 =>
    ok_ret) (fun b_2 =>
    ok_ret))) fun st_1 =>
    ok_split (fun b_13 =>
    ok_join (ok_split (fun b_5 =>
    ok_ret) (fun b_5 =>
    ok_ret)) fun st_4 =>
    ok_ret) (fun b_13 =>
    ok_join (ok_split (fun b_7 =>
    ok_ret) (fun b_7 =>
    ok_ret)) fun st_6 =>
    ok_split (fun b_12 =>
    ok_join (ok_split (fun b_9 =>
    ok_ret) (fun b_9 =>
    ok_ret)) fun st_8 =>
    ok_ret) (fun b_12 =>
    ok_join (ok_split (fun b_11 =>
    ok_ret) (fun b_11 =>
    ok_ret)) fun st_10 =>
    ok_ret)))))) h

noncomputable def p_value_ranged (n : Int) (low : Int) (high : Int) : Prog (Int) :=
    .inner (.inner (.join (σ := Bool) [] (fun st_1 => ([(14, .bool st_1)], []))
    (.split 10 (decide (n < low))
    (.ret (.inl (true)))
    (.ret (.inl (decide (n > high)))))
    fun st_1 =>
    .split 14 (st_1)
    (.ret 1)
    (.ret 0)))
noncomputable def f_value_ranged (n : Int) (low : Int) (high : Int) : Option (Int) := (p_value_ranged n low high).eval
theorem c_value_ranged (n : Int) (low : Int) (high : Int) (res_ : Int) (h : f_value_ranged n low high = some res_) : (Ky.call 58 [.int .i64 n, .int .i64 low, .int .i64 high]).ok Try.prog (.int .i64 res_) :=
  Ky.of_check (tt := tt) (enc := fun (r : Int) => .int .i64 r) (muts := []) (app := []) Try.tabOk Try.mixed Try.func58 (by kernel_rfl) rfl rfl Try.ntmps58 (by kernel_rfl) (fun _ _ _ h => (by cases h)) (p := p_value_ranged n low high) (
    ok_inner (ok_inner (ok_join (ok_split (fun b_2 =>
    ok_ret) (fun b_2 =>
    ok_ret)) fun st_1 =>
    ok_split (fun b_3 =>
    ok_ret) (fun b_3 =>
    ok_ret)))) h

noncomputable def p_value_printed (s : List UInt8) : Prog (Bool) :=
    .inner (.join (σ := Unit) [] (fun _ => ([], []))
    (.rng (σ := Unit) 0 7 (s.length) [0] (fun i _ => ([(3, .int .i64 i)], [])) () (fun i_2 _ =>
    .inner (.join (σ := Bool) [0, 3] (fun st_4 => ([(19, .bool st_4)], []))
    (.op (.stridx (.str s) (i_2 : Int)) (byn s i_2) (fun (c_5 : Int) => .int .u8 c_5) fun c_5 =>
    .split 14 (decide (c_5 < 32))
    (.ret (.inl (true)))
    (.op (.stridx (.str s) (i_2 : Int)) (some c_5) (fun (c_6 : Int) => .int .u8 c_6) fun c_6 =>
    .ret (.inl (decide (c_6 > 126)))))
    fun st_4 =>
    .split 19 (st_4)
    (.ret (.inr (.inr (false))))
    (.ret (.inl ())))) fun _ => .inl ())
    fun _ =>
    .ret true)
noncomputable def f_value_printed (s : List UInt8) : Option (Bool) := (p_value_printed s).eval
theorem c_value_printed (s : List UInt8) (res_ : Bool) (h : f_value_printed s = some res_) : (Ky.call 69 [.str s]).ok Try.prog (.bool res_) :=
  Ky.of_check (tt := tt) (enc := fun (r : Bool) => .bool r) (muts := []) (app := []) Try.tabOk Try.mixed Try.func69 (by kernel_rfl) rfl rfl Try.ntmps69 (by kernel_rfl) (fun _ _ _ h => (by cases h)) (p := p_value_printed s) (
    ok_inner (ok_join (ok_rng fun i_2 st_3 _ =>
    ok_inner (ok_join (ok_op (fun _ h => sxn h) fun c_5 hc_5 =>
    ok_split (fun b_7 =>
    ok_ret) (fun b_7 =>
    ok_op (fun _ e => Option.some.inj e ▸ sxn hc_5) fun c_6 hc_6 =>
    ok_ret)) fun st_4 =>
    ok_split (fun b_8 =>
    ok_ret) (fun b_8 =>
    ok_ret))) fun st_1 =>
    ok_ret)) h

noncomputable def p_value_sized (s : List UInt8) (least : Int) (most : Int) : Prog (Int) :=
    .inner (.inner (.join (σ := Bool) [0] (fun st_1 => ([(16, .bool st_1)], []))
    (.split 11 (decide ((s.length : Int) < least))
    (.ret (.inl (true)))
    (.ret (.inl (decide ((s.length : Int) > most)))))
    fun st_1 =>
    .split 16 (st_1)
    (.ret 2)
    (.op (.call 69 [.str s]) (f_value_printed s) (fun (r_3 : Bool) => .bool r_3) fun r_3 =>
    .split 19 (!r_3)
    (.ret 1)
    (.ret 0))))
noncomputable def f_value_sized (s : List UInt8) (least : Int) (most : Int) : Option (Int) := (p_value_sized s least most).eval
theorem c_value_sized (s : List UInt8) (least : Int) (most : Int) (res_ : Int) (h : f_value_sized s least most = some res_) : (Ky.call 59 [.str s, .int .i64 least, .int .i64 most]).ok Try.prog (.int .i64 res_) :=
  Ky.of_check (tt := tt) (enc := fun (r : Int) => .int .i64 r) (muts := []) (app := []) Try.tabOk Try.mixed Try.func59 (by kernel_rfl) rfl rfl Try.ntmps59 (by kernel_rfl) (fun _ _ _ h => (by cases h)) (p := p_value_sized s least most) (
    ok_inner (ok_inner (ok_join (ok_split (fun b_2 =>
    ok_ret) (fun b_2 =>
    ok_ret)) fun st_1 =>
    ok_split (fun b_5 =>
    ok_ret) (fun b_5 =>
    ok_op (fun _ h => c_value_printed _ _ h) fun r_3 hr_3 =>
    ok_split (fun b_4 =>
    ok_ret) (fun b_4 =>
    ok_ret))))) h

mutual
noncomputable def p_value_Check : Nat → G.api_Value → Prog (Int)
  | 0, _ => .fail
  | n_ + 1, v =>
    .inner (.inner (.join (σ := Bool) [1] (fun st_1 => ([(13, .bool st_1)], []))
    (.split 9 (decide (v.Typ < 1))
    (.ret (.inl (true)))
    (.ret (.inl (decide (v.Typ > 8)))))
    fun st_1 =>
    .split 13 (st_1)
    (.ret 3)
    (.op (.call 57 [.agg [.int .i64 v.Typ, .int .i64 v.Num, .str v.Text, .sl (G.S_api_Value v.Items)]]) (f_value_unused v) (fun (r_3 : Bool) => .bool r_3) fun r_3 =>
    .split 16 (!r_3)
    (.ret 4)
    (.inner (.join (σ := Unit) [1] (fun _ => ([], []))
    (.inner (.join (σ := Int) [1] (fun st_66450 => ([(5, .int .i64 st_66450)], []))
    (.inner (.join (σ := Int × Int) [1] (fun st_66451 => ([(3, .int .i64 st_66451.1), (4, .int .i64 st_66451.2)], []))
    (.split 19 (v.Typ == 1)
    (.op (.call 58 [.int .i64 v.Num, .int .i64 0, .int .i64 1]) (f_value_ranged v.Num 0 1) (fun (r_66452 : Int) => .int .i64 r_66452) fun r_66452 =>
    .ret (.inr (.inr (.inr (r_66452)))))
    (.split 21 (v.Typ == 2)
    (.op (.call 58 [.int .i64 v.Num, .int .i64 (-1000000), .int .i64 1000000]) (f_value_ranged v.Num (-1000000) 1000000) (fun (r_66453 : Int) => .int .i64 r_66453) fun r_66453 =>
    .ret (.inr (.inr (.inr (r_66453)))))
    (.split 23 (v.Typ == 4)
    (.op (.call 58 [.int .i64 v.Num, .int .i64 0, .int .i64 255]) (f_value_ranged v.Num 0 255) (fun (r_66454 : Int) => .int .i64 r_66454) fun r_66454 =>
    .ret (.inr (.inr (.inr (r_66454)))))
    (.split 25 (v.Typ == 8)
    (.ret (.inl (1, 40)))
    (.split 27 (v.Typ == 3)
    (.ret (.inl (0, 64)))
    (.split 29 (v.Typ == 5)
    (.ret (.inr (.inl (2))))
    (.split 31 (v.Typ == 6)
    (.ret (.inr (.inl (3))))
    (.ret (.inr (.inr (.inl ())))))))))))
    fun st_66451 =>
    .op (.call 59 [.str v.Text, .int .i64 st_66451.1, .int .i64 st_66451.2]) (f_value_sized v.Text st_66451.1 st_66451.2) (fun (r_66462 : Int) => .int .i64 r_66462) fun r_66462 =>
    .ret (.inr (.inr (r_66462)))))
    fun st_66450 =>
    .op (.call 60 [.sl (G.S_api_Value v.Items), .int .i64 st_66450]) ((p_value_elements n_ v.Items st_66450).eval) (fun (r_66463 : Int) => .int .i64 r_66463) fun r_66463 =>
    .ret (.inr (r_66463))))
    fun _ =>
    .op (.call 61 [.sl (G.S_api_Value v.Items)]) ((p_value_rows n_ v.Items).eval) (fun (r_66464 : Int) => .int .i64 r_66464) fun r_66464 =>
    .ret r_66464)))))
noncomputable def p_value_elements : Nat → List G.api_Value → Int → Prog (Int)
  | 0, _, _ => .fail
  | n_ + 1, list, t =>
    .split 10 (decide (((G.S_api_Value list).length : Int) > 16))
    (.ret 2)
    (.join (σ := Unit) [] (fun _ => ([], []))
    (.rng (σ := Unit) 11 14 ((G.S_api_Value list).length) [1, 11, 12] (fun i _ => ([(13, .int .i64 i)], [])) () (fun i_2 _ =>
    .op (.idx 4 (.sl (G.S_api_Value list)) (i_2 : Int)) ((list)[i_2]?) (fun (x_4 : G.api_Value) => .iptr (G.C_api_Value x_4)) fun x_4 =>
    .split 20 (x_4.Typ != t)
    (.ret (.inr (.inr (3))))
    (.op (.call 47 [.agg [.int .i64 x_4.Typ, .int .i64 x_4.Num, .str x_4.Text, .sl (G.S_api_Value x_4.Items)]]) ((p_value_Check n_ x_4).eval) (fun (r_5 : Int) => .int .i64 r_5) fun r_5 =>
    .split 24 (r_5 != 0)
    (.ret (.inr (.inr (r_5))))
    (.ret (.inl ())))) fun _ => .inl ())
    fun _ =>
    .ret 0)
noncomputable def p_value_rows : Nat → List G.api_Value → Prog (Int)
  | 0, _ => .fail
  | n_ + 1, list =>
    .split 8 (decide (((G.S_api_Value list).length : Int) > 8))
    (.ret 2)
    (.join (σ := Unit) [] (fun _ => ([], []))
    (.rng (σ := Unit) 0 12 ((G.S_api_Value list).length) [0, 9, 10] (fun i _ => ([(11, .int .i64 i)], [])) () (fun i_2 _ =>
    .op (.idx 4 (.sl (G.S_api_Value list)) (i_2 : Int)) ((list)[i_2]?) (fun (x_4 : G.api_Value) => .iptr (G.C_api_Value x_4)) fun x_4 =>
    .split 17 (x_4.Typ != 6)
    (.ret (.inr (.inr (3))))
    (.inner (.join (σ := Bool) [0, 4, 9, 10, 11] (fun st_5 => ([(38, .bool st_5)], [.cells [.int .i64 x_4.Typ, .int .i64 x_4.Num, .str x_4.Text, .sl (G.S_api_Value x_4.Items)]]))
    (.split 22 (decide (((G.S_api_Value x_4.Items).length : Int) < 1))
    (.ret (.inl (true)))
    (.split 28 (decide (((G.S_api_Value x_4.Items).length : Int) > 8))
    (.ret (.inl (true)))
    (.op (.idx 4 (.sl (G.S_api_Value list)) 0) (at_ list 0) (fun (x_6 : G.api_Value) => .iptr (G.C_api_Value x_6)) fun x_6 =>
    .ret (.inl (((G.S_api_Value x_4.Items).length : Int) != ((G.S_api_Value x_6.Items).length : Int))))))
    fun st_5 =>
    .split 38 (st_5)
    (.ret (.inr (.inr (2))))
    (.op (.call 47 [.agg [.int .i64 x_4.Typ, .int .i64 x_4.Num, .str x_4.Text, .sl (G.S_api_Value x_4.Items)]]) ((p_value_Check n_ x_4).eval) (fun (r_9 : Int) => .int .i64 r_9) fun r_9 =>
    .split 42 (r_9 != 0)
    (.ret (.inr (.inr (r_9))))
    (.ret (.inl ())))))) fun _ => .inl ())
    fun _ =>
    .ret 0)
end
noncomputable def f_value_Check (v : G.api_Value) : Option (Int) := (p_value_Check (big + (SizeOf.sizeOf v)) v).eval
noncomputable def f_value_elements (list : List G.api_Value) (t : Int) : Option (Int) := (p_value_elements (big + (SizeOf.sizeOf list)) list t).eval
noncomputable def f_value_rows (list : List G.api_Value) : Option (Int) := (p_value_rows (big + (SizeOf.sizeOf list)) list).eval
theorem cn_value_Check_value_elements_value_rows : ∀ n, (∀ (v : G.api_Value) (res_ : Int), (p_value_Check n v).eval = some res_ → (Ky.call 47 [.agg (G.C_api_Value v)]).ok Try.prog (.int .i64 res_)) ∧ (∀ (list : List G.api_Value) (t : Int) (res_ : Int), (p_value_elements n list t).eval = some res_ → (Ky.call 60 [.sl (G.S_api_Value list), .int .i64 t]).ok Try.prog (.int .i64 res_)) ∧ (∀ (list : List G.api_Value) (res_ : Int), (p_value_rows n list).eval = some res_ → (Ky.call 61 [.sl (G.S_api_Value list)]).ok Try.prog (.int .i64 res_)) := by
  intro n
  induction n with
  | zero => exact ⟨fun v _ h => by simp [p_value_Check] at h, fun list t _ h => by simp [p_value_elements] at h, fun list _ h => by simp [p_value_rows] at h⟩
  | succ n_ ih =>
    obtain ⟨ih_value_Check, ih_value_elements, ih_value_rows⟩ := ih
    exact ⟨fun v res_ h => Ky.of_check (tt := tt) (enc := fun (r : Int) => .int .i64 r) (muts := []) (app := []) Try.tabOk Try.mixed Try.func47 (by kernel_rfl) rfl rfl Try.ntmps47 (by kernel_rfl) (fun _ _ _ h => (by cases h)) (p := p_value_Check (n_ + 1) v) (
    ok_inner (ok_inner (ok_join (ok_split (fun b_2 =>
    ok_ret) (fun b_2 =>
    ok_ret)) fun st_1 =>
    ok_split (fun b_66466 =>
    ok_ret) (fun b_66466 =>
    ok_op (fun _ h => c_value_unused _ _ h) fun r_3 hr_3 =>
    ok_split (fun b_66465 =>
    ok_ret) (fun b_66465 =>
    ok_inner (ok_join (ok_inner (ok_join (ok_inner (ok_join (ok_split (fun b_66461 =>
    ok_op (fun _ h => c_value_ranged _ _ _ _ h) fun r_66452 hr_66452 =>
    ok_ret) (fun b_66461 =>
    ok_split (fun b_66460 =>
    ok_op (fun _ h => c_value_ranged _ _ _ _ h) fun r_66453 hr_66453 =>
    ok_ret) (fun b_66460 =>
    ok_split (fun b_66459 =>
    ok_op (fun _ h => c_value_ranged _ _ _ _ h) fun r_66454 hr_66454 =>
    ok_ret) (fun b_66459 =>
    ok_split (fun b_66458 =>
    ok_ret) (fun b_66458 =>
    ok_split (fun b_66457 =>
    ok_ret) (fun b_66457 =>
    ok_split (fun b_66456 =>
    ok_ret) (fun b_66456 =>
    ok_split (fun b_66455 =>
    ok_ret) (fun b_66455 =>
    ok_ret)))))))) fun st_66451 =>
    ok_op (fun _ h => c_value_sized _ _ _ _ h) fun r_66462 hr_66462 =>
    ok_ret)) fun st_66450 =>
    ok_op (fun _ h => ih_value_elements _ _ _ h) fun r_66463 hr_66463 =>
    ok_ret)) fun st_66449 =>
    ok_op (fun _ h => ih_value_rows _ _ h) fun r_66464 hr_66464 =>
    ok_ret)))))) h,
    fun list t res_ h => Ky.of_check (tt := tt) (enc := fun (r : Int) => .int .i64 r) (muts := []) (app := []) Try.tabOk Try.mixed Try.func60 (by kernel_rfl) rfl rfl Try.ntmps60 (by kernel_rfl) (fun _ _ _ h => (by cases h)) (p := p_value_elements (n_ + 1) list t) (
    ok_split (fun b_8 =>
    ok_ret) (fun b_8 =>
    ok_join (ok_rng fun i_2 st_3 _ =>
    ok_op (fun _ h => ixn G.hS_api_Value G.hk_api_Value h) fun x_4 hx_4 =>
    ok_split (fun b_7 =>
    ok_ret) (fun b_7 =>
    ok_op (fun _ h => ih_value_Check _ _ h) fun r_5 hr_5 =>
    ok_split (fun b_6 =>
    ok_ret) (fun b_6 =>
    ok_ret))) fun st_1 =>
    ok_ret)) h,
    fun list res_ h => Ky.of_check (tt := tt) (enc := fun (r : Int) => .int .i64 r) (muts := []) (app := []) Try.tabOk Try.mixed Try.func61 (by kernel_rfl) rfl rfl Try.ntmps61 (by kernel_rfl) (fun _ _ _ h => (by cases h)) (p := p_value_rows (n_ + 1) list) (
    ok_split (fun b_13 =>
    ok_ret) (fun b_13 =>
    ok_join (ok_rng fun i_2 st_3 _ =>
    ok_op (fun _ h => ixn G.hS_api_Value G.hk_api_Value h) fun x_4 hx_4 =>
    ok_split (fun b_12 =>
    ok_ret) (fun b_12 =>
    ok_inner (ok_join (ok_split (fun b_8 =>
    ok_ret) (fun b_8 =>
    ok_split (fun b_7 =>
    ok_ret) (fun b_7 =>
    ok_op (fun _ h => ix G.hS_api_Value G.hk_api_Value h) fun x_6 hx_6 =>
    ok_ret))) fun st_5 =>
    ok_split (fun b_11 =>
    ok_ret) (fun b_11 =>
    ok_op (fun _ h => ih_value_Check _ _ h) fun r_9 hr_9 =>
    ok_split (fun b_10 =>
    ok_ret) (fun b_10 =>
    ok_ret))))) fun st_1 =>
    ok_ret)) h⟩
theorem c_value_Check (v : G.api_Value) (res_ : Int) (h : f_value_Check v = some res_) : (Ky.call 47 [.agg (G.C_api_Value v)]).ok Try.prog (.int .i64 res_) := (cn_value_Check_value_elements_value_rows (big + (SizeOf.sizeOf v))).1 v res_ h
theorem c_value_elements (list : List G.api_Value) (t : Int) (res_ : Int) (h : f_value_elements list t = some res_) : (Ky.call 60 [.sl (G.S_api_Value list), .int .i64 t]).ok Try.prog (.int .i64 res_) := (cn_value_Check_value_elements_value_rows (big + (SizeOf.sizeOf list))).2.1 list t res_ h
theorem c_value_rows (list : List G.api_Value) (res_ : Int) (h : f_value_rows list = some res_) : (Ky.call 61 [.sl (G.S_api_Value list)]).ok Try.prog (.int .i64 res_) := (cn_value_Check_value_elements_value_rows (big + (SizeOf.sizeOf list))).2.2 list res_ h

set_option maxHeartbeats 1000000 in
set_option maxRecDepth 100000 in
theorem Try.given_IndexByte (s : ByteArray) (c : Int) (w : World) :
    Calls Try.prog 88 #[.string s, .int .u8 c] w fun e w' => e = .returned (.int .i64 (Lib.indexByte s.data.toList c.toNat.toUInt8)) ∧ w' = w := by
  go_enter Try.func88, Try.ntmps88
  go_wp2
  rw [run_callFunc_extern Try.func92 (by kernel_rfl) (by kernel_rfl) (by kernel_rfl) (e := Extern.BytealgIndexByte.indexByte) (by kernel_rfl), Lib.run_indexByteString]
  simp only [Result.andThen]
  rw [Oper.upon_value]
  go_wp2
  go_ret
  exact ⟨rfl, rfl⟩
noncomputable def f_internal_stringslite_IndexByte (s : List UInt8) (c : Int) : Option Int := some (Lib.indexByte s c.toNat.toUInt8)
theorem c_internal_stringslite_IndexByte (s : List UInt8) (c : Int) (res_ : Int) (h : f_internal_stringslite_IndexByte s c = some res_) : (Ky.call 88 [.str s, .int .u8 c]).ok Try.prog (.int .i64 res_) := by
  cases h
  exact ⟨by kernel_rfl, CallsP.of_calls (fun w Z m us hl hr => two_in hl hr (fun v h => h.str_inv) fun v h => h.int_inv) (fun _ _ _ => .int _ _) (Try.given_IndexByte ⟨s.toArray⟩ c), fun _ _ h => (by cases h)⟩

noncomputable def p_internal_bytealg_Cutover (n : Int) : Prog (Int) :=
    .ret (IntKind.wrap .i64 (Int.tdiv (IntKind.wrap .i64 (n + 16)) 8))
noncomputable def f_internal_bytealg_Cutover (n : Int) : Option (Int) := (p_internal_bytealg_Cutover n).eval
theorem c_internal_bytealg_Cutover (n : Int) (res_ : Int) (h : f_internal_bytealg_Cutover n = some res_) : (Ky.call 90 [.int .i64 n]).ok Try.prog (.int .i64 res_) :=
  Ky.of_check (tt := tt) (enc := fun (r : Int) => .int .i64 r) (muts := []) (app := []) Try.tabOk Try.mixed Try.func90 (by kernel_rfl) rfl rfl Try.ntmps90 (by kernel_rfl) (fun _ _ _ h => (by cases h)) (p := p_internal_bytealg_Cutover n) (
    ok_ret) h

noncomputable def p_internal_bytealg_hashStr_string (sep : List UInt8) : Prog (Int × Int) :=
    .inner (.inner (.join (σ := Int) [0] (fun st_1 => ([(4, .int .u32 st_1)], []))
    (.rng (σ := Int) 0 12 (sep.length) [0] (fun i st_3 => ([(5, .int .i64 i), (4, .int .u32 st_3)], [])) (0) (fun i_2 st_3 =>
    .op (.stridx (.str sep) (i_2 : Int)) (byn sep i_2) (fun (c_4 : Int) => .int .u8 c_4) fun c_4 =>
    .ret (.inl (IntKind.wrap .u32 ((IntKind.wrap .u32 (st_3 * 16777619)) + (IntKind.wrap .u32 c_4))))) fun st_3 => .inl (st_3))
    fun st_1 =>
    .inner (.join (σ := Int) [4] (fun st_5 => ([(6, .int .u32 st_5)], []))
    (.loop (σ := Int × Int × Int) (ρ := Int × Int × Int) [4] (fun st_6 => ([(6, .int .u32 st_6.1), (7, .int .u32 st_6.2.1), (8, .int .i64 st_6.2.2)], [])) (1, 16777619, (sep.length : Int)) (fun _ y => y) fun st_6 =>
    .split 25 (decide (st_6.2.2 > 0))
    (.inner (.join (σ := Int) [4, 7, 8] (fun st_7 => ([(6, .int .u32 st_7)], []))
    (.split 30 ((intBits .and .i64 st_6.2.2 1) != 0)
    (.ret (.inl (IntKind.wrap .u32 (st_6.1 * st_6.2.1))))
    (.ret (.inl (st_6.1))))
    fun st_7 =>
    .ret (.inl (st_7, IntKind.wrap .u32 (st_6.2.1 * st_6.2.1), Int.fdiv st_6.2.2 (2 ^ (min (Int.toNat 1) (IntKind.bits .i64)))))))
    (.ret (.inr (.inl (st_6.1)))))
    fun st_5 =>
    .ret (st_1, st_5))))
noncomputable def f_internal_bytealg_hashStr_string (sep : List UInt8) : Option (Int × Int) := (p_internal_bytealg_hashStr_string sep).eval
theorem c_internal_bytealg_hashStr_string (sep : List UInt8) (res_ : Int × Int) (h : f_internal_bytealg_hashStr_string sep = some res_) : (Ky.call 93 [.str sep]).ok Try.prog (.tup [.int .u32 res_.1, .int .u32 res_.2]) :=
  Ky.of_check (tt := tt) (enc := fun (r : Int × Int) => .tup [.int .u32 r.1, .int .u32 r.2]) (muts := []) (app := []) Try.tabOk Try.mixed Try.func93 (by kernel_rfl) rfl rfl Try.ntmps93 (by kernel_rfl) (fun _ _ _ h => (by cases h)) (p := p_internal_bytealg_hashStr_string sep) (
    ok_inner (ok_inner (ok_join (ok_rng fun i_2 st_3 _ =>
    ok_op (fun _ h => sxn h) fun c_4 hc_4 =>
    ok_ret) fun st_1 =>
    ok_inner (ok_join (ok_loop fun st_6 =>
    ok_split (fun b_9 =>
    ok_inner (ok_join (ok_split (fun b_8 =>
    ok_ret) (fun b_8 =>
    ok_ret)) fun st_7 =>
    ok_ret)) (fun b_9 =>
    ok_ret)) fun st_5 =>
    ok_ret)))) h

noncomputable def p_internal_bytealg_IndexRabinKarp_string (a0 : List UInt8) (a1 : List UInt8) : Prog (Int) :=
    .op (.call 93 [.str a1]) (f_internal_bytealg_hashStr_string a1) (fun (r_1 : Int × Int) => .tup [.int .u32 r_1.1, .int .u32 r_1.2]) fun r_1 =>
    .inner (.inner (.join (σ := Int) [0, 1, 5, 6, 7] (fun st_2 => ([(8, .int .u32 st_2)], []))
    (.rng (σ := Int) 1 20 (a1.length) [0, 1, 5, 6, 7] (fun i st_4 => ([(9, .int .i64 i), (8, .int .u32 st_4)], [])) (0) (fun i_3 st_4 =>
    .op (.stridx (.str a0) (i_3 : Int)) (byn a0 i_3) (fun (c_5 : Int) => .int .u8 c_5) fun c_5 =>
    .ret (.inl (IntKind.wrap .u32 ((IntKind.wrap .u32 (st_4 * 16777619)) + (IntKind.wrap .u32 c_5))))) fun st_4 => .inl (st_4))
    fun st_2 =>
    .inner (.join (σ := Bool) [0, 1, 5, 6, 7, 8] (fun st_6 => ([(39, .bool st_6)], []))
    (.split 33 (st_2 == r_1.1)
    (.op (.slc true 0 (.str a0) (bd none) (bd (some (a1.length : Int))) none) (slM a0 none (some (a1.length : Int))) (fun (s_7 : List UInt8) => .str s_7) fun s_7 =>
    .ret (.inl (s_7 == a1)))
    (.ret (.inl (false))))
    fun st_6 =>
    .split 39 (st_6)
    (.ret 0)
    (.join (σ := Unit) [] (fun _ => ([], []))
    (.loop (σ := Int × Int) (ρ := Int × Int) [0, 1, 5, 6, 7] (fun st_10 => ([(8, .int .u32 st_10.1), (10, .int .i64 st_10.2)], [])) (st_2, (a1.length : Int)) (fun _ y => y) fun st_10 =>
    .split 44 (decide (st_10.2 < (a0.length : Int)))
    (.op (.stridx (.str a0) st_10.2) (by_ a0 st_10.2) (fun (c_11 : Int) => .int .u8 c_11) fun c_11 =>
    .op (.stridx (.str a0) (IntKind.wrap .i64 (st_10.2 - (a1.length : Int)))) (by_ a0 (IntKind.wrap .i64 (st_10.2 - (a1.length : Int)))) (fun (c_12 : Int) => .int .u8 c_12) fun c_12 =>
    .inner (.join (σ := Bool) [0, 1, 5, 6, 7, 8, 10] (fun st_13 => ([(77, .bool st_13)], []))
    (.split 68 ((IntKind.wrap .u32 ((IntKind.wrap .u32 ((IntKind.wrap .u32 (st_10.1 * 16777619)) + (IntKind.wrap .u32 c_11))) - (IntKind.wrap .u32 (r_1.2 * (IntKind.wrap .u32 c_12))))) == r_1.1)
    (.op (.slc true 0 (.str a0) (bd (some (IntKind.wrap .i64 ((IntKind.wrap .i64 (st_10.2 + 1)) - (a1.length : Int))))) (bd (some (IntKind.wrap .i64 (st_10.2 + 1)))) none) (slM a0 (some (IntKind.wrap .i64 ((IntKind.wrap .i64 (st_10.2 + 1)) - (a1.length : Int)))) (some (IntKind.wrap .i64 (st_10.2 + 1)))) (fun (s_14 : List UInt8) => .str s_14) fun s_14 =>
    .ret (.inl (s_14 == a1)))
    (.ret (.inl (false))))
    fun st_13 =>
    .split 77 (st_13)
    (.ret (.inr (.inr (IntKind.wrap .i64 ((IntKind.wrap .i64 (st_10.2 + 1)) - (a1.length : Int))))))
    (.ret (.inl (IntKind.wrap .u32 ((IntKind.wrap .u32 ((IntKind.wrap .u32 (st_10.1 * 16777619)) + (IntKind.wrap .u32 c_11))) - (IntKind.wrap .u32 (r_1.2 * (IntKind.wrap .u32 c_12)))), IntKind.wrap .i64 (st_10.2 + 1))))))
    (.ret (.inr (.inl ()))))
    fun _ =>
    .ret (-1)))))
noncomputable def f_internal_bytealg_IndexRabinKarp_string (a0 : List UInt8) (a1 : List UInt8) : Option (Int) := (p_internal_bytealg_IndexRabinKarp_string a0 a1).eval
theorem c_internal_bytealg_IndexRabinKarp_string (a0 : List UInt8) (a1 : List UInt8) (res_ : Int) (h : f_internal_bytealg_IndexRabinKarp_string a0 a1 = some res_) : (Ky.call 91 [.str a0, .str a1]).ok Try.prog (.int .i64 res_) :=
  Ky.of_check (tt := tt) (enc := fun (r : Int) => .int .i64 r) (muts := []) (app := []) Try.tabOk Try.mixed Try.func91 (by kernel_rfl) rfl rfl Try.ntmps91 (by kernel_rfl) (fun _ _ _ h => (by cases h)) (p := p_internal_bytealg_IndexRabinKarp_string a0 a1) (
    ok_op (fun _ h => c_internal_bytealg_hashStr_string _ _ h) fun r_1 hr_1 =>
    ok_inner (ok_inner (ok_join (ok_rng fun i_3 st_4 _ =>
    ok_op (fun _ h => sxn h) fun c_5 hc_5 =>
    ok_ret) fun st_2 =>
    ok_inner (ok_join (ok_split (fun b_8 =>
    ok_op (fun _ h => ssl h) fun s_7 hs_7 =>
    ok_ret) (fun b_8 =>
    ok_ret)) fun st_6 =>
    ok_split (fun b_18 =>
    ok_ret) (fun b_18 =>
    ok_join (ok_loop fun st_10 =>
    ok_split (fun b_17 =>
    ok_op (fun _ h => sx h) fun c_11 hc_11 =>
    ok_op (fun _ h => sx h) fun c_12 hc_12 =>
    ok_inner (ok_join (ok_split (fun b_15 =>
    ok_op (fun _ h => ssl h) fun s_14 hs_14 =>
    ok_ret) (fun b_15 =>
    ok_ret)) fun st_13 =>
    ok_split (fun b_16 =>
    ok_ret) (fun b_16 =>
    ok_ret))) (fun b_17 =>
    ok_ret)) fun st_9 =>
    ok_ret))))) h

set_option maxHeartbeats 2000000 in
set_option maxRecDepth 100000 in
theorem Try.given_Index_one (s : ByteArray) (c : UInt8) (w : World) :
    Calls Try.prog 87 #[.string s, .string ⟨#[c]⟩] w fun e w' => e = .returned (.int .i64 (Lib.indexByte s.data.toList c)) ∧ w' = w := by
  go_enter Try.func87, Try.ntmps87
  go_wp2_with (go_at_call 88; refine (Try.given_IndexByte _ _ _).mono ?_; rintro e w' ⟨rfl, rfl⟩)
  · have h : ([c] == s.toList) = true := by assumption
    go_ret
    refine ⟨?_, rfl⟩
    have e : s.data.toList = [c] := by rw [← Lib.toList_data]; exact (beq_iff_eq.1 h).symm
    rw [e]
    simp [Lib.indexByte]
  · go_ret
    exact ⟨rfl, rfl⟩
noncomputable def f_internal_stringslite_Index (s substr : List UInt8) : Option Int := match substr with | [c] => some (Lib.indexByte s c) | _ => none
theorem c_internal_stringslite_Index (s substr : List UInt8) (res_ : Int) (h : f_internal_stringslite_Index s substr = some res_) : (Ky.call 87 [.str s, .str substr]).ok Try.prog (.int .i64 res_) := by
  unfold f_internal_stringslite_Index at h
  split at h
  · rename_i c
    cases h
    exact ⟨by kernel_rfl, CallsP.of_calls (fun w Z m us hl hr => two_in hl hr (fun v h => h.str_inv) fun v h => h.str_inv) (fun _ _ _ => .int _ _) (Try.given_Index_one ⟨s.toArray⟩ c), fun _ _ h => (by cases h)⟩
  · cases h

noncomputable def p_internal_stringslite_Cut (s : List UInt8) (sep : List UInt8) : Prog ((List UInt8) × (List UInt8) × Bool) :=
    .op (.call 87 [.str s, .str sep]) (f_internal_stringslite_Index s sep) (fun (r_1 : Int) => .int .i64 r_1) fun r_1 =>
    .split 12 (decide (r_1 ≥ 0))
    (.op (.slc true 0 (.str s) (bd none) (bd (some r_1)) none) (slM s none (some r_1)) (fun (s_2 : List UInt8) => .str s_2) fun s_2 =>
    .op (.slc true 0 (.str s) (bd (some (IntKind.wrap .i64 (r_1 + (sep.length : Int))))) (bd none) none) (slM s (some (IntKind.wrap .i64 (r_1 + (sep.length : Int)))) none) (fun (s_3 : List UInt8) => .str s_3) fun s_3 =>
    .ret (s_2, s_3, true))
    (.ret (s, [], false))
noncomputable def f_internal_stringslite_Cut (s : List UInt8) (sep : List UInt8) : Option ((List UInt8) × (List UInt8) × Bool) := (p_internal_stringslite_Cut s sep).eval
theorem c_internal_stringslite_Cut (s : List UInt8) (sep : List UInt8) (res_ : (List UInt8) × (List UInt8) × Bool) (h : f_internal_stringslite_Cut s sep = some res_) : (Ky.call 86 [.str s, .str sep]).ok Try.prog (.tup [.str res_.1, .str res_.2.1, .bool res_.2.2]) :=
  Ky.of_check (tt := tt) (enc := fun (r : (List UInt8) × (List UInt8) × Bool) => .tup [.str r.1, .str r.2.1, .bool r.2.2]) (muts := []) (app := []) Try.tabOk Try.mixed Try.func86 (by kernel_rfl) rfl rfl Try.ntmps86 (by kernel_rfl) (fun _ _ _ h => (by cases h)) (p := p_internal_stringslite_Cut s sep) (
    ok_op (fun _ h => c_internal_stringslite_Index _ _ _ h) fun r_1 hr_1 =>
    ok_split (fun b_4 =>
    ok_op (fun _ h => ssl h) fun s_2 hs_2 =>
    ok_op (fun _ h => ssl h) fun s_3 hs_3 =>
    ok_ret) (fun b_4 =>
    ok_ret)) h

noncomputable def p_strings_Cut (s : List UInt8) (sep : List UInt8) : Prog ((List UInt8) × (List UInt8) × Bool) :=
    .op (.call 86 [.str s, .str sep]) (f_internal_stringslite_Cut s sep) (fun (r_1 : (List UInt8) × (List UInt8) × Bool) => .tup [.str r_1.1, .str r_1.2.1, .bool r_1.2.2]) fun r_1 =>
    .ret (r_1.1, r_1.2.1, r_1.2.2)
noncomputable def f_strings_Cut (s : List UInt8) (sep : List UInt8) : Option ((List UInt8) × (List UInt8) × Bool) := (p_strings_Cut s sep).eval
theorem c_strings_Cut (s : List UInt8) (sep : List UInt8) (res_ : (List UInt8) × (List UInt8) × Bool) (h : f_strings_Cut s sep = some res_) : (Ky.call 83 [.str s, .str sep]).ok Try.prog (.tup [.str res_.1, .str res_.2.1, .bool res_.2.2]) :=
  Ky.of_check (tt := tt) (enc := fun (r : (List UInt8) × (List UInt8) × Bool) => .tup [.str r.1, .str r.2.1, .bool r.2.2]) (muts := []) (app := []) Try.tabOk Try.mixed Try.func83 (by kernel_rfl) rfl rfl Try.ntmps83 (by kernel_rfl) (fun _ _ _ h => (by cases h)) (p := p_strings_Cut s sep) (
    ok_op (fun _ h => c_internal_stringslite_Cut _ _ _ h) fun r_1 hr_1 =>
    ok_ret) h

noncomputable def p_operator_typeOf (letter : Int) : Prog (Int) :=
    .split 4 (letter == 66)
    (.ret 1)
    (.split 6 (letter == 73)
    (.ret 2)
    (.split 8 (letter == 84)
    (.ret 3)
    (.split 10 (letter == 86)
    (.ret 4)
    (.split 12 (letter == 76)
    (.ret 5)
    (.split 14 (letter == 83)
    (.ret 6)
    (.split 16 (letter == 77)
    (.ret 7)
    (.ret 8)))))))
noncomputable def f_operator_typeOf (letter : Int) : Option (Int) := (p_operator_typeOf letter).eval
theorem c_operator_typeOf (letter : Int) (res_ : Int) (h : f_operator_typeOf letter = some res_) : (Ky.call 84 [.int .u8 letter]).ok Try.prog (.int .i64 res_) :=
  Ky.of_check (tt := tt) (enc := fun (r : Int) => .int .i64 r) (muts := []) (app := []) Try.tabOk Try.mixed Try.func84 (by kernel_rfl) rfl rfl Try.ntmps84 (by kernel_rfl) (fun _ _ _ h => (by cases h)) (p := p_operator_typeOf letter) (
    ok_split (fun b_7 =>
    ok_ret) (fun b_7 =>
    ok_split (fun b_6 =>
    ok_ret) (fun b_6 =>
    ok_split (fun b_5 =>
    ok_ret) (fun b_5 =>
    ok_split (fun b_4 =>
    ok_ret) (fun b_4 =>
    ok_split (fun b_3 =>
    ok_ret) (fun b_3 =>
    ok_split (fun b_2 =>
    ok_ret) (fun b_2 =>
    ok_split (fun b_1 =>
    ok_ret) (fun b_1 =>
    ok_ret)))))))) h

noncomputable def p_operator_family (name : List UInt8) (list : List (List UInt8)) : Prog ((List G.operator_entry)) :=
    .inner (.inner (.join (σ := (List G.operator_entry)) [] (fun st_1 => ([(5, .osl 4 (G.S_operator_entry st_1))], []))
    (.rng (σ := (List G.operator_entry)) 13 16 ((G.S_str list).length) [0, 13, 14] (fun i st_3 => ([(15, .int .i64 i), (5, .osl 4 (G.S_operator_entry st_3))], [])) ([]) (fun i_2 st_3 =>
    .join (σ := (List G.operator_entry)) [0, 13, 14, 15] (fun st_4 => ([(5, .osl 4 (G.S_operator_entry st_4))], []))
    (.op (.idx 1 (.sl (G.S_str list)) (i_2 : Int)) ((list)[i_2]?) (fun (x_5 : List UInt8) => .iptr (G.C_str x_5)) fun x_5 =>
    .op (.call 83 [.str x_5, .str [58]]) (f_strings_Cut x_5 [58]) (fun (r_6 : (List UInt8) × (List UInt8) × Bool) => .tup [.str r_6.1, .str r_6.2.1, .bool r_6.2.2]) fun r_6 =>
    .inner (.inner (.join (σ := (List Int)) [0, 5, 9, 11, 13, 14, 15] (fun st_7 => ([], [.cells [.str r_6.1, .osl 1 (G.S_int st_7), .int .i64 0, .str name]]))
    (.loop (σ := Int × (List Int)) (ρ := Int × (List Int)) [0, 5, 9, 11, 13, 14, 15, 32] (fun st_8 => ([(33, .int .i64 st_8.1)], [.cells [.str r_6.1, .osl 1 (G.S_int st_8.2), .int .i64 0, .str name]])) (0, []) (fun _ y => y) fun st_8 =>
    .split 34 (decide (st_8.1 < (IntKind.wrap .i64 ((r_6.2.1.length : Int) - 1))))
    (.op (.stridx (.str r_6.2.1) st_8.1) (by_ r_6.2.1 st_8.1) (fun (c_9 : Int) => .int .u8 c_9) fun c_9 =>
    .op (.call 84 [.int .u8 c_9]) (f_operator_typeOf c_9) (fun (r_10 : Int) => .int .i64 r_10) fun r_10 =>
    .op (.app 1 8 (G.S_int st_8.2) (G.S_int [r_10])) (appM 8 st_8.2 [r_10]) (fun (l_11 : List Int) => .osl 1 (G.S_int l_11)) fun l_11 =>
    .ret (.inl (IntKind.wrap .i64 (st_8.1 + 1), l_11)))
    (.ret (.inr (.inl (st_8.2)))))
    fun st_7 =>
    .op (.stridx (.str r_6.2.1) (IntKind.wrap .i64 ((r_6.2.1.length : Int) - 1))) (by_ r_6.2.1 (IntKind.wrap .i64 ((r_6.2.1.length : Int) - 1))) (fun (c_13 : Int) => .int .u8 c_13) fun c_13 =>
    .op (.call 84 [.int .u8 c_13]) (f_operator_typeOf c_13) (fun (r_14 : Int) => .int .i64 r_14) fun r_14 =>
    .op (.app 4 64 (G.S_operator_entry st_3) (G.S_operator_entry [(⟨(⟨r_6.1, st_7, r_14⟩ : G.api_Operator), name⟩ : G.operator_entry)])) (appM 64 st_3 [(⟨(⟨r_6.1, st_7, r_14⟩ : G.api_Operator), name⟩ : G.operator_entry)]) (fun (l_15 : List G.operator_entry) => .osl 4 (G.S_operator_entry l_15)) fun l_15 =>
    .ret (.inl (l_15)))))
    fun st_4 =>
    .ret (.inl (st_4))) fun st_3 => .inl (st_3))
    fun st_1 =>
    .ret st_1))
noncomputable def f_operator_family (name : List UInt8) (list : List (List UInt8)) : Option ((List G.operator_entry)) := (p_operator_family name list).eval
theorem c_operator_family (name : List UInt8) (list : List (List UInt8)) (res_ : (List G.operator_entry)) (h : f_operator_family name list = some res_) : (Ky.call 77 [.str name, .sl (G.S_str list)]).ok Try.prog (.sl (G.S_operator_entry res_)) :=
  Ky.of_check (tt := tt) (enc := fun (r : (List G.operator_entry)) => .sl (G.S_operator_entry r)) (muts := [26]) (app := [38, 56]) Try.tabOk Try.mixed Try.func77 (by kernel_rfl) rfl rfl Try.ntmps77 (by kernel_rfl) (fun _ _ _ h => (by cases h)) (p := p_operator_family name list) (
    ok_inner (ok_inner (ok_join (ok_rng fun i_2 st_3 _ =>
    ok_join (ok_op (fun _ h => ixn G.hS_str G.hk_str h) fun x_5 hx_5 =>
    ok_op (fun _ h => c_strings_Cut _ _ _ h) fun r_6 hr_6 =>
    ok_inner (ok_inner (ok_join (ok_loop fun st_8 =>
    ok_split (fun b_12 =>
    ok_op (fun _ h => sx h) fun c_9 hc_9 =>
    ok_op (fun _ h => c_operator_typeOf _ _ h) fun r_10 hr_10 =>
    ok_op (fun _ h => ap G.hS_int G.hk_int (by omega) rfl h) fun l_11 hl_11 =>
    ok_ret) (fun b_12 =>
    ok_ret)) fun st_7 =>
    ok_op (fun _ h => sx h) fun c_13 hc_13 =>
    ok_op (fun _ h => c_operator_typeOf _ _ h) fun r_14 hr_14 =>
    ok_op (fun _ h => ap G.hS_operator_entry G.hk_operator_entry (by omega) rfl h) fun l_15 hl_15 =>
    ok_ret))) fun st_4 =>
    ok_ret) fun st_1 =>
    ok_ret))) h

noncomputable def p_operator_catalog  : Prog ((List G.operator_entry)) :=
    .inner (.inner (.join (σ := (List G.operator_entry)) [] (fun st_1 => ([(1, .osl 4 (G.S_operator_entry st_1))], []))
    (.op (.call 77 [.str [108, 111, 103, 105, 99], .sl (G.S_str [[97, 110, 100, 58, 66, 66, 66], [111, 114, 58, 66, 66, 66], [110, 111, 116, 58, 66, 66], [105, 102, 105, 110, 116, 58, 66, 73, 73, 73], [105, 102, 116, 101, 120, 116, 58, 66, 84, 84, 84], [105, 102, 98, 105, 116, 115, 58, 66, 86, 86, 86]])]) (f_operator_family [108, 111, 103, 105, 99] [[97, 110, 100, 58, 66, 66, 66], [111, 114, 58, 66, 66, 66], [110, 111, 116, 58, 66, 66], [105, 102, 105, 110, 116, 58, 66, 73, 73, 73], [105, 102, 116, 101, 120, 116, 58, 66, 84, 84, 84], [105, 102, 98, 105, 116, 115, 58, 66, 86, 86, 86]]) (fun (r_2 : (List G.operator_entry)) => .sl (G.S_operator_entry r_2)) fun r_2 =>
    .op (.call 77 [.str [110, 117, 109, 98, 101, 114, 115], .sl (G.S_str [[97, 100, 100, 58, 73, 73, 73], [115, 117, 98, 58, 73, 73, 73], [109, 117, 108, 58, 73, 73, 73], [110, 101, 103, 58, 73, 73], [109, 105, 110, 58, 73, 73, 73], [109, 97, 120, 58, 73, 73, 73], [101, 113, 105, 110, 116, 58, 73, 73, 66], [108, 101, 115, 115, 58, 73, 73, 66]])]) (f_operator_family [110, 117, 109, 98, 101, 114, 115] [[97, 100, 100, 58, 73, 73, 73], [115, 117, 98, 58, 73, 73, 73], [109, 117, 108, 58, 73, 73, 73], [110, 101, 103, 58, 73, 73], [109, 105, 110, 58, 73, 73, 73], [109, 97, 120, 58, 73, 73, 73], [101, 113, 105, 110, 116, 58, 73, 73, 66], [108, 101, 115, 115, 58, 73, 73, 66]]) (fun (r_3 : (List G.operator_entry)) => .sl (G.S_operator_entry r_3)) fun r_3 =>
    .op (.call 77 [.str [116, 101, 120, 116, 115], .sl (G.S_str [[99, 111, 110, 99, 97, 116, 58, 84, 84, 84], [115, 108, 105, 99, 101, 58, 84, 73, 73, 84], [108, 101, 110, 58, 84, 73], [117, 112, 112, 101, 114, 58, 84, 84], [108, 111, 119, 101, 114, 58, 84, 84], [116, 114, 105, 109, 58, 84, 84], [102, 105, 110, 100, 58, 84, 84, 73], [114, 101, 112, 108, 97, 99, 101, 58, 84, 84, 84, 84], [119, 111, 114, 100, 58, 84, 73, 84], [99, 104, 97, 114, 58, 84, 73, 84], [114, 101, 112, 101, 97, 116, 58, 84, 73, 84], [115, 104, 111, 119, 58, 73, 84], [114, 101, 97, 100, 58, 84, 73], [101, 113, 116, 101, 120, 116, 58, 84, 84, 66], [115, 112, 108, 105, 116, 58, 84, 84, 83], [106, 111, 105, 110, 58, 83, 84, 84], [105, 116, 101, 109, 58, 83, 73, 84], [115, 111, 114, 116, 116, 101, 120, 116, 115, 58, 83, 83], [114, 101, 118, 116, 101, 120, 116, 115, 58, 83, 83]])]) (f_operator_family [116, 101, 120, 116, 115] [[99, 111, 110, 99, 97, 116, 58, 84, 84, 84], [115, 108, 105, 99, 101, 58, 84, 73, 73, 84], [108, 101, 110, 58, 84, 73], [117, 112, 112, 101, 114, 58, 84, 84], [108, 111, 119, 101, 114, 58, 84, 84], [116, 114, 105, 109, 58, 84, 84], [102, 105, 110, 100, 58, 84, 84, 73], [114, 101, 112, 108, 97, 99, 101, 58, 84, 84, 84, 84], [119, 111, 114, 100, 58, 84, 73, 84], [99, 104, 97, 114, 58, 84, 73, 84], [114, 101, 112, 101, 97, 116, 58, 84, 73, 84], [115, 104, 111, 119, 58, 73, 84], [114, 101, 97, 100, 58, 84, 73], [101, 113, 116, 101, 120, 116, 58, 84, 84, 66], [115, 112, 108, 105, 116, 58, 84, 84, 83], [106, 111, 105, 110, 58, 83, 84, 84], [105, 116, 101, 109, 58, 83, 73, 84], [115, 111, 114, 116, 116, 101, 120, 116, 115, 58, 83, 83], [114, 101, 118, 116, 101, 120, 116, 115, 58, 83, 83]]) (fun (r_4 : (List G.operator_entry)) => .sl (G.S_operator_entry r_4)) fun r_4 =>
    .op (.call 77 [.str [112, 97, 116, 116, 101, 114, 110, 115], .sl (G.S_str [[115, 116, 97, 114, 116, 58, 84, 80, 73, 73], [101, 110, 100, 58, 84, 80, 73, 73], [101, 120, 116, 114, 97, 99, 116, 58, 84, 80, 73, 84], [101, 114, 97, 115, 101, 58, 84, 80, 84], [111, 99, 99, 117, 114, 115, 58, 84, 80, 73], [109, 97, 116, 99, 104, 101, 115, 58, 84, 80, 66], [112, 108, 105, 116, 58, 84, 80], [112, 99, 97, 116, 58, 80, 80, 80], [112, 97, 108, 116, 58, 80, 80, 80], [112, 115, 116, 97, 114, 58, 80, 80]])]) (f_operator_family [112, 97, 116, 116, 101, 114, 110, 115] [[115, 116, 97, 114, 116, 58, 84, 80, 73, 73], [101, 110, 100, 58, 84, 80, 73, 73], [101, 120, 116, 114, 97, 99, 116, 58, 84, 80, 73, 84], [101, 114, 97, 115, 101, 58, 84, 80, 84], [111, 99, 99, 117, 114, 115, 58, 84, 80, 73], [109, 97, 116, 99, 104, 101, 115, 58, 84, 80, 66], [112, 108, 105, 116, 58, 84, 80], [112, 99, 97, 116, 58, 80, 80, 80], [112, 97, 108, 116, 58, 80, 80, 80], [112, 115, 116, 97, 114, 58, 80, 80]]) (fun (r_5 : (List G.operator_entry)) => .sl (G.S_operator_entry r_5)) fun r_5 =>
    .op (.call 77 [.str [108, 105, 115, 116, 115], .sl (G.S_str [[104, 101, 97, 100, 58, 76, 73], [108, 97, 115, 116, 58, 76, 73], [116, 97, 107, 101, 58, 76, 73, 76], [100, 114, 111, 112, 58, 76, 73, 76], [114, 101, 118, 101, 114, 115, 101, 58, 76, 76], [115, 111, 114, 116, 58, 76, 76], [117, 110, 105, 113, 117, 101, 58, 76, 76], [115, 117, 109, 58, 76, 73], [115, 104, 105, 102, 116, 58, 76, 73, 76], [115, 99, 97, 108, 101, 58, 76, 73, 76], [97, 98, 111, 118, 101, 58, 76, 73, 76], [101, 118, 101, 110, 58, 76, 76], [122, 105, 112, 58, 76, 76, 76], [97, 112, 112, 101, 110, 100, 58, 76, 76, 76], [101, 108, 101, 109, 101, 110, 116, 58, 76, 73, 73], [99, 111, 117, 110, 116, 58, 76, 73, 73], [109, 97, 120, 105, 109, 117, 109, 58, 76, 73], [109, 105, 110, 105, 109, 117, 109, 58, 76, 73], [114, 117, 110, 110, 105, 110, 103, 58, 76, 76], [108, 101, 110, 103, 116, 104, 58, 76, 73]])]) (f_operator_family [108, 105, 115, 116, 115] [[104, 101, 97, 100, 58, 76, 73], [108, 97, 115, 116, 58, 76, 73], [116, 97, 107, 101, 58, 76, 73, 76], [100, 114, 111, 112, 58, 76, 73, 76], [114, 101, 118, 101, 114, 115, 101, 58, 76, 76], [115, 111, 114, 116, 58, 76, 76], [117, 110, 105, 113, 117, 101, 58, 76, 76], [115, 117, 109, 58, 76, 73], [115, 104, 105, 102, 116, 58, 76, 73, 76], [115, 99, 97, 108, 101, 58, 76, 73, 76], [97, 98, 111, 118, 101, 58, 76, 73, 76], [101, 118, 101, 110, 58, 76, 76], [122, 105, 112, 58, 76, 76, 76], [97, 112, 112, 101, 110, 100, 58, 76, 76, 76], [101, 108, 101, 109, 101, 110, 116, 58, 76, 73, 73], [99, 111, 117, 110, 116, 58, 76, 73, 73], [109, 97, 120, 105, 109, 117, 109, 58, 76, 73], [109, 105, 110, 105, 109, 117, 109, 58, 76, 73], [114, 117, 110, 110, 105, 110, 103, 58, 76, 76], [108, 101, 110, 103, 116, 104, 58, 76, 73]]) (fun (r_6 : (List G.operator_entry)) => .sl (G.S_operator_entry r_6)) fun r_6 =>
    .op (.call 77 [.str [116, 97, 98, 108, 101, 115], .sl (G.S_str [[116, 114, 97, 110, 115, 112, 111, 115, 101, 58, 77, 77], [114, 111, 119, 58, 77, 73, 83], [99, 111, 108, 117, 109, 110, 58, 77, 73, 83], [100, 114, 111, 112, 114, 111, 119, 58, 77, 73, 77], [100, 114, 111, 112, 99, 111, 108, 117, 109, 110, 58, 77, 73, 77], [115, 111, 114, 116, 116, 97, 98, 108, 101, 58, 77, 73, 77], [102, 105, 108, 108, 58, 77, 77], [117, 110, 112, 105, 118, 111, 116, 58, 77, 73, 77], [112, 105, 118, 111, 116, 58, 77, 77], [99, 101, 108, 108, 58, 77, 73, 73, 84], [115, 116, 97, 99, 107, 58, 77, 77, 77], [98, 101, 115, 105, 100, 101, 58, 77, 77, 77], [115, 112, 108, 105, 116, 99, 111, 108, 117, 109, 110, 58, 77, 73, 84, 77]])]) (f_operator_family [116, 97, 98, 108, 101, 115] [[116, 114, 97, 110, 115, 112, 111, 115, 101, 58, 77, 77], [114, 111, 119, 58, 77, 73, 83], [99, 111, 108, 117, 109, 110, 58, 77, 73, 83], [100, 114, 111, 112, 114, 111, 119, 58, 77, 73, 77], [100, 114, 111, 112, 99, 111, 108, 117, 109, 110, 58, 77, 73, 77], [115, 111, 114, 116, 116, 97, 98, 108, 101, 58, 77, 73, 77], [102, 105, 108, 108, 58, 77, 77], [117, 110, 112, 105, 118, 111, 116, 58, 77, 73, 77], [112, 105, 118, 111, 116, 58, 77, 77], [99, 101, 108, 108, 58, 77, 73, 73, 84], [115, 116, 97, 99, 107, 58, 77, 77, 77], [98, 101, 115, 105, 100, 101, 58, 77, 77, 77], [115, 112, 108, 105, 116, 99, 111, 108, 117, 109, 110, 58, 77, 73, 84, 77]]) (fun (r_7 : (List G.operator_entry)) => .sl (G.S_operator_entry r_7)) fun r_7 =>
    .op (.call 77 [.str [98, 105, 116, 115], .sl (G.S_str [[98, 97, 110, 100, 58, 86, 86, 86], [98, 111, 114, 58, 86, 86, 86], [98, 120, 111, 114, 58, 86, 86, 86], [98, 110, 111, 116, 58, 86, 86], [98, 97, 100, 100, 58, 86, 86, 86], [98, 115, 117, 98, 58, 86, 86, 86], [98, 109, 117, 108, 58, 86, 86, 86], [98, 108, 101, 102, 116, 58, 86, 73, 86], [98, 114, 105, 103, 104, 116, 58, 86, 73, 86], [98, 97, 114, 105, 116, 104, 58, 86, 73, 86], [111, 110, 101, 115, 58, 86, 73], [101, 113, 98, 105, 116, 115, 58, 86, 86, 66]])]) (f_operator_family [98, 105, 116, 115] [[98, 97, 110, 100, 58, 86, 86, 86], [98, 111, 114, 58, 86, 86, 86], [98, 120, 111, 114, 58, 86, 86, 86], [98, 110, 111, 116, 58, 86, 86], [98, 97, 100, 100, 58, 86, 86, 86], [98, 115, 117, 98, 58, 86, 86, 86], [98, 109, 117, 108, 58, 86, 86, 86], [98, 108, 101, 102, 116, 58, 86, 73, 86], [98, 114, 105, 103, 104, 116, 58, 86, 73, 86], [98, 97, 114, 105, 116, 104, 58, 86, 73, 86], [111, 110, 101, 115, 58, 86, 73], [101, 113, 98, 105, 116, 115, 58, 86, 86, 66]]) (fun (r_8 : (List G.operator_entry)) => .sl (G.S_operator_entry r_8)) fun r_8 =>
    .rng (σ := (List G.operator_entry)) 18 21 ((G.S_L_operator_entry [r_2, r_3, r_4, r_5, r_6, r_7, r_8]).length) [18, 19] (fun i st_10 => ([(20, .int .i64 i), (1, .osl 4 (G.S_operator_entry st_10))], [])) ([]) (fun i_9 st_10 =>
    .op (.idx 1 (.osl 1 (G.S_L_operator_entry [r_2, r_3, r_4, r_5, r_6, r_7, r_8])) (i_9 : Int)) (([r_2, r_3, r_4, r_5, r_6, r_7, r_8])[i_9]?) (fun (x_11 : List G.operator_entry) => .iptr (G.C_L_operator_entry x_11)) fun x_11 =>
    .op (.app 4 64 (G.S_operator_entry st_10) (G.S_operator_entry x_11)) (appM 64 st_10 x_11) (fun (l_12 : List G.operator_entry) => .osl 4 (G.S_operator_entry l_12)) fun l_12 =>
    .ret (.inl (l_12))) fun st_10 => .inl (st_10))
    fun st_1 =>
    .ret st_1))
noncomputable def f_operator_catalog  : Option ((List G.operator_entry)) := (p_operator_catalog ).eval
theorem c_operator_catalog  (res_ : (List G.operator_entry)) (h : f_operator_catalog  = some res_) : (Ky.call 70 []).ok Try.prog (.sl (G.S_operator_entry res_)) :=
  Ky.of_check (tt := tt) (enc := fun (r : (List G.operator_entry)) => .sl (G.S_operator_entry r)) (muts := []) (app := [24]) Try.tabOk Try.mixed Try.func70 (by kernel_rfl) rfl rfl Try.ntmps70 (by kernel_rfl) (fun _ _ _ h => (by cases h)) (p := p_operator_catalog ) (
    ok_inner (ok_inner (ok_join (ok_op (fun _ h => c_operator_family _ _ _ h) fun r_2 hr_2 =>
    ok_op (fun _ h => c_operator_family _ _ _ h) fun r_3 hr_3 =>
    ok_op (fun _ h => c_operator_family _ _ _ h) fun r_4 hr_4 =>
    ok_op (fun _ h => c_operator_family _ _ _ h) fun r_5 hr_5 =>
    ok_op (fun _ h => c_operator_family _ _ _ h) fun r_6 hr_6 =>
    ok_op (fun _ h => c_operator_family _ _ _ h) fun r_7 hr_7 =>
    ok_op (fun _ h => c_operator_family _ _ _ h) fun r_8 hr_8 =>
    ok_rng fun i_9 st_10 _ =>
    ok_op (fun _ h => ixon G.hS_L_operator_entry G.hk_L_operator_entry h) fun x_11 hx_11 =>
    ok_op (fun _ h => ap G.hS_operator_entry G.hk_operator_entry (by omega) rfl h) fun l_12 hl_12 =>
    ok_ret) fun st_1 =>
    ok_ret))) h

noncomputable def p_operator_find (name : List UInt8) : Prog (G.operator_entry × Bool) :=
    .inner (.join (σ := Unit) [2] (fun _ => ([], [.cells [.str [], .osl 0 [], .int .i64 0, .str []]]))
    (.op (.call 70 []) f_operator_catalog (fun (r_2 : (List G.operator_entry)) => .sl (G.S_operator_entry r_2)) fun r_2 =>
    .rng (σ := Unit) 6 9 ((G.S_operator_entry r_2).length) [0, 2, 6, 7] (fun i _ => ([(8, .int .i64 i)], [.cells [.str [], .osl 0 [], .int .i64 0, .str []]])) () (fun i_3 _ =>
    .op (.idx 4 (.sl (G.S_operator_entry r_2)) (i_3 : Int)) ((r_2)[i_3]?) (fun (x_5 : G.operator_entry) => .iptr (G.C_operator_entry x_5)) fun x_5 =>
    .split 16 (x_5.Operator.Name == name)
    (.ret (.inr (.inr ((x_5, true)))))
    (.ret (.inl ()))) fun _ => .inl ())
    fun _ =>
    .ret ((⟨(⟨[], [], 0⟩ : G.api_Operator), []⟩ : G.operator_entry), false))
noncomputable def f_operator_find (name : List UInt8) : Option (G.operator_entry × Bool) := (p_operator_find name).eval
theorem c_operator_find (name : List UInt8) (res_ : G.operator_entry × Bool) (h : f_operator_find name = some res_) : (Ky.call 62 [.str name]).ok Try.prog (.tup [.agg (G.C_operator_entry res_.1), .bool res_.2]) :=
  Ky.of_check (tt := tt) (enc := fun (r : G.operator_entry × Bool) => .tup [.agg (G.C_operator_entry r.1), .bool r.2]) (muts := [19]) (app := []) Try.tabOk Try.mixed Try.func62 (by kernel_rfl) rfl rfl Try.ntmps62 (by kernel_rfl) (fun _ _ _ h => (by cases h)) (p := p_operator_find name) (
    ok_inner (ok_join (ok_op (fun _ h => c_operator_catalog  _ h) fun r_2 hr_2 =>
    ok_rng fun i_3 st_4 _ =>
    ok_op (fun _ h => ixn G.hS_operator_entry G.hk_operator_entry h) fun x_5 hx_5 =>
    ok_split (fun b_6 =>
    ok_ret) (fun b_6 =>
    ok_ret)) fun st_1 =>
    ok_ret)) h

noncomputable def p_operator_Find (name : List UInt8) : Prog (G.api_Operator × Bool) :=
    .op (.call 62 [.str name]) (f_operator_find name) (fun (r_1 : G.operator_entry × Bool) => .tup [.agg (G.C_operator_entry r_1.1), .bool r_1.2]) fun r_1 =>
    .ret (r_1.1.Operator, r_1.2)
noncomputable def f_operator_Find (name : List UInt8) : Option (G.api_Operator × Bool) := (p_operator_Find name).eval
theorem c_operator_Find (name : List UInt8) (res_ : G.api_Operator × Bool) (h : f_operator_Find name = some res_) : (Ky.call 48 [.str name]).ok Try.prog (.tup [.agg (G.C_api_Operator res_.1), .bool res_.2]) :=
  Ky.of_check (tt := tt) (enc := fun (r : G.api_Operator × Bool) => .tup [.agg (G.C_api_Operator r.1), .bool r.2]) (muts := []) (app := []) Try.tabOk Try.mixed Try.func48 (by kernel_rfl) rfl rfl Try.ntmps48 (by kernel_rfl) (fun _ _ _ h => (by cases h)) (p := p_operator_Find name) (
    ok_op (fun _ h => c_operator_find _ _ h) fun r_1 hr_1 =>
    ok_ret) h

noncomputable def p_grammar_rule (a0 : G.api_Language) (a1 : G.api_Rule) : Prog (Int) :=
    .op (.call 45 [.agg [.str a0.Name, .sl (G.S_int a0.Inputs), .sl (G.S_api_Symbol a0.Symbols), .sl (G.S_api_Rule a0.Rules)], .int .i64 a1.Symbol]) (f_grammar_symbol a0 a1.Symbol) (fun (r_1 : Bool) => .bool r_1) fun r_1 =>
    .split 16 (!r_1)
    (.ret 1)
    (.inner (.join (σ := Bool) [2, 3] (fun st_2 => ([(24, .bool st_2)], []))
    (.split 20 (decide (a1.Kind < 1))
    (.ret (.inl (true)))
    (.ret (.inl (decide (a1.Kind > 3)))))
    fun st_2 =>
    .split 24 (st_2)
    (.ret 4)
    (.inner (.join (σ := Int × Int × Int × (List UInt8) × (List G.api_Value) × (List UInt8) × (List Int)) [2, 3, 5] (fun st_4 => ([], [.cells [.int .i64 a1.Symbol, .int .i64 a1.Kind, .int .i64 st_4.1, .int .i64 st_4.2.1, .int .i64 st_4.2.2.1, .str st_4.2.2.2.1, .sl (G.S_api_Value st_4.2.2.2.2.1), .str st_4.2.2.2.2.2.1, .sl (G.S_int st_4.2.2.2.2.2.2)]]))
    (.split 28 (a1.Kind == 1)
    (.ret (.inl (0, a1.Const.Typ, a1.Const.Num, a1.Const.Text, a1.Const.Items, a1.Op, a1.Args)))
    (.split 31 (a1.Kind == 2)
    (.ret (.inl (a1.Input, 0, 0, [], [], a1.Op, a1.Args)))
    (.split 35 (a1.Kind == 3)
    (.ret (.inl (a1.Input, a1.Const.Typ, a1.Const.Num, a1.Const.Text, a1.Const.Items, [], [])))
    (.ret (.inl (a1.Input, a1.Const.Typ, a1.Const.Num, a1.Const.Text, a1.Const.Items, a1.Op, a1.Args))))))
    fun st_4 =>
    .op (.call 36 [.agg [.int .i64 a1.Symbol, .int .i64 a1.Kind, .int .i64 st_4.1, .int .i64 st_4.2.1, .int .i64 st_4.2.2.1, .str st_4.2.2.2.1, .sl (G.S_api_Value st_4.2.2.2.2.1), .str st_4.2.2.2.2.2.1, .sl (G.S_int st_4.2.2.2.2.2.2)], .agg [.int .i64 a1.Symbol, .int .i64 a1.Kind, .int .i64 0, .int .i64 0, .int .i64 0, .str [], .sl (G.S_api_Value []), .str [], .sl (G.S_int [])]]) (f_grammar_sameRule (⟨a1.Symbol, a1.Kind, st_4.1, (⟨st_4.2.1, st_4.2.2.1, st_4.2.2.2.1, st_4.2.2.2.2.1⟩ : G.api_Value), st_4.2.2.2.2.2.1, st_4.2.2.2.2.2.2⟩ : G.api_Rule) (⟨a1.Symbol, a1.Kind, 0, (⟨0, 0, [], []⟩ : G.api_Value), [], []⟩ : G.api_Rule)) (fun (r_8 : Bool) => .bool r_8) fun r_8 =>
    .split 46 (!r_8)
    (.ret 4)
    (.op (.idx 2 (.sl (G.S_api_Symbol a0.Symbols)) a1.Symbol) (at_ a0.Symbols a1.Symbol) (fun (x_9 : G.api_Symbol) => .iptr (G.C_api_Symbol x_9)) fun x_9 =>
    .split 56 (a1.Kind == 1)
    (.inner (.join (σ := Bool) [2, 3, 6] (fun st_10 => ([(68, .bool st_10)], []))
    (.split 61 (decide (a1.Input < 0))
    (.ret (.inl (true)))
    (.ret (.inl (decide (a1.Input ≥ ((G.S_int a0.Inputs).length : Int))))))
    fun st_10 =>
    .split 68 (st_10)
    (.ret 1)
    (.op (.idx 1 (.sl (G.S_int a0.Inputs)) a1.Input) (at_ a0.Inputs a1.Input) (fun (x_12 : Int) => .iptr (G.C_int x_12)) fun x_12 =>
    .op (.call 46 [.int .i64 x_12, .int .i64 x_9.Typ]) (f_grammar_same x_12 x_9.Typ) (fun (r_13 : Int) => .int .i64 r_13) fun r_13 =>
    .ret r_13)))
    (.split 77 (a1.Kind == 2)
    (.op (.call 47 [.agg [.int .i64 a1.Const.Typ, .int .i64 a1.Const.Num, .str a1.Const.Text, .sl (G.S_api_Value a1.Const.Items)]]) (f_value_Check a1.Const) (fun (r_15 : Int) => .int .i64 r_15) fun r_15 =>
    .split 83 (r_15 != 0)
    (.ret r_15)
    (.op (.call 46 [.int .i64 a1.Const.Typ, .int .i64 x_9.Typ]) (f_grammar_same a1.Const.Typ x_9.Typ) (fun (r_16 : Int) => .int .i64 r_16) fun r_16 =>
    .ret r_16))
    (.op (.call 48 [.str a1.Op]) (f_operator_Find a1.Op) (fun (r_18 : G.api_Operator × Bool) => .tup [.agg (G.C_api_Operator r_18.1), .bool r_18.2]) fun r_18 =>
    .split 97 (!r_18.2)
    (.ret 5)
    (.split 104 (((G.S_int a1.Args).length : Int) != ((G.S_int r_18.1.Args).length : Int))
    (.ret 2)
    (.join (σ := Unit) [6, 8] (fun _ => ([], [.cells [.int .i64 a1.Symbol, .int .i64 a1.Kind, .int .i64 st_4.1, .int .i64 st_4.2.1, .int .i64 st_4.2.2.1, .str st_4.2.2.2.1, .sl (G.S_api_Value st_4.2.2.2.2.1), .str st_4.2.2.2.2.2.1, .sl (G.S_int st_4.2.2.2.2.2.2)], .cells [.str r_18.1.Name, .sl (G.S_int r_18.1.Args), .int .i64 r_18.1.Result]]))
    (.rng (σ := Unit) 106 109 ((G.S_int a1.Args).length) [2, 6, 8, 106, 107] (fun i _ => ([(108, .int .i64 i)], [.cells [.int .i64 a1.Symbol, .int .i64 a1.Kind, .int .i64 st_4.1, .int .i64 st_4.2.1, .int .i64 st_4.2.2.1, .str st_4.2.2.2.1, .sl (G.S_api_Value st_4.2.2.2.2.1), .str st_4.2.2.2.2.2.1, .sl (G.S_int st_4.2.2.2.2.2.2)], .cells [.str r_18.1.Name, .sl (G.S_int r_18.1.Args), .int .i64 r_18.1.Result]])) () (fun i_20 _ =>
    .op (.idx 1 (.sl (G.S_int a1.Args)) (i_20 : Int)) ((a1.Args)[i_20]?) (fun (x_22 : Int) => .iptr (G.C_int x_22)) fun x_22 =>
    .op (.call 45 [.agg [.str a0.Name, .sl (G.S_int a0.Inputs), .sl (G.S_api_Symbol a0.Symbols), .sl (G.S_api_Rule a0.Rules)], .int .i64 x_22]) (f_grammar_symbol a0 x_22) (fun (r_23 : Bool) => .bool r_23) fun r_23 =>
    .split 116 (!r_23)
    (.ret (.inr (.inr (1))))
    (.op (.idx 2 (.sl (G.S_api_Symbol a0.Symbols)) x_22) (at_ a0.Symbols x_22) (fun (x_24 : G.api_Symbol) => .iptr (G.C_api_Symbol x_24)) fun x_24 =>
    .op (.idx 1 (.sl (G.S_int r_18.1.Args)) (i_20 : Int)) ((r_18.1.Args)[i_20]?) (fun (x_25 : Int) => .iptr (G.C_int x_25)) fun x_25 =>
    .split 128 (x_24.Typ != x_25)
    (.ret (.inr (.inr (3))))
    (.ret (.inl ())))) fun _ => .inl ())
    fun _ =>
    .op (.call 46 [.int .i64 r_18.1.Result, .int .i64 x_9.Typ]) (f_grammar_same r_18.1.Result x_9.Typ) (fun (r_28 : Int) => .int .i64 r_28) fun r_28 =>
    .ret r_28)))))))))
noncomputable def f_grammar_rule (a0 : G.api_Language) (a1 : G.api_Rule) : Option (Int) := (p_grammar_rule a0 a1).eval
theorem c_grammar_rule (a0 : G.api_Language) (a1 : G.api_Rule) (res_ : Int) (h : f_grammar_rule a0 a1 = some res_) : (Ky.call 33 [.agg (G.C_api_Language a0), .agg (G.C_api_Rule a1)]).ok Try.prog (.int .i64 res_) :=
  Ky.of_check (tt := tt) (enc := fun (r : Int) => .int .i64 r) (muts := [33]) (app := []) Try.tabOk Try.mixed Try.func33 (by kernel_rfl) rfl rfl Try.ntmps33 (by kernel_rfl) (fun _ _ _ h => (by cases h)) (p := p_grammar_rule a0 a1) (
    ok_op (fun _ h => c_grammar_symbol _ _ _ h) fun r_1 hr_1 =>
    ok_split (fun b_35 =>
    ok_ret) (fun b_35 =>
    ok_inner (ok_join (ok_split (fun b_3 =>
    ok_ret) (fun b_3 =>
    ok_ret)) fun st_2 =>
    ok_split (fun b_34 =>
    ok_ret) (fun b_34 =>
    ok_inner (ok_join (ok_split (fun b_7 =>
    ok_ret) (fun b_7 =>
    ok_split (fun b_6 =>
    ok_ret) (fun b_6 =>
    ok_split (fun b_5 =>
    ok_ret) (fun b_5 =>
    ok_ret)))) fun st_4 =>
    ok_op (fun _ h => c_grammar_sameRule _ _ _ h) fun r_8 hr_8 =>
    ok_split (fun b_33 =>
    ok_ret) (fun b_33 =>
    ok_op (fun _ h => ix G.hS_api_Symbol G.hk_api_Symbol h) fun x_9 hx_9 =>
    ok_split (fun b_32 =>
    ok_inner (ok_join (ok_split (fun b_11 =>
    ok_ret) (fun b_11 =>
    ok_ret)) fun st_10 =>
    ok_split (fun b_14 =>
    ok_ret) (fun b_14 =>
    ok_op (fun _ h => ix G.hS_int G.hk_int h) fun x_12 hx_12 =>
    ok_op (fun _ h => c_grammar_same _ _ _ h) fun r_13 hr_13 =>
    ok_ret))) (fun b_32 =>
    ok_split (fun b_31 =>
    ok_op (fun _ h => c_value_Check _ _ h) fun r_15 hr_15 =>
    ok_split (fun b_17 =>
    ok_ret) (fun b_17 =>
    ok_op (fun _ h => c_grammar_same _ _ _ h) fun r_16 hr_16 =>
    ok_ret)) (fun b_31 =>
    ok_op (fun _ h => c_operator_Find _ _ h) fun r_18 hr_18 =>
    ok_split (fun b_30 =>
    ok_ret) (fun b_30 =>
    ok_split (fun b_29 =>
    ok_ret) (fun b_29 =>
    ok_join (ok_rng fun i_20 st_21 _ =>
    ok_op (fun _ h => ixn G.hS_int G.hk_int h) fun x_22 hx_22 =>
    ok_op (fun _ h => c_grammar_symbol _ _ _ h) fun r_23 hr_23 =>
    ok_split (fun b_27 =>
    ok_ret) (fun b_27 =>
    ok_op (fun _ h => ix G.hS_api_Symbol G.hk_api_Symbol h) fun x_24 hx_24 =>
    ok_op (fun _ h => ixn G.hS_int G.hk_int h) fun x_25 hx_25 =>
    ok_split (fun b_26 =>
    ok_ret) (fun b_26 =>
    ok_ret))) fun st_19 =>
    ok_op (fun _ h => c_grammar_same _ _ _ h) fun r_28 hr_28 =>
    ok_ret)))))))))) h

noncomputable def p_grammar_Check_1 (x : G.api_Rule) (cap_0 : G.api_Rule) : Prog (Bool) :=
    .op (.call 36 [.agg [.int .i64 x.Symbol, .int .i64 x.Kind, .int .i64 x.Input, .int .i64 x.Const.Typ, .int .i64 x.Const.Num, .str x.Const.Text, .sl (G.S_api_Value x.Const.Items), .str x.Op, .sl (G.S_int x.Args)], .agg [.int .i64 cap_0.Symbol, .int .i64 cap_0.Kind, .int .i64 cap_0.Input, .int .i64 cap_0.Const.Typ, .int .i64 cap_0.Const.Num, .str cap_0.Const.Text, .sl (G.S_api_Value cap_0.Const.Items), .str cap_0.Op, .sl (G.S_int cap_0.Args)]]) (f_grammar_sameRule x cap_0) (fun (r_1 : Bool) => .bool r_1) fun r_1 =>
    .ret r_1
noncomputable def f_grammar_Check_1 (x : G.api_Rule) (cap_0 : G.api_Rule) : Option (Bool) := (p_grammar_Check_1 x cap_0).eval
theorem c_grammar_Check_1 (x : G.api_Rule) (cap_0 : G.api_Rule) (res_ : Bool) (h : f_grammar_Check_1 x cap_0 = some res_) : (Ky.call 35 [.agg (G.C_api_Rule x), .iptr (G.C_api_Rule cap_0)]).ok Try.prog (.bool res_) :=
  Ky.of_check (tt := tt) (enc := fun (r : Bool) => .bool r) (muts := []) (app := []) Try.tabOk Try.mixed Try.func35 (by kernel_rfl) rfl rfl Try.ntmps35 (by kernel_rfl) (fun _ _ _ h => (by cases h)) (p := p_grammar_Check_1 x cap_0) (
    ok_op (fun _ h => c_grammar_sameRule _ _ _ h) fun r_1 hr_1 =>
    ok_ret) h

noncomputable def p_slices_IndexFunc_api_Rule_api_Rule (s : List G.api_Rule) (f_c0 : G.api_Rule) : Prog (Int) :=
    .inner (.join (σ := Unit) [] (fun _ => ([], []))
    (.rng (σ := Unit) 0 9 ((G.S_api_Rule s).length) [0, 1, 7] (fun i _ => ([(8, .int .i64 i)], [])) () (fun i_2 _ =>
    .op (.idx 9 (.sl (G.S_api_Rule s)) (i_2 : Int)) ((s)[i_2]?) (fun (x_4 : G.api_Rule) => .iptr (G.C_api_Rule x_4)) fun x_4 =>
    .op (.call 35 [.agg [.int .i64 x_4.Symbol, .int .i64 x_4.Kind, .int .i64 x_4.Input, .int .i64 x_4.Const.Typ, .int .i64 x_4.Const.Num, .str x_4.Const.Text, .sl (G.S_api_Value x_4.Const.Items), .str x_4.Op, .sl (G.S_int x_4.Args)], .iptr [.int .i64 f_c0.Symbol, .int .i64 f_c0.Kind, .int .i64 f_c0.Input, .int .i64 f_c0.Const.Typ, .int .i64 f_c0.Const.Num, .str f_c0.Const.Text, .sl (G.S_api_Value f_c0.Const.Items), .str f_c0.Op, .sl (G.S_int f_c0.Args)]]) (f_grammar_Check_1 x_4 f_c0) (fun (r_5 : Bool) => .bool r_5) fun r_5 =>
    .split 16 (r_5)
    (.ret (.inr (.inr ((i_2 : Int)))))
    (.ret (.inl ()))) fun _ => .inl ())
    fun _ =>
    .ret (-1))
noncomputable def f_slices_IndexFunc_api_Rule_api_Rule (s : List G.api_Rule) (f_c0 : G.api_Rule) : Option (Int) := (p_slices_IndexFunc_api_Rule_api_Rule s f_c0).eval
theorem c_slices_IndexFunc_api_Rule_api_Rule (s : List G.api_Rule) (f_c0 : G.api_Rule) (res_ : Int) (h : f_slices_IndexFunc_api_Rule_api_Rule s f_c0 = some res_) : (Ky.call 49 [.sl (G.S_api_Rule s), .fn 35 [.iptr [.int .i64 f_c0.Symbol, .int .i64 f_c0.Kind, .int .i64 f_c0.Input, .int .i64 f_c0.Const.Typ, .int .i64 f_c0.Const.Num, .str f_c0.Const.Text, .sl (G.S_api_Value f_c0.Const.Items), .str f_c0.Op, .sl (G.S_int f_c0.Args)]]]).ok Try.prog (.int .i64 res_) :=
  Ky.of_check (tt := tt) (enc := fun (r : Int) => .int .i64 r) (muts := []) (app := []) Try.tabOk Try.mixed Try.func49 (by kernel_rfl) rfl rfl Try.ntmps49 (by kernel_rfl) (fun _ _ _ h => (by cases h)) (p := p_slices_IndexFunc_api_Rule_api_Rule s f_c0) (
    ok_inner (ok_join (ok_rng fun i_2 st_3 _ =>
    ok_op (fun _ h => ixn G.hS_api_Rule G.hk_api_Rule h) fun x_4 hx_4 =>
    ok_op (fun _ h => c_grammar_Check_1 _ _ _ h) fun r_5 hr_5 =>
    ok_split (fun b_6 =>
    ok_ret) (fun b_6 =>
    ok_ret)) fun st_1 =>
    ok_ret)) h

noncomputable def p_slices_ContainsFunc_api_Rule_api_Rule (s : List G.api_Rule) (f_c0 : G.api_Rule) : Prog (Bool) :=
    .op (.call 49 [.sl (G.S_api_Rule s), .fn 35 [.iptr [.int .i64 f_c0.Symbol, .int .i64 f_c0.Kind, .int .i64 f_c0.Input, .int .i64 f_c0.Const.Typ, .int .i64 f_c0.Const.Num, .str f_c0.Const.Text, .sl (G.S_api_Value f_c0.Const.Items), .str f_c0.Op, .sl (G.S_int f_c0.Args)]]]) (f_slices_IndexFunc_api_Rule_api_Rule s f_c0) (fun (r_1 : Int) => .int .i64 r_1) fun r_1 =>
    .ret (decide (r_1 ≥ 0))
noncomputable def f_slices_ContainsFunc_api_Rule_api_Rule (s : List G.api_Rule) (f_c0 : G.api_Rule) : Option (Bool) := (p_slices_ContainsFunc_api_Rule_api_Rule s f_c0).eval
theorem c_slices_ContainsFunc_api_Rule_api_Rule (s : List G.api_Rule) (f_c0 : G.api_Rule) (res_ : Bool) (h : f_slices_ContainsFunc_api_Rule_api_Rule s f_c0 = some res_) : (Ky.call 34 [.sl (G.S_api_Rule s), .fn 35 [.iptr [.int .i64 f_c0.Symbol, .int .i64 f_c0.Kind, .int .i64 f_c0.Input, .int .i64 f_c0.Const.Typ, .int .i64 f_c0.Const.Num, .str f_c0.Const.Text, .sl (G.S_api_Value f_c0.Const.Items), .str f_c0.Op, .sl (G.S_int f_c0.Args)]]]).ok Try.prog (.bool res_) :=
  Ky.of_check (tt := tt) (enc := fun (r : Bool) => .bool r) (muts := []) (app := []) Try.tabOk Try.mixed Try.func34 (by kernel_rfl) rfl rfl Try.ntmps34 (by kernel_rfl) (fun _ _ _ h => (by cases h)) (p := p_slices_ContainsFunc_api_Rule_api_Rule s f_c0) (
    ok_op (fun _ h => c_slices_IndexFunc_api_Rule_api_Rule _ _ _ h) fun r_1 hr_1 =>
    ok_ret) h

noncomputable def p_grammar_Check (a0 : G.api_Language) : Prog (Int) :=
    .op (.call 31 [.str a0.Name]) (f_grammar_named a0.Name) (fun (r_1 : Bool) => .bool r_1) fun r_1 =>
    .split 14 (!r_1)
    (.ret 5)
    (.split 18 (decide (((G.S_int a0.Inputs).length : Int) > 4))
    (.ret 2)
    (.join (σ := Unit) [1] (fun _ => ([], []))
    (.rng (σ := Unit) 20 23 ((G.S_int a0.Inputs).length) [1, 20, 21] (fun i _ => ([(22, .int .i64 i)], [])) () (fun i_3 _ =>
    .op (.idx 1 (.sl (G.S_int a0.Inputs)) (i_3 : Int)) ((a0.Inputs)[i_3]?) (fun (x_5 : Int) => .iptr (G.C_int x_5)) fun x_5 =>
    .op (.call 32 [.int .i64 x_5]) (f_grammar_typed x_5) (fun (r_6 : Bool) => .bool r_6) fun r_6 =>
    .split 28 (!r_6)
    (.ret (.inr (.inr (3))))
    (.ret (.inl ()))) fun _ => .inl ())
    fun _ =>
    .inner (.join (σ := Bool) [1] (fun st_8 => ([(39, .bool st_8)], []))
    (.split 34 (decide (((G.S_api_Symbol a0.Symbols).length : Int) < 1))
    (.ret (.inl (true)))
    (.ret (.inl (decide (((G.S_api_Symbol a0.Symbols).length : Int) > 16)))))
    fun st_8 =>
    .split 39 (st_8)
    (.ret 2)
    (.inner (.join (σ := Unit) [1] (fun _ => ([], []))
    (.rng (σ := (List (List UInt8 × Bool))) 42 45 ((G.S_api_Symbol a0.Symbols).length) [1, 5, 42, 43] (fun i st_12 => ([(44, .int .i64 i)], [.mp (mpD (fun x_ : Bool => .bool x_) st_12)])) ([]) (fun i_11 st_12 =>
    .op (.idx 2 (.sl (G.S_api_Symbol a0.Symbols)) (i_11 : Int)) ((a0.Symbols)[i_11]?) (fun (x_13 : G.api_Symbol) => .iptr (G.C_api_Symbol x_13)) fun x_13 =>
    .op (.call 31 [.str x_13.Name]) (f_grammar_named x_13.Name) (fun (r_14 : Bool) => .bool r_14) fun r_14 =>
    .split 48 (!r_14)
    (.ret (.inr (.inr (5))))
    (.op (.mget (mpD (fun x_ : Bool => .bool x_) st_12) x_13.Name (.bool false)) (some (mpGet false st_12 x_13.Name)) (fun (v_15 : Bool) => .bool v_15) fun v_15 =>
    .split 53 (v_15)
    (.ret (.inr (.inr (6))))
    (.op (.call 32 [.int .i64 x_13.Typ]) (f_grammar_typed x_13.Typ) (fun (r_16 : Bool) => .bool r_16) fun r_16 =>
    .split 58 (!r_16)
    (.ret (.inr (.inr (3))))
    (.mem (.mset (mpD (fun x_ : Bool => .bool x_) st_12) x_13.Name (.bool true)) (some (mpSet st_12 x_13.Name true)) (fun (m_17 : List (List UInt8 × Bool)) => .mp (mpD (fun x_ : Bool => .bool x_) m_17)) fun m_17 =>
    .ret (.inl (m_17)))))) fun st_12 => .inl ())
    fun _ =>
    .split 70 (decide (((G.S_api_Rule a0.Rules).length : Int) > 96))
    (.ret 2)
    (.join (σ := Unit) [] (fun _ => ([], []))
    (.rng (σ := Unit) 72 75 ((G.S_api_Rule a0.Rules).length) [1, 72, 73] (fun i _ => ([(74, .int .i64 i)], [])) () (fun i_22 _ =>
    .op (.idx 9 (.sl (G.S_api_Rule a0.Rules)) (i_22 : Int)) ((a0.Rules)[i_22]?) (fun (x_24 : G.api_Rule) => .iptr (G.C_api_Rule x_24)) fun x_24 =>
    .op (.call 33 [.agg [.str a0.Name, .sl (G.S_int a0.Inputs), .sl (G.S_api_Symbol a0.Symbols), .sl (G.S_api_Rule a0.Rules)], .agg [.int .i64 x_24.Symbol, .int .i64 x_24.Kind, .int .i64 x_24.Input, .int .i64 x_24.Const.Typ, .int .i64 x_24.Const.Num, .str x_24.Const.Text, .sl (G.S_api_Value x_24.Const.Items), .str x_24.Op, .sl (G.S_int x_24.Args)]]) (f_grammar_rule a0 x_24) (fun (r_25 : Int) => .int .i64 r_25) fun r_25 =>
    .split 83 (r_25 != 0)
    (.ret (.inr (.inr (r_25))))
    (.op (.slc false 9 (.sl (G.S_api_Rule a0.Rules)) (bd none) (bd (some (i_22 : Int))) none) (slM a0.Rules none (some (i_22 : Int))) (fun (s_26 : List G.api_Rule) => .sl (G.S_api_Rule s_26)) fun s_26 =>
    .op (.callS 34 [.sl (G.S_api_Rule s_26), .fn 35 [.iptr [.int .i64 x_24.Symbol, .int .i64 x_24.Kind, .int .i64 x_24.Input, .int .i64 x_24.Const.Typ, .int .i64 x_24.Const.Num, .str x_24.Const.Text, .sl (G.S_api_Value x_24.Const.Items), .str x_24.Op, .sl (G.S_int x_24.Args)]]]) (f_slices_ContainsFunc_api_Rule_api_Rule s_26 x_24) (fun (r_27 : Bool) => .bool r_27) fun r_27 =>
    .split 90 (r_27)
    (.ret (.inr (.inr (6))))
    (.ret (.inl ())))) fun _ => .inl ())
    fun _ =>
    .ret 0))))))
noncomputable def f_grammar_Check (a0 : G.api_Language) : Option (Int) := (p_grammar_Check a0).eval
theorem c_grammar_Check (a0 : G.api_Language) (res_ : Int) (h : f_grammar_Check a0 = some res_) : (Ky.call 22 [.agg (G.C_api_Language a0)]).ok Try.prog (.int .i64 res_) :=
  Ky.of_check (tt := tt) (enc := fun (r : Int) => .int .i64 r) (muts := []) (app := []) Try.tabOk Try.mixed Try.func22 (by kernel_rfl) rfl rfl Try.ntmps22 (by kernel_rfl) (fun _ _ _ h => (by cases h)) (p := p_grammar_Check a0) (
    ok_op (fun _ h => c_grammar_named _ _ h) fun r_1 hr_1 =>
    ok_split (fun b_33 =>
    ok_ret) (fun b_33 =>
    ok_split (fun b_32 =>
    ok_ret) (fun b_32 =>
    ok_join (ok_rng fun i_3 st_4 _ =>
    ok_op (fun _ h => ixn G.hS_int G.hk_int h) fun x_5 hx_5 =>
    ok_op (fun _ h => c_grammar_typed _ _ h) fun r_6 hr_6 =>
    ok_split (fun b_7 =>
    ok_ret) (fun b_7 =>
    ok_ret)) fun st_2 =>
    ok_inner (ok_join (ok_split (fun b_9 =>
    ok_ret) (fun b_9 =>
    ok_ret)) fun st_8 =>
    ok_split (fun b_31 =>
    ok_ret) (fun b_31 =>
    ok_inner (ok_join (ok_rng fun i_11 st_12 _ =>
    ok_op (fun _ h => ixn G.hS_api_Symbol G.hk_api_Symbol h) fun x_13 hx_13 =>
    ok_op (fun _ h => c_grammar_named _ _ h) fun r_14 hr_14 =>
    ok_split (fun b_20 =>
    ok_ret) (fun b_20 =>
    ok_op (fun _ h => mg_ok (c := (fun x_ : Bool => .bool x_)) (fun _ => rfl) rfl h) fun v_15 hv_15 =>
    ok_split (fun b_19 =>
    ok_ret) (fun b_19 =>
    ok_op (fun _ h => c_grammar_typed _ _ h) fun r_16 hr_16 =>
    ok_split (fun b_18 =>
    ok_ret) (fun b_18 =>
    ok_mem (fun _ h => ms_ok (c := (fun x_ : Bool => .bool x_)) (fun _ => rfl) h) fun m_17 hm_17 =>
    ok_ret)))) fun st_10 =>
    ok_split (fun b_30 =>
    ok_ret) (fun b_30 =>
    ok_join (ok_rng fun i_22 st_23 _ =>
    ok_op (fun _ h => ixn G.hS_api_Rule G.hk_api_Rule h) fun x_24 hx_24 =>
    ok_op (fun _ h => c_grammar_rule _ _ _ h) fun r_25 hr_25 =>
    ok_split (fun b_29 =>
    ok_ret) (fun b_29 =>
    ok_op (fun _ h => sl G.hS_api_Rule G.hk_api_Rule h) fun s_26 hs_26 =>
    ok_op (fun _ h => ⟨c_slices_ContainsFunc_api_Rule_api_Rule _ _ _ h, rfl⟩) fun r_27 hr_27 =>
    ok_split (fun b_28 =>
    ok_ret) (fun b_28 =>
    ok_ret))) fun st_21 =>
    ok_ret))))))) h

noncomputable def p_term_within : Nat → G.api_Term → Int → Prog (Int)
  | 0, _, _ => .fail
  | n_ + 1, t, budget =>
    .inner (.inner (.join (σ := Int) [] (fun st_1 => ([(1, .int .i64 st_1)], []))
    (.rng (σ := Int) 10 13 ((G.S_api_Term t.Args).length) [10, 11] (fun i st_3 => ([(12, .int .i64 i), (1, .int .i64 st_3)], [])) (IntKind.wrap .i64 (budget - 1)) (fun i_2 st_3 =>
    .op (.idx 2 (.sl (G.S_api_Term t.Args)) (i_2 : Int)) ((t.Args)[i_2]?) (fun (x_4 : G.api_Term) => .iptr (G.C_api_Term x_4)) fun x_4 =>
    .split 17 (decide (st_3 < 0))
    (.ret (.inr (.inr (st_3))))
    (.op (.call 37 [.agg [.int .i64 x_4.Rule, .sl (G.S_api_Term x_4.Args)], .int .i64 st_3]) ((p_term_within n_ x_4 st_3).eval) (fun (r_5 : Int) => .int .i64 r_5) fun r_5 =>
    .ret (.inl (r_5)))) fun st_3 => .inl (st_3))
    fun st_1 =>
    .ret st_1))
noncomputable def f_term_within (t : G.api_Term) (budget : Int) : Option (Int) := (p_term_within (big + (SizeOf.sizeOf t)) t budget).eval
theorem cn_term_within : ∀ n, (∀ (t : G.api_Term) (budget : Int) (res_ : Int), (p_term_within n t budget).eval = some res_ → (Ky.call 37 [.agg (G.C_api_Term t), .int .i64 budget]).ok Try.prog (.int .i64 res_)) := by
  intro n
  induction n with
  | zero => exact fun t budget _ h => by simp [p_term_within] at h
  | succ n_ ih =>
    have ih_term_within := ih
    exact fun t budget res_ h => Ky.of_check (tt := tt) (enc := fun (r : Int) => .int .i64 r) (muts := []) (app := []) Try.tabOk Try.mixed Try.func37 (by kernel_rfl) rfl rfl Try.ntmps37 (by kernel_rfl) (fun _ _ _ h => (by cases h)) (p := p_term_within (n_ + 1) t budget) (
    ok_inner (ok_inner (ok_join (ok_rng fun i_2 st_3 _ =>
    ok_op (fun _ h => ixn G.hS_api_Term G.hk_api_Term h) fun x_4 hx_4 =>
    ok_split (fun b_6 =>
    ok_ret) (fun b_6 =>
    ok_op (fun _ h => ih_term_within _ _ _ h) fun r_5 hr_5 =>
    ok_ret)) fun st_1 =>
    ok_ret))) h
theorem c_term_within (t : G.api_Term) (budget : Int) (res_ : Int) (h : f_term_within t budget = some res_) : (Ky.call 37 [.agg (G.C_api_Term t), .int .i64 budget]).ok Try.prog (.int .i64 res_) := cn_term_within (big + (SizeOf.sizeOf t)) t budget res_ h

noncomputable def p_term_shallow : Nat → G.api_Term → Int → Prog (Bool)
  | 0, _, _ => .fail
  | n_ + 1, t, levels =>
    .split 8 (levels == 0)
    (.ret false)
    (.join (σ := Unit) [] (fun _ => ([], []))
    (.rng (σ := Unit) 10 13 ((G.S_api_Term t.Args).length) [1, 10, 11] (fun i _ => ([(12, .int .i64 i)], [])) () (fun i_2 _ =>
    .op (.idx 2 (.sl (G.S_api_Term t.Args)) (i_2 : Int)) ((t.Args)[i_2]?) (fun (x_4 : G.api_Term) => .iptr (G.C_api_Term x_4)) fun x_4 =>
    .op (.call 38 [.agg [.int .i64 x_4.Rule, .sl (G.S_api_Term x_4.Args)], .int .i64 (IntKind.wrap .i64 (levels - 1))]) ((p_term_shallow n_ x_4 (IntKind.wrap .i64 (levels - 1))).eval) (fun (r_5 : Bool) => .bool r_5) fun r_5 =>
    .split 20 (!r_5)
    (.ret (.inr (.inr (false))))
    (.ret (.inl ()))) fun _ => .inl ())
    fun _ =>
    .ret true)
noncomputable def f_term_shallow (t : G.api_Term) (levels : Int) : Option (Bool) := (p_term_shallow (big + (SizeOf.sizeOf t)) t levels).eval
theorem cn_term_shallow : ∀ n, (∀ (t : G.api_Term) (levels : Int) (res_ : Bool), (p_term_shallow n t levels).eval = some res_ → (Ky.call 38 [.agg (G.C_api_Term t), .int .i64 levels]).ok Try.prog (.bool res_)) := by
  intro n
  induction n with
  | zero => exact fun t levels _ h => by simp [p_term_shallow] at h
  | succ n_ ih =>
    have ih_term_shallow := ih
    exact fun t levels res_ h => Ky.of_check (tt := tt) (enc := fun (r : Bool) => .bool r) (muts := []) (app := []) Try.tabOk Try.mixed Try.func38 (by kernel_rfl) rfl rfl Try.ntmps38 (by kernel_rfl) (fun _ _ _ h => (by cases h)) (p := p_term_shallow (n_ + 1) t levels) (
    ok_split (fun b_7 =>
    ok_ret) (fun b_7 =>
    ok_join (ok_rng fun i_2 st_3 _ =>
    ok_op (fun _ h => ixn G.hS_api_Term G.hk_api_Term h) fun x_4 hx_4 =>
    ok_op (fun _ h => ih_term_shallow _ _ _ h) fun r_5 hr_5 =>
    ok_split (fun b_6 =>
    ok_ret) (fun b_6 =>
    ok_ret)) fun st_1 =>
    ok_ret)) h
theorem c_term_shallow (t : G.api_Term) (levels : Int) (res_ : Bool) (h : f_term_shallow t levels = some res_) : (Ky.call 38 [.agg (G.C_api_Term t), .int .i64 levels]).ok Try.prog (.bool res_) := cn_term_shallow (big + (SizeOf.sizeOf t)) t levels res_ h

noncomputable def p_term_derived : Nat → G.api_Language → Int → G.api_Term → Prog (Int)
  | 0, _, _, _ => .fail
  | n_ + 1, l, symbol, t =>
    .inner (.inner (.join (σ := Bool) [1, 3, 5] (fun st_1 => ([(21, .bool st_1)], []))
    (.split 14 (decide (t.Rule < 0))
    (.ret (.inl (true)))
    (.ret (.inl (decide (t.Rule ≥ ((G.S_api_Rule l.Rules).length : Int))))))
    fun st_1 =>
    .split 21 (st_1)
    (.ret 1)
    (.op (.idx 9 (.sl (G.S_api_Rule l.Rules)) t.Rule) (at_ l.Rules t.Rule) (fun (x_3 : G.api_Rule) => .iptr (G.C_api_Rule x_3)) fun x_3 =>
    .split 31 (x_3.Symbol != symbol)
    (.ret 3)
    (.split 38 (((G.S_api_Term t.Args).length : Int) != ((G.S_int x_3.Args).length : Int))
    (.ret 4)
    (.join (σ := Unit) [] (fun _ => ([], []))
    (.rng (σ := Unit) 40 43 ((G.S_api_Term t.Args).length) [3, 7, 40, 41] (fun i _ => ([(42, .int .i64 i)], [.cells [.int .i64 x_3.Symbol, .int .i64 x_3.Kind, .int .i64 x_3.Input, .int .i64 x_3.Const.Typ, .int .i64 x_3.Const.Num, .str x_3.Const.Text, .sl (G.S_api_Value x_3.Const.Items), .str x_3.Op, .sl (G.S_int x_3.Args)]])) () (fun i_5 _ =>
    .op (.idx 2 (.sl (G.S_api_Term t.Args)) (i_5 : Int)) ((t.Args)[i_5]?) (fun (x_7 : G.api_Term) => .iptr (G.C_api_Term x_7)) fun x_7 =>
    .op (.idx 1 (.sl (G.S_int x_3.Args)) (i_5 : Int)) ((x_3.Args)[i_5]?) (fun (x_8 : Int) => .iptr (G.C_int x_8)) fun x_8 =>
    .op (.call 39 [.agg [.str l.Name, .sl (G.S_int l.Inputs), .sl (G.S_api_Symbol l.Symbols), .sl (G.S_api_Rule l.Rules)], .int .i64 x_8, .agg [.int .i64 x_7.Rule, .sl (G.S_api_Term x_7.Args)]]) ((p_term_derived n_ l x_8 x_7).eval) (fun (r_9 : Int) => .int .i64 r_9) fun r_9 =>
    .split 56 (r_9 != 0)
    (.ret (.inr (.inr (r_9))))
    (.ret (.inl ()))) fun _ => .inl ())
    fun _ =>
    .ret 0)))))
noncomputable def f_term_derived (l : G.api_Language) (symbol : Int) (t : G.api_Term) : Option (Int) := (p_term_derived (big + (SizeOf.sizeOf l + SizeOf.sizeOf t)) l symbol t).eval
theorem cn_term_derived : ∀ n, (∀ (l : G.api_Language) (symbol : Int) (t : G.api_Term) (res_ : Int), (p_term_derived n l symbol t).eval = some res_ → (Ky.call 39 [.agg (G.C_api_Language l), .int .i64 symbol, .agg (G.C_api_Term t)]).ok Try.prog (.int .i64 res_)) := by
  intro n
  induction n with
  | zero => exact fun l symbol t _ h => by simp [p_term_derived] at h
  | succ n_ ih =>
    have ih_term_derived := ih
    exact fun l symbol t res_ h => Ky.of_check (tt := tt) (enc := fun (r : Int) => .int .i64 r) (muts := []) (app := []) Try.tabOk Try.mixed Try.func39 (by kernel_rfl) rfl rfl Try.ntmps39 (by kernel_rfl) (fun _ _ _ h => (by cases h)) (p := p_term_derived (n_ + 1) l symbol t) (
    ok_inner (ok_inner (ok_join (ok_split (fun b_2 =>
    ok_ret) (fun b_2 =>
    ok_ret)) fun st_1 =>
    ok_split (fun b_13 =>
    ok_ret) (fun b_13 =>
    ok_op (fun _ h => ix G.hS_api_Rule G.hk_api_Rule h) fun x_3 hx_3 =>
    ok_split (fun b_12 =>
    ok_ret) (fun b_12 =>
    ok_split (fun b_11 =>
    ok_ret) (fun b_11 =>
    ok_join (ok_rng fun i_5 st_6 _ =>
    ok_op (fun _ h => ixn G.hS_api_Term G.hk_api_Term h) fun x_7 hx_7 =>
    ok_op (fun _ h => ixn G.hS_int G.hk_int h) fun x_8 hx_8 =>
    ok_op (fun _ h => ih_term_derived _ _ _ _ h) fun r_9 hr_9 =>
    ok_split (fun b_10 =>
    ok_ret) (fun b_10 =>
    ok_ret)) fun st_4 =>
    ok_ret)))))) h
theorem c_term_derived (l : G.api_Language) (symbol : Int) (t : G.api_Term) (res_ : Int) (h : f_term_derived l symbol t = some res_) : (Ky.call 39 [.agg (G.C_api_Language l), .int .i64 symbol, .agg (G.C_api_Term t)]).ok Try.prog (.int .i64 res_) := cn_term_derived (big + (SizeOf.sizeOf l + SizeOf.sizeOf t)) l symbol t res_ h

noncomputable def p_term_Check (l : G.api_Language) (symbol : Int) (t : G.api_Term) : Prog (Int) :=
    .op (.call 22 [.agg [.str l.Name, .sl (G.S_int l.Inputs), .sl (G.S_api_Symbol l.Symbols), .sl (G.S_api_Rule l.Rules)]]) (f_grammar_Check l) (fun (r_1 : Int) => .int .i64 r_1) fun r_1 =>
    .split 11 (r_1 != 0)
    (.ret r_1)
    (.inner (.join (σ := Bool) [1, 3, 5] (fun st_2 => ([(21, .bool st_2)], []))
    (.split 15 (decide (symbol < 0))
    (.ret (.inl (true)))
    (.ret (.inl (decide (symbol ≥ ((G.S_api_Symbol l.Symbols).length : Int))))))
    fun st_2 =>
    .split 21 (st_2)
    (.ret 1)
    (.inner (.join (σ := Bool) [1, 3, 5] (fun st_4 => ([(29, .bool st_4)], []))
    (.op (.call 37 [.agg [.int .i64 t.Rule, .sl (G.S_api_Term t.Args)], .int .i64 4096]) (f_term_within t 4096) (fun (r_5 : Int) => .int .i64 r_5) fun r_5 =>
    .split 25 (decide (r_5 < 0))
    (.ret (.inl (true)))
    (.op (.call 38 [.agg [.int .i64 t.Rule, .sl (G.S_api_Term t.Args)], .int .i64 32]) (f_term_shallow t 32) (fun (r_6 : Bool) => .bool r_6) fun r_6 =>
    .ret (.inl (!r_6))))
    fun st_4 =>
    .split 29 (st_4)
    (.ret 2)
    (.op (.call 39 [.agg [.str l.Name, .sl (G.S_int l.Inputs), .sl (G.S_api_Symbol l.Symbols), .sl (G.S_api_Rule l.Rules)], .int .i64 symbol, .agg [.int .i64 t.Rule, .sl (G.S_api_Term t.Args)]]) (f_term_derived l symbol t) (fun (r_8 : Int) => .int .i64 r_8) fun r_8 =>
    .ret r_8)))))
noncomputable def f_term_Check (l : G.api_Language) (symbol : Int) (t : G.api_Term) : Option (Int) := (p_term_Check l symbol t).eval
theorem c_term_Check (l : G.api_Language) (symbol : Int) (t : G.api_Term) (res_ : Int) (h : f_term_Check l symbol t = some res_) : (Ky.call 23 [.agg (G.C_api_Language l), .int .i64 symbol, .agg (G.C_api_Term t)]).ok Try.prog (.int .i64 res_) :=
  Ky.of_check (tt := tt) (enc := fun (r : Int) => .int .i64 r) (muts := []) (app := []) Try.tabOk Try.mixed Try.func23 (by kernel_rfl) rfl rfl Try.ntmps23 (by kernel_rfl) (fun _ _ _ h => (by cases h)) (p := p_term_Check l symbol t) (
    ok_op (fun _ h => c_grammar_Check _ _ h) fun r_1 hr_1 =>
    ok_split (fun b_11 =>
    ok_ret) (fun b_11 =>
    ok_inner (ok_join (ok_split (fun b_3 =>
    ok_ret) (fun b_3 =>
    ok_ret)) fun st_2 =>
    ok_split (fun b_10 =>
    ok_ret) (fun b_10 =>
    ok_inner (ok_join (ok_op (fun _ h => c_term_within _ _ _ h) fun r_5 hr_5 =>
    ok_split (fun b_7 =>
    ok_ret) (fun b_7 =>
    ok_op (fun _ h => c_term_shallow _ _ _ h) fun r_6 hr_6 =>
    ok_ret)) fun st_4 =>
    ok_split (fun b_9 =>
    ok_ret) (fun b_9 =>
    ok_op (fun _ h => c_term_derived _ _ _ _ h) fun r_8 hr_8 =>
    ok_ret)))))) h

noncomputable def p_branch_program (l : G.api_Language) (t : G.api_Term) : Prog (Int) :=
    .op (.call 23 [.agg [.str l.Name, .sl (G.S_int l.Inputs), .sl (G.S_api_Symbol l.Symbols), .sl (G.S_api_Rule l.Rules)], .int .i64 0, .agg [.int .i64 t.Rule, .sl (G.S_api_Term t.Args)]]) (f_term_Check l 0 t) (fun (r_1 : Int) => .int .i64 r_1) fun r_1 =>
    .ret r_1
noncomputable def f_branch_program (l : G.api_Language) (t : G.api_Term) : Option (Int) := (p_branch_program l t).eval
theorem c_branch_program (l : G.api_Language) (t : G.api_Term) (res_ : Int) (h : f_branch_program l t = some res_) : (Ky.call 24 [.agg (G.C_api_Language l), .agg (G.C_api_Term t)]).ok Try.prog (.int .i64 res_) :=
  Ky.of_check (tt := tt) (enc := fun (r : Int) => .int .i64 r) (muts := []) (app := []) Try.tabOk Try.mixed Try.func24 (by kernel_rfl) rfl rfl Try.ntmps24 (by kernel_rfl) (fun _ _ _ h => (by cases h)) (p := p_branch_program l t) (
    ok_op (fun _ h => c_term_Check _ _ _ _ h) fun r_1 hr_1 =>
    ok_ret) h

noncomputable def p_branch_Check (l : G.api_Language) (tests : Int) (d : G.api_Decisions) : Prog (Int) :=
    .op (.call 22 [.agg [.str l.Name, .sl (G.S_int l.Inputs), .sl (G.S_api_Symbol l.Symbols), .sl (G.S_api_Rule l.Rules)]]) (f_grammar_Check l) (fun (r_1 : Int) => .int .i64 r_1) fun r_1 =>
    .split 15 (r_1 != 0)
    (.ret r_1)
    (.inner (.join (σ := Bool) [1, 3, 5] (fun st_2 => ([(25, .bool st_2)], []))
    (.split 19 (decide (tests < 0))
    (.ret (.inl (true)))
    (.ret (.inl (decide (tests ≥ ((G.S_api_Symbol l.Symbols).length : Int))))))
    fun st_2 =>
    .split 25 (st_2)
    (.ret 1)
    (.op (.idx 2 (.sl (G.S_api_Symbol l.Symbols)) tests) (at_ l.Symbols tests) (fun (x_4 : G.api_Symbol) => .iptr (G.C_api_Symbol x_4)) fun x_4 =>
    .split 32 (x_4.Typ != 1)
    (.ret 3)
    (.split 36 (decide (((G.S_api_Branch d.Branches).length : Int) > 16))
    (.ret 2)
    (.join (σ := Unit) [3, 5] (fun _ => ([], []))
    (.rng (σ := Unit) 38 41 ((G.S_api_Branch d.Branches).length) [1, 3, 5, 38, 39] (fun i _ => ([(40, .int .i64 i)], [])) () (fun i_6 _ =>
    .op (.idx 4 (.sl (G.S_api_Branch d.Branches)) (i_6 : Int)) ((d.Branches)[i_6]?) (fun (x_8 : G.api_Branch) => .iptr (G.C_api_Branch x_8)) fun x_8 =>
    .op (.call 23 [.agg [.str l.Name, .sl (G.S_int l.Inputs), .sl (G.S_api_Symbol l.Symbols), .sl (G.S_api_Rule l.Rules)], .int .i64 tests, .agg [.int .i64 x_8.Test.Rule, .sl (G.S_api_Term x_8.Test.Args)]]) (f_term_Check l tests x_8.Test) (fun (r_9 : Int) => .int .i64 r_9) fun r_9 =>
    .split 50 (r_9 != 0)
    (.ret (.inr (.inr (r_9))))
    (.op (.call 24 [.agg [.str l.Name, .sl (G.S_int l.Inputs), .sl (G.S_api_Symbol l.Symbols), .sl (G.S_api_Rule l.Rules)], .agg [.int .i64 x_8.Then.Rule, .sl (G.S_api_Term x_8.Then.Args)]]) (f_branch_program l x_8.Then) (fun (r_10 : Int) => .int .i64 r_10) fun r_10 =>
    .split 57 (r_10 != 0)
    (.ret (.inr (.inr (r_10))))
    (.ret (.inl ())))) fun _ => .inl ())
    fun _ =>
    .op (.call 24 [.agg [.str l.Name, .sl (G.S_int l.Inputs), .sl (G.S_api_Symbol l.Symbols), .sl (G.S_api_Rule l.Rules)], .agg [.int .i64 d.Else.Rule, .sl (G.S_api_Term d.Else.Args)]]) (f_branch_program l d.Else) (fun (r_13 : Int) => .int .i64 r_13) fun r_13 =>
    .ret r_13)))))
noncomputable def f_branch_Check (l : G.api_Language) (tests : Int) (d : G.api_Decisions) : Option (Int) := (p_branch_Check l tests d).eval
theorem c_branch_Check (l : G.api_Language) (tests : Int) (d : G.api_Decisions) (res_ : Int) (h : f_branch_Check l tests d = some res_) : (Ky.call 13 [.agg (G.C_api_Language l), .int .i64 tests, .agg (G.C_api_Decisions d)]).ok Try.prog (.int .i64 res_) :=
  Ky.of_check (tt := tt) (enc := fun (r : Int) => .int .i64 r) (muts := []) (app := []) Try.tabOk Try.mixed Try.func13 (by kernel_rfl) rfl rfl Try.ntmps13 (by kernel_rfl) (fun _ _ _ h => (by cases h)) (p := p_branch_Check l tests d) (
    ok_op (fun _ h => c_grammar_Check _ _ h) fun r_1 hr_1 =>
    ok_split (fun b_17 =>
    ok_ret) (fun b_17 =>
    ok_inner (ok_join (ok_split (fun b_3 =>
    ok_ret) (fun b_3 =>
    ok_ret)) fun st_2 =>
    ok_split (fun b_16 =>
    ok_ret) (fun b_16 =>
    ok_op (fun _ h => ix G.hS_api_Symbol G.hk_api_Symbol h) fun x_4 hx_4 =>
    ok_split (fun b_15 =>
    ok_ret) (fun b_15 =>
    ok_split (fun b_14 =>
    ok_ret) (fun b_14 =>
    ok_join (ok_rng fun i_6 st_7 _ =>
    ok_op (fun _ h => ixn G.hS_api_Branch G.hk_api_Branch h) fun x_8 hx_8 =>
    ok_op (fun _ h => c_term_Check _ _ _ _ h) fun r_9 hr_9 =>
    ok_split (fun b_12 =>
    ok_ret) (fun b_12 =>
    ok_op (fun _ h => c_branch_program _ _ _ h) fun r_10 hr_10 =>
    ok_split (fun b_11 =>
    ok_ret) (fun b_11 =>
    ok_ret))) fun st_5 =>
    ok_op (fun _ h => c_branch_program _ _ _ h) fun r_13 hr_13 =>
    ok_ret)))))) h

noncomputable def p_synthesisref11_Name (a0 : List UInt8) : Prog (Bool) :=
    .inner (.join (σ := Unit) [0] (fun _ => ([], []))
    (.rng (σ := Unit) 0 8 (a0.length) [0] (fun i _ => ([(3, .int .i64 i)], [])) () (fun i_2 _ =>
    .inner (.join (σ := Bool) [0, 3] (fun st_4 => ([(4, .bool st_4)], []))
    (.op (.stridx (.str a0) (i_2 : Int)) (byn a0 i_2) (fun (c_5 : Int) => .int .u8 c_5) fun c_5 =>
    .split 15 (decide (c_5 ≥ 97))
    (.op (.stridx (.str a0) (i_2 : Int)) (some c_5) (fun (c_6 : Int) => .int .u8 c_6) fun c_6 =>
    .split 21 (decide (c_6 ≤ 122))
    (.ret (.inl (true)))
    (.op (.stridx (.str a0) (i_2 : Int)) (some c_5) (fun (c_7 : Int) => .int .u8 c_7) fun c_7 =>
    .split 26 (decide (c_7 ≥ 65))
    (.op (.stridx (.str a0) (i_2 : Int)) (some c_5) (fun (c_8 : Int) => .int .u8 c_8) fun c_8 =>
    .ret (.inl (decide (c_8 ≤ 90))))
    (.ret (.inl (false)))))
    (.op (.stridx (.str a0) (i_2 : Int)) (some c_5) (fun (c_11 : Int) => .int .u8 c_11) fun c_11 =>
    .split 26 (decide (c_11 ≥ 65))
    (.op (.stridx (.str a0) (i_2 : Int)) (some c_5) (fun (c_12 : Int) => .int .u8 c_12) fun c_12 =>
    .ret (.inl (decide (c_12 ≤ 90))))
    (.ret (.inl (false)))))
    fun st_4 =>
    .join (σ := Bool) [0, 3] (fun st_15 => ([(56, .bool st_15)], []))
    (.split 35 (!st_4)
    (.split 38 ((i_2 : Int) == 0)
    (.ret (.inl (true)))
    (.op (.stridx (.str a0) (i_2 : Int)) (byn a0 i_2) (fun (c_16 : Int) => .int .u8 c_16) fun c_16 =>
    .split 43 (c_16 != 45)
    (.op (.stridx (.str a0) (i_2 : Int)) (some c_16) (fun (c_17 : Int) => .int .u8 c_17) fun c_17 =>
    .split 48 (decide (c_17 < 48))
    (.ret (.inl (true)))
    (.op (.stridx (.str a0) (i_2 : Int)) (some c_16) (fun (c_18 : Int) => .int .u8 c_18) fun c_18 =>
    .ret (.inl (decide (c_18 > 57)))))
    (.ret (.inl (false)))))
    (.ret (.inl (false))))
    fun st_15 =>
    .split 56 (st_15)
    (.ret (.inr (.inr (false))))
    (.ret (.inl ())))) fun _ => .inl ())
    fun _ =>
    .join (σ := Bool) [] (fun st_24 => ([(2, .bool st_24)], []))
    (.split 60 (decide ((a0.length : Int) ≥ 1))
    (.ret (.inl (decide ((a0.length : Int) ≤ 24))))
    (.ret (.inl (false))))
    fun st_24 =>
    .ret st_24)
noncomputable def f_synthesisref11_Name (a0 : List UInt8) : Option (Bool) := (p_synthesisref11_Name a0).eval
theorem c_synthesisref11_Name (a0 : List UInt8) (res_ : Bool) (h : f_synthesisref11_Name a0 = some res_) : (Ky.call 52 [.str a0]).ok Try.prog (.bool res_) :=
  Ky.of_check (tt := tt) (enc := fun (r : Bool) => .bool r) (muts := []) (app := []) Try.tabOk Try.mixed Try.func52 (by kernel_rfl) rfl rfl Try.ntmps52 (by kernel_rfl) (fun _ _ _ h => (by cases h)) (p := p_synthesisref11_Name a0) (
    ok_inner (ok_join (ok_rng fun i_2 st_3 _ =>
    ok_inner (ok_join (ok_op (fun _ h => sxn h) fun c_5 hc_5 =>
    ok_split (fun b_14 =>
    ok_op (fun _ e => Option.some.inj e ▸ sxn hc_5) fun c_6 hc_6 =>
    ok_split (fun b_10 =>
    ok_ret) (fun b_10 =>
    ok_op (fun _ e => Option.some.inj e ▸ sxn hc_5) fun c_7 hc_7 =>
    ok_split (fun b_9 =>
    ok_op (fun _ e => Option.some.inj e ▸ sxn hc_5) fun c_8 hc_8 =>
    ok_ret) (fun b_9 =>
    ok_ret))) (fun b_14 =>
    ok_op (fun _ e => Option.some.inj e ▸ sxn hc_5) fun c_11 hc_11 =>
    ok_split (fun b_13 =>
    ok_op (fun _ e => Option.some.inj e ▸ sxn hc_5) fun c_12 hc_12 =>
    ok_ret) (fun b_13 =>
    ok_ret))) fun st_4 =>
    ok_join (ok_split (fun b_22 =>
    ok_split (fun b_21 =>
    ok_ret) (fun b_21 =>
    ok_op (fun _ h => sxn h) fun c_16 hc_16 =>
    ok_split (fun b_20 =>
    ok_op (fun _ e => Option.some.inj e ▸ sxn hc_16) fun c_17 hc_17 =>
    ok_split (fun b_19 =>
    ok_ret) (fun b_19 =>
    ok_op (fun _ e => Option.some.inj e ▸ sxn hc_16) fun c_18 hc_18 =>
    ok_ret)) (fun b_20 =>
    ok_ret))) (fun b_22 =>
    ok_ret)) fun st_15 =>
    ok_split (fun b_23 =>
    ok_ret) (fun b_23 =>
    ok_ret))) fun st_1 =>
    ok_join (ok_split (fun b_25 =>
    ok_ret) (fun b_25 =>
    ok_ret)) fun st_24 =>
    ok_ret)) h

noncomputable def p_synthesisref11_typed (t : Int) : Prog (Bool) :=
    .inner (.join (σ := Bool) [] (fun st_1 => ([(2, .bool st_1)], []))
    (.split 5 (decide (t ≥ 1))
    (.ret (.inl (decide (t ≤ 8))))
    (.ret (.inl (false))))
    fun st_1 =>
    .ret st_1)
noncomputable def f_synthesisref11_typed (t : Int) : Option (Bool) := (p_synthesisref11_typed t).eval
theorem c_synthesisref11_typed (t : Int) (res_ : Bool) (h : f_synthesisref11_typed t = some res_) : (Ky.call 53 [.int .i64 t]).ok Try.prog (.bool res_) :=
  Ky.of_check (tt := tt) (enc := fun (r : Bool) => .bool r) (muts := []) (app := []) Try.tabOk Try.mixed Try.func53 (by kernel_rfl) rfl rfl Try.ntmps53 (by kernel_rfl) (fun _ _ _ h => (by cases h)) (p := p_synthesisref11_typed t) (
    ok_inner (ok_join (ok_split (fun b_2 =>
    ok_ret) (fun b_2 =>
    ok_ret)) fun st_1 =>
    ok_ret)) h

noncomputable def p_synthesisref01_sign (less : Bool) : Prog (Int) :=
    .split 3 (less)
    (.ret (-1))
    (.ret 1)
noncomputable def f_synthesisref01_sign (less : Bool) : Option (Int) := (p_synthesisref01_sign less).eval
theorem c_synthesisref01_sign (less : Bool) (res_ : Int) (h : f_synthesisref01_sign less = some res_) : (Ky.call 81 [.bool less]).ok Try.prog (.int .i64 res_) :=
  Ky.of_check (tt := tt) (enc := fun (r : Int) => .int .i64 r) (muts := []) (app := []) Try.tabOk Try.mixed Try.func81 (by kernel_rfl) rfl rfl Try.ntmps81 (by kernel_rfl) (fun _ _ _ h => (by cases h)) (p := p_synthesisref01_sign less) (
    ok_split (fun b_1 =>
    ok_ret) (fun b_1 =>
    ok_ret)) h

mutual
noncomputable def p_synthesisref01_Compare : Nat → G.api_Value → G.api_Value → Prog (Int)
  | 0, _, _ => .fail
  | n_ + 1, a, b =>
    .split 5 (a.Typ != b.Typ)
    (.op (.call 81 [.bool (decide (a.Typ < b.Typ))]) (f_synthesisref01_sign (decide (a.Typ < b.Typ))) (fun (r_1 : Int) => .int .i64 r_1) fun r_1 =>
    .ret r_1)
    (.split 17 (a.Num != b.Num)
    (.op (.call 81 [.bool (decide (a.Num < b.Num))]) (f_synthesisref01_sign (decide (a.Num < b.Num))) (fun (r_2 : Int) => .int .i64 r_2) fun r_2 =>
    .ret r_2)
    (.split 29 (!(a.Text == b.Text))
    (.op (.call 81 [.bool (Op.bytesLess a.Text b.Text)]) (f_synthesisref01_sign (Op.bytesLess a.Text b.Text)) (fun (r_3 : Int) => .int .i64 r_3) fun r_3 =>
    .ret r_3)
    (.op (.call 82 [.sl (G.S_api_Value a.Items), .sl (G.S_api_Value b.Items)]) ((p_synthesisref01_CompareAll n_ a.Items b.Items).eval) (fun (r_4 : Int) => .int .i64 r_4) fun r_4 =>
    .ret r_4)))
noncomputable def p_synthesisref01_CompareAll : Nat → List G.api_Value → List G.api_Value → Prog (Int)
  | 0, _, _ => .fail
  | n_ + 1, a, b =>
    .inner (.join (σ := Unit) [0, 1] (fun _ => ([], []))
    (.loop (σ := Int) (ρ := Int) [0, 1] (fun st_2 => ([(5, .int .i64 st_2)], [])) (0) (fun _ y => y) fun st_2 =>
    .inner (.join (σ := Bool) [0, 1, 5] (fun st_3 => ([(16, .bool st_3)], []))
    (.split 11 (decide (st_2 < ((G.S_api_Value a).length : Int)))
    (.ret (.inl (decide (st_2 < ((G.S_api_Value b).length : Int)))))
    (.ret (.inl (false))))
    fun st_3 =>
    .split 16 (st_3)
    (.op (.idx 4 (.sl (G.S_api_Value a)) st_2) (at_ a st_2) (fun (x_5 : G.api_Value) => .iptr (G.C_api_Value x_5)) fun x_5 =>
    .op (.idx 4 (.sl (G.S_api_Value b)) st_2) (at_ b st_2) (fun (x_6 : G.api_Value) => .iptr (G.C_api_Value x_6)) fun x_6 =>
    .op (.call 76 [.agg [.int .i64 x_5.Typ, .int .i64 x_5.Num, .str x_5.Text, .sl (G.S_api_Value x_5.Items)], .agg [.int .i64 x_6.Typ, .int .i64 x_6.Num, .str x_6.Text, .sl (G.S_api_Value x_6.Items)]]) ((p_synthesisref01_Compare n_ x_5 x_6).eval) (fun (r_7 : Int) => .int .i64 r_7) fun r_7 =>
    .split 29 (r_7 != 0)
    (.ret (.inr (.inr (r_7))))
    (.ret (.inl (IntKind.wrap .i64 (st_2 + 1)))))
    (.ret (.inr (.inl ())))))
    fun _ =>
    .split 35 (((G.S_api_Value a).length : Int) == ((G.S_api_Value b).length : Int))
    (.ret 0)
    (.op (.call 81 [.bool (decide (((G.S_api_Value a).length : Int) < ((G.S_api_Value b).length : Int)))]) (f_synthesisref01_sign (decide (((G.S_api_Value a).length : Int) < ((G.S_api_Value b).length : Int)))) (fun (r_10 : Int) => .int .i64 r_10) fun r_10 =>
    .ret r_10))
end
noncomputable def f_synthesisref01_Compare (a : G.api_Value) (b : G.api_Value) : Option (Int) := (p_synthesisref01_Compare (big + (SizeOf.sizeOf a + SizeOf.sizeOf b)) a b).eval
noncomputable def f_synthesisref01_CompareAll (a : List G.api_Value) (b : List G.api_Value) : Option (Int) := (p_synthesisref01_CompareAll (big + (SizeOf.sizeOf a + SizeOf.sizeOf b)) a b).eval
theorem cn_synthesisref01_Compare_synthesisref01_CompareAll : ∀ n, (∀ (a : G.api_Value) (b : G.api_Value) (res_ : Int), (p_synthesisref01_Compare n a b).eval = some res_ → (Ky.call 76 [.agg (G.C_api_Value a), .agg (G.C_api_Value b)]).ok Try.prog (.int .i64 res_)) ∧ (∀ (a : List G.api_Value) (b : List G.api_Value) (res_ : Int), (p_synthesisref01_CompareAll n a b).eval = some res_ → (Ky.call 82 [.sl (G.S_api_Value a), .sl (G.S_api_Value b)]).ok Try.prog (.int .i64 res_)) := by
  intro n
  induction n with
  | zero => exact ⟨fun a b _ h => by simp [p_synthesisref01_Compare] at h, fun a b _ h => by simp [p_synthesisref01_CompareAll] at h⟩
  | succ n_ ih =>
    obtain ⟨ih_synthesisref01_Compare, ih_synthesisref01_CompareAll⟩ := ih
    exact ⟨fun a b res_ h => Ky.of_check (tt := tt) (enc := fun (r : Int) => .int .i64 r) (muts := []) (app := []) Try.tabOk Try.mixed Try.func76 (by kernel_rfl) rfl rfl Try.ntmps76 (by kernel_rfl) (fun _ _ _ h => (by cases h)) (p := p_synthesisref01_Compare (n_ + 1) a b) (
    ok_split (fun b_7 =>
    ok_op (fun _ h => c_synthesisref01_sign _ _ h) fun r_1 hr_1 =>
    ok_ret) (fun b_7 =>
    ok_split (fun b_6 =>
    ok_op (fun _ h => c_synthesisref01_sign _ _ h) fun r_2 hr_2 =>
    ok_ret) (fun b_6 =>
    ok_split (fun b_5 =>
    ok_op (fun _ h => c_synthesisref01_sign _ _ h) fun r_3 hr_3 =>
    ok_ret) (fun b_5 =>
    ok_op (fun _ h => ih_synthesisref01_CompareAll _ _ _ h) fun r_4 hr_4 =>
    ok_ret)))) h,
    fun a b res_ h => Ky.of_check (tt := tt) (enc := fun (r : Int) => .int .i64 r) (muts := []) (app := []) Try.tabOk Try.mixed Try.func82 (by kernel_rfl) rfl rfl Try.ntmps82 (by kernel_rfl) (fun _ _ _ h => (by cases h)) (p := p_synthesisref01_CompareAll (n_ + 1) a b) (
    ok_inner (ok_join (ok_loop fun st_2 =>
    ok_inner (ok_join (ok_split (fun b_4 =>
    ok_ret) (fun b_4 =>
    ok_ret)) fun st_3 =>
    ok_split (fun b_9 =>
    ok_op (fun _ h => ix G.hS_api_Value G.hk_api_Value h) fun x_5 hx_5 =>
    ok_op (fun _ h => ix G.hS_api_Value G.hk_api_Value h) fun x_6 hx_6 =>
    ok_op (fun _ h => ih_synthesisref01_Compare _ _ _ h) fun r_7 hr_7 =>
    ok_split (fun b_8 =>
    ok_ret) (fun b_8 =>
    ok_ret)) (fun b_9 =>
    ok_ret))) fun st_1 =>
    ok_split (fun b_11 =>
    ok_ret) (fun b_11 =>
    ok_op (fun _ h => c_synthesisref01_sign _ _ h) fun r_10 hr_10 =>
    ok_ret))) h⟩
theorem c_synthesisref01_Compare (a : G.api_Value) (b : G.api_Value) (res_ : Int) (h : f_synthesisref01_Compare a b = some res_) : (Ky.call 76 [.agg (G.C_api_Value a), .agg (G.C_api_Value b)]).ok Try.prog (.int .i64 res_) := (cn_synthesisref01_Compare_synthesisref01_CompareAll (big + (SizeOf.sizeOf a + SizeOf.sizeOf b))).1 a b res_ h
theorem c_synthesisref01_CompareAll (a : List G.api_Value) (b : List G.api_Value) (res_ : Int) (h : f_synthesisref01_CompareAll a b = some res_) : (Ky.call 82 [.sl (G.S_api_Value a), .sl (G.S_api_Value b)]).ok Try.prog (.int .i64 res_) := (cn_synthesisref01_Compare_synthesisref01_CompareAll (big + (SizeOf.sizeOf a + SizeOf.sizeOf b))).2 a b res_ h

noncomputable def p_synthesisref01_Equal (a : G.api_Value) (b : G.api_Value) : Prog (Bool) :=
    .op (.call 76 [.agg [.int .i64 a.Typ, .int .i64 a.Num, .str a.Text, .sl (G.S_api_Value a.Items)], .agg [.int .i64 b.Typ, .int .i64 b.Num, .str b.Text, .sl (G.S_api_Value b.Items)]]) (f_synthesisref01_Compare a b) (fun (r_1 : Int) => .int .i64 r_1) fun r_1 =>
    .ret (r_1 == 0)
noncomputable def f_synthesisref01_Equal (a : G.api_Value) (b : G.api_Value) : Option (Bool) := (p_synthesisref01_Equal a b).eval
theorem c_synthesisref01_Equal (a : G.api_Value) (b : G.api_Value) (res_ : Bool) (h : f_synthesisref01_Equal a b = some res_) : (Ky.call 68 [.agg (G.C_api_Value a), .agg (G.C_api_Value b)]).ok Try.prog (.bool res_) :=
  Ky.of_check (tt := tt) (enc := fun (r : Bool) => .bool r) (muts := []) (app := []) Try.tabOk Try.mixed Try.func68 (by kernel_rfl) rfl rfl Try.ntmps68 (by kernel_rfl) (fun _ _ _ h => (by cases h)) (p := p_synthesisref01_Equal a b) (
    ok_op (fun _ h => c_synthesisref01_Compare _ _ _ h) fun r_1 hr_1 =>
    ok_ret) h

noncomputable def p_synthesisref11_zero (r : G.api_Rule) : Prog (Bool) :=
    .op (.call 68 [.agg [.int .i64 r.Const.Typ, .int .i64 r.Const.Num, .str r.Const.Text, .sl (G.S_api_Value r.Const.Items)], .agg [.int .i64 0, .int .i64 0, .str [], .sl (G.S_api_Value [])]]) (f_synthesisref01_Equal r.Const (⟨0, 0, [], []⟩ : G.api_Value)) (fun (r_1 : Bool) => .bool r_1) fun r_1 =>
    .split 10 (r.Kind == 1)
    (.join (σ := Bool) [] (fun st_2 => ([(2, .bool st_2)], []))
    (.split 13 (r_1)
    (.split 18 (r.Op == [])
    (.ret (.inl (((G.S_int r.Args).length : Int) == 0)))
    (.ret (.inl (false))))
    (.ret (.inl (false))))
    fun st_2 =>
    .ret st_2)
    (.split 24 (r.Kind == 2)
    (.join (σ := Bool) [] (fun st_5 => ([(2, .bool st_5)], []))
    (.split 29 (r.Input == 0)
    (.split 34 (r.Op == [])
    (.ret (.inl (((G.S_int r.Args).length : Int) == 0)))
    (.ret (.inl (false))))
    (.ret (.inl (false))))
    fun st_5 =>
    .ret st_5)
    (.join (σ := Bool) [] (fun st_8 => ([(2, .bool st_8)], []))
    (.split 43 (r.Input == 0)
    (.ret (.inl (r_1)))
    (.ret (.inl (false))))
    fun st_8 =>
    .ret st_8))
noncomputable def f_synthesisref11_zero (r : G.api_Rule) : Option (Bool) := (p_synthesisref11_zero r).eval
theorem c_synthesisref11_zero (r : G.api_Rule) (res_ : Bool) (h : f_synthesisref11_zero r = some res_) : (Ky.call 64 [.agg (G.C_api_Rule r)]).ok Try.prog (.bool res_) :=
  Ky.of_check (tt := tt) (enc := fun (r : Bool) => .bool r) (muts := []) (app := []) Try.tabOk Try.mixed Try.func64 (by kernel_rfl) rfl rfl Try.ntmps64 (by kernel_rfl) (fun _ _ _ h => (by cases h)) (p := p_synthesisref11_zero r) (
    ok_op (fun _ h => c_synthesisref01_Equal _ _ _ h) fun r_1 hr_1 =>
    ok_split (fun b_11 =>
    ok_join (ok_split (fun b_4 =>
    ok_split (fun b_3 =>
    ok_ret) (fun b_3 =>
    ok_ret)) (fun b_4 =>
    ok_ret)) fun st_2 =>
    ok_ret) (fun b_11 =>
    ok_split (fun b_10 =>
    ok_join (ok_split (fun b_7 =>
    ok_split (fun b_6 =>
    ok_ret) (fun b_6 =>
    ok_ret)) (fun b_7 =>
    ok_ret)) fun st_5 =>
    ok_ret) (fun b_10 =>
    ok_join (ok_split (fun b_9 =>
    ok_ret) (fun b_9 =>
    ok_ret)) fun st_8 =>
    ok_ret))) h

noncomputable def p_synthesisref01_within (n : Int) (lo : Int) (hi : Int) : Prog (Int) :=
    .inner (.inner (.join (σ := Bool) [] (fun st_1 => ([(14, .bool st_1)], []))
    (.split 10 (decide (n < lo))
    (.ret (.inl (true)))
    (.ret (.inl (decide (n > hi)))))
    fun st_1 =>
    .split 14 (st_1)
    (.ret 1)
    (.ret 0)))
noncomputable def f_synthesisref01_within (n : Int) (lo : Int) (hi : Int) : Option (Int) := (p_synthesisref01_within n lo hi).eval
theorem c_synthesisref01_within (n : Int) (lo : Int) (hi : Int) (res_ : Int) (h : f_synthesisref01_within n lo hi = some res_) : (Ky.call 71 [.int .i64 n, .int .i64 lo, .int .i64 hi]).ok Try.prog (.int .i64 res_) :=
  Ky.of_check (tt := tt) (enc := fun (r : Int) => .int .i64 r) (muts := []) (app := []) Try.tabOk Try.mixed Try.func71 (by kernel_rfl) rfl rfl Try.ntmps71 (by kernel_rfl) (fun _ _ _ h => (by cases h)) (p := p_synthesisref01_within n lo hi) (
    ok_inner (ok_inner (ok_join (ok_split (fun b_2 =>
    ok_ret) (fun b_2 =>
    ok_ret)) fun st_1 =>
    ok_split (fun b_3 =>
    ok_ret) (fun b_3 =>
    ok_ret)))) h

noncomputable def p_synthesisref01_plain (s : List UInt8) (least : Int) (most : Int) : Prog (Int) :=
    .inner (.inner (.join (σ := Bool) [0] (fun st_1 => ([(17, .bool st_1)], []))
    (.split 12 (decide ((s.length : Int) < least))
    (.ret (.inl (true)))
    (.ret (.inl (decide ((s.length : Int) > most)))))
    fun st_1 =>
    .split 17 (st_1)
    (.ret 2)
    (.join (σ := Unit) [] (fun _ => ([], []))
    (.rng (σ := Unit) 0 21 (s.length) [0] (fun i _ => ([(7, .int .i64 i)], [])) () (fun i_4 _ =>
    .inner (.join (σ := Bool) [0, 7] (fun st_6 => ([(33, .bool st_6)], []))
    (.op (.stridx (.str s) (i_4 : Int)) (byn s i_4) (fun (c_7 : Int) => .int .u8 c_7) fun c_7 =>
    .split 28 (decide (c_7 < 32))
    (.ret (.inl (true)))
    (.op (.stridx (.str s) (i_4 : Int)) (some c_7) (fun (c_8 : Int) => .int .u8 c_8) fun c_8 =>
    .ret (.inl (decide (c_8 > 126)))))
    fun st_6 =>
    .split 33 (st_6)
    (.ret (.inr (.inr (1))))
    (.ret (.inl ())))) fun _ => .inl ())
    fun _ =>
    .ret 0)))
noncomputable def f_synthesisref01_plain (s : List UInt8) (least : Int) (most : Int) : Option (Int) := (p_synthesisref01_plain s least most).eval
theorem c_synthesisref01_plain (s : List UInt8) (least : Int) (most : Int) (res_ : Int) (h : f_synthesisref01_plain s least most = some res_) : (Ky.call 72 [.str s, .int .i64 least, .int .i64 most]).ok Try.prog (.int .i64 res_) :=
  Ky.of_check (tt := tt) (enc := fun (r : Int) => .int .i64 r) (muts := []) (app := []) Try.tabOk Try.mixed Try.func72 (by kernel_rfl) rfl rfl Try.ntmps72 (by kernel_rfl) (fun _ _ _ h => (by cases h)) (p := p_synthesisref01_plain s least most) (
    ok_inner (ok_inner (ok_join (ok_split (fun b_2 =>
    ok_ret) (fun b_2 =>
    ok_ret)) fun st_1 =>
    ok_split (fun b_11 =>
    ok_ret) (fun b_11 =>
    ok_join (ok_rng fun i_4 st_5 _ =>
    ok_inner (ok_join (ok_op (fun _ h => sxn h) fun c_7 hc_7 =>
    ok_split (fun b_9 =>
    ok_ret) (fun b_9 =>
    ok_op (fun _ e => Option.some.inj e ▸ sxn hc_7) fun c_8 hc_8 =>
    ok_ret)) fun st_6 =>
    ok_split (fun b_10 =>
    ok_ret) (fun b_10 =>
    ok_ret))) fun st_3 =>
    ok_ret)))) h

mutual
noncomputable def p_synthesisref01_Check : Nat → G.api_Value → Prog (Int)
  | 0, _ => .fail
  | n_ + 1, a0 =>
    .inner (.inner (.join (σ := Bool) [1] (fun st_1 => ([(12, .bool st_1)], []))
    (.split 8 (decide (a0.Typ < 1))
    (.ret (.inl (true)))
    (.ret (.inl (decide (a0.Typ > 8)))))
    fun st_1 =>
    .split 12 (st_1)
    (.ret 3)
    (.join (σ := Bool) [1] (fun st_3 => ([(3, .bool st_3)], []))
    (.split 16 (a0.Typ == 1)
    (.ret (.inl (true)))
    (.split 21 (a0.Typ == 2)
    (.ret (.inl (true)))
    (.ret (.inl (a0.Typ == 4)))))
    fun st_3 =>
    .join (σ := Bool) [1, 3] (fun st_6 => ([(4, .bool st_6)], []))
    (.split 29 (a0.Typ == 3)
    (.ret (.inl (true)))
    (.ret (.inl (a0.Typ == 8))))
    fun st_6 =>
    .inner (.join (σ := Bool) [1] (fun st_8 => ([(61, .bool st_8)], []))
    (.split 36 (!st_3)
    (.split 41 (a0.Num != 0)
    (.ret (.inl (true)))
    (.split 44 (!st_6)
    (.split 50 (!(a0.Text == []))
    (.ret (.inl (true)))
    (.split 52 (st_3)
    (.ret (.inl (decide (((G.S_api_Value a0.Items).length : Int) > 0))))
    (.split 55 (st_6)
    (.ret (.inl (decide (((G.S_api_Value a0.Items).length : Int) > 0))))
    (.ret (.inl (false))))))
    (.split 52 (st_3)
    (.ret (.inl (decide (((G.S_api_Value a0.Items).length : Int) > 0))))
    (.split 55 (st_6)
    (.ret (.inl (decide (((G.S_api_Value a0.Items).length : Int) > 0))))
    (.ret (.inl (false)))))))
    (.split 44 (!st_6)
    (.split 50 (!(a0.Text == []))
    (.ret (.inl (true)))
    (.split 52 (st_3)
    (.ret (.inl (decide (((G.S_api_Value a0.Items).length : Int) > 0))))
    (.split 55 (st_6)
    (.ret (.inl (decide (((G.S_api_Value a0.Items).length : Int) > 0))))
    (.ret (.inl (false))))))
    (.split 52 (st_3)
    (.ret (.inl (decide (((G.S_api_Value a0.Items).length : Int) > 0))))
    (.split 55 (st_6)
    (.ret (.inl (decide (((G.S_api_Value a0.Items).length : Int) > 0))))
    (.ret (.inl (false)))))))
    fun st_8 =>
    .split 61 (st_8)
    (.ret 4)
    (.split 64 (a0.Typ == 1)
    (.op (.call 71 [.int .i64 a0.Num, .int .i64 0, .int .i64 1]) (f_synthesisref01_within a0.Num 0 1) (fun (r_23 : Int) => .int .i64 r_23) fun r_23 =>
    .ret r_23)
    (.split 69 (a0.Typ == 2)
    (.op (.call 71 [.int .i64 a0.Num, .int .i64 (-1000000), .int .i64 1000000]) (f_synthesisref01_within a0.Num (-1000000) 1000000) (fun (r_24 : Int) => .int .i64 r_24) fun r_24 =>
    .ret r_24)
    (.split 74 (a0.Typ == 4)
    (.op (.call 71 [.int .i64 a0.Num, .int .i64 0, .int .i64 255]) (f_synthesisref01_within a0.Num 0 255) (fun (r_25 : Int) => .int .i64 r_25) fun r_25 =>
    .ret r_25)
    (.split 79 (a0.Typ == 3)
    (.op (.call 72 [.str a0.Text, .int .i64 0, .int .i64 64]) (f_synthesisref01_plain a0.Text 0 64) (fun (r_26 : Int) => .int .i64 r_26) fun r_26 =>
    .ret r_26)
    (.split 84 (a0.Typ == 8)
    (.op (.call 72 [.str a0.Text, .int .i64 1, .int .i64 40]) (f_synthesisref01_plain a0.Text 1 40) (fun (r_27 : Int) => .int .i64 r_27) fun r_27 =>
    .ret r_27)
    (.split 89 (a0.Typ == 5)
    (.op (.call 73 [.sl (G.S_api_Value a0.Items), .int .i64 2]) ((p_synthesisref01_elements n_ a0.Items 2).eval) (fun (r_28 : Int) => .int .i64 r_28) fun r_28 =>
    .ret r_28)
    (.split 94 (a0.Typ == 6)
    (.op (.call 73 [.sl (G.S_api_Value a0.Items), .int .i64 3]) ((p_synthesisref01_elements n_ a0.Items 3).eval) (fun (r_29 : Int) => .int .i64 r_29) fun r_29 =>
    .ret r_29)
    (.op (.call 74 [.sl (G.S_api_Value a0.Items)]) ((p_synthesisref01_rows n_ a0.Items).eval) (fun (r_30 : Int) => .int .i64 r_30) fun r_30 =>
    .ret r_30))))))))))))
noncomputable def p_synthesisref01_elements : Nat → List G.api_Value → Int → Prog (Int)
  | 0, _, _ => .fail
  | n_ + 1, l, t =>
    .split 9 (decide (((G.S_api_Value l).length : Int) > 16))
    (.ret 2)
    (.join (σ := Unit) [] (fun _ => ([], []))
    (.rng (σ := Unit) 0 13 ((G.S_api_Value l).length) [0, 1] (fun i _ => ([(5, .int .i64 i)], [])) () (fun i_2 _ =>
    .op (.idx 4 (.sl (G.S_api_Value l)) (i_2 : Int)) ((l)[i_2]?) (fun (x_4 : G.api_Value) => .iptr (G.C_api_Value x_4)) fun x_4 =>
    .split 22 (x_4.Typ != t)
    (.ret (.inr (.inr (3))))
    (.op (.idx 4 (.sl (G.S_api_Value l)) (i_2 : Int)) (some x_4) (fun (x_5 : G.api_Value) => .iptr (G.C_api_Value x_5)) fun x_5 =>
    .op (.call 65 [.agg [.int .i64 x_5.Typ, .int .i64 x_5.Num, .str x_5.Text, .sl (G.S_api_Value x_5.Items)]]) ((p_synthesisref01_Check n_ x_5).eval) (fun (r_6 : Int) => .int .i64 r_6) fun r_6 =>
    .split 29 (r_6 != 0)
    (.ret (.inr (.inr (r_6))))
    (.ret (.inl ())))) fun _ => .inl ())
    fun _ =>
    .ret 0)
noncomputable def p_synthesisref01_rows : Nat → List G.api_Value → Prog (Int)
  | 0, _ => .fail
  | n_ + 1, l =>
    .split 8 (decide (((G.S_api_Value l).length : Int) > 8))
    (.ret 2)
    (.join (σ := Unit) [] (fun _ => ([], []))
    (.rng (σ := Unit) 0 12 ((G.S_api_Value l).length) [0] (fun i _ => ([(3, .int .i64 i)], [])) () (fun i_2 _ =>
    .op (.idx 4 (.sl (G.S_api_Value l)) (i_2 : Int)) ((l)[i_2]?) (fun (x_4 : G.api_Value) => .iptr (G.C_api_Value x_4)) fun x_4 =>
    .split 20 (x_4.Typ != 6)
    (.ret (.inr (.inr (3))))
    (.op (.idx 4 (.sl (G.S_api_Value l)) (i_2 : Int)) (some x_4) (fun (x_5 : G.api_Value) => .iptr (G.C_api_Value x_5)) fun x_5 =>
    .join (σ := Bool) [0, 3] (fun st_6 => ([(41, .bool st_6)], []))
    (.split 29 (decide (((G.S_api_Value x_5.Items).length : Int) < 1))
    (.ret (.inl (true)))
    (.split 33 (decide (((G.S_api_Value x_5.Items).length : Int) > 8))
    (.ret (.inl (true)))
    (.op (.idx 4 (.sl (G.S_api_Value l)) 0) (at_ l 0) (fun (x_7 : G.api_Value) => .iptr (G.C_api_Value x_7)) fun x_7 =>
    .ret (.inl (((G.S_api_Value x_5.Items).length : Int) != ((G.S_api_Value x_7.Items).length : Int))))))
    fun st_6 =>
    .split 41 (st_6)
    (.ret (.inr (.inr (2))))
    (.op (.idx 4 (.sl (G.S_api_Value l)) (i_2 : Int)) (some x_4) (fun (x_10 : G.api_Value) => .iptr (G.C_api_Value x_10)) fun x_10 =>
    .op (.call 65 [.agg [.int .i64 x_10.Typ, .int .i64 x_10.Num, .str x_10.Text, .sl (G.S_api_Value x_10.Items)]]) ((p_synthesisref01_Check n_ x_10).eval) (fun (r_11 : Int) => .int .i64 r_11) fun r_11 =>
    .split 48 (r_11 != 0)
    (.ret (.inr (.inr (r_11))))
    (.ret (.inl ()))))) fun _ => .inl ())
    fun _ =>
    .ret 0)
end
noncomputable def f_synthesisref01_Check (a0 : G.api_Value) : Option (Int) := (p_synthesisref01_Check (big + (SizeOf.sizeOf a0)) a0).eval
noncomputable def f_synthesisref01_elements (l : List G.api_Value) (t : Int) : Option (Int) := (p_synthesisref01_elements (big + (SizeOf.sizeOf l)) l t).eval
noncomputable def f_synthesisref01_rows (l : List G.api_Value) : Option (Int) := (p_synthesisref01_rows (big + (SizeOf.sizeOf l)) l).eval
theorem cn_synthesisref01_Check_synthesisref01_elements_synthesisref01_ : ∀ n, (∀ (a0 : G.api_Value) (res_ : Int), (p_synthesisref01_Check n a0).eval = some res_ → (Ky.call 65 [.agg (G.C_api_Value a0)]).ok Try.prog (.int .i64 res_)) ∧ (∀ (l : List G.api_Value) (t : Int) (res_ : Int), (p_synthesisref01_elements n l t).eval = some res_ → (Ky.call 73 [.sl (G.S_api_Value l), .int .i64 t]).ok Try.prog (.int .i64 res_)) ∧ (∀ (l : List G.api_Value) (res_ : Int), (p_synthesisref01_rows n l).eval = some res_ → (Ky.call 74 [.sl (G.S_api_Value l)]).ok Try.prog (.int .i64 res_)) := by
  intro n
  induction n with
  | zero => exact ⟨fun a0 _ h => by simp [p_synthesisref01_Check] at h, fun l t _ h => by simp [p_synthesisref01_elements] at h, fun l _ h => by simp [p_synthesisref01_rows] at h⟩
  | succ n_ ih =>
    obtain ⟨ih_synthesisref01_Check, ih_synthesisref01_elements, ih_synthesisref01_rows⟩ := ih
    exact ⟨fun a0 res_ h => Ky.of_check (tt := tt) (enc := fun (r : Int) => .int .i64 r) (muts := []) (app := []) Try.tabOk Try.mixed Try.func65 (by kernel_rfl) rfl rfl Try.ntmps65 (by kernel_rfl) (fun _ _ _ h => (by cases h)) (p := p_synthesisref01_Check (n_ + 1) a0) (
    ok_inner (ok_inner (ok_join (ok_split (fun b_2 =>
    ok_ret) (fun b_2 =>
    ok_ret)) fun st_1 =>
    ok_split (fun b_39 =>
    ok_ret) (fun b_39 =>
    ok_join (ok_split (fun b_5 =>
    ok_ret) (fun b_5 =>
    ok_split (fun b_4 =>
    ok_ret) (fun b_4 =>
    ok_ret))) fun st_3 =>
    ok_join (ok_split (fun b_7 =>
    ok_ret) (fun b_7 =>
    ok_ret)) fun st_6 =>
    ok_inner (ok_join (ok_split (fun b_22 =>
    ok_split (fun b_15 =>
    ok_ret) (fun b_15 =>
    ok_split (fun b_14 =>
    ok_split (fun b_11 =>
    ok_ret) (fun b_11 =>
    ok_split (fun b_10 =>
    ok_ret) (fun b_10 =>
    ok_split (fun b_9 =>
    ok_ret) (fun b_9 =>
    ok_ret)))) (fun b_14 =>
    ok_split (fun b_13 =>
    ok_ret) (fun b_13 =>
    ok_split (fun b_12 =>
    ok_ret) (fun b_12 =>
    ok_ret))))) (fun b_22 =>
    ok_split (fun b_21 =>
    ok_split (fun b_18 =>
    ok_ret) (fun b_18 =>
    ok_split (fun b_17 =>
    ok_ret) (fun b_17 =>
    ok_split (fun b_16 =>
    ok_ret) (fun b_16 =>
    ok_ret)))) (fun b_21 =>
    ok_split (fun b_20 =>
    ok_ret) (fun b_20 =>
    ok_split (fun b_19 =>
    ok_ret) (fun b_19 =>
    ok_ret))))) fun st_8 =>
    ok_split (fun b_38 =>
    ok_ret) (fun b_38 =>
    ok_split (fun b_37 =>
    ok_op (fun _ h => c_synthesisref01_within _ _ _ _ h) fun r_23 hr_23 =>
    ok_ret) (fun b_37 =>
    ok_split (fun b_36 =>
    ok_op (fun _ h => c_synthesisref01_within _ _ _ _ h) fun r_24 hr_24 =>
    ok_ret) (fun b_36 =>
    ok_split (fun b_35 =>
    ok_op (fun _ h => c_synthesisref01_within _ _ _ _ h) fun r_25 hr_25 =>
    ok_ret) (fun b_35 =>
    ok_split (fun b_34 =>
    ok_op (fun _ h => c_synthesisref01_plain _ _ _ _ h) fun r_26 hr_26 =>
    ok_ret) (fun b_34 =>
    ok_split (fun b_33 =>
    ok_op (fun _ h => c_synthesisref01_plain _ _ _ _ h) fun r_27 hr_27 =>
    ok_ret) (fun b_33 =>
    ok_split (fun b_32 =>
    ok_op (fun _ h => ih_synthesisref01_elements _ _ _ h) fun r_28 hr_28 =>
    ok_ret) (fun b_32 =>
    ok_split (fun b_31 =>
    ok_op (fun _ h => ih_synthesisref01_elements _ _ _ h) fun r_29 hr_29 =>
    ok_ret) (fun b_31 =>
    ok_op (fun _ h => ih_synthesisref01_rows _ _ h) fun r_30 hr_30 =>
    ok_ret))))))))))))) h,
    fun l t res_ h => Ky.of_check (tt := tt) (enc := fun (r : Int) => .int .i64 r) (muts := []) (app := []) Try.tabOk Try.mixed Try.func73 (by kernel_rfl) rfl rfl Try.ntmps73 (by kernel_rfl) (fun _ _ _ h => (by cases h)) (p := p_synthesisref01_elements (n_ + 1) l t) (
    ok_split (fun b_9 =>
    ok_ret) (fun b_9 =>
    ok_join (ok_rng fun i_2 st_3 _ =>
    ok_op (fun _ h => ixn G.hS_api_Value G.hk_api_Value h) fun x_4 hx_4 =>
    ok_split (fun b_8 =>
    ok_ret) (fun b_8 =>
    ok_op (fun _ e => Option.some.inj e ▸ ixn G.hS_api_Value G.hk_api_Value hx_4) fun x_5 hx_5 =>
    ok_op (fun _ h => ih_synthesisref01_Check _ _ h) fun r_6 hr_6 =>
    ok_split (fun b_7 =>
    ok_ret) (fun b_7 =>
    ok_ret))) fun st_1 =>
    ok_ret)) h,
    fun l res_ h => Ky.of_check (tt := tt) (enc := fun (r : Int) => .int .i64 r) (muts := []) (app := []) Try.tabOk Try.mixed Try.func74 (by kernel_rfl) rfl rfl Try.ntmps74 (by kernel_rfl) (fun _ _ _ h => (by cases h)) (p := p_synthesisref01_rows (n_ + 1) l) (
    ok_split (fun b_15 =>
    ok_ret) (fun b_15 =>
    ok_join (ok_rng fun i_2 st_3 _ =>
    ok_op (fun _ h => ixn G.hS_api_Value G.hk_api_Value h) fun x_4 hx_4 =>
    ok_split (fun b_14 =>
    ok_ret) (fun b_14 =>
    ok_op (fun _ e => Option.some.inj e ▸ ixn G.hS_api_Value G.hk_api_Value hx_4) fun x_5 hx_5 =>
    ok_join (ok_split (fun b_9 =>
    ok_ret) (fun b_9 =>
    ok_split (fun b_8 =>
    ok_ret) (fun b_8 =>
    ok_op (fun _ h => ix G.hS_api_Value G.hk_api_Value h) fun x_7 hx_7 =>
    ok_ret))) fun st_6 =>
    ok_split (fun b_13 =>
    ok_ret) (fun b_13 =>
    ok_op (fun _ e => Option.some.inj e ▸ ixn G.hS_api_Value G.hk_api_Value hx_4) fun x_10 hx_10 =>
    ok_op (fun _ h => ih_synthesisref01_Check _ _ h) fun r_11 hr_11 =>
    ok_split (fun b_12 =>
    ok_ret) (fun b_12 =>
    ok_ret)))) fun st_1 =>
    ok_ret)) h⟩
theorem c_synthesisref01_Check (a0 : G.api_Value) (res_ : Int) (h : f_synthesisref01_Check a0 = some res_) : (Ky.call 65 [.agg (G.C_api_Value a0)]).ok Try.prog (.int .i64 res_) := (cn_synthesisref01_Check_synthesisref01_elements_synthesisref01_ (big + (SizeOf.sizeOf a0))).1 a0 res_ h
theorem c_synthesisref01_elements (l : List G.api_Value) (t : Int) (res_ : Int) (h : f_synthesisref01_elements l t = some res_) : (Ky.call 73 [.sl (G.S_api_Value l), .int .i64 t]).ok Try.prog (.int .i64 res_) := (cn_synthesisref01_Check_synthesisref01_elements_synthesisref01_ (big + (SizeOf.sizeOf l))).2.1 l t res_ h
theorem c_synthesisref01_rows (l : List G.api_Value) (res_ : Int) (h : f_synthesisref01_rows l = some res_) : (Ky.call 74 [.sl (G.S_api_Value l)]).ok Try.prog (.int .i64 res_) := (cn_synthesisref01_Check_synthesisref01_elements_synthesisref01_ (big + (SizeOf.sizeOf l))).2.2 l res_ h

noncomputable def p_synthesisref09_catalog (a0 : List UInt8) : Prog ((List G.A3_str)) :=
    .split 4 (a0 == [108, 111, 103, 105, 99])
    (.ret [(⟨[97, 110, 100], [66, 66], [66]⟩ : G.A3_str), (⟨[111, 114], [66, 66], [66]⟩ : G.A3_str), (⟨[110, 111, 116], [66], [66]⟩ : G.A3_str), (⟨[105, 102, 105, 110, 116], [66, 73, 73], [73]⟩ : G.A3_str), (⟨[105, 102, 116, 101, 120, 116], [66, 84, 84], [84]⟩ : G.A3_str), (⟨[105, 102, 98, 105, 116, 115], [66, 86, 86], [86]⟩ : G.A3_str)])
    (.split 13 (a0 == [110, 117, 109, 98, 101, 114, 115])
    (.ret [(⟨[97, 100, 100], [73, 73], [73]⟩ : G.A3_str), (⟨[115, 117, 98], [73, 73], [73]⟩ : G.A3_str), (⟨[109, 117, 108], [73, 73], [73]⟩ : G.A3_str), (⟨[110, 101, 103], [73], [73]⟩ : G.A3_str), (⟨[109, 105, 110], [73, 73], [73]⟩ : G.A3_str), (⟨[109, 97, 120], [73, 73], [73]⟩ : G.A3_str), (⟨[101, 113, 105, 110, 116], [73, 73], [66]⟩ : G.A3_str), (⟨[108, 101, 115, 115], [73, 73], [66]⟩ : G.A3_str)])
    (.split 24 (a0 == [116, 101, 120, 116, 115])
    (.ret [(⟨[99, 111, 110, 99, 97, 116], [84, 84], [84]⟩ : G.A3_str), (⟨[115, 108, 105, 99, 101], [84, 73, 73], [84]⟩ : G.A3_str), (⟨[108, 101, 110], [84], [73]⟩ : G.A3_str), (⟨[117, 112, 112, 101, 114], [84], [84]⟩ : G.A3_str), (⟨[108, 111, 119, 101, 114], [84], [84]⟩ : G.A3_str), (⟨[116, 114, 105, 109], [84], [84]⟩ : G.A3_str), (⟨[102, 105, 110, 100], [84, 84], [73]⟩ : G.A3_str), (⟨[114, 101, 112, 108, 97, 99, 101], [84, 84, 84], [84]⟩ : G.A3_str), (⟨[119, 111, 114, 100], [84, 73], [84]⟩ : G.A3_str), (⟨[99, 104, 97, 114], [84, 73], [84]⟩ : G.A3_str), (⟨[114, 101, 112, 101, 97, 116], [84, 73], [84]⟩ : G.A3_str), (⟨[115, 104, 111, 119], [73], [84]⟩ : G.A3_str), (⟨[114, 101, 97, 100], [84], [73]⟩ : G.A3_str), (⟨[101, 113, 116, 101, 120, 116], [84, 84], [66]⟩ : G.A3_str), (⟨[115, 112, 108, 105, 116], [84, 84], [83]⟩ : G.A3_str), (⟨[106, 111, 105, 110], [83, 84], [84]⟩ : G.A3_str), (⟨[105, 116, 101, 109], [83, 73], [84]⟩ : G.A3_str), (⟨[115, 111, 114, 116, 116, 101, 120, 116, 115], [83], [83]⟩ : G.A3_str), (⟨[114, 101, 118, 116, 101, 120, 116, 115], [83], [83]⟩ : G.A3_str)])
    (.split 46 (a0 == [112, 97, 116, 116, 101, 114, 110, 115])
    (.ret [(⟨[115, 116, 97, 114, 116], [84, 80, 73], [73]⟩ : G.A3_str), (⟨[101, 110, 100], [84, 80, 73], [73]⟩ : G.A3_str), (⟨[101, 120, 116, 114, 97, 99, 116], [84, 80, 73], [84]⟩ : G.A3_str), (⟨[101, 114, 97, 115, 101], [84, 80], [84]⟩ : G.A3_str), (⟨[111, 99, 99, 117, 114, 115], [84, 80], [73]⟩ : G.A3_str), (⟨[109, 97, 116, 99, 104, 101, 115], [84, 80], [66]⟩ : G.A3_str), (⟨[112, 108, 105, 116], [84], [80]⟩ : G.A3_str), (⟨[112, 99, 97, 116], [80, 80], [80]⟩ : G.A3_str), (⟨[112, 97, 108, 116], [80, 80], [80]⟩ : G.A3_str), (⟨[112, 115, 116, 97, 114], [80], [80]⟩ : G.A3_str)])
    (.split 59 (a0 == [108, 105, 115, 116, 115])
    (.ret [(⟨[104, 101, 97, 100], [76], [73]⟩ : G.A3_str), (⟨[108, 97, 115, 116], [76], [73]⟩ : G.A3_str), (⟨[116, 97, 107, 101], [76, 73], [76]⟩ : G.A3_str), (⟨[100, 114, 111, 112], [76, 73], [76]⟩ : G.A3_str), (⟨[114, 101, 118, 101, 114, 115, 101], [76], [76]⟩ : G.A3_str), (⟨[115, 111, 114, 116], [76], [76]⟩ : G.A3_str), (⟨[117, 110, 105, 113, 117, 101], [76], [76]⟩ : G.A3_str), (⟨[115, 117, 109], [76], [73]⟩ : G.A3_str), (⟨[115, 104, 105, 102, 116], [76, 73], [76]⟩ : G.A3_str), (⟨[115, 99, 97, 108, 101], [76, 73], [76]⟩ : G.A3_str), (⟨[97, 98, 111, 118, 101], [76, 73], [76]⟩ : G.A3_str), (⟨[101, 118, 101, 110], [76], [76]⟩ : G.A3_str), (⟨[122, 105, 112], [76, 76], [76]⟩ : G.A3_str), (⟨[97, 112, 112, 101, 110, 100], [76, 76], [76]⟩ : G.A3_str), (⟨[101, 108, 101, 109, 101, 110, 116], [76, 73], [73]⟩ : G.A3_str), (⟨[99, 111, 117, 110, 116], [76, 73], [73]⟩ : G.A3_str), (⟨[109, 97, 120, 105, 109, 117, 109], [76], [73]⟩ : G.A3_str), (⟨[109, 105, 110, 105, 109, 117, 109], [76], [73]⟩ : G.A3_str), (⟨[114, 117, 110, 110, 105, 110, 103], [76], [76]⟩ : G.A3_str), (⟨[108, 101, 110, 103, 116, 104], [76], [73]⟩ : G.A3_str)])
    (.split 82 (a0 == [116, 97, 98, 108, 101, 115])
    (.ret [(⟨[116, 114, 97, 110, 115, 112, 111, 115, 101], [77], [77]⟩ : G.A3_str), (⟨[114, 111, 119], [77, 73], [83]⟩ : G.A3_str), (⟨[99, 111, 108, 117, 109, 110], [77, 73], [83]⟩ : G.A3_str), (⟨[100, 114, 111, 112, 114, 111, 119], [77, 73], [77]⟩ : G.A3_str), (⟨[100, 114, 111, 112, 99, 111, 108, 117, 109, 110], [77, 73], [77]⟩ : G.A3_str), (⟨[115, 111, 114, 116, 116, 97, 98, 108, 101], [77, 73], [77]⟩ : G.A3_str), (⟨[102, 105, 108, 108], [77], [77]⟩ : G.A3_str), (⟨[117, 110, 112, 105, 118, 111, 116], [77, 73], [77]⟩ : G.A3_str), (⟨[112, 105, 118, 111, 116], [77], [77]⟩ : G.A3_str), (⟨[99, 101, 108, 108], [77, 73, 73], [84]⟩ : G.A3_str), (⟨[115, 116, 97, 99, 107], [77, 77], [77]⟩ : G.A3_str), (⟨[98, 101, 115, 105, 100, 101], [77, 77], [77]⟩ : G.A3_str), (⟨[115, 112, 108, 105, 116, 99, 111, 108, 117, 109, 110], [77, 73, 84], [77]⟩ : G.A3_str)])
    (.ret [(⟨[98, 97, 110, 100], [86, 86], [86]⟩ : G.A3_str), (⟨[98, 111, 114], [86, 86], [86]⟩ : G.A3_str), (⟨[98, 120, 111, 114], [86, 86], [86]⟩ : G.A3_str), (⟨[98, 110, 111, 116], [86], [86]⟩ : G.A3_str), (⟨[98, 97, 100, 100], [86, 86], [86]⟩ : G.A3_str), (⟨[98, 115, 117, 98], [86, 86], [86]⟩ : G.A3_str), (⟨[98, 109, 117, 108], [86, 86], [86]⟩ : G.A3_str), (⟨[98, 108, 101, 102, 116], [86, 73], [86]⟩ : G.A3_str), (⟨[98, 114, 105, 103, 104, 116], [86, 73], [86]⟩ : G.A3_str), (⟨[98, 97, 114, 105, 116, 104], [86, 73], [86]⟩ : G.A3_str), (⟨[111, 110, 101, 115], [86], [73]⟩ : G.A3_str), (⟨[101, 113, 98, 105, 116, 115], [86, 86], [66]⟩ : G.A3_str)]))))))
noncomputable def f_synthesisref09_catalog (a0 : List UInt8) : Option ((List G.A3_str)) := (p_synthesisref09_catalog a0).eval
theorem c_synthesisref09_catalog (a0 : List UInt8) (res_ : (List G.A3_str)) (h : f_synthesisref09_catalog a0 = some res_) : (Ky.call 79 [.str a0]).ok Try.prog (.sl (G.S_A3_str res_)) :=
  Ky.of_check (tt := tt) (enc := fun (r : (List G.A3_str)) => .sl (G.S_A3_str r)) (muts := []) (app := []) Try.tabOk Try.mixed Try.func79 (by kernel_rfl) rfl rfl Try.ntmps79 (by kernel_rfl) (fun _ _ _ h => (by cases h)) (p := p_synthesisref09_catalog a0) (
    ok_split (fun b_6 =>
    ok_ret) (fun b_6 =>
    ok_split (fun b_5 =>
    ok_ret) (fun b_5 =>
    ok_split (fun b_4 =>
    ok_ret) (fun b_4 =>
    ok_split (fun b_3 =>
    ok_ret) (fun b_3 =>
    ok_split (fun b_2 =>
    ok_ret) (fun b_2 =>
    ok_split (fun b_1 =>
    ok_ret) (fun b_1 =>
    ok_ret))))))) h

noncomputable def p_synthesisref09_families  : Prog ((List (List UInt8))) :=
    .ret [[108, 111, 103, 105, 99], [110, 117, 109, 98, 101, 114, 115], [116, 101, 120, 116, 115], [112, 97, 116, 116, 101, 114, 110, 115], [108, 105, 115, 116, 115], [116, 97, 98, 108, 101, 115], [98, 105, 116, 115]]
noncomputable def f_synthesisref09_families  : Option ((List (List UInt8))) := (p_synthesisref09_families ).eval
theorem c_synthesisref09_families  (res_ : (List (List UInt8))) (h : f_synthesisref09_families  = some res_) : (Ky.call 85 []).ok Try.prog (.sl (G.S_str res_)) :=
  Ky.of_check (tt := tt) (enc := fun (r : (List (List UInt8))) => .sl (G.S_str r)) (muts := []) (app := []) Try.tabOk Try.mixed Try.func85 (by kernel_rfl) rfl rfl Try.ntmps85 (by kernel_rfl) (fun _ _ _ h => (by cases h)) (p := p_synthesisref09_families ) (
    ok_ret) h

noncomputable def p_synthesisref09_Family (name : List UInt8) : Prog ((List UInt8)) :=
    .inner (.join (σ := Unit) [] (fun _ => ([], []))
    (.op (.call 85 []) f_synthesisref09_families (fun (r_2 : (List (List UInt8))) => .sl (G.S_str r_2)) fun r_2 =>
    .rng (σ := Unit) 7 10 ((G.S_str r_2).length) [0, 7, 8] (fun i _ => ([(9, .int .i64 i)], [])) () (fun i_3 _ =>
    .join (σ := Unit) [0, 7, 8, 9] (fun _ => ([], []))
    (.op (.idx 1 (.sl (G.S_str r_2)) (i_3 : Int)) ((r_2)[i_3]?) (fun (x_6 : List UInt8) => .iptr (G.C_str x_6)) fun x_6 =>
    .op (.call 79 [.str x_6]) (f_synthesisref09_catalog x_6) (fun (r_7 : (List G.A3_str)) => .sl (G.S_A3_str r_7)) fun r_7 =>
    .rng (σ := Unit) 14 17 ((G.S_A3_str r_7).length) [0, 4, 7, 8, 9, 14, 15] (fun i _ => ([(16, .int .i64 i)], [])) () (fun i_8 _ =>
    .op (.idx 3 (.sl (G.S_A3_str r_7)) (i_8 : Int)) ((r_7)[i_8]?) (fun (x_10 : G.A3_str) => .iptr (G.C_A3_str x_10)) fun x_10 =>
    .split 23 (x_10.x0 == name)
    (.ret (.inr (.inr (.inr (.inr (x_6))))))
    (.ret (.inl ()))) fun _ => .inl ())
    fun _ =>
    .ret (.inl ())) fun _ => .inl ())
    fun _ =>
    .ret [])
noncomputable def f_synthesisref09_Family (name : List UInt8) : Option ((List UInt8)) := (p_synthesisref09_Family name).eval
theorem c_synthesisref09_Family (name : List UInt8) (res_ : (List UInt8)) (h : f_synthesisref09_Family name = some res_) : (Ky.call 78 [.str name]).ok Try.prog (.str res_) :=
  Ky.of_check (tt := tt) (enc := fun (r : (List UInt8)) => .str r) (muts := []) (app := []) Try.tabOk Try.mixed Try.func78 (by kernel_rfl) rfl rfl Try.ntmps78 (by kernel_rfl) (fun _ _ _ h => (by cases h)) (p := p_synthesisref09_Family name) (
    ok_inner (ok_join (ok_op (fun _ h => c_synthesisref09_families  _ h) fun r_2 hr_2 =>
    ok_rng fun i_3 st_4 _ =>
    ok_join (ok_op (fun _ h => ixn G.hS_str G.hk_str h) fun x_6 hx_6 =>
    ok_op (fun _ h => c_synthesisref09_catalog _ _ h) fun r_7 hr_7 =>
    ok_rng fun i_8 st_9 _ =>
    ok_op (fun _ h => ixn G.hS_A3_str G.hk_A3_str h) fun x_10 hx_10 =>
    ok_split (fun b_11 =>
    ok_ret) (fun b_11 =>
    ok_ret)) fun st_5 =>
    ok_ret) fun st_1 =>
    ok_ret)) h

noncomputable def p_synthesisref09_letter (c : Int) : Prog (Int) :=
    .inner (.inner (.join (σ := Unit) [] (fun _ => ([], []))
    (.rng (σ := Unit) 3 8 ([66, 73, 84, 86, 76, 83, 77, 80].length) [0, 3] (fun i _ => ([(4, .int .i64 i)], [])) () (fun i_2 _ =>
    .op (.stridx (.str [66, 73, 84, 86, 76, 83, 77, 80]) (i_2 : Int)) (byn [66, 73, 84, 86, 76, 83, 77, 80] i_2) (fun (c_4 : Int) => .int .u8 c_4) fun c_4 =>
    .split 15 (c_4 == c)
    (.ret (.inr (.inr (IntKind.wrap .i64 ((i_2 : Int) + 1)))))
    (.ret (.inl ()))) fun _ => .inl ())
    fun _ =>
    .ret 0))
noncomputable def f_synthesisref09_letter (c : Int) : Option (Int) := (p_synthesisref09_letter c).eval
theorem c_synthesisref09_letter (c : Int) (res_ : Int) (h : f_synthesisref09_letter c = some res_) : (Ky.call 80 [.int .u8 c]).ok Try.prog (.int .i64 res_) :=
  Ky.of_check (tt := tt) (enc := fun (r : Int) => .int .i64 r) (muts := []) (app := []) Try.tabOk Try.mixed Try.func80 (by kernel_rfl) rfl rfl Try.ntmps80 (by kernel_rfl) (fun _ _ _ h => (by cases h)) (p := p_synthesisref09_letter c) (
    ok_inner (ok_inner (ok_join (ok_rng fun i_2 st_3 _ =>
    ok_op (fun _ h => sxn h) fun c_4 hc_4 =>
    ok_split (fun b_5 =>
    ok_ret) (fun b_5 =>
    ok_ret)) fun st_1 =>
    ok_ret))) h

noncomputable def p_synthesisref09_Find (name : List UInt8) : Prog (G.api_Operator × Bool) :=
    .op (.call 78 [.str name]) (f_synthesisref09_Family name) (fun (r_1 : (List UInt8)) => .str r_1) fun r_1 =>
    .split 12 (r_1 == [])
    (.ret ((⟨[], [], 0⟩ : G.api_Operator), false))
    (.join (σ := Unit) [2] (fun _ => ([], [.cells [.str [], .osl 0 [], .int .i64 0]]))
    (.op (.call 79 [.str r_1]) (f_synthesisref09_catalog r_1) (fun (r_3 : (List G.A3_str)) => .sl (G.S_A3_str r_3)) fun r_3 =>
    .rng (σ := Unit) 15 18 ((G.S_A3_str r_3).length) [0, 2, 15, 16] (fun i _ => ([(17, .int .i64 i)], [.cells [.str [], .osl 0 [], .int .i64 0]])) () (fun i_4 _ =>
    .join (σ := Unit) [0, 2, 15, 16, 17] (fun _ => ([], [.cells [.str [], .osl 0 [], .int .i64 0]]))
    (.op (.idx 3 (.sl (G.S_A3_str r_3)) (i_4 : Int)) ((r_3)[i_4]?) (fun (x_7 : G.A3_str) => .iptr (G.C_A3_str x_7)) fun x_7 =>
    .split 24 (x_7.x0 == name)
    (.op (.stridx (.str x_7.x2) 0) (by_ x_7.x2 0) (fun (c_8 : Int) => .int .u8 c_8) fun c_8 =>
    .op (.call 80 [.int .u8 c_8]) (f_synthesisref09_letter c_8) (fun (r_9 : Int) => .int .i64 r_9) fun r_9 =>
    .join (σ := (List Int)) [2, 7] (fun st_10 => ([], [.cells [.str [], .osl 0 [], .int .i64 0], .cells [.str x_7.x0, .str x_7.x1, .str x_7.x2], .cells [.str name, .osl 1 (G.S_int st_10), .int .i64 r_9]]))
    (.loop (σ := Int × (List Int)) (ρ := Int × (List Int)) [2, 6, 7] (fun st_11 => ([(8, .int .i64 st_11.1)], [.cells [.str [], .osl 0 [], .int .i64 0], .cells [.str x_7.x0, .str x_7.x1, .str x_7.x2], .cells [.str name, .osl 1 (G.S_int st_11.2), .int .i64 r_9]])) (0, []) (fun _ y => y) fun st_11 =>
    .split 35 (decide (st_11.1 < (x_7.x1.length : Int)))
    (.op (.stridx (.str x_7.x1) st_11.1) (by_ x_7.x1 st_11.1) (fun (c_12 : Int) => .int .u8 c_12) fun c_12 =>
    .op (.call 80 [.int .u8 c_12]) (f_synthesisref09_letter c_12) (fun (r_13 : Int) => .int .i64 r_13) fun r_13 =>
    .op (.app 1 8 (G.S_int st_11.2) (G.S_int [r_13])) (appM 8 st_11.2 [r_13]) (fun (l_14 : List Int) => .osl 1 (G.S_int l_14)) fun l_14 =>
    .ret (.inl (IntKind.wrap .i64 (st_11.1 + 1), l_14)))
    (.ret (.inr (.inl (st_11.2)))))
    fun st_10 =>
    .ret (.inr (.inr (.inr (((⟨name, st_10, r_9⟩ : G.api_Operator), true))))))
    (.ret (.inl ())))
    fun _ =>
    .ret (.inl ())) fun _ => .inl ())
    fun _ =>
    .ret ((⟨[], [], 0⟩ : G.api_Operator), false))
noncomputable def f_synthesisref09_Find (name : List UInt8) : Option (G.api_Operator × Bool) := (p_synthesisref09_Find name).eval
theorem c_synthesisref09_Find (name : List UInt8) (res_ : G.api_Operator × Bool) (h : f_synthesisref09_Find name = some res_) : (Ky.call 75 [.str name]).ok Try.prog (.tup [.agg (G.C_api_Operator res_.1), .bool res_.2]) :=
  Ky.of_check (tt := tt) (enc := fun (r : G.api_Operator × Bool) => .tup [.agg (G.C_api_Operator r.1), .bool r.2]) (muts := [13, 30, 50]) (app := [39]) Try.tabOk Try.mixed Try.func75 (by kernel_rfl) rfl rfl Try.ntmps75 (by kernel_rfl) (fun _ _ _ h => (by cases h)) (p := p_synthesisref09_Find name) (
    ok_op (fun _ h => c_synthesisref09_Family _ _ h) fun r_1 hr_1 =>
    ok_split (fun b_17 =>
    ok_ret) (fun b_17 =>
    ok_join (ok_op (fun _ h => c_synthesisref09_catalog _ _ h) fun r_3 hr_3 =>
    ok_rng fun i_4 st_5 _ =>
    ok_join (ok_op (fun _ h => ixn G.hS_A3_str G.hk_A3_str h) fun x_7 hx_7 =>
    ok_split (fun b_16 =>
    ok_op (fun _ h => sx h) fun c_8 hc_8 =>
    ok_op (fun _ h => c_synthesisref09_letter _ _ h) fun r_9 hr_9 =>
    ok_join (ok_loop fun st_11 =>
    ok_split (fun b_15 =>
    ok_op (fun _ h => sx h) fun c_12 hc_12 =>
    ok_op (fun _ h => c_synthesisref09_letter _ _ h) fun r_13 hr_13 =>
    ok_op (fun _ h => ap G.hS_int G.hk_int (by omega) rfl h) fun l_14 hl_14 =>
    ok_ret) (fun b_15 =>
    ok_ret)) fun st_10 =>
    ok_ret) (fun b_16 =>
    ok_ret)) fun st_6 =>
    ok_ret) fun st_2 =>
    ok_ret)) h

noncomputable def p_synthesisref11_operation (a0 : G.api_Language) (a1 : G.api_Rule) : Prog (Int) :=
    .op (.call 75 [.str a1.Op]) (f_synthesisref09_Find a1.Op) (fun (r_1 : G.api_Operator × Bool) => .tup [.agg (G.C_api_Operator r_1.1), .bool r_1.2]) fun r_1 =>
    .split 15 (!r_1.2)
    (.ret 5)
    (.split 22 (((G.S_int a1.Args).length : Int) != ((G.S_int r_1.1.Args).length : Int))
    (.ret 2)
    (.join (σ := Unit) [2, 3, 5] (fun _ => ([], [.cells [.str r_1.1.Name, .sl (G.S_int r_1.1.Args), .int .i64 r_1.1.Result]]))
    (.loop (σ := Int) (ρ := Int) [2, 3, 5] (fun st_3 => ([(7, .int .i64 st_3)], [.cells [.str r_1.1.Name, .sl (G.S_int r_1.1.Args), .int .i64 r_1.1.Result]])) (0) (fun _ y => y) fun st_3 =>
    .split 27 (decide (st_3 < ((G.S_int a1.Args).length : Int)))
    (.inner (.inner (.join (σ := Bool) [2, 3, 5, 7] (fun st_4 => ([(46, .bool st_4)], [.cells [.str r_1.1.Name, .sl (G.S_int r_1.1.Args), .int .i64 r_1.1.Result]]))
    (.op (.idx 1 (.sl (G.S_int a1.Args)) st_3) (at_ a1.Args st_3) (fun (x_5 : Int) => .iptr (G.C_int x_5)) fun x_5 =>
    .split 36 (decide (x_5 < 0))
    (.ret (.inl (true)))
    (.op (.idx 1 (.sl (G.S_int a1.Args)) st_3) (some x_5) (fun (x_6 : Int) => .iptr (G.C_int x_6)) fun x_6 =>
    .ret (.inl (decide (x_6 ≥ ((G.S_api_Symbol a0.Symbols).length : Int))))))
    fun st_4 =>
    .split 46 (st_4)
    (.ret (.inr (.inr (1))))
    (.op (.idx 1 (.sl (G.S_int a1.Args)) st_3) (at_ a1.Args st_3) (fun (x_8 : Int) => .iptr (G.C_int x_8)) fun x_8 =>
    .op (.idx 2 (.sl (G.S_api_Symbol a0.Symbols)) x_8) (at_ a0.Symbols x_8) (fun (x_9 : G.api_Symbol) => .iptr (G.C_api_Symbol x_9)) fun x_9 =>
    .op (.idx 1 (.sl (G.S_int r_1.1.Args)) st_3) (at_ r_1.1.Args st_3) (fun (x_10 : Int) => .iptr (G.C_int x_10)) fun x_10 =>
    .split 62 (x_9.Typ != x_10)
    (.ret (.inr (.inr (3))))
    (.ret (.inl (IntKind.wrap .i64 (st_3 + 1))))))))
    (.ret (.inr (.inl ()))))
    fun _ =>
    .op (.idx 2 (.sl (G.S_api_Symbol a0.Symbols)) a1.Symbol) (at_ a0.Symbols a1.Symbol) (fun (x_14 : G.api_Symbol) => .iptr (G.C_api_Symbol x_14)) fun x_14 =>
    .split 72 (x_14.Typ != r_1.1.Result)
    (.ret 3)
    (.ret 0)))
noncomputable def f_synthesisref11_operation (a0 : G.api_Language) (a1 : G.api_Rule) : Option (Int) := (p_synthesisref11_operation a0 a1).eval
theorem c_synthesisref11_operation (a0 : G.api_Language) (a1 : G.api_Rule) (res_ : Int) (h : f_synthesisref11_operation a0 a1 = some res_) : (Ky.call 66 [.agg (G.C_api_Language a0), .agg (G.C_api_Rule a1)]).ok Try.prog (.int .i64 res_) :=
  Ky.of_check (tt := tt) (enc := fun (r : Int) => .int .i64 r) (muts := []) (app := []) Try.tabOk Try.mixed Try.func66 (by kernel_rfl) rfl rfl Try.ntmps66 (by kernel_rfl) (fun _ _ _ h => (by cases h)) (p := p_synthesisref11_operation a0 a1) (
    ok_op (fun _ h => c_synthesisref09_Find _ _ h) fun r_1 hr_1 =>
    ok_split (fun b_17 =>
    ok_ret) (fun b_17 =>
    ok_split (fun b_16 =>
    ok_ret) (fun b_16 =>
    ok_join (ok_loop fun st_3 =>
    ok_split (fun b_13 =>
    ok_inner (ok_inner (ok_join (ok_op (fun _ h => ix G.hS_int G.hk_int h) fun x_5 hx_5 =>
    ok_split (fun b_7 =>
    ok_ret) (fun b_7 =>
    ok_op (fun _ e => Option.some.inj e ▸ ix G.hS_int G.hk_int hx_5) fun x_6 hx_6 =>
    ok_ret)) fun st_4 =>
    ok_split (fun b_12 =>
    ok_ret) (fun b_12 =>
    ok_op (fun _ h => ix G.hS_int G.hk_int h) fun x_8 hx_8 =>
    ok_op (fun _ h => ix G.hS_api_Symbol G.hk_api_Symbol h) fun x_9 hx_9 =>
    ok_op (fun _ h => ix G.hS_int G.hk_int h) fun x_10 hx_10 =>
    ok_split (fun b_11 =>
    ok_ret) (fun b_11 =>
    ok_ret))))) (fun b_13 =>
    ok_ret)) fun st_2 =>
    ok_op (fun _ h => ix G.hS_api_Symbol G.hk_api_Symbol h) fun x_14 hx_14 =>
    ok_split (fun b_15 =>
    ok_ret) (fun b_15 =>
    ok_ret)))) h

noncomputable def p_synthesisref11_rule (a0 : G.api_Language) (a1 : G.api_Rule) : Prog (Int) :=
    .inner (.inner (.join (σ := Bool) [2, 3] (fun st_1 => ([(17, .bool st_1)], []))
    (.split 10 (decide (a1.Symbol < 0))
    (.ret (.inl (true)))
    (.ret (.inl (decide (a1.Symbol ≥ ((G.S_api_Symbol a0.Symbols).length : Int))))))
    fun st_1 =>
    .split 17 (st_1)
    (.ret 1)
    (.inner (.join (σ := Bool) [2, 3] (fun st_3 => ([(30, .bool st_3)], []))
    (.split 21 (decide (a1.Kind < 1))
    (.ret (.inl (true)))
    (.split 26 (decide (a1.Kind > 3))
    (.ret (.inl (true)))
    (.op (.call 64 [.agg [.int .i64 a1.Symbol, .int .i64 a1.Kind, .int .i64 a1.Input, .int .i64 a1.Const.Typ, .int .i64 a1.Const.Num, .str a1.Const.Text, .sl (G.S_api_Value a1.Const.Items), .str a1.Op, .sl (G.S_int a1.Args)]]) (f_synthesisref11_zero a1) (fun (r_4 : Bool) => .bool r_4) fun r_4 =>
    .ret (.inl (!r_4)))))
    fun st_3 =>
    .split 30 (st_3)
    (.ret 4)
    (.op (.idx 2 (.sl (G.S_api_Symbol a0.Symbols)) a1.Symbol) (at_ a0.Symbols a1.Symbol) (fun (x_7 : G.api_Symbol) => .iptr (G.C_api_Symbol x_7)) fun x_7 =>
    .split 40 (a1.Kind == 1)
    (.inner (.join (σ := Bool) [2, 3, 5] (fun st_8 => ([(52, .bool st_8)], []))
    (.split 45 (decide (a1.Input < 0))
    (.ret (.inl (true)))
    (.ret (.inl (decide (a1.Input ≥ ((G.S_int a0.Inputs).length : Int))))))
    fun st_8 =>
    .split 52 (st_8)
    (.ret 1)
    (.op (.idx 1 (.sl (G.S_int a0.Inputs)) a1.Input) (at_ a0.Inputs a1.Input) (fun (x_10 : Int) => .iptr (G.C_int x_10)) fun x_10 =>
    .split 60 (x_10 != x_7.Typ)
    (.ret 3)
    (.ret 0))))
    (.split 61 (a1.Kind == 2)
    (.op (.call 65 [.agg [.int .i64 a1.Const.Typ, .int .i64 a1.Const.Num, .str a1.Const.Text, .sl (G.S_api_Value a1.Const.Items)]]) (f_synthesisref01_Check a1.Const) (fun (r_13 : Int) => .int .i64 r_13) fun r_13 =>
    .split 67 (r_13 != 0)
    (.ret r_13)
    (.split 73 (a1.Const.Typ != x_7.Typ)
    (.ret 3)
    (.ret 0)))
    (.op (.call 66 [.agg [.str a0.Name, .sl (G.S_int a0.Inputs), .sl (G.S_api_Symbol a0.Symbols), .sl (G.S_api_Rule a0.Rules)], .agg [.int .i64 a1.Symbol, .int .i64 a1.Kind, .int .i64 a1.Input, .int .i64 a1.Const.Typ, .int .i64 a1.Const.Num, .str a1.Const.Text, .sl (G.S_api_Value a1.Const.Items), .str a1.Op, .sl (G.S_int a1.Args)]]) (f_synthesisref11_operation a0 a1) (fun (r_16 : Int) => .int .i64 r_16) fun r_16 =>
    .ret r_16)))))))
noncomputable def f_synthesisref11_rule (a0 : G.api_Language) (a1 : G.api_Rule) : Option (Int) := (p_synthesisref11_rule a0 a1).eval
theorem c_synthesisref11_rule (a0 : G.api_Language) (a1 : G.api_Rule) (res_ : Int) (h : f_synthesisref11_rule a0 a1 = some res_) : (Ky.call 54 [.agg (G.C_api_Language a0), .agg (G.C_api_Rule a1)]).ok Try.prog (.int .i64 res_) :=
  Ky.of_check (tt := tt) (enc := fun (r : Int) => .int .i64 r) (muts := []) (app := []) Try.tabOk Try.mixed Try.func54 (by kernel_rfl) rfl rfl Try.ntmps54 (by kernel_rfl) (fun _ _ _ h => (by cases h)) (p := p_synthesisref11_rule a0 a1) (
    ok_inner (ok_inner (ok_join (ok_split (fun b_2 =>
    ok_ret) (fun b_2 =>
    ok_ret)) fun st_1 =>
    ok_split (fun b_20 =>
    ok_ret) (fun b_20 =>
    ok_inner (ok_join (ok_split (fun b_6 =>
    ok_ret) (fun b_6 =>
    ok_split (fun b_5 =>
    ok_ret) (fun b_5 =>
    ok_op (fun _ h => c_synthesisref11_zero _ _ h) fun r_4 hr_4 =>
    ok_ret))) fun st_3 =>
    ok_split (fun b_19 =>
    ok_ret) (fun b_19 =>
    ok_op (fun _ h => ix G.hS_api_Symbol G.hk_api_Symbol h) fun x_7 hx_7 =>
    ok_split (fun b_18 =>
    ok_inner (ok_join (ok_split (fun b_9 =>
    ok_ret) (fun b_9 =>
    ok_ret)) fun st_8 =>
    ok_split (fun b_12 =>
    ok_ret) (fun b_12 =>
    ok_op (fun _ h => ix G.hS_int G.hk_int h) fun x_10 hx_10 =>
    ok_split (fun b_11 =>
    ok_ret) (fun b_11 =>
    ok_ret)))) (fun b_18 =>
    ok_split (fun b_17 =>
    ok_op (fun _ h => c_synthesisref01_Check _ _ h) fun r_13 hr_13 =>
    ok_split (fun b_15 =>
    ok_ret) (fun b_15 =>
    ok_split (fun b_14 =>
    ok_ret) (fun b_14 =>
    ok_ret))) (fun b_17 =>
    ok_op (fun _ h => c_synthesisref11_operation _ _ _ h) fun r_16 hr_16 =>
    ok_ret)))))))) h

noncomputable def p_synthesisref11_SameInts (a : List Int) (b : List Int) : Prog (Bool) :=
    .split 10 (((G.S_int a).length : Int) != ((G.S_int b).length : Int))
    (.ret false)
    (.join (σ := Unit) [] (fun _ => ([], []))
    (.rng (σ := Unit) 0 14 ((G.S_int a).length) [0, 1] (fun i _ => ([(5, .int .i64 i)], [])) () (fun i_2 _ =>
    .op (.idx 1 (.sl (G.S_int a)) (i_2 : Int)) ((a)[i_2]?) (fun (x_4 : Int) => .iptr (G.C_int x_4)) fun x_4 =>
    .op (.idx 1 (.sl (G.S_int b)) (i_2 : Int)) ((b)[i_2]?) (fun (x_5 : Int) => .iptr (G.C_int x_5)) fun x_5 =>
    .split 25 (x_4 != x_5)
    (.ret (.inr (.inr (false))))
    (.ret (.inl ()))) fun _ => .inl ())
    fun _ =>
    .ret true)
noncomputable def f_synthesisref11_SameInts (a : List Int) (b : List Int) : Option (Bool) := (p_synthesisref11_SameInts a b).eval
theorem c_synthesisref11_SameInts (a : List Int) (b : List Int) (res_ : Bool) (h : f_synthesisref11_SameInts a b = some res_) : (Ky.call 67 [.sl (G.S_int a), .sl (G.S_int b)]).ok Try.prog (.bool res_) :=
  Ky.of_check (tt := tt) (enc := fun (r : Bool) => .bool r) (muts := []) (app := []) Try.tabOk Try.mixed Try.func67 (by kernel_rfl) rfl rfl Try.ntmps67 (by kernel_rfl) (fun _ _ _ h => (by cases h)) (p := p_synthesisref11_SameInts a b) (
    ok_split (fun b_7 =>
    ok_ret) (fun b_7 =>
    ok_join (ok_rng fun i_2 st_3 _ =>
    ok_op (fun _ h => ixn G.hS_int G.hk_int h) fun x_4 hx_4 =>
    ok_op (fun _ h => ixn G.hS_int G.hk_int h) fun x_5 hx_5 =>
    ok_split (fun b_6 =>
    ok_ret) (fun b_6 =>
    ok_ret)) fun st_1 =>
    ok_ret)) h

noncomputable def p_synthesisref11_SameRule (a : G.api_Rule) (b : G.api_Rule) : Prog (Bool) :=
    .inner (.join (σ := Bool) [] (fun st_1 => ([(4, .bool st_1)], []))
    (.split 10 (a.Symbol == b.Symbol)
    (.split 17 (a.Kind == b.Kind)
    (.split 24 (a.Input == b.Input)
    (.split 31 (a.Op == b.Op)
    (.op (.call 67 [.sl (G.S_int a.Args), .sl (G.S_int b.Args)]) (f_synthesisref11_SameInts a.Args b.Args) (fun (r_2 : Bool) => .bool r_2) fun r_2 =>
    .split 38 (r_2)
    (.op (.call 68 [.agg [.int .i64 a.Const.Typ, .int .i64 a.Const.Num, .str a.Const.Text, .sl (G.S_api_Value a.Const.Items)], .agg [.int .i64 b.Const.Typ, .int .i64 b.Const.Num, .str b.Const.Text, .sl (G.S_api_Value b.Const.Items)]]) (f_synthesisref01_Equal a.Const b.Const) (fun (r_3 : Bool) => .bool r_3) fun r_3 =>
    .ret (.inl (r_3)))
    (.ret (.inl (false))))
    (.ret (.inl (false))))
    (.ret (.inl (false))))
    (.ret (.inl (false))))
    (.ret (.inl (false))))
    fun st_1 =>
    .ret st_1)
noncomputable def f_synthesisref11_SameRule (a : G.api_Rule) (b : G.api_Rule) : Option (Bool) := (p_synthesisref11_SameRule a b).eval
theorem c_synthesisref11_SameRule (a : G.api_Rule) (b : G.api_Rule) (res_ : Bool) (h : f_synthesisref11_SameRule a b = some res_) : (Ky.call 55 [.agg (G.C_api_Rule a), .agg (G.C_api_Rule b)]).ok Try.prog (.bool res_) :=
  Ky.of_check (tt := tt) (enc := fun (r : Bool) => .bool r) (muts := []) (app := []) Try.tabOk Try.mixed Try.func55 (by kernel_rfl) rfl rfl Try.ntmps55 (by kernel_rfl) (fun _ _ _ h => (by cases h)) (p := p_synthesisref11_SameRule a b) (
    ok_inner (ok_join (ok_split (fun b_8 =>
    ok_split (fun b_7 =>
    ok_split (fun b_6 =>
    ok_split (fun b_5 =>
    ok_op (fun _ h => c_synthesisref11_SameInts _ _ _ h) fun r_2 hr_2 =>
    ok_split (fun b_4 =>
    ok_op (fun _ h => c_synthesisref01_Equal _ _ _ h) fun r_3 hr_3 =>
    ok_ret) (fun b_4 =>
    ok_ret)) (fun b_5 =>
    ok_ret)) (fun b_6 =>
    ok_ret)) (fun b_7 =>
    ok_ret)) (fun b_8 =>
    ok_ret)) fun st_1 =>
    ok_ret)) h

noncomputable def p_synthesisref11_Check (a0 : G.api_Language) : Prog (Int) :=
    .op (.call 52 [.str a0.Name]) (f_synthesisref11_Name a0.Name) (fun (r_1 : Bool) => .bool r_1) fun r_1 =>
    .split 12 (!r_1)
    (.ret 5)
    (.split 16 (decide (((G.S_int a0.Inputs).length : Int) > 4))
    (.ret 2)
    (.join (σ := Unit) [1] (fun _ => ([], []))
    (.loop (σ := Int) (ρ := Int) [1] (fun st_3 => ([(3, .int .i64 st_3)], [])) (0) (fun _ y => y) fun st_3 =>
    .split 21 (decide (st_3 < ((G.S_int a0.Inputs).length : Int)))
    (.op (.idx 1 (.sl (G.S_int a0.Inputs)) st_3) (at_ a0.Inputs st_3) (fun (x_4 : Int) => .iptr (G.C_int x_4)) fun x_4 =>
    .op (.call 53 [.int .i64 x_4]) (f_synthesisref11_typed x_4) (fun (r_5 : Bool) => .bool r_5) fun r_5 =>
    .split 30 (!r_5)
    (.ret (.inr (.inr (3))))
    (.ret (.inl (IntKind.wrap .i64 (st_3 + 1)))))
    (.ret (.inr (.inl ()))))
    fun _ =>
    .inner (.join (σ := Bool) [1] (fun st_8 => ([(40, .bool st_8)], []))
    (.split 35 (decide (((G.S_api_Symbol a0.Symbols).length : Int) < 1))
    (.ret (.inl (true)))
    (.ret (.inl (decide (((G.S_api_Symbol a0.Symbols).length : Int) > 16)))))
    fun st_8 =>
    .split 40 (st_8)
    (.ret 2)
    (.join (σ := Unit) [1] (fun _ => ([], []))
    (.loop (σ := Int) (ρ := Int) [1] (fun st_11 => ([(4, .int .i64 st_11)], [])) (0) (fun _ y => y) fun st_11 =>
    .split 45 (decide (st_11 < ((G.S_api_Symbol a0.Symbols).length : Int)))
    (.join (σ := Unit) [1, 4] (fun _ => ([], []))
    (.op (.idx 2 (.sl (G.S_api_Symbol a0.Symbols)) st_11) (at_ a0.Symbols st_11) (fun (x_13 : G.api_Symbol) => .iptr (G.C_api_Symbol x_13)) fun x_13 =>
    .op (.call 52 [.str x_13.Name]) (f_synthesisref11_Name x_13.Name) (fun (r_14 : Bool) => .bool r_14) fun r_14 =>
    .split 55 (!r_14)
    (.ret (.inr (.inr (.inr (5)))))
    (.join (σ := Unit) [1, 4] (fun _ => ([], []))
    (.loop (σ := Int) (ρ := Int) [1, 4] (fun st_16 => ([(5, .int .i64 st_16)], [])) (0) (fun _ y => y) fun st_16 =>
    .split 58 (decide (st_16 < st_11))
    (.op (.idx 2 (.sl (G.S_api_Symbol a0.Symbols)) st_16) (at_ a0.Symbols st_16) (fun (x_17 : G.api_Symbol) => .iptr (G.C_api_Symbol x_17)) fun x_17 =>
    .op (.idx 2 (.sl (G.S_api_Symbol a0.Symbols)) st_11) (some x_13) (fun (x_18 : G.api_Symbol) => .iptr (G.C_api_Symbol x_18)) fun x_18 =>
    .split 73 (x_17.Name == x_18.Name)
    (.ret (.inr (.inr (.inr (.inr (.inr (6)))))))
    (.ret (.inl (IntKind.wrap .i64 (st_16 + 1)))))
    (.ret (.inr (.inl ()))))
    fun _ =>
    .op (.idx 2 (.sl (G.S_api_Symbol a0.Symbols)) st_11) (some x_13) (fun (x_21 : G.api_Symbol) => .iptr (G.C_api_Symbol x_21)) fun x_21 =>
    .op (.call 53 [.int .i64 x_21.Typ]) (f_synthesisref11_typed x_21.Typ) (fun (r_22 : Bool) => .bool r_22) fun r_22 =>
    .split 81 (!r_22)
    (.ret (.inr (.inr (.inr (3)))))
    (.ret (.inl ()))))
    fun _ =>
    .ret (.inl (IntKind.wrap .i64 (st_11 + 1))))
    (.ret (.inr (.inl ()))))
    fun _ =>
    .split 85 (decide (((G.S_api_Rule a0.Rules).length : Int) > 96))
    (.ret 2)
    (.join (σ := Unit) [] (fun _ => ([], []))
    (.loop (σ := Int) (ρ := Int) [1] (fun st_27 => ([(6, .int .i64 st_27)], [])) (0) (fun _ y => y) fun st_27 =>
    .split 90 (decide (st_27 < ((G.S_api_Rule a0.Rules).length : Int)))
    (.join (σ := Unit) [1, 6] (fun _ => ([], []))
    (.op (.idx 9 (.sl (G.S_api_Rule a0.Rules)) st_27) (at_ a0.Rules st_27) (fun (x_29 : G.api_Rule) => .iptr (G.C_api_Rule x_29)) fun x_29 =>
    .op (.call 54 [.agg [.str a0.Name, .sl (G.S_int a0.Inputs), .sl (G.S_api_Symbol a0.Symbols), .sl (G.S_api_Rule a0.Rules)], .agg [.int .i64 x_29.Symbol, .int .i64 x_29.Kind, .int .i64 x_29.Input, .int .i64 x_29.Const.Typ, .int .i64 x_29.Const.Num, .str x_29.Const.Text, .sl (G.S_api_Value x_29.Const.Items), .str x_29.Op, .sl (G.S_int x_29.Args)]]) (f_synthesisref11_rule a0 x_29) (fun (r_30 : Int) => .int .i64 r_30) fun r_30 =>
    .split 101 (r_30 != 0)
    (.ret (.inr (.inr (.inr (r_30)))))
    (.loop (σ := Int) (ρ := Int) [1, 6] (fun st_31 => ([(8, .int .i64 st_31)], [])) (0) (fun _ y => y) fun st_31 =>
    .split 105 (decide (st_31 < st_27))
    (.op (.idx 9 (.sl (G.S_api_Rule a0.Rules)) st_31) (at_ a0.Rules st_31) (fun (x_32 : G.api_Rule) => .iptr (G.C_api_Rule x_32)) fun x_32 =>
    .op (.idx 9 (.sl (G.S_api_Rule a0.Rules)) st_27) (some x_29) (fun (x_33 : G.api_Rule) => .iptr (G.C_api_Rule x_33)) fun x_33 =>
    .op (.call 55 [.agg [.int .i64 x_32.Symbol, .int .i64 x_32.Kind, .int .i64 x_32.Input, .int .i64 x_32.Const.Typ, .int .i64 x_32.Const.Num, .str x_32.Const.Text, .sl (G.S_api_Value x_32.Const.Items), .str x_32.Op, .sl (G.S_int x_32.Args)], .agg [.int .i64 x_33.Symbol, .int .i64 x_33.Kind, .int .i64 x_33.Input, .int .i64 x_33.Const.Typ, .int .i64 x_33.Const.Num, .str x_33.Const.Text, .sl (G.S_api_Value x_33.Const.Items), .str x_33.Op, .sl (G.S_int x_33.Args)]]) (f_synthesisref11_SameRule x_32 x_33) (fun (r_34 : Bool) => .bool r_34) fun r_34 =>
    .split 118 (r_34)
    (.ret (.inr (.inr (.inr (.inr (6))))))
    (.ret (.inl (IntKind.wrap .i64 (st_31 + 1)))))
    (.ret (.inr (.inl ())))))
    fun _ =>
    .ret (.inl (IntKind.wrap .i64 (st_27 + 1))))
    (.ret (.inr (.inl ()))))
    fun _ =>
    .ret 0)))))
noncomputable def f_synthesisref11_Check (a0 : G.api_Language) : Option (Int) := (p_synthesisref11_Check a0).eval
theorem c_synthesisref11_Check (a0 : G.api_Language) (res_ : Int) (h : f_synthesisref11_Check a0 = some res_) : (Ky.call 40 [.agg (G.C_api_Language a0)]).ok Try.prog (.int .i64 res_) :=
  Ky.of_check (tt := tt) (enc := fun (r : Int) => .int .i64 r) (muts := []) (app := []) Try.tabOk Try.mixed Try.func40 (by kernel_rfl) rfl rfl Try.ntmps40 (by kernel_rfl) (fun _ _ _ h => (by cases h)) (p := p_synthesisref11_Check a0) (
    ok_op (fun _ h => c_synthesisref11_Name _ _ h) fun r_1 hr_1 =>
    ok_split (fun b_42 =>
    ok_ret) (fun b_42 =>
    ok_split (fun b_41 =>
    ok_ret) (fun b_41 =>
    ok_join (ok_loop fun st_3 =>
    ok_split (fun b_7 =>
    ok_op (fun _ h => ix G.hS_int G.hk_int h) fun x_4 hx_4 =>
    ok_op (fun _ h => c_synthesisref11_typed _ _ h) fun r_5 hr_5 =>
    ok_split (fun b_6 =>
    ok_ret) (fun b_6 =>
    ok_ret)) (fun b_7 =>
    ok_ret)) fun st_2 =>
    ok_inner (ok_join (ok_split (fun b_9 =>
    ok_ret) (fun b_9 =>
    ok_ret)) fun st_8 =>
    ok_split (fun b_40 =>
    ok_ret) (fun b_40 =>
    ok_join (ok_loop fun st_11 =>
    ok_split (fun b_25 =>
    ok_join (ok_op (fun _ h => ix G.hS_api_Symbol G.hk_api_Symbol h) fun x_13 hx_13 =>
    ok_op (fun _ h => c_synthesisref11_Name _ _ h) fun r_14 hr_14 =>
    ok_split (fun b_24 =>
    ok_ret) (fun b_24 =>
    ok_join (ok_loop fun st_16 =>
    ok_split (fun b_20 =>
    ok_op (fun _ h => ix G.hS_api_Symbol G.hk_api_Symbol h) fun x_17 hx_17 =>
    ok_op (fun _ e => Option.some.inj e ▸ ix G.hS_api_Symbol G.hk_api_Symbol hx_13) fun x_18 hx_18 =>
    ok_split (fun b_19 =>
    ok_ret) (fun b_19 =>
    ok_ret)) (fun b_20 =>
    ok_ret)) fun st_15 =>
    ok_op (fun _ e => Option.some.inj e ▸ ix G.hS_api_Symbol G.hk_api_Symbol hx_13) fun x_21 hx_21 =>
    ok_op (fun _ h => c_synthesisref11_typed _ _ h) fun r_22 hr_22 =>
    ok_split (fun b_23 =>
    ok_ret) (fun b_23 =>
    ok_ret))) fun st_12 =>
    ok_ret) (fun b_25 =>
    ok_ret)) fun st_10 =>
    ok_split (fun b_39 =>
    ok_ret) (fun b_39 =>
    ok_join (ok_loop fun st_27 =>
    ok_split (fun b_38 =>
    ok_join (ok_op (fun _ h => ix G.hS_api_Rule G.hk_api_Rule h) fun x_29 hx_29 =>
    ok_op (fun _ h => c_synthesisref11_rule _ _ _ h) fun r_30 hr_30 =>
    ok_split (fun b_37 =>
    ok_ret) (fun b_37 =>
    ok_loop fun st_31 =>
    ok_split (fun b_36 =>
    ok_op (fun _ h => ix G.hS_api_Rule G.hk_api_Rule h) fun x_32 hx_32 =>
    ok_op (fun _ e => Option.some.inj e ▸ ix G.hS_api_Rule G.hk_api_Rule hx_29) fun x_33 hx_33 =>
    ok_op (fun _ h => c_synthesisref11_SameRule _ _ _ h) fun r_34 hr_34 =>
    ok_split (fun b_35 =>
    ok_ret) (fun b_35 =>
    ok_ret)) (fun b_36 =>
    ok_ret))) fun st_28 =>
    ok_ret) (fun b_38 =>
    ok_ret)) fun st_26 =>
    ok_ret)))))) h

noncomputable def p_synthesisref33_symbol (l : G.api_Language) (tests : Int) : Prog (Int) :=
    .op (.call 40 [.agg [.str l.Name, .sl (G.S_int l.Inputs), .sl (G.S_api_Symbol l.Symbols), .sl (G.S_api_Rule l.Rules)]]) (f_synthesisref11_Check l) (fun (r_1 : Int) => .int .i64 r_1) fun r_1 =>
    .split 9 (r_1 != 0)
    (.ret r_1)
    (.inner (.join (σ := Bool) [1, 2] (fun st_2 => ([(19, .bool st_2)], []))
    (.split 13 (decide (tests < 0))
    (.ret (.inl (true)))
    (.ret (.inl (decide (tests ≥ ((G.S_api_Symbol l.Symbols).length : Int))))))
    fun st_2 =>
    .split 19 (st_2)
    (.ret 1)
    (.op (.idx 2 (.sl (G.S_api_Symbol l.Symbols)) tests) (at_ l.Symbols tests) (fun (x_4 : G.api_Symbol) => .iptr (G.C_api_Symbol x_4)) fun x_4 =>
    .split 26 (x_4.Typ != 1)
    (.ret 3)
    (.ret 0))))
noncomputable def f_synthesisref33_symbol (l : G.api_Language) (tests : Int) : Option (Int) := (p_synthesisref33_symbol l tests).eval
theorem c_synthesisref33_symbol (l : G.api_Language) (tests : Int) (res_ : Int) (h : f_synthesisref33_symbol l tests = some res_) : (Ky.call 25 [.agg (G.C_api_Language l), .int .i64 tests]).ok Try.prog (.int .i64 res_) :=
  Ky.of_check (tt := tt) (enc := fun (r : Int) => .int .i64 r) (muts := []) (app := []) Try.tabOk Try.mixed Try.func25 (by kernel_rfl) rfl rfl Try.ntmps25 (by kernel_rfl) (fun _ _ _ h => (by cases h)) (p := p_synthesisref33_symbol l tests) (
    ok_op (fun _ h => c_synthesisref11_Check _ _ h) fun r_1 hr_1 =>
    ok_split (fun b_7 =>
    ok_ret) (fun b_7 =>
    ok_inner (ok_join (ok_split (fun b_3 =>
    ok_ret) (fun b_3 =>
    ok_ret)) fun st_2 =>
    ok_split (fun b_6 =>
    ok_ret) (fun b_6 =>
    ok_op (fun _ h => ix G.hS_api_Symbol G.hk_api_Symbol h) fun x_4 hx_4 =>
    ok_split (fun b_5 =>
    ok_ret) (fun b_5 =>
    ok_ret))))) h

noncomputable def p_synthesisref13_Depth : Nat → G.api_Term → Prog (Int)
  | 0, _ => .fail
  | n_ + 1, t =>
    .inner (.inner (.join (σ := Int) [] (fun st_1 => ([(3, .int .i64 st_1)], []))
    (.loop (σ := Int × Int) (ρ := Int × Int) [1] (fun st_2 => ([(3, .int .i64 st_2.1), (4, .int .i64 st_2.2)], [])) (0, 0) (fun _ y => y) fun st_2 =>
    .split 9 (decide (st_2.2 < ((G.S_api_Term t.Args).length : Int)))
    (.op (.idx 2 (.sl (G.S_api_Term t.Args)) st_2.2) (at_ t.Args st_2.2) (fun (x_3 : G.api_Term) => .iptr (G.C_api_Term x_3)) fun x_3 =>
    .op (.call 41 [.agg [.int .i64 x_3.Rule, .sl (G.S_api_Term x_3.Args)]]) ((p_synthesisref13_Depth n_ x_3).eval) (fun (r_4 : Int) => .int .i64 r_4) fun r_4 =>
    .ret (.inl (if r_4 > st_2.1 then r_4 else st_2.1, IntKind.wrap .i64 (st_2.2 + 1))))
    (.ret (.inr (.inl (st_2.1)))))
    fun st_1 =>
    .ret (IntKind.wrap .i64 (st_1 + 1))))
noncomputable def f_synthesisref13_Depth (t : G.api_Term) : Option (Int) := (p_synthesisref13_Depth (big + (SizeOf.sizeOf t)) t).eval
theorem cn_synthesisref13_Depth : ∀ n, (∀ (t : G.api_Term) (res_ : Int), (p_synthesisref13_Depth n t).eval = some res_ → (Ky.call 41 [.agg (G.C_api_Term t)]).ok Try.prog (.int .i64 res_)) := by
  intro n
  induction n with
  | zero => exact fun t _ h => by simp [p_synthesisref13_Depth] at h
  | succ n_ ih =>
    have ih_synthesisref13_Depth := ih
    exact fun t res_ h => Ky.of_check (tt := tt) (enc := fun (r : Int) => .int .i64 r) (muts := []) (app := []) Try.tabOk Try.mixed Try.func41 (by kernel_rfl) rfl rfl Try.ntmps41 (by kernel_rfl) (fun _ _ _ h => (by cases h)) (p := p_synthesisref13_Depth (n_ + 1) t) (
    ok_inner (ok_inner (ok_join (ok_loop fun st_2 =>
    ok_split (fun b_5 =>
    ok_op (fun _ h => ix G.hS_api_Term G.hk_api_Term h) fun x_3 hx_3 =>
    ok_op (fun _ h => ih_synthesisref13_Depth _ _ h) fun r_4 hr_4 =>
    ok_ret) (fun b_5 =>
    ok_ret)) fun st_1 =>
    ok_ret))) h
theorem c_synthesisref13_Depth (t : G.api_Term) (res_ : Int) (h : f_synthesisref13_Depth t = some res_) : (Ky.call 41 [.agg (G.C_api_Term t)]).ok Try.prog (.int .i64 res_) := cn_synthesisref13_Depth (big + (SizeOf.sizeOf t)) t res_ h

noncomputable def p_synthesisref13_Arity (r : G.api_Rule) : Prog (Int) :=
    .split 5 (r.Kind != 3)
    (.ret 0)
    (.ret ((G.S_int r.Args).length : Int))
noncomputable def f_synthesisref13_Arity (r : G.api_Rule) : Option (Int) := (p_synthesisref13_Arity r).eval
theorem c_synthesisref13_Arity (r : G.api_Rule) (res_ : Int) (h : f_synthesisref13_Arity r = some res_) : (Ky.call 56 [.agg (G.C_api_Rule r)]).ok Try.prog (.int .i64 res_) :=
  Ky.of_check (tt := tt) (enc := fun (r : Int) => .int .i64 r) (muts := []) (app := []) Try.tabOk Try.mixed Try.func56 (by kernel_rfl) rfl rfl Try.ntmps56 (by kernel_rfl) (fun _ _ _ h => (by cases h)) (p := p_synthesisref13_Arity r) (
    ok_split (fun b_1 =>
    ok_ret) (fun b_1 =>
    ok_ret)) h

noncomputable def p_synthesisref13_fits : Nat → G.api_Language → Int → G.api_Term → Prog (Int)
  | 0, _, _, _ => .fail
  | n_ + 1, l, symbol, t =>
    .inner (.inner (.join (σ := Bool) [1, 3, 5] (fun st_1 => ([(20, .bool st_1)], []))
    (.split 13 (decide (t.Rule < 0))
    (.ret (.inl (true)))
    (.ret (.inl (decide (t.Rule ≥ ((G.S_api_Rule l.Rules).length : Int))))))
    fun st_1 =>
    .split 20 (st_1)
    (.ret 1)
    (.op (.idx 9 (.sl (G.S_api_Rule l.Rules)) t.Rule) (at_ l.Rules t.Rule) (fun (x_3 : G.api_Rule) => .iptr (G.C_api_Rule x_3)) fun x_3 =>
    .split 30 (x_3.Symbol != symbol)
    (.ret 3)
    (.op (.call 56 [.agg [.int .i64 x_3.Symbol, .int .i64 x_3.Kind, .int .i64 x_3.Input, .int .i64 x_3.Const.Typ, .int .i64 x_3.Const.Num, .str x_3.Const.Text, .sl (G.S_api_Value x_3.Const.Items), .str x_3.Op, .sl (G.S_int x_3.Args)]]) (f_synthesisref13_Arity x_3) (fun (r_4 : Int) => .int .i64 r_4) fun r_4 =>
    .split 36 (((G.S_api_Term t.Args).length : Int) != r_4)
    (.ret 4)
    (.join (σ := Unit) [] (fun _ => ([], []))
    (.loop (σ := Int) (ρ := Int) [3, 5, 7] (fun st_6 => ([(8, .int .i64 st_6)], [.cells [.int .i64 x_3.Symbol, .int .i64 x_3.Kind, .int .i64 x_3.Input, .int .i64 x_3.Const.Typ, .int .i64 x_3.Const.Num, .str x_3.Const.Text, .sl (G.S_api_Value x_3.Const.Items), .str x_3.Op, .sl (G.S_int x_3.Args)]])) (0) (fun _ y => y) fun st_6 =>
    .split 41 (decide (st_6 < ((G.S_api_Term t.Args).length : Int)))
    (.op (.idx 1 (.sl (G.S_int x_3.Args)) st_6) (at_ x_3.Args st_6) (fun (x_7 : Int) => .iptr (G.C_int x_7)) fun x_7 =>
    .op (.idx 2 (.sl (G.S_api_Term t.Args)) st_6) (at_ t.Args st_6) (fun (x_8 : G.api_Term) => .iptr (G.C_api_Term x_8)) fun x_8 =>
    .op (.call 42 [.agg [.str l.Name, .sl (G.S_int l.Inputs), .sl (G.S_api_Symbol l.Symbols), .sl (G.S_api_Rule l.Rules)], .int .i64 x_7, .agg [.int .i64 x_8.Rule, .sl (G.S_api_Term x_8.Args)]]) ((p_synthesisref13_fits n_ l x_7 x_8).eval) (fun (r_9 : Int) => .int .i64 r_9) fun r_9 =>
    .split 57 (r_9 != 0)
    (.ret (.inr (.inr (r_9))))
    (.ret (.inl (IntKind.wrap .i64 (st_6 + 1)))))
    (.ret (.inr (.inl ()))))
    fun _ =>
    .ret 0)))))
noncomputable def f_synthesisref13_fits (l : G.api_Language) (symbol : Int) (t : G.api_Term) : Option (Int) := (p_synthesisref13_fits (big + (SizeOf.sizeOf l + SizeOf.sizeOf t)) l symbol t).eval
theorem cn_synthesisref13_fits : ∀ n, (∀ (l : G.api_Language) (symbol : Int) (t : G.api_Term) (res_ : Int), (p_synthesisref13_fits n l symbol t).eval = some res_ → (Ky.call 42 [.agg (G.C_api_Language l), .int .i64 symbol, .agg (G.C_api_Term t)]).ok Try.prog (.int .i64 res_)) := by
  intro n
  induction n with
  | zero => exact fun l symbol t _ h => by simp [p_synthesisref13_fits] at h
  | succ n_ ih =>
    have ih_synthesisref13_fits := ih
    exact fun l symbol t res_ h => Ky.of_check (tt := tt) (enc := fun (r : Int) => .int .i64 r) (muts := []) (app := []) Try.tabOk Try.mixed Try.func42 (by kernel_rfl) rfl rfl Try.ntmps42 (by kernel_rfl) (fun _ _ _ h => (by cases h)) (p := p_synthesisref13_fits (n_ + 1) l symbol t) (
    ok_inner (ok_inner (ok_join (ok_split (fun b_2 =>
    ok_ret) (fun b_2 =>
    ok_ret)) fun st_1 =>
    ok_split (fun b_14 =>
    ok_ret) (fun b_14 =>
    ok_op (fun _ h => ix G.hS_api_Rule G.hk_api_Rule h) fun x_3 hx_3 =>
    ok_split (fun b_13 =>
    ok_ret) (fun b_13 =>
    ok_op (fun _ h => c_synthesisref13_Arity _ _ h) fun r_4 hr_4 =>
    ok_split (fun b_12 =>
    ok_ret) (fun b_12 =>
    ok_join (ok_loop fun st_6 =>
    ok_split (fun b_11 =>
    ok_op (fun _ h => ix G.hS_int G.hk_int h) fun x_7 hx_7 =>
    ok_op (fun _ h => ix G.hS_api_Term G.hk_api_Term h) fun x_8 hx_8 =>
    ok_op (fun _ h => ih_synthesisref13_fits _ _ _ _ h) fun r_9 hr_9 =>
    ok_split (fun b_10 =>
    ok_ret) (fun b_10 =>
    ok_ret)) (fun b_11 =>
    ok_ret)) fun st_5 =>
    ok_ret)))))) h
theorem c_synthesisref13_fits (l : G.api_Language) (symbol : Int) (t : G.api_Term) (res_ : Int) (h : f_synthesisref13_fits l symbol t = some res_) : (Ky.call 42 [.agg (G.C_api_Language l), .int .i64 symbol, .agg (G.C_api_Term t)]).ok Try.prog (.int .i64 res_) := cn_synthesisref13_fits (big + (SizeOf.sizeOf l + SizeOf.sizeOf t)) l symbol t res_ h

noncomputable def p_synthesisref13_Check (l : G.api_Language) (symbol : Int) (t : G.api_Term) : Prog (Int) :=
    .op (.call 40 [.agg [.str l.Name, .sl (G.S_int l.Inputs), .sl (G.S_api_Symbol l.Symbols), .sl (G.S_api_Rule l.Rules)]]) (f_synthesisref11_Check l) (fun (r_1 : Int) => .int .i64 r_1) fun r_1 =>
    .split 11 (r_1 != 0)
    (.ret r_1)
    (.inner (.join (σ := Bool) [1, 3, 5] (fun st_2 => ([(21, .bool st_2)], []))
    (.split 15 (decide (symbol < 0))
    (.ret (.inl (true)))
    (.ret (.inl (decide (symbol ≥ ((G.S_api_Symbol l.Symbols).length : Int))))))
    fun st_2 =>
    .split 21 (st_2)
    (.ret 1)
    (.inner (.join (σ := Bool) [1, 3, 5] (fun st_4 => ([(29, .bool st_4)], []))
    (.op (.call 21 [.agg [.int .i64 t.Rule, .sl (G.S_api_Term t.Args)], .int .i64 4096]) (f_synthesisref13_Within t 4096) (fun (r_5 : Bool) => .bool r_5) fun r_5 =>
    .split 25 (!r_5)
    (.ret (.inl (true)))
    (.op (.call 41 [.agg [.int .i64 t.Rule, .sl (G.S_api_Term t.Args)]]) (f_synthesisref13_Depth t) (fun (r_6 : Int) => .int .i64 r_6) fun r_6 =>
    .ret (.inl (decide (r_6 > 32)))))
    fun st_4 =>
    .split 29 (st_4)
    (.ret 2)
    (.op (.call 42 [.agg [.str l.Name, .sl (G.S_int l.Inputs), .sl (G.S_api_Symbol l.Symbols), .sl (G.S_api_Rule l.Rules)], .int .i64 symbol, .agg [.int .i64 t.Rule, .sl (G.S_api_Term t.Args)]]) (f_synthesisref13_fits l symbol t) (fun (r_8 : Int) => .int .i64 r_8) fun r_8 =>
    .ret r_8)))))
noncomputable def f_synthesisref13_Check (l : G.api_Language) (symbol : Int) (t : G.api_Term) : Option (Int) := (p_synthesisref13_Check l symbol t).eval
theorem c_synthesisref13_Check (l : G.api_Language) (symbol : Int) (t : G.api_Term) (res_ : Int) (h : f_synthesisref13_Check l symbol t = some res_) : (Ky.call 26 [.agg (G.C_api_Language l), .int .i64 symbol, .agg (G.C_api_Term t)]).ok Try.prog (.int .i64 res_) :=
  Ky.of_check (tt := tt) (enc := fun (r : Int) => .int .i64 r) (muts := []) (app := []) Try.tabOk Try.mixed Try.func26 (by kernel_rfl) rfl rfl Try.ntmps26 (by kernel_rfl) (fun _ _ _ h => (by cases h)) (p := p_synthesisref13_Check l symbol t) (
    ok_op (fun _ h => c_synthesisref11_Check _ _ h) fun r_1 hr_1 =>
    ok_split (fun b_11 =>
    ok_ret) (fun b_11 =>
    ok_inner (ok_join (ok_split (fun b_3 =>
    ok_ret) (fun b_3 =>
    ok_ret)) fun st_2 =>
    ok_split (fun b_10 =>
    ok_ret) (fun b_10 =>
    ok_inner (ok_join (ok_op (fun _ h => c_synthesisref13_Within _ _ _ h) fun r_5 hr_5 =>
    ok_split (fun b_7 =>
    ok_ret) (fun b_7 =>
    ok_op (fun _ h => c_synthesisref13_Depth _ _ h) fun r_6 hr_6 =>
    ok_ret)) fun st_4 =>
    ok_split (fun b_9 =>
    ok_ret) (fun b_9 =>
    ok_op (fun _ h => c_synthesisref13_fits _ _ _ _ h) fun r_8 hr_8 =>
    ok_ret)))))) h

noncomputable def p_synthesisref33_Check (l : G.api_Language) (tests : Int) (d : G.api_Decisions) : Prog (Int) :=
    .op (.call 25 [.agg [.str l.Name, .sl (G.S_int l.Inputs), .sl (G.S_api_Symbol l.Symbols), .sl (G.S_api_Rule l.Rules)], .int .i64 tests]) (f_synthesisref33_symbol l tests) (fun (r_1 : Int) => .int .i64 r_1) fun r_1 =>
    .split 15 (r_1 != 0)
    (.ret r_1)
    (.split 20 (decide (((G.S_api_Branch d.Branches).length : Int) > 16))
    (.ret 2)
    (.join (σ := Unit) [3, 5] (fun _ => ([], []))
    (.loop (σ := Int) (ρ := Int) [1, 3, 5] (fun st_3 => ([(8, .int .i64 st_3)], [])) (0) (fun _ y => y) fun st_3 =>
    .split 25 (decide (st_3 < ((G.S_api_Branch d.Branches).length : Int)))
    (.op (.idx 4 (.sl (G.S_api_Branch d.Branches)) st_3) (at_ d.Branches st_3) (fun (x_4 : G.api_Branch) => .iptr (G.C_api_Branch x_4)) fun x_4 =>
    .op (.call 26 [.agg [.str l.Name, .sl (G.S_int l.Inputs), .sl (G.S_api_Symbol l.Symbols), .sl (G.S_api_Rule l.Rules)], .int .i64 tests, .agg [.int .i64 x_4.Test.Rule, .sl (G.S_api_Term x_4.Test.Args)]]) (f_synthesisref13_Check l tests x_4.Test) (fun (r_5 : Int) => .int .i64 r_5) fun r_5 =>
    .split 38 (r_5 != 0)
    (.ret (.inr (.inr (r_5))))
    (.op (.idx 4 (.sl (G.S_api_Branch d.Branches)) st_3) (some x_4) (fun (x_6 : G.api_Branch) => .iptr (G.C_api_Branch x_6)) fun x_6 =>
    .op (.call 26 [.agg [.str l.Name, .sl (G.S_int l.Inputs), .sl (G.S_api_Symbol l.Symbols), .sl (G.S_api_Rule l.Rules)], .int .i64 0, .agg [.int .i64 x_6.Then.Rule, .sl (G.S_api_Term x_6.Then.Args)]]) (f_synthesisref13_Check l 0 x_6.Then) (fun (r_7 : Int) => .int .i64 r_7) fun r_7 =>
    .split 49 (r_7 != 0)
    (.ret (.inr (.inr (r_7))))
    (.ret (.inl (IntKind.wrap .i64 (st_3 + 1))))))
    (.ret (.inr (.inl ()))))
    fun _ =>
    .op (.call 26 [.agg [.str l.Name, .sl (G.S_int l.Inputs), .sl (G.S_api_Symbol l.Symbols), .sl (G.S_api_Rule l.Rules)], .int .i64 0, .agg [.int .i64 d.Else.Rule, .sl (G.S_api_Term d.Else.Args)]]) (f_synthesisref13_Check l 0 d.Else) (fun (r_11 : Int) => .int .i64 r_11) fun r_11 =>
    .ret r_11))
noncomputable def f_synthesisref33_Check (l : G.api_Language) (tests : Int) (d : G.api_Decisions) : Option (Int) := (p_synthesisref33_Check l tests d).eval
theorem c_synthesisref33_Check (l : G.api_Language) (tests : Int) (d : G.api_Decisions) (res_ : Int) (h : f_synthesisref33_Check l tests d = some res_) : (Ky.call 14 [.agg (G.C_api_Language l), .int .i64 tests, .agg (G.C_api_Decisions d)]).ok Try.prog (.int .i64 res_) :=
  Ky.of_check (tt := tt) (enc := fun (r : Int) => .int .i64 r) (muts := []) (app := []) Try.tabOk Try.mixed Try.func14 (by kernel_rfl) rfl rfl Try.ntmps14 (by kernel_rfl) (fun _ _ _ h => (by cases h)) (p := p_synthesisref33_Check l tests d) (
    ok_op (fun _ h => c_synthesisref33_symbol _ _ _ h) fun r_1 hr_1 =>
    ok_split (fun b_13 =>
    ok_ret) (fun b_13 =>
    ok_split (fun b_12 =>
    ok_ret) (fun b_12 =>
    ok_join (ok_loop fun st_3 =>
    ok_split (fun b_10 =>
    ok_op (fun _ h => ix G.hS_api_Branch G.hk_api_Branch h) fun x_4 hx_4 =>
    ok_op (fun _ h => c_synthesisref13_Check _ _ _ _ h) fun r_5 hr_5 =>
    ok_split (fun b_9 =>
    ok_ret) (fun b_9 =>
    ok_op (fun _ e => Option.some.inj e ▸ ix G.hS_api_Branch G.hk_api_Branch hx_4) fun x_6 hx_6 =>
    ok_op (fun _ h => c_synthesisref13_Check _ _ _ _ h) fun r_7 hr_7 =>
    ok_split (fun b_8 =>
    ok_ret) (fun b_8 =>
    ok_ret))) (fun b_10 =>
    ok_ret)) fun st_2 =>
    ok_op (fun _ h => c_synthesisref13_Check _ _ _ _ h) fun r_11 hr_11 =>
    ok_ret))) h

noncomputable def p_term_Size : Nat → G.api_Term → Prog (Int)
  | 0, _ => .fail
  | n_ + 1, t =>
    .inner (.inner (.join (σ := Int) [] (fun st_1 => ([(3, .int .i64 st_1)], []))
    (.rng (σ := Int) 7 10 ((G.S_api_Term t.Args).length) [7, 8] (fun i st_3 => ([(9, .int .i64 i), (3, .int .i64 st_3)], [])) (1) (fun i_2 st_3 =>
    .op (.idx 2 (.sl (G.S_api_Term t.Args)) (i_2 : Int)) ((t.Args)[i_2]?) (fun (x_4 : G.api_Term) => .iptr (G.C_api_Term x_4)) fun x_4 =>
    .op (.call 27 [.agg [.int .i64 x_4.Rule, .sl (G.S_api_Term x_4.Args)]]) ((p_term_Size n_ x_4).eval) (fun (r_5 : Int) => .int .i64 r_5) fun r_5 =>
    .ret (.inl (IntKind.wrap .i64 (st_3 + r_5)))) fun st_3 => .inl (st_3))
    fun st_1 =>
    .ret st_1))
noncomputable def f_term_Size (t : G.api_Term) : Option (Int) := (p_term_Size (big + (SizeOf.sizeOf t)) t).eval
theorem cn_term_Size : ∀ n, (∀ (t : G.api_Term) (res_ : Int), (p_term_Size n t).eval = some res_ → (Ky.call 27 [.agg (G.C_api_Term t)]).ok Try.prog (.int .i64 res_)) := by
  intro n
  induction n with
  | zero => exact fun t _ h => by simp [p_term_Size] at h
  | succ n_ ih =>
    have ih_term_Size := ih
    exact fun t res_ h => Ky.of_check (tt := tt) (enc := fun (r : Int) => .int .i64 r) (muts := []) (app := []) Try.tabOk Try.mixed Try.func27 (by kernel_rfl) rfl rfl Try.ntmps27 (by kernel_rfl) (fun _ _ _ h => (by cases h)) (p := p_term_Size (n_ + 1) t) (
    ok_inner (ok_inner (ok_join (ok_rng fun i_2 st_3 _ =>
    ok_op (fun _ h => ixn G.hS_api_Term G.hk_api_Term h) fun x_4 hx_4 =>
    ok_op (fun _ h => ih_term_Size _ _ h) fun r_5 hr_5 =>
    ok_ret) fun st_1 =>
    ok_ret))) h
theorem c_term_Size (t : G.api_Term) (res_ : Int) (h : f_term_Size t = some res_) : (Ky.call 27 [.agg (G.C_api_Term t)]).ok Try.prog (.int .i64 res_) := cn_term_Size (big + (SizeOf.sizeOf t)) t res_ h

noncomputable def p_branch_Size (d : G.api_Decisions) : Prog (Int) :=
    .op (.call 27 [.agg [.int .i64 d.Else.Rule, .sl (G.S_api_Term d.Else.Args)]]) (f_term_Size d.Else) (fun (r_1 : Int) => .int .i64 r_1) fun r_1 =>
    .join (σ := Int) [] (fun st_2 => ([(3, .int .i64 st_2)], []))
    (.rng (σ := Int) 10 13 ((G.S_api_Branch d.Branches).length) [10, 11] (fun i st_4 => ([(12, .int .i64 i), (3, .int .i64 st_4)], [])) (r_1) (fun i_3 st_4 =>
    .op (.idx 4 (.sl (G.S_api_Branch d.Branches)) (i_3 : Int)) ((d.Branches)[i_3]?) (fun (x_5 : G.api_Branch) => .iptr (G.C_api_Branch x_5)) fun x_5 =>
    .op (.call 27 [.agg [.int .i64 x_5.Test.Rule, .sl (G.S_api_Term x_5.Test.Args)]]) (f_term_Size x_5.Test) (fun (r_6 : Int) => .int .i64 r_6) fun r_6 =>
    .op (.call 27 [.agg [.int .i64 x_5.Then.Rule, .sl (G.S_api_Term x_5.Then.Args)]]) (f_term_Size x_5.Then) (fun (r_7 : Int) => .int .i64 r_7) fun r_7 =>
    .ret (.inl (IntKind.wrap .i64 (st_4 + (IntKind.wrap .i64 (r_6 + r_7)))))) fun st_4 => .inl (st_4))
    fun st_2 =>
    .ret st_2
noncomputable def f_branch_Size (d : G.api_Decisions) : Option (Int) := (p_branch_Size d).eval
theorem c_branch_Size (d : G.api_Decisions) (res_ : Int) (h : f_branch_Size d = some res_) : (Ky.call 15 [.agg (G.C_api_Decisions d)]).ok Try.prog (.int .i64 res_) :=
  Ky.of_check (tt := tt) (enc := fun (r : Int) => .int .i64 r) (muts := []) (app := []) Try.tabOk Try.mixed Try.func15 (by kernel_rfl) rfl rfl Try.ntmps15 (by kernel_rfl) (fun _ _ _ h => (by cases h)) (p := p_branch_Size d) (
    ok_op (fun _ h => c_term_Size _ _ h) fun r_1 hr_1 =>
    ok_join (ok_rng fun i_3 st_4 _ =>
    ok_op (fun _ h => ixn G.hS_api_Branch G.hk_api_Branch h) fun x_5 hx_5 =>
    ok_op (fun _ h => c_term_Size _ _ h) fun r_6 hr_6 =>
    ok_op (fun _ h => c_term_Size _ _ h) fun r_7 hr_7 =>
    ok_ret) fun st_2 =>
    ok_ret) h

noncomputable def p_synthesisref13_Size : Nat → G.api_Term → Prog (Int)
  | 0, _ => .fail
  | n_ + 1, t =>
    .inner (.inner (.join (σ := Int) [] (fun st_1 => ([(3, .int .i64 st_1)], []))
    (.loop (σ := Int × Int) (ρ := Int × Int) [1] (fun st_2 => ([(3, .int .i64 st_2.1), (4, .int .i64 st_2.2)], [])) (1, 0) (fun _ y => y) fun st_2 =>
    .split 9 (decide (st_2.2 < ((G.S_api_Term t.Args).length : Int)))
    (.op (.idx 2 (.sl (G.S_api_Term t.Args)) st_2.2) (at_ t.Args st_2.2) (fun (x_3 : G.api_Term) => .iptr (G.C_api_Term x_3)) fun x_3 =>
    .op (.call 28 [.agg [.int .i64 x_3.Rule, .sl (G.S_api_Term x_3.Args)]]) ((p_synthesisref13_Size n_ x_3).eval) (fun (r_4 : Int) => .int .i64 r_4) fun r_4 =>
    .ret (.inl (IntKind.wrap .i64 (st_2.1 + r_4), IntKind.wrap .i64 (st_2.2 + 1))))
    (.ret (.inr (.inl (st_2.1)))))
    fun st_1 =>
    .ret st_1))
noncomputable def f_synthesisref13_Size (t : G.api_Term) : Option (Int) := (p_synthesisref13_Size (big + (SizeOf.sizeOf t)) t).eval
theorem cn_synthesisref13_Size : ∀ n, (∀ (t : G.api_Term) (res_ : Int), (p_synthesisref13_Size n t).eval = some res_ → (Ky.call 28 [.agg (G.C_api_Term t)]).ok Try.prog (.int .i64 res_)) := by
  intro n
  induction n with
  | zero => exact fun t _ h => by simp [p_synthesisref13_Size] at h
  | succ n_ ih =>
    have ih_synthesisref13_Size := ih
    exact fun t res_ h => Ky.of_check (tt := tt) (enc := fun (r : Int) => .int .i64 r) (muts := []) (app := []) Try.tabOk Try.mixed Try.func28 (by kernel_rfl) rfl rfl Try.ntmps28 (by kernel_rfl) (fun _ _ _ h => (by cases h)) (p := p_synthesisref13_Size (n_ + 1) t) (
    ok_inner (ok_inner (ok_join (ok_loop fun st_2 =>
    ok_split (fun b_5 =>
    ok_op (fun _ h => ix G.hS_api_Term G.hk_api_Term h) fun x_3 hx_3 =>
    ok_op (fun _ h => ih_synthesisref13_Size _ _ h) fun r_4 hr_4 =>
    ok_ret) (fun b_5 =>
    ok_ret)) fun st_1 =>
    ok_ret))) h
theorem c_synthesisref13_Size (t : G.api_Term) (res_ : Int) (h : f_synthesisref13_Size t = some res_) : (Ky.call 28 [.agg (G.C_api_Term t)]).ok Try.prog (.int .i64 res_) := cn_synthesisref13_Size (big + (SizeOf.sizeOf t)) t res_ h

noncomputable def p_synthesisref33_Size (d : G.api_Decisions) : Prog (Int) :=
    .op (.call 28 [.agg [.int .i64 d.Else.Rule, .sl (G.S_api_Term d.Else.Args)]]) (f_synthesisref13_Size d.Else) (fun (r_1 : Int) => .int .i64 r_1) fun r_1 =>
    .join (σ := Int) [] (fun st_2 => ([(3, .int .i64 st_2)], []))
    (.loop (σ := Int × Int) (ρ := Int × Int) [1] (fun st_3 => ([(3, .int .i64 st_3.1), (4, .int .i64 st_3.2)], [])) (r_1, 0) (fun _ y => y) fun st_3 =>
    .split 12 (decide (st_3.2 < ((G.S_api_Branch d.Branches).length : Int)))
    (.op (.idx 4 (.sl (G.S_api_Branch d.Branches)) st_3.2) (at_ d.Branches st_3.2) (fun (x_4 : G.api_Branch) => .iptr (G.C_api_Branch x_4)) fun x_4 =>
    .op (.call 28 [.agg [.int .i64 x_4.Test.Rule, .sl (G.S_api_Term x_4.Test.Args)]]) (f_synthesisref13_Size x_4.Test) (fun (r_5 : Int) => .int .i64 r_5) fun r_5 =>
    .op (.idx 4 (.sl (G.S_api_Branch d.Branches)) st_3.2) (some x_4) (fun (x_6 : G.api_Branch) => .iptr (G.C_api_Branch x_6)) fun x_6 =>
    .op (.call 28 [.agg [.int .i64 x_6.Then.Rule, .sl (G.S_api_Term x_6.Then.Args)]]) (f_synthesisref13_Size x_6.Then) (fun (r_7 : Int) => .int .i64 r_7) fun r_7 =>
    .ret (.inl (IntKind.wrap .i64 (st_3.1 + (IntKind.wrap .i64 (r_5 + r_7))), IntKind.wrap .i64 (st_3.2 + 1))))
    (.ret (.inr (.inl (st_3.1)))))
    fun st_2 =>
    .ret st_2
noncomputable def f_synthesisref33_Size (d : G.api_Decisions) : Option (Int) := (p_synthesisref33_Size d).eval
theorem c_synthesisref33_Size (d : G.api_Decisions) (res_ : Int) (h : f_synthesisref33_Size d = some res_) : (Ky.call 16 [.agg (G.C_api_Decisions d)]).ok Try.prog (.int .i64 res_) :=
  Ky.of_check (tt := tt) (enc := fun (r : Int) => .int .i64 r) (muts := []) (app := []) Try.tabOk Try.mixed Try.func16 (by kernel_rfl) rfl rfl Try.ntmps16 (by kernel_rfl) (fun _ _ _ h => (by cases h)) (p := p_synthesisref33_Size d) (
    ok_op (fun _ h => c_synthesisref13_Size _ _ h) fun r_1 hr_1 =>
    ok_join (ok_loop fun st_3 =>
    ok_split (fun b_8 =>
    ok_op (fun _ h => ix G.hS_api_Branch G.hk_api_Branch h) fun x_4 hx_4 =>
    ok_op (fun _ h => c_synthesisref13_Size _ _ h) fun r_5 hr_5 =>
    ok_op (fun _ e => Option.some.inj e ▸ ix G.hS_api_Branch G.hk_api_Branch hx_4) fun x_6 hx_6 =>
    ok_op (fun _ h => c_synthesisref13_Size _ _ h) fun r_7 hr_7 =>
    ok_ret) (fun b_8 =>
    ok_ret)) fun st_2 =>
    ok_ret) h

noncomputable def p_synthesislaw33_BranchChecks (l : G.api_Language) (tests : Int) (d : G.api_Decisions) : Prog (Bool) :=
    .inner (.join (σ := Bool) [] (fun st_1 => ([(6, .bool st_1)], []))
    (.op (.call 11 [.agg [.str l.Name, .sl (G.S_int l.Inputs), .sl (G.S_api_Symbol l.Symbols), .sl (G.S_api_Rule l.Rules)]]) (f_synthesisref13_Light l) (fun (r_2 : Bool) => .bool r_2) fun r_2 =>
    .split 10 (!r_2)
    (.op (.call 7 []) f_synthesislaw33_alive (fun (r_3 : Bool) => .bool r_3) fun r_3 =>
    .ret (.inl (r_3)))
    (.op (.call 12 [.agg [.sl (G.S_api_Branch d.Branches), .int .i64 d.Else.Rule, .sl (G.S_api_Term d.Else.Args)]]) (f_synthesislaw33_few d) (fun (r_4 : Bool) => .bool r_4) fun r_4 =>
    .split 15 (!r_4)
    (.op (.call 7 []) f_synthesislaw33_alive (fun (r_5 : Bool) => .bool r_5) fun r_5 =>
    .ret (.inl (r_5)))
    (.op (.call 13 [.agg [.str l.Name, .sl (G.S_int l.Inputs), .sl (G.S_api_Symbol l.Symbols), .sl (G.S_api_Rule l.Rules)], .int .i64 tests, .agg [.sl (G.S_api_Branch d.Branches), .int .i64 d.Else.Rule, .sl (G.S_api_Term d.Else.Args)]]) (f_branch_Check l tests d) (fun (r_6 : Int) => .int .i64 r_6) fun r_6 =>
    .op (.call 14 [.agg [.str l.Name, .sl (G.S_int l.Inputs), .sl (G.S_api_Symbol l.Symbols), .sl (G.S_api_Rule l.Rules)], .int .i64 tests, .agg [.sl (G.S_api_Branch d.Branches), .int .i64 d.Else.Rule, .sl (G.S_api_Term d.Else.Args)]]) (f_synthesisref33_Check l tests d) (fun (r_7 : Int) => .int .i64 r_7) fun r_7 =>
    .split 25 (r_6 == r_7)
    (.op (.call 15 [.agg [.sl (G.S_api_Branch d.Branches), .int .i64 d.Else.Rule, .sl (G.S_api_Term d.Else.Args)]]) (f_branch_Size d) (fun (r_8 : Int) => .int .i64 r_8) fun r_8 =>
    .op (.call 16 [.agg [.sl (G.S_api_Branch d.Branches), .int .i64 d.Else.Rule, .sl (G.S_api_Term d.Else.Args)]]) (f_synthesisref33_Size d) (fun (r_9 : Int) => .int .i64 r_9) fun r_9 =>
    .split 33 (r_8 == r_9)
    (.op (.call 7 []) f_synthesislaw33_alive (fun (r_10 : Bool) => .bool r_10) fun r_10 =>
    .ret (.inl (r_10)))
    (.ret (.inl (false))))
    (.ret (.inl (false))))))
    fun st_1 =>
    .ret st_1)
noncomputable def f_synthesislaw33_BranchChecks (l : G.api_Language) (tests : Int) (d : G.api_Decisions) : Option (Bool) := (p_synthesislaw33_BranchChecks l tests d).eval
theorem c_synthesislaw33_BranchChecks (l : G.api_Language) (tests : Int) (d : G.api_Decisions) (res_ : Bool) (h : f_synthesislaw33_BranchChecks l tests d = some res_) : (Ky.call 5 [.agg (G.C_api_Language l), .int .i64 tests, .agg (G.C_api_Decisions d)]).ok Try.prog (.bool res_) :=
  Ky.of_check (tt := tt) (enc := fun (r : Bool) => .bool r) (muts := []) (app := []) Try.tabOk Try.mixed Try.func5 (by kernel_rfl) rfl rfl Try.ntmps5 (by kernel_rfl) (fun _ _ _ h => (by cases h)) (p := p_synthesislaw33_BranchChecks l tests d) (
    ok_inner (ok_join (ok_op (fun _ h => c_synthesisref13_Light _ _ h) fun r_2 hr_2 =>
    ok_split (fun b_14 =>
    ok_op (fun _ h => c_synthesislaw33_alive  _ h) fun r_3 hr_3 =>
    ok_ret) (fun b_14 =>
    ok_op (fun _ h => c_synthesislaw33_few _ _ h) fun r_4 hr_4 =>
    ok_split (fun b_13 =>
    ok_op (fun _ h => c_synthesislaw33_alive  _ h) fun r_5 hr_5 =>
    ok_ret) (fun b_13 =>
    ok_op (fun _ h => c_branch_Check _ _ _ _ h) fun r_6 hr_6 =>
    ok_op (fun _ h => c_synthesisref33_Check _ _ _ _ h) fun r_7 hr_7 =>
    ok_split (fun b_12 =>
    ok_op (fun _ h => c_branch_Size _ _ h) fun r_8 hr_8 =>
    ok_op (fun _ h => c_synthesisref33_Size _ _ h) fun r_9 hr_9 =>
    ok_split (fun b_11 =>
    ok_op (fun _ h => c_synthesislaw33_alive  _ h) fun r_10 hr_10 =>
    ok_ret) (fun b_11 =>
    ok_ret)) (fun b_12 =>
    ok_ret)))) fun st_1 =>
    ok_ret)) h
end Go.Proofs.Ytikgppgpailmcaa
