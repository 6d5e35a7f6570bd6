/-
  The plain types.
-/
import Derived.Test.YtikgppgpailmcaaAlPlain
namespace Go.Proofs.Ytikgppgpailmcaa
open Go.AL
noncomputable def G.C_bool (x : Bool) : List D := [.bool x]
noncomputable def G.S_bool (xs : List Bool) : List (List D) := xs.map G.C_bool
theorem G.hS_bool (xs : List Bool) : G.S_bool xs = xs.map G.C_bool := rfl
theorem G.hk_bool (a : Bool) : (G.C_bool a).length = 1 := rfl
@[simp] theorem G.len_bool (xs : List Bool) : (G.S_bool xs).length = xs.length := by rw [G.hS_bool, List.length_map]
noncomputable def G.C_L_bool (x : List Bool) : List D := [.sl (G.S_bool x)]
noncomputable def G.S_L_bool (xs : List (List Bool)) : List (List D) := xs.map G.C_L_bool
theorem G.hS_L_bool (xs : List (List Bool)) : G.S_L_bool xs = xs.map G.C_L_bool := rfl
theorem G.hk_L_bool (a : List Bool) : (G.C_L_bool a).length = 1 := rfl
@[simp] theorem G.len_L_bool (xs : List (List Bool)) : (G.S_L_bool xs).length = xs.length := by rw [G.hS_L_bool, List.length_map]
noncomputable def G.C_int (x : Int) : List D := [.int .i64 x]
noncomputable def G.S_int (xs : List Int) : List (List D) := xs.map G.C_int
theorem G.hS_int (xs : List Int) : G.S_int xs = xs.map G.C_int := rfl
theorem G.hk_int (a : Int) : (G.C_int a).length = 1 := rfl
@[simp] theorem G.len_int (xs : List Int) : (G.S_int xs).length = xs.length := by rw [G.hS_int, List.length_map]
noncomputable def G.C_u8 (x : Int) : List D := [.int .u8 x]
noncomputable def G.S_u8 (xs : List Int) : List (List D) := xs.map G.C_u8
theorem G.hS_u8 (xs : List Int) : G.S_u8 xs = xs.map G.C_u8 := rfl
theorem G.hk_u8 (a : Int) : (G.C_u8 a).length = 1 := rfl
@[simp] theorem G.len_u8 (xs : List Int) : (G.S_u8 xs).length = xs.length := by rw [G.hS_u8, List.length_map]
noncomputable def G.C_L_u8 (x : List Int) : List D := [.sl (G.S_u8 x)]
noncomputable def G.S_L_u8 (xs : List (List Int)) : List (List D) := xs.map G.C_L_u8
theorem G.hS_L_u8 (xs : List (List Int)) : G.S_L_u8 xs = xs.map G.C_L_u8 := rfl
theorem G.hk_L_u8 (a : List Int) : (G.C_L_u8 a).length = 1 := rfl
@[simp] theorem G.len_L_u8 (xs : List (List Int)) : (G.S_L_u8 xs).length = xs.length := by rw [G.hS_L_u8, List.length_map]
structure G.api_Value where
  Typ : Int
  Num : Int
  Text : List UInt8
  Items : List G.api_Value
noncomputable def G.S_api_Value (xs : List G.api_Value) : List (List D) := G.api_Value.rec_1 (motive_1 := fun _ => List D) (motive_2 := fun _ => List (List D)) (fun x0 x1 x2 x3 ih_x3 => [.int .i64 x0, .int .i64 x1, .str x2, .sl ih_x3]) [] (fun _ _ h t => h :: t) xs
noncomputable def G.C_api_Value (x : G.api_Value) : List D := [.int .i64 x.Typ, .int .i64 x.Num, .str x.Text, .sl (G.S_api_Value x.Items)]
theorem G.hS_api_Value : ∀ xs : List G.api_Value, G.S_api_Value xs = xs.map G.C_api_Value
  | [] => rfl
  | ⟨x0, x1, x2, x3⟩ :: l => by rw [List.map_cons, ← G.hS_api_Value l]; rfl
theorem G.nil_api_Value : G.S_api_Value [] = [] := rfl
theorem G.cons_api_Value (x : G.api_Value) (l : List G.api_Value) : G.S_api_Value (x :: l) = G.C_api_Value x :: G.S_api_Value l := by rw [G.hS_api_Value, G.hS_api_Value, List.map_cons]
theorem G.hk_api_Value (a : G.api_Value) : (G.C_api_Value a).length = 4 := rfl
@[simp] theorem G.len_api_Value (xs : List G.api_Value) : (G.S_api_Value xs).length = xs.length := by rw [G.hS_api_Value, List.length_map]
structure G.api_Symbol where
  Name : List UInt8
  Typ : Int
noncomputable def G.C_api_Symbol (x : G.api_Symbol) : List D := [.str x.Name, .int .i64 x.Typ]
noncomputable def G.S_api_Symbol (xs : List G.api_Symbol) : List (List D) := xs.map G.C_api_Symbol
theorem G.hS_api_Symbol (xs : List G.api_Symbol) : G.S_api_Symbol xs = xs.map G.C_api_Symbol := rfl
theorem G.hk_api_Symbol (a : G.api_Symbol) : (G.C_api_Symbol a).length = 2 := rfl
@[simp] theorem G.len_api_Symbol (xs : List G.api_Symbol) : (G.S_api_Symbol xs).length = xs.length := by rw [G.hS_api_Symbol, List.length_map]
structure G.api_Rule where
  Symbol : Int
  Kind : Int
  Input : Int
  Const : G.api_Value
  Op : List UInt8
  Args : List Int
noncomputable def G.C_api_Rule (x : G.api_Rule) : List D := [.int .i64 x.Symbol, .int .i64 x.Kind, .int .i64 x.Input, .int .i64 x.Const.Typ, .int .i64 x.Const.Num, .str x.Const.Text, .sl (G.S_api_Value x.Const.Items), .str x.Op, .sl (G.S_int x.Args)]
noncomputable def G.S_api_Rule (xs : List G.api_Rule) : List (List D) := xs.map G.C_api_Rule
theorem G.hS_api_Rule (xs : List G.api_Rule) : G.S_api_Rule xs = xs.map G.C_api_Rule := rfl
theorem G.hk_api_Rule (a : G.api_Rule) : (G.C_api_Rule a).length = 9 := rfl
@[simp] theorem G.len_api_Rule (xs : List G.api_Rule) : (G.S_api_Rule xs).length = xs.length := by rw [G.hS_api_Rule, List.length_map]
structure G.api_Language where
  Name : List UInt8
  Inputs : List Int
  Symbols : List G.api_Symbol
  Rules : List G.api_Rule
noncomputable def G.C_api_Language (x : G.api_Language) : List D := [.str x.Name, .sl (G.S_int x.Inputs), .sl (G.S_api_Symbol x.Symbols), .sl (G.S_api_Rule x.Rules)]
noncomputable def G.S_api_Language (xs : List G.api_Language) : List (List D) := xs.map G.C_api_Language
theorem G.hS_api_Language (xs : List G.api_Language) : G.S_api_Language xs = xs.map G.C_api_Language := rfl
theorem G.hk_api_Language (a : G.api_Language) : (G.C_api_Language a).length = 4 := rfl
@[simp] theorem G.len_api_Language (xs : List G.api_Language) : (G.S_api_Language xs).length = xs.length := by rw [G.hS_api_Language, List.length_map]
structure G.api_Term where
  Rule : Int
  Args : List G.api_Term
noncomputable def G.S_api_Term (xs : List G.api_Term) : List (List D) := G.api_Term.rec_1 (motive_1 := fun _ => List D) (motive_2 := fun _ => List (List D)) (fun x0 x1 ih_x1 => [.int .i64 x0, .sl ih_x1]) [] (fun _ _ h t => h :: t) xs
noncomputable def G.C_api_Term (x : G.api_Term) : List D := [.int .i64 x.Rule, .sl (G.S_api_Term x.Args)]
theorem G.hS_api_Term : ∀ xs : List G.api_Term, G.S_api_Term xs = xs.map G.C_api_Term
  | [] => rfl
  | ⟨x0, x1⟩ :: l => by rw [List.map_cons, ← G.hS_api_Term l]; rfl
theorem G.nil_api_Term : G.S_api_Term [] = [] := rfl
theorem G.cons_api_Term (x : G.api_Term) (l : List G.api_Term) : G.S_api_Term (x :: l) = G.C_api_Term x :: G.S_api_Term l := by rw [G.hS_api_Term, G.hS_api_Term, List.map_cons]
theorem G.hk_api_Term (a : G.api_Term) : (G.C_api_Term a).length = 2 := rfl
@[simp] theorem G.len_api_Term (xs : List G.api_Term) : (G.S_api_Term xs).length = xs.length := by rw [G.hS_api_Term, List.length_map]
structure G.api_Branch where
  Test : G.api_Term
  Then : G.api_Term
noncomputable def G.C_api_Branch (x : G.api_Branch) : List D := [.int .i64 x.Test.Rule, .sl (G.S_api_Term x.Test.Args), .int .i64 x.Then.Rule, .sl (G.S_api_Term x.Then.Args)]
noncomputable def G.S_api_Branch (xs : List G.api_Branch) : List (List D) := xs.map G.C_api_Branch
theorem G.hS_api_Branch (xs : List G.api_Branch) : G.S_api_Branch xs = xs.map G.C_api_Branch := rfl
theorem G.hk_api_Branch (a : G.api_Branch) : (G.C_api_Branch a).length = 4 := rfl
@[simp] theorem G.len_api_Branch (xs : List G.api_Branch) : (G.S_api_Branch xs).length = xs.length := by rw [G.hS_api_Branch, List.length_map]
structure G.api_Decisions where
  Branches : List G.api_Branch
  Else : G.api_Term
noncomputable def G.C_api_Decisions (x : G.api_Decisions) : List D := [.sl (G.S_api_Branch x.Branches), .int .i64 x.Else.Rule, .sl (G.S_api_Term x.Else.Args)]
noncomputable def G.S_api_Decisions (xs : List G.api_Decisions) : List (List D) := xs.map G.C_api_Decisions
theorem G.hS_api_Decisions (xs : List G.api_Decisions) : G.S_api_Decisions xs = xs.map G.C_api_Decisions := rfl
theorem G.hk_api_Decisions (a : G.api_Decisions) : (G.C_api_Decisions a).length = 3 := rfl
@[simp] theorem G.len_api_Decisions (xs : List G.api_Decisions) : (G.S_api_Decisions xs).length = xs.length := by rw [G.hS_api_Decisions, List.length_map]
structure G.api_Operator where
  Name : List UInt8
  Args : List Int
  Result : Int
noncomputable def G.C_api_Operator (x : G.api_Operator) : List D := [.str x.Name, .sl (G.S_int x.Args), .int .i64 x.Result]
noncomputable def G.S_api_Operator (xs : List G.api_Operator) : List (List D) := xs.map G.C_api_Operator
theorem G.hS_api_Operator (xs : List G.api_Operator) : G.S_api_Operator xs = xs.map G.C_api_Operator := rfl
theorem G.hk_api_Operator (a : G.api_Operator) : (G.C_api_Operator a).length = 3 := rfl
@[simp] theorem G.len_api_Operator (xs : List G.api_Operator) : (G.S_api_Operator xs).length = xs.length := by rw [G.hS_api_Operator, List.length_map]
structure G.operator_entry where
  Operator : G.api_Operator
  family : List UInt8
noncomputable def G.C_operator_entry (x : G.operator_entry) : List D := [.str x.Operator.Name, .sl (G.S_int x.Operator.Args), .int .i64 x.Operator.Result, .str x.family]
noncomputable def G.S_operator_entry (xs : List G.operator_entry) : List (List D) := xs.map G.C_operator_entry
theorem G.hS_operator_entry (xs : List G.operator_entry) : G.S_operator_entry xs = xs.map G.C_operator_entry := rfl
theorem G.hk_operator_entry (a : G.operator_entry) : (G.C_operator_entry a).length = 4 := rfl
@[simp] theorem G.len_operator_entry (xs : List G.operator_entry) : (G.S_operator_entry xs).length = xs.length := by rw [G.hS_operator_entry, List.length_map]
noncomputable def G.C_str (x : List UInt8) : List D := [.str x]
noncomputable def G.S_str (xs : List (List UInt8)) : List (List D) := xs.map G.C_str
theorem G.hS_str (xs : List (List UInt8)) : G.S_str xs = xs.map G.C_str := rfl
theorem G.hk_str (a : List UInt8) : (G.C_str a).length = 1 := rfl
@[simp] theorem G.len_str (xs : List (List UInt8)) : (G.S_str xs).length = xs.length := by rw [G.hS_str, List.length_map]
noncomputable def G.C_L_operator_entry (x : List G.operator_entry) : List D := [.sl (G.S_operator_entry x)]
noncomputable def G.S_L_operator_entry (xs : List (List G.operator_entry)) : List (List D) := xs.map G.C_L_operator_entry
theorem G.hS_L_operator_entry (xs : List (List G.operator_entry)) : G.S_L_operator_entry xs = xs.map G.C_L_operator_entry := rfl
theorem G.hk_L_operator_entry (a : List G.operator_entry) : (G.C_L_operator_entry a).length = 1 := rfl
@[simp] theorem G.len_L_operator_entry (xs : List (List G.operator_entry)) : (G.S_L_operator_entry xs).length = xs.length := by rw [G.hS_L_operator_entry, List.length_map]
structure G.A3_str where
  x0 : List UInt8
  x1 : List UInt8
  x2 : List UInt8
noncomputable def G.C_A3_str (x : G.A3_str) : List D := [.str x.x0, .str x.x1, .str x.x2]
noncomputable def G.S_A3_str (xs : List G.A3_str) : List (List D) := xs.map G.C_A3_str
theorem G.hS_A3_str (xs : List G.A3_str) : G.S_A3_str xs = xs.map G.C_A3_str := rfl
theorem G.hk_A3_str (a : G.A3_str) : (G.C_A3_str a).length = 3 := rfl
@[simp] theorem G.len_A3_str (xs : List G.A3_str) : (G.S_A3_str xs).length = xs.length := by rw [G.hS_A3_str, List.length_map]
end Go.Proofs.Ytikgppgpailmcaa
