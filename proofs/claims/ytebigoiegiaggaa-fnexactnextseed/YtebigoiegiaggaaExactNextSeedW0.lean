/- Walks: what the functions under FnExactNextSeed do (part 1). Printed by a program of this claim's author. -/
import Derived.Test.YtebigoiegiaggaaL1
import Derived.Test.YtebigoiegiaggaaModel
import Derived.Test.YtebigoiegiaggaaProg
open Go.Wv
namespace Go.Proofs.Ytebigoiegiaggaa
open Go.Proofs
namespace T31
theorem mx : Try.prog.follows .mixedOrders = true := by kernel_rfl
end T31
set_option maxRecDepth 100000 in
set_option maxHeartbeats 400000 in
theorem c_s_l00In (n lo hi : Int) (w : World) :
    Calls Try.prog 31 #[.int .i64 n, .int .i64 lo, .int .i64 hi] w (Rt fun v w' => v = .bool (within n lo hi) ∧ Ext0 w w') := by
  have E0 : Ext0 w w := Ext.refl _ _
  refine calls_W (n := 15) Try.func31 rfl rfl (Nat.le_of_ble_eq_true rfl) ?_
  refine W_seq ?_
  refine W_region (by kernel_rfl) ?_
  refine s_y (v := .bool false) rfl (y_assign rfl) ?_
  refine s_nil ?_
  refine W_seq ?_
  refine W_region (by kernel_rfl) ?_
  refine s_y (v := .int .i64 n) rfl (y_move rfl) ?_
  refine s_y (v := .int .i64 lo) rfl (y_move rfl) ?_
  by_cases c1 : lo ≤ n
  · refine s_y (v := .bool true) rfl (y_geq rfl rfl (decide_eq_true c1)) ?_
    refine s_y (v := .bool true) rfl (y_move rfl) ?_
    refine s_y (v := .int .i64 n) rfl (y_move rfl) ?_
    refine s_y (v := .int .i64 hi) rfl (y_move rfl) ?_
    by_cases c2 : n ≤ hi
    · refine s_y (v := .bool true) rfl (y_leq rfl rfl (decide_eq_true c2)) ?_
      refine s_y (v := .bool true) rfl (y_pick_t rfl rfl) ?_
      refine s_y (v := .bool true) rfl (y_assign rfl) ?_
      refine s_nil ?_
      refine W_ret ?_
      refine ret1 rfl rfl rfl ⟨_, rfl, ?_⟩
      exact ⟨congrArg Value.bool (by simp [within] <;> omega), E0⟩
    · refine s_y (v := .bool false) rfl (y_leq rfl rfl (decide_eq_false c2)) ?_
      refine s_y (v := .bool false) rfl (y_pick_t rfl rfl) ?_
      refine s_y (v := .bool false) rfl (y_assign rfl) ?_
      refine s_nil ?_
      refine W_ret ?_
      refine ret1 rfl rfl rfl ⟨_, rfl, ?_⟩
      exact ⟨congrArg Value.bool (by simp [within] <;> omega), E0⟩
  · refine s_y (v := .bool false) rfl (y_geq rfl rfl (decide_eq_false c1)) ?_
    refine s_y (v := .bool false) rfl (y_move rfl) ?_
    refine s_skip rfl ?_
    refine s_skip rfl ?_
    refine s_skip rfl ?_
    refine s_y (v := .bool false) rfl (y_pick_f rfl rfl) ?_
    refine s_y (v := .bool false) rfl (y_assign rfl) ?_
    refine s_nil ?_
    refine W_ret ?_
    refine ret1 rfl rfl rfl ⟨_, rfl, ?_⟩
    exact ⟨congrArg Value.bool (by simp [within] <;> omega), E0⟩
namespace T19
theorem mx : Try.prog.follows .mixedOrders = true := by kernel_rfl
theorem fn_31 : fnB Try.prog 31 = true := by kernel_rfl
end T19
set_option maxRecDepth 100000 in
set_option maxHeartbeats 400000 in
theorem c_s_l04Seed (n : Int) (w : World) :
    Calls Try.prog 19 #[.int .i64 n] w (Rt fun v w' => v = .bool (isSeed n) ∧ Ext0 w w') := by
  have E0 : Ext0 w w := Ext.refl _ _
  refine calls_W (n := 5) Try.func19 rfl rfl (Nat.le_of_ble_eq_true rfl) ?_
  refine W_seq ?_
  refine W_region (by kernel_rfl) ?_
  refine s_y (v := .bool false) rfl (y_assign rfl) ?_
  refine s_nil ?_
  refine W_seq ?_
  refine W_region (by kernel_rfl) ?_
  refine s_y (v := .int .i64 n) rfl (y_move rfl) ?_
  refine s_k rfl (k_call T19.fn_31 (c_s_l00In _ _ _ _) rfl ?_)
  rintro v3 w1 ⟨hv4, e2⟩
  have zw1 := e2.size
  have E5 := E0.fresh e2 (fun _ h _ => h.elim)
  by_cases c6 : within n 0 2147483647 = true
  · obtain rfl : v3 = .bool true := hv4.trans (congrArg Value.bool c6)
    refine s_y (v := .bool true) rfl (y_assign rfl) ?_
    refine s_nil ?_
    refine W_ret ?_
    refine ret1 rfl rfl rfl ⟨_, rfl, ?_⟩
    exact ⟨congrArg Value.bool (by simp [isSeed, *]), E5⟩
  · obtain rfl : v3 = .bool false := hv4.trans (congrArg Value.bool (Bool.eq_false_iff.2 c6))
    refine s_y (v := .bool false) rfl (y_assign rfl) ?_
    refine s_nil ?_
    refine W_ret ?_
    refine ret1 rfl rfl rfl ⟨_, rfl, ?_⟩
    exact ⟨congrArg Value.bool (by simp [isSeed, *]), E5⟩
namespace T20
theorem mx : Try.prog.follows .mixedOrders = true := by kernel_rfl
end T20
set_option maxRecDepth 100000 in
set_option maxHeartbeats 400000 in
theorem c_s_l04Next (x : Int) (h0 : 0 ≤ x) (h1 : x ≤ 2147483647) (w : World) :
    Calls Try.prog 20 #[.int .i64 x] w (Rt fun v w' => v = .int .i64 (nextS x) ∧ Ext0 w w') := by
  have E0 : Ext0 w w := Ext.refl _ _
  refine calls_W (n := 7) Try.func20 rfl rfl (Nat.le_of_ble_eq_true rfl) ?_
  refine W_seq ?_
  refine W_region (by kernel_rfl) ?_
  refine s_y (v := .int .i64 0) rfl (y_assign rfl) ?_
  refine s_nil ?_
  refine W_seq ?_
  refine W_region (by kernel_rfl) ?_
  refine s_y (v := .int .i64 x) rfl (y_move rfl) ?_
  refine s_y (v := .int .i64 (1103515245 * x)) rfl (y_mul rfl rfl rfl (by omega)) ?_
  refine s_y (v := .int .i64 ((1103515245 * x) + 12345)) rfl (y_add rfl rfl rfl (by omega)) ?_
  refine s_y (v := .int .i64 (((1103515245 * x) + 12345) % 2147483648)) rfl (y_rem rfl rfl (by omega) (by omega) rfl) ?_
  refine s_y (v := .int .i64 (((1103515245 * x) + 12345) % 2147483648)) rfl (y_assign rfl) ?_
  refine s_nil ?_
  refine W_ret ?_
  refine ret1 rfl rfl rfl ⟨_, rfl, ?_⟩
  exact ⟨rfl, E0⟩
namespace T7
theorem mx : Try.prog.follows .mixedOrders = true := by kernel_rfl
theorem fn_19 : fnB Try.prog 19 = true := by kernel_rfl
theorem fn_20 : fnB Try.prog 20 = true := by kernel_rfl
end T7
set_option maxRecDepth 100000 in
set_option maxHeartbeats 400000 in
theorem c_s_NextSeed (x : Int) (w : World) :
    Calls Try.prog 7 #[.int .i64 x] w (Rt fun v w' => v = (if isSeed x = true then .tuple #[.int .i64 (nextS x), .bool true] else .tuple #[.int .i64 0, .bool false]) ∧ Ext0 w w') := by
  have E0 : Ext0 w w := Ext.refl _ _
  refine calls_W (n := 9) Try.func7 rfl rfl (Nat.le_of_ble_eq_true rfl) ?_
  refine W_seq ?_
  refine W_region (by kernel_rfl) ?_
  refine s_y (v := .int .i64 0) rfl (y_assign rfl) ?_
  refine s_y (v := .bool false) rfl (y_assign rfl) ?_
  refine s_nil ?_
  refine W_seq ?_
  refine W_seq ?_
  refine W_region (by kernel_rfl) ?_
  refine s_y (v := .int .i64 x) rfl (y_move rfl) ?_
  refine s_k rfl (k_call T7.fn_19 (c_s_l04Seed _ _) rfl ?_)
  rintro v3 w1 ⟨hv4, e2⟩
  have zw1 := e2.size
  have E5 := E0.fresh e2 (fun _ h _ => h.elim)
  by_cases c6 : isSeed x = true
  · obtain rfl : v3 = .bool true := hv4.trans (congrArg Value.bool c6)
    refine s_y (v := .bool false) rfl (y_not rfl rfl) ?_
    refine s_nil ?_
    refine W_if_f (by decide) rfl ?_
    refine W_skip ?_
    refine W_seq ?_
    refine W_region (by kernel_rfl) ?_
    refine s_y (v := .int .i64 x) rfl (y_move rfl) ?_
    refine s_k rfl (k_call T7.fn_20 (c_s_l04Next _ (by first | exact isSeed_lo (by assumption) | omega) (by first | exact isSeed_hi (by assumption) | omega) _) rfl ?_)
    rintro _ w7 ⟨rfl, e8⟩
    have zw7 := e8.size
    have E9 := E5.fresh e8 (fun _ h _ => h.elim)
    refine s_y (v := .int .i64 (nextS x)) rfl (y_assign rfl) ?_
    refine s_y (v := .bool true) rfl (y_assign rfl) ?_
    refine s_nil ?_
    refine W_ret ?_
    refine ret2 rfl rfl rfl rfl rfl ⟨_, rfl, ?_⟩
    exact ⟨(if_pos (by assumption)).symm, E9⟩
  · obtain rfl : v3 = .bool false := hv4.trans (congrArg Value.bool (Bool.eq_false_iff.2 c6))
    refine s_y (v := .bool true) rfl (y_not rfl rfl) ?_
    refine s_nil ?_
    refine W_if_t (by decide) rfl ?_
    refine W_seq ?_
    refine W_region (by kernel_rfl) ?_
    refine s_y (v := .int .i64 0) rfl (y_assign rfl) ?_
    refine s_y (v := .bool false) rfl (y_assign rfl) ?_
    refine s_nil ?_
    refine W_ret ?_
    refine ret2 rfl rfl rfl rfl rfl ⟨_, rfl, ?_⟩
    exact ⟨(if_neg (by assumption)).symm, E5⟩
namespace T24
theorem mx : Try.prog.follows .mixedOrders = true := by kernel_rfl
end T24
set_option maxRecDepth 100000 in
set_option maxHeartbeats 400000 in
theorem c_i_within (n lo hi : Int) (w : World) :
    Calls Try.prog 24 #[.int .i64 n, .int .i64 lo, .int .i64 hi] w (Rt fun v w' => v = .bool (within n lo hi) ∧ Ext0 w w') := by
  have E0 : Ext0 w w := Ext.refl _ _
  refine calls_W (n := 15) Try.func24 rfl rfl (Nat.le_of_ble_eq_true rfl) ?_
  refine W_seq ?_
  refine W_region (by kernel_rfl) ?_
  refine s_y (v := .bool false) rfl (y_assign rfl) ?_
  refine s_nil ?_
  refine W_seq ?_
  refine W_region (by kernel_rfl) ?_
  refine s_y (v := .int .i64 n) rfl (y_move rfl) ?_
  refine s_y (v := .int .i64 lo) rfl (y_move rfl) ?_
  by_cases c1 : lo ≤ n
  · refine s_y (v := .bool true) rfl (y_geq rfl rfl (decide_eq_true c1)) ?_
    refine s_y (v := .bool true) rfl (y_move rfl) ?_
    refine s_y (v := .int .i64 n) rfl (y_move rfl) ?_
    refine s_y (v := .int .i64 hi) rfl (y_move rfl) ?_
    by_cases c2 : n ≤ hi
    · refine s_y (v := .bool true) rfl (y_leq rfl rfl (decide_eq_true c2)) ?_
      refine s_y (v := .bool true) rfl (y_pick_t rfl rfl) ?_
      refine s_y (v := .bool true) rfl (y_assign rfl) ?_
      refine s_nil ?_
      refine W_ret ?_
      refine ret1 rfl rfl rfl ⟨_, rfl, ?_⟩
      exact ⟨congrArg Value.bool (by simp [within] <;> omega), E0⟩
    · refine s_y (v := .bool false) rfl (y_leq rfl rfl (decide_eq_false c2)) ?_
      refine s_y (v := .bool false) rfl (y_pick_t rfl rfl) ?_
      refine s_y (v := .bool false) rfl (y_assign rfl) ?_
      refine s_nil ?_
      refine W_ret ?_
      refine ret1 rfl rfl rfl ⟨_, rfl, ?_⟩
      exact ⟨congrArg Value.bool (by simp [within] <;> omega), E0⟩
  · refine s_y (v := .bool false) rfl (y_geq rfl rfl (decide_eq_false c1)) ?_
    refine s_y (v := .bool false) rfl (y_move rfl) ?_
    refine s_skip rfl ?_
    refine s_skip rfl ?_
    refine s_skip rfl ?_
    refine s_y (v := .bool false) rfl (y_pick_f rfl rfl) ?_
    refine s_y (v := .bool false) rfl (y_assign rfl) ?_
    refine s_nil ?_
    refine W_ret ?_
    refine ret1 rfl rfl rfl ⟨_, rfl, ?_⟩
    exact ⟨congrArg Value.bool (by simp [within] <;> omega), E0⟩
namespace T21
theorem mx : Try.prog.follows .mixedOrders = true := by kernel_rfl
theorem fn_24 : fnB Try.prog 24 = true := by kernel_rfl
end T21
set_option maxRecDepth 100000 in
set_option maxHeartbeats 400000 in
theorem c_i_isSeed (n : Int) (w : World) :
    Calls Try.prog 21 #[.int .i64 n] w (Rt fun v w' => v = .bool (isSeed n) ∧ Ext0 w w') := by
  have E0 : Ext0 w w := Ext.refl _ _
  refine calls_W (n := 5) Try.func21 rfl rfl (Nat.le_of_ble_eq_true rfl) ?_
  refine W_seq ?_
  refine W_region (by kernel_rfl) ?_
  refine s_y (v := .bool false) rfl (y_assign rfl) ?_
  refine s_nil ?_
  refine W_seq ?_
  refine W_region (by kernel_rfl) ?_
  refine s_y (v := .int .i64 n) rfl (y_move rfl) ?_
  refine s_k rfl (k_call T21.fn_24 (c_i_within _ _ _ _) rfl ?_)
  rintro v3 w1 ⟨hv4, e2⟩
  have zw1 := e2.size
  have E5 := E0.fresh e2 (fun _ h _ => h.elim)
  by_cases c6 : within n 0 2147483647 = true
  · obtain rfl : v3 = .bool true := hv4.trans (congrArg Value.bool c6)
    refine s_y (v := .bool true) rfl (y_assign rfl) ?_
    refine s_nil ?_
    refine W_ret ?_
    refine ret1 rfl rfl rfl ⟨_, rfl, ?_⟩
    exact ⟨congrArg Value.bool (by simp [isSeed, *]), E5⟩
  · obtain rfl : v3 = .bool false := hv4.trans (congrArg Value.bool (Bool.eq_false_iff.2 c6))
    refine s_y (v := .bool false) rfl (y_assign rfl) ?_
    refine s_nil ?_
    refine W_ret ?_
    refine ret1 rfl rfl rfl ⟨_, rfl, ?_⟩
    exact ⟨congrArg Value.bool (by simp [isSeed, *]), E5⟩
namespace T22
theorem mx : Try.prog.follows .mixedOrders = true := by kernel_rfl
end T22
set_option maxRecDepth 100000 in
set_option maxHeartbeats 400000 in
theorem c_i_nextSeed (x : Int) (h0 : 0 ≤ x) (h1 : x ≤ 2147483647) (w : World) :
    Calls Try.prog 22 #[.int .i64 x] w (Rt fun v w' => v = .int .i64 (nextS x) ∧ Ext0 w w') := by
  have E0 : Ext0 w w := Ext.refl _ _
  refine calls_W (n := 7) Try.func22 rfl rfl (Nat.le_of_ble_eq_true rfl) ?_
  refine W_seq ?_
  refine W_region (by kernel_rfl) ?_
  refine s_y (v := .int .i64 0) rfl (y_assign rfl) ?_
  refine s_nil ?_
  refine W_seq ?_
  refine W_region (by kernel_rfl) ?_
  refine s_y (v := .int .i64 x) rfl (y_move rfl) ?_
  refine s_y (v := .int .i64 (1103515245 * x)) rfl (y_mul rfl rfl rfl (by omega)) ?_
  refine s_y (v := .int .i64 ((1103515245 * x) + 12345)) rfl (y_add rfl rfl rfl (by omega)) ?_
  refine s_y (v := .int .i64 (((1103515245 * x) + 12345) % 2147483648)) rfl (y_rem rfl rfl (by omega) (by omega) rfl) ?_
  refine s_y (v := .int .i64 (((1103515245 * x) + 12345) % 2147483648)) rfl (y_assign rfl) ?_
  refine s_nil ?_
  refine W_ret ?_
  refine ret1 rfl rfl rfl ⟨_, rfl, ?_⟩
  exact ⟨rfl, E0⟩
namespace T8
theorem mx : Try.prog.follows .mixedOrders = true := by kernel_rfl
theorem fn_21 : fnB Try.prog 21 = true := by kernel_rfl
theorem fn_22 : fnB Try.prog 22 = true := by kernel_rfl
end T8
set_option maxRecDepth 100000 in
set_option maxHeartbeats 400000 in
theorem c_i_NextSeed (x : Int) (w : World) :
    Calls Try.prog 8 #[.int .i64 x] w (Rt fun v w' => v = (if isSeed x = true then .tuple #[.int .i64 (nextS x), .bool true] else .tuple #[.int .i64 0, .bool false]) ∧ Ext0 w w') := by
  have E0 : Ext0 w w := Ext.refl _ _
  refine calls_W (n := 9) Try.func8 rfl rfl (Nat.le_of_ble_eq_true rfl) ?_
  refine W_seq ?_
  refine W_region (by kernel_rfl) ?_
  refine s_y (v := .int .i64 0) rfl (y_assign rfl) ?_
  refine s_y (v := .bool false) rfl (y_assign rfl) ?_
  refine s_nil ?_
  refine W_seq ?_
  refine W_seq ?_
  refine W_region (by kernel_rfl) ?_
  refine s_y (v := .int .i64 x) rfl (y_move rfl) ?_
  refine s_k rfl (k_call T8.fn_21 (c_i_isSeed _ _) rfl ?_)
  rintro v3 w1 ⟨hv4, e2⟩
  have zw1 := e2.size
  have E5 := E0.fresh e2 (fun _ h _ => h.elim)
  by_cases c6 : isSeed x = true
  · obtain rfl : v3 = .bool true := hv4.trans (congrArg Value.bool c6)
    refine s_y (v := .bool false) rfl (y_not rfl rfl) ?_
    refine s_nil ?_
    refine W_if_f (by decide) rfl ?_
    refine W_skip ?_
    refine W_seq ?_
    refine W_region (by kernel_rfl) ?_
    refine s_y (v := .int .i64 x) rfl (y_move rfl) ?_
    refine s_k rfl (k_call T8.fn_22 (c_i_nextSeed _ (by first | exact isSeed_lo (by assumption) | omega) (by first | exact isSeed_hi (by assumption) | omega) _) rfl ?_)
    rintro _ w7 ⟨rfl, e8⟩
    have zw7 := e8.size
    have E9 := E5.fresh e8 (fun _ h _ => h.elim)
    refine s_y (v := .int .i64 (nextS x)) rfl (y_assign rfl) ?_
    refine s_y (v := .bool true) rfl (y_assign rfl) ?_
    refine s_nil ?_
    refine W_ret ?_
    refine ret2 rfl rfl rfl rfl rfl ⟨_, rfl, ?_⟩
    exact ⟨(if_pos (by assumption)).symm, E9⟩
  · obtain rfl : v3 = .bool false := hv4.trans (congrArg Value.bool (Bool.eq_false_iff.2 c6))
    refine s_y (v := .bool true) rfl (y_not rfl rfl) ?_
    refine s_nil ?_
    refine W_if_t (by decide) rfl ?_
    refine W_seq ?_
    refine W_region (by kernel_rfl) ?_
    refine s_y (v := .int .i64 0) rfl (y_assign rfl) ?_
    refine s_y (v := .bool false) rfl (y_assign rfl) ?_
    refine s_nil ?_
    refine W_ret ?_
    refine ret2 rfl rfl rfl rfl rfl ⟨_, rfl, ?_⟩
    exact ⟨(if_neg (by assumption)).symm, E5⟩
namespace T3
theorem mx : Try.prog.follows .mixedOrders = true := by kernel_rfl
theorem bool_4 : Try.prog.underlying 4 = some .bool := by kernel_rfl
theorem fn_7 : fnB Try.prog 7 = true := by kernel_rfl
theorem fn_8 : fnB Try.prog 8 = true := by kernel_rfl
end T3
set_option maxRecDepth 100000 in
set_option maxHeartbeats 400000 in
theorem c_FnExactNextSeed (x : Int) (w : World) :
    Calls Try.prog 3 #[.int .i64 x] w (Rt fun v w' => v = .bool true ∧ Ext no w w') := by
  have E0 : Ext0 w w := Ext.refl _ _
  refine calls_W (n := 25) Try.func3 rfl rfl (Nat.le_of_ble_eq_true rfl) ?_
  refine W_seq ?_
  refine W_region (by kernel_rfl) ?_
  refine s_y (v := .bool false) rfl (y_assign rfl) ?_
  refine s_nil ?_
  refine W_seq ?_
  refine W_region (by kernel_rfl) ?_
  refine s_y (v := .int .i64 x) rfl (y_move rfl) ?_
  refine s_k rfl (k_call T3.fn_7 (c_s_NextSeed _ _) rfl ?_)
  rintro v3 w1 ⟨hv4, e2⟩
  have zw1 := e2.size
  have E5 := E0.fresh e2 (fun _ h _ => h.elim)
  by_cases c6 : isSeed x = true
  · obtain rfl : v3 = .tuple #[.int .i64 (nextS x), .bool true] := hv4.trans (if_pos c6)
    refine s_y (v := .tuple #[.int .i64 (nextS x), .bool true]) rfl (y_move rfl) ?_
    refine s_y (v := .int .i64 (nextS x)) rfl (y_extract rfl rfl) ?_
    refine s_y (v := .bool true) rfl (y_extract rfl rfl) ?_
    refine s_y (v := .int .i64 (nextS x)) rfl (y_assign rfl) ?_
    refine s_y (v := .bool true) rfl (y_assign rfl) ?_
    refine s_nil ?_
    refine W_seq ?_
    refine W_region (by kernel_rfl) ?_
    refine s_y (v := .int .i64 x) rfl (y_move rfl) ?_
    refine s_k rfl (k_call T3.fn_8 (c_i_NextSeed _ _) rfl ?_)
    rintro v9 w7 ⟨hv10, e8⟩
    have zw7 := e8.size
    have E11 := E5.fresh e8 (fun _ h _ => h.elim)
    obtain rfl : v9 = .tuple #[.int .i64 (nextS x), .bool true] := hv10.trans (if_pos c6)
    refine s_y (v := .tuple #[.int .i64 (nextS x), .bool true]) rfl (y_move rfl) ?_
    refine s_y (v := .int .i64 (nextS x)) rfl (y_extract rfl rfl) ?_
    refine s_y (v := .bool true) rfl (y_extract rfl rfl) ?_
    refine s_y (v := .int .i64 (nextS x)) rfl (y_assign rfl) ?_
    refine s_y (v := .bool true) rfl (y_assign rfl) ?_
    refine s_nil ?_
    refine W_seq ?_
    refine W_seq ?_
    refine W_region (by kernel_rfl) ?_
    refine s_y (v := .int .i64 (nextS x)) rfl (y_move rfl) ?_
    refine s_y (v := .int .i64 (nextS x)) rfl (y_move rfl) ?_
    have hk12 : ¬ ((nextS x) ≠ (nextS x)) := (fun hq => hq rfl)
    refine s_y (v := .bool false) rfl (y_neq rfl rfl (decide_eq_false hk12)) ?_
    refine s_y (v := .bool false) rfl (y_move rfl) ?_
    refine s_y (v := .bool true) rfl (y_move rfl) ?_
    refine s_y (v := .bool true) rfl (y_move rfl) ?_
    refine s_y (v := .bool false) rfl (y_bneq T3.bool_4 rfl rfl rfl) ?_
    refine s_y (v := .bool false) rfl (y_pick_f rfl rfl) ?_
    refine s_nil ?_
    refine W_if_f (by decide) rfl ?_
    refine W_skip ?_
    refine W_seq ?_
    refine W_region (by kernel_rfl) ?_
    refine s_y (v := .bool true) rfl (y_assign rfl) ?_
    refine s_nil ?_
    refine W_ret ?_
    refine ret1 rfl rfl rfl ⟨_, rfl, ?_⟩
    exact ⟨rfl, E11⟩
  · obtain rfl : v3 = .tuple #[.int .i64 0, .bool false] := hv4.trans (if_neg c6)
    refine s_y (v := .tuple #[.int .i64 0, .bool false]) rfl (y_move rfl) ?_
    refine s_y (v := .int .i64 0) rfl (y_extract rfl rfl) ?_
    refine s_y (v := .bool false) rfl (y_extract rfl rfl) ?_
    refine s_y (v := .int .i64 0) rfl (y_assign rfl) ?_
    refine s_y (v := .bool false) rfl (y_assign rfl) ?_
    refine s_nil ?_
    refine W_seq ?_
    refine W_region (by kernel_rfl) ?_
    refine s_y (v := .int .i64 x) rfl (y_move rfl) ?_
    refine s_k rfl (k_call T3.fn_8 (c_i_NextSeed _ _) rfl ?_)
    rintro v15 w13 ⟨hv16, e14⟩
    have zw13 := e14.size
    have E17 := E5.fresh e14 (fun _ h _ => h.elim)
    obtain rfl : v15 = .tuple #[.int .i64 0, .bool false] := hv16.trans (if_neg c6)
    refine s_y (v := .tuple #[.int .i64 0, .bool false]) rfl (y_move rfl) ?_
    refine s_y (v := .int .i64 0) rfl (y_extract rfl rfl) ?_
    refine s_y (v := .bool false) rfl (y_extract rfl rfl) ?_
    refine s_y (v := .int .i64 0) rfl (y_assign rfl) ?_
    refine s_y (v := .bool false) rfl (y_assign rfl) ?_
    refine s_nil ?_
    refine W_seq ?_
    refine W_seq ?_
    refine W_region (by kernel_rfl) ?_
    refine s_y (v := .int .i64 0) rfl (y_move rfl) ?_
    refine s_y (v := .int .i64 0) rfl (y_move rfl) ?_
    have hk18 : ¬ ((0 : Int) ≠ 0) := (by decide)
    refine s_y (v := .bool false) rfl (y_neq rfl rfl (decide_eq_false hk18)) ?_
    refine s_y (v := .bool false) rfl (y_move rfl) ?_
    refine s_y (v := .bool false) rfl (y_move rfl) ?_
    refine s_y (v := .bool false) rfl (y_move rfl) ?_
    refine s_y (v := .bool false) rfl (y_bneq T3.bool_4 rfl rfl rfl) ?_
    refine s_y (v := .bool false) rfl (y_pick_f rfl rfl) ?_
    refine s_nil ?_
    refine W_if_f (by decide) rfl ?_
    refine W_skip ?_
    refine W_seq ?_
    refine W_region (by kernel_rfl) ?_
    refine s_y (v := .bool true) rfl (y_assign rfl) ?_
    refine s_nil ?_
    refine W_ret ?_
    refine ret1 rfl rfl rfl ⟨_, rfl, ?_⟩
    exact ⟨rfl, E17⟩
end Go.Proofs.Ytebigoiegiaggaa
