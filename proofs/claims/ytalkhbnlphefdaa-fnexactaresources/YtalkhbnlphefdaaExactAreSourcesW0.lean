/- Walks: what the functions under FnExactAreSources do (part 1). Printed by a program of this claim's author. -/
import Derived.Test.YtalkhbnlphefdaaBw1
set_option linter.unusedSimpArgs false
set_option linter.unusedVariables false
open Go.Wv
namespace Go.Proofs.Ytalkhbnlphefdaa
open Go.Proofs
namespace T43
theorem mx : Try.prog.follows .mixedOrders = true := by kernel_rfl
theorem sl_62_105_9 : slB Try.prog 62 105 9 = true := by kernel_rfl
end T43
set_option maxRecDepth 100000 in
set_option maxHeartbeats 4000000 in
theorem c_l_szSourceS {a : Option Addr} {n : Nat} {c : Nat} {left : Int} {w : World} (h0 : 0 ≤ left) (h1 : left ≤ 1048576) (hn : n ≤ 9223372036854775807) :
    Calls Try.prog 43 #[.slice a n c, .int .i64 left] w (Rt fun v w' => v = .int .i64 (if ((n : Nat) : Int) ≤ left then left - ((n : Nat) : Int) else -1) ∧ Ext0 w w') := by
  have B : Bu w no w [] := Bu.ro All.nil rfl
  refine calls_W (n := 12) Try.func43 rfl rfl (Nat.le_of_ble_eq_true rfl) ?_
  refine W_seq ?_
  refine W_region (by kernel_rfl) ?_
  refine s_y (v := .int .i64 0) rfl (y_assign rfl) ?_
  refine s_nil ?_
  refine W_seq ?_
  refine W_region (by kernel_rfl) ?_
  refine s_y (v := .int .i64 left) rfl (y_move rfl) ?_
  refine s_y (v := .slice a n c) rfl (y_move rfl) ?_
  refine s_y (v := .int .i64 ((n : Nat) : Int)) rfl (y_len T43.sl_62_105_9 rfl rfl) ?_
  refine s_y (v := .int .i64 (left - ((n : Nat) : Int))) rfl (y_sub rfl rfl rfl (by omega)) ?_
  refine s_y (v := .int .i64 (left - ((n : Nat) : Int))) rfl (y_assign rfl) ?_
  refine s_nil ?_
  refine W_seq ?_
  refine W_seq ?_
  refine W_region (by kernel_rfl) ?_
  refine s_y (v := .int .i64 (left - ((n : Nat) : Int))) rfl (y_move rfl) ?_
  by_cases c1 : (left - ((n : Nat) : Int)) < 0
  · refine s_y (v := .bool true) rfl (y_lss rfl rfl (decide_eq_true c1)) ?_
    refine s_nil ?_
    refine W_if_t (by decide) rfl ?_
    refine W_seq ?_
    refine W_region (by kernel_rfl) ?_
    refine s_y (v := .int .i64 (-1)) rfl (y_assign rfl) ?_
    refine s_nil ?_
    refine W_ret ?_
    refine ret1 (v := .int .i64 (-1)) rfl rfl rfl ⟨_, rfl, ?_⟩
    exact ⟨congrArg (Value.int .i64) (if_neg (by omega)).symm, B.ext⟩
  · refine s_y (v := .bool false) rfl (y_lss rfl rfl (decide_eq_false c1)) ?_
    refine s_nil ?_
    refine W_if_f (by decide) rfl ?_
    refine W_skip ?_
    refine W_seq ?_
    refine W_region (by kernel_rfl) ?_
    refine s_y (v := .int .i64 (left - ((n : Nat) : Int))) rfl (y_move rfl) ?_
    refine s_y (v := .int .i64 (left - ((n : Nat) : Int))) rfl (y_assign rfl) ?_
    refine s_nil ?_
    refine W_ret ?_
    refine ret1 (v := .int .i64 (left - ((n : Nat) : Int))) rfl rfl rfl ⟨_, rfl, ?_⟩
    exact ⟨congrArg (Value.int .i64) (if_pos (by omega)).symm, B.ext⟩
namespace T110
theorem mx : Try.prog.follows .mixedOrders = true := by kernel_rfl
theorem agg_99_6 : aggB Try.prog 99 6 = true := by kernel_rfl
theorem fld_103_0_0 : fldB Try.prog 103 0 0 = true := by kernel_rfl
theorem fld_103_1_1 : fldB Try.prog 103 1 1 = true := by kernel_rfl
theorem fld_103_2_2 : fldB Try.prog 103 2 2 = true := by kernel_rfl
theorem fld_103_3_3 : fldB Try.prog 103 3 3 = true := by kernel_rfl
theorem fld_103_4_4 : fldB Try.prog 103 4 4 = true := by kernel_rfl
theorem fld_103_5_5 : fldB Try.prog 103 5 5 = true := by kernel_rfl
theorem fld_99_0_0 : fldB Try.prog 99 0 0 = true := by kernel_rfl
theorem fld_99_1_1 : fldB Try.prog 99 1 1 = true := by kernel_rfl
theorem fld_99_2_2 : fldB Try.prog 99 2 2 = true := by kernel_rfl
theorem fld_99_3_3 : fldB Try.prog 99 3 3 = true := by kernel_rfl
theorem fld_99_4_4 : fldB Try.prog 99 4 4 = true := by kernel_rfl
theorem fld_99_5_5 : fldB Try.prog 99 5 5 = true := by kernel_rfl
theorem one_2 : oneB Try.prog 2 = true := by kernel_rfl
theorem one_56 : oneB Try.prog 56 = true := by kernel_rfl
theorem sz_2_1 : szB Try.prog 2 1 = true := by kernel_rfl
theorem sz_56_1 : szB Try.prog 56 1 = true := by kernel_rfl
theorem sz_99_6 : szB Try.prog 99 6 = true := by kernel_rfl
theorem zero_99 : zeroB Try.prog 99 (.agg #[.int .i64 0, .int .i64 0, .int .i64 0, .float .f32 0, .float .f32 0, .int .i64 0]) := by unfold zeroB; kernel_rfl
end T110
set_option maxRecDepth 100000 in
set_option maxHeartbeats 4000000 in
theorem c_l_toWave {kd : Int} {tt : Int} {ln : Int} {tn : Nat} {TN : Nat} {sz : Nat} {SZ : Nat} {sd : Int} {w : World} (htn : can .f32 tn = TN) (hsz : can .f32 sz = SZ) :
    Calls Try.prog 110 #[.agg #[.int .i64 kd, .int .i64 tt, .int .i64 ln, .float .f32 tn, .float .f32 sz, .int .i64 sd]] w (Rt fun v w' => v = .agg #[.int .i64 kd, .int .i64 tt, .int .i64 ln, .float .f32 tn, .float .f32 sz, .int .i64 sd] ∧ Ext0 w w') := by
  have B : Bu w no w [] := Bu.ro All.nil rfl
  refine calls_W (n := 23) Try.func110 rfl rfl (Nat.le_of_ble_eq_true rfl) ?_
  refine W_seq ?_
  refine W_region (by kernel_rfl) ?_
  refine s_k rfl (k_boxN (v := .agg #[.int .i64 kd, .int .i64 tt, .int .i64 ln, .float .f32 tn, .float .f32 sz, .int .i64 sd]) (cs := [.int .i64 kd, .int .i64 tt, .int .i64 ln, .float .f32 tn, .float .f32 sz, .int .i64 sd]) rfl rfl (fun b1 w2 hN3 => ?_))
  replace B := B.new1 hN3
  clear hN3
  refine s_k rfl (k_allocN (z := (.agg #[.int .i64 0, .int .i64 0, .int .i64 0, .float .f32 0, .float .f32 0, .int .i64 0])) (cs := [.int .i64 0, .int .i64 0, .int .i64 0, .float .f32 0, .float .f32 0, .int .i64 0]) T110.zero_99 rfl (fun b4 w5 hN6 => ?_))
  replace B := B.new1 hN6
  clear hN6
  refine s_nil ?_
  refine W_seq ?_
  refine W_region (by kernel_rfl) ?_
  refine s_k rfl (k_allocN (z := (.agg #[.int .i64 0, .int .i64 0, .int .i64 0, .float .f32 0, .float .f32 0, .int .i64 0])) (cs := [.int .i64 0, .int .i64 0, .int .i64 0, .float .f32 0, .float .f32 0, .int .i64 0]) T110.zero_99 rfl (fun b7 w8 hN9 => ?_))
  replace B := B.new1 hN9
  clear hN9
  refine s_nil ?_
  refine W_seq ?_
  refine W_region (by kernel_rfl) ?_
  refine s_y (v := .pointer (some ⟨b1, 0, none⟩)) rfl (y_fld (o := 0) T110.fld_103_0_0 rfl) ?_
  refine s_y (v := .int .i64 kd) rfl (y_load T110.one_2 rfl ((B.b 2 rfl).cell (j := 0) rfl)) ?_
  refine s_y (v := .pointer (some ⟨b7, 0, none⟩)) rfl (y_fld (o := 0) T110.fld_99_0_0 rfl) ?_
  refine s_k0 rfl (k_stB (v := .int .i64 kd) (n := 1) (cs' := [.int .i64 kd, .int .i64 0, .int .i64 0, .float .f32 0, .float .f32 0, .int .i64 0]) T110.sz_2_1 rfl rfl rfl (B.b 0 rfl) (by simp [Value.cells, Value.oneCell']) (Nat.le_of_ble_eq_true rfl) rfl (fun w10 hU11 => ?_))
  replace B : Bu w no w10 [.blk b7 [.int .i64 kd, .int .i64 0, .int .i64 0, .float .f32 0, .float .f32 0, .int .i64 0] 99, .blk b4 [.int .i64 0, .int .i64 0, .int .i64 0, .float .f32 0, .float .f32 0, .int .i64 0] 99, .blk b1 [.int .i64 kd, .int .i64 tt, .int .i64 ln, .float .f32 tn, .float .f32 sz, .int .i64 sd] 103] := B.upd [0] rfl hU11
  clear hU11
  refine s_nil ?_
  refine W_seq ?_
  refine W_region (by kernel_rfl) ?_
  refine s_y (v := .pointer (some ⟨b1, 1, none⟩)) rfl (y_fld (o := 0) T110.fld_103_1_1 rfl) ?_
  refine s_y (v := .int .i64 tt) rfl (y_load T110.one_2 rfl ((B.b 2 rfl).cell (j := 1) rfl)) ?_
  refine s_y (v := .pointer (some ⟨b7, 1, none⟩)) rfl (y_fld (o := 0) T110.fld_99_1_1 rfl) ?_
  refine s_k0 rfl (k_stB (v := .int .i64 tt) (n := 1) (cs' := [.int .i64 kd, .int .i64 tt, .int .i64 0, .float .f32 0, .float .f32 0, .int .i64 0]) T110.sz_2_1 rfl rfl rfl (B.b 0 rfl) (by simp [Value.cells, Value.oneCell']) (Nat.le_of_ble_eq_true rfl) rfl (fun w12 hU13 => ?_))
  replace B : Bu w no w12 [.blk b7 [.int .i64 kd, .int .i64 tt, .int .i64 0, .float .f32 0, .float .f32 0, .int .i64 0] 99, .blk b4 [.int .i64 0, .int .i64 0, .int .i64 0, .float .f32 0, .float .f32 0, .int .i64 0] 99, .blk b1 [.int .i64 kd, .int .i64 tt, .int .i64 ln, .float .f32 tn, .float .f32 sz, .int .i64 sd] 103] := B.upd [0] rfl hU13
  clear hU13
  refine s_nil ?_
  refine W_seq ?_
  refine W_region (by kernel_rfl) ?_
  refine s_y (v := .pointer (some ⟨b1, 2, none⟩)) rfl (y_fld (o := 0) T110.fld_103_2_2 rfl) ?_
  refine s_y (v := .int .i64 ln) rfl (y_load T110.one_2 rfl ((B.b 2 rfl).cell (j := 2) rfl)) ?_
  refine s_y (v := .pointer (some ⟨b7, 2, none⟩)) rfl (y_fld (o := 0) T110.fld_99_2_2 rfl) ?_
  refine s_k0 rfl (k_stB (v := .int .i64 ln) (n := 1) (cs' := [.int .i64 kd, .int .i64 tt, .int .i64 ln, .float .f32 0, .float .f32 0, .int .i64 0]) T110.sz_2_1 rfl rfl rfl (B.b 0 rfl) (by simp [Value.cells, Value.oneCell']) (Nat.le_of_ble_eq_true rfl) rfl (fun w14 hU15 => ?_))
  replace B : Bu w no w14 [.blk b7 [.int .i64 kd, .int .i64 tt, .int .i64 ln, .float .f32 0, .float .f32 0, .int .i64 0] 99, .blk b4 [.int .i64 0, .int .i64 0, .int .i64 0, .float .f32 0, .float .f32 0, .int .i64 0] 99, .blk b1 [.int .i64 kd, .int .i64 tt, .int .i64 ln, .float .f32 tn, .float .f32 sz, .int .i64 sd] 103] := B.upd [0] rfl hU15
  clear hU15
  refine s_nil ?_
  refine W_seq ?_
  refine W_region (by kernel_rfl) ?_
  refine s_y (v := .pointer (some ⟨b1, 3, none⟩)) rfl (y_fld (o := 0) T110.fld_103_3_3 rfl) ?_
  refine s_y (v := .float .f32 tn) rfl (y_load T110.one_56 rfl ((B.b 2 rfl).cell (j := 3) rfl)) ?_
  refine s_y (v := .pointer (some ⟨b7, 3, none⟩)) rfl (y_fld (o := 0) T110.fld_99_3_3 rfl) ?_
  refine s_k0 rfl (k_stB (v := .float .f32 tn) (n := 1) (cs' := [.int .i64 kd, .int .i64 tt, .int .i64 ln, .float .f32 tn, .float .f32 0, .int .i64 0]) T110.sz_56_1 rfl rfl rfl (B.b 0 rfl) (by simp [Value.cells, Value.oneCell']) (Nat.le_of_ble_eq_true rfl) rfl (fun w16 hU17 => ?_))
  replace B : Bu w no w16 [.blk b7 [.int .i64 kd, .int .i64 tt, .int .i64 ln, .float .f32 tn, .float .f32 0, .int .i64 0] 99, .blk b4 [.int .i64 0, .int .i64 0, .int .i64 0, .float .f32 0, .float .f32 0, .int .i64 0] 99, .blk b1 [.int .i64 kd, .int .i64 tt, .int .i64 ln, .float .f32 tn, .float .f32 sz, .int .i64 sd] 103] := B.upd [0] rfl hU17
  clear hU17
  refine s_nil ?_
  refine W_seq ?_
  refine W_region (by kernel_rfl) ?_
  refine s_y (v := .pointer (some ⟨b1, 4, none⟩)) rfl (y_fld (o := 0) T110.fld_103_4_4 rfl) ?_
  refine s_y (v := .float .f32 sz) rfl (y_load T110.one_56 rfl ((B.b 2 rfl).cell (j := 4) rfl)) ?_
  refine s_y (v := .pointer (some ⟨b7, 4, none⟩)) rfl (y_fld (o := 0) T110.fld_99_4_4 rfl) ?_
  refine s_k0 rfl (k_stB (v := .float .f32 sz) (n := 1) (cs' := [.int .i64 kd, .int .i64 tt, .int .i64 ln, .float .f32 tn, .float .f32 sz, .int .i64 0]) T110.sz_56_1 rfl rfl rfl (B.b 0 rfl) (by simp [Value.cells, Value.oneCell']) (Nat.le_of_ble_eq_true rfl) rfl (fun w18 hU19 => ?_))
  replace B : Bu w no w18 [.blk b7 [.int .i64 kd, .int .i64 tt, .int .i64 ln, .float .f32 tn, .float .f32 sz, .int .i64 0] 99, .blk b4 [.int .i64 0, .int .i64 0, .int .i64 0, .float .f32 0, .float .f32 0, .int .i64 0] 99, .blk b1 [.int .i64 kd, .int .i64 tt, .int .i64 ln, .float .f32 tn, .float .f32 sz, .int .i64 sd] 103] := B.upd [0] rfl hU19
  clear hU19
  refine s_nil ?_
  refine W_seq ?_
  refine W_region (by kernel_rfl) ?_
  refine s_y (v := .pointer (some ⟨b1, 5, none⟩)) rfl (y_fld (o := 0) T110.fld_103_5_5 rfl) ?_
  refine s_y (v := .int .i64 sd) rfl (y_load T110.one_2 rfl ((B.b 2 rfl).cell (j := 5) rfl)) ?_
  refine s_y (v := .pointer (some ⟨b7, 5, none⟩)) rfl (y_fld (o := 0) T110.fld_99_5_5 rfl) ?_
  refine s_k0 rfl (k_stB (v := .int .i64 sd) (n := 1) (cs' := [.int .i64 kd, .int .i64 tt, .int .i64 ln, .float .f32 tn, .float .f32 sz, .int .i64 sd]) T110.sz_2_1 rfl rfl rfl (B.b 0 rfl) (by simp [Value.cells, Value.oneCell']) (Nat.le_of_ble_eq_true rfl) rfl (fun w20 hU21 => ?_))
  replace B : Bu w no w20 [.blk b7 [.int .i64 kd, .int .i64 tt, .int .i64 ln, .float .f32 tn, .float .f32 sz, .int .i64 sd] 99, .blk b4 [.int .i64 0, .int .i64 0, .int .i64 0, .float .f32 0, .float .f32 0, .int .i64 0] 99, .blk b1 [.int .i64 kd, .int .i64 tt, .int .i64 ln, .float .f32 tn, .float .f32 sz, .int .i64 sd] 103] := B.upd [0] rfl hU21
  clear hU21
  refine s_nil ?_
  refine W_seq ?_
  refine W_region (by kernel_rfl) ?_
  refine s_y (v := .agg #[.int .i64 kd, .int .i64 tt, .int .i64 ln, .float .f32 tn, .float .f32 sz, .int .i64 sd]) rfl (y_loadn (b := b7) (o := 0) (vs := [.int .i64 kd, .int .i64 tt, .int .i64 ln, .float .f32 tn, .float .f32 sz, .int .i64 sd]) T110.agg_99_6 rfl rfl ((B.b 0 rfl).cells (o := 0) rfl)) ?_
  refine s_k0 rfl (k_stB (v := .agg #[.int .i64 kd, .int .i64 tt, .int .i64 ln, .float .f32 tn, .float .f32 sz, .int .i64 sd]) (n := 6) (cs' := [.int .i64 kd, .int .i64 tt, .int .i64 ln, .float .f32 tn, .float .f32 sz, .int .i64 sd]) T110.sz_99_6 rfl rfl rfl (B.b 1 rfl) (by simp [Value.cells, Value.oneCell']) (Nat.le_of_ble_eq_true rfl) rfl (fun w22 hU23 => ?_))
  replace B : Bu w no w22 [.blk b4 [.int .i64 kd, .int .i64 tt, .int .i64 ln, .float .f32 tn, .float .f32 sz, .int .i64 sd] 99, .blk b7 [.int .i64 kd, .int .i64 tt, .int .i64 ln, .float .f32 tn, .float .f32 sz, .int .i64 sd] 99, .blk b1 [.int .i64 kd, .int .i64 tt, .int .i64 ln, .float .f32 tn, .float .f32 sz, .int .i64 sd] 103] := B.upd [1] rfl hU23
  clear hU23
  refine s_nil ?_
  refine W_ret ?_
  refine ret1 (v := .agg #[.int .i64 kd, .int .i64 tt, .int .i64 ln, .float .f32 tn, .float .f32 sz, .int .i64 sd]) rfl rfl ⟨_, [.int .i64 kd, .int .i64 tt, .int .i64 ln, .float .f32 tn, .float .f32 sz, .int .i64 sd], _, rfl, (B.b 0 rfl), T110.agg_99_6, rfl⟩ ⟨_, rfl, ?_⟩
  exact ⟨rfl, B.ext⟩
namespace T81
theorem mx : Try.prog.follows .mixedOrders = true := by kernel_rfl
theorem agg_101_9 : aggB Try.prog 101 9 = true := by kernel_rfl
theorem agg_103_6 : aggB Try.prog 103 6 = true := by kernel_rfl
theorem fld_101_0_0 : fldB Try.prog 101 0 0 = true := by kernel_rfl
theorem fld_101_1_1 : fldB Try.prog 101 1 1 = true := by kernel_rfl
theorem fld_101_2_2 : fldB Try.prog 101 2 2 = true := by kernel_rfl
theorem fld_101_3_3 : fldB Try.prog 101 3 3 = true := by kernel_rfl
theorem fld_105_0_0 : fldB Try.prog 105 0 0 = true := by kernel_rfl
theorem fld_105_1_1 : fldB Try.prog 105 1 1 = true := by kernel_rfl
theorem fld_105_2_2 : fldB Try.prog 105 2 2 = true := by kernel_rfl
theorem fld_105_3_3 : fldB Try.prog 105 3 3 = true := by kernel_rfl
theorem fn_110 : fnB Try.prog 110 = true := by kernel_rfl
theorem one_2 : oneB Try.prog 2 = true := by kernel_rfl
theorem one_4 : oneB Try.prog 4 = true := by kernel_rfl
theorem sz_101_9 : szB Try.prog 101 9 = true := by kernel_rfl
theorem sz_2_1 : szB Try.prog 2 1 = true := by kernel_rfl
theorem sz_4_1 : szB Try.prog 4 1 = true := by kernel_rfl
theorem sz_99_6 : szB Try.prog 99 6 = true := by kernel_rfl
theorem zero_101 : zeroB Try.prog 101 (.agg #[.int .i64 0, .int .i64 0, .bool false, .int .i64 0, .int .i64 0, .int .i64 0, .float .f32 0, .float .f32 0, .int .i64 0]) := by unfold zeroB; kernel_rfl
end T81
set_option maxRecDepth 100000 in
set_option maxHeartbeats 4000000 in
theorem c_l_toSource {px : Int} {py : Int} {hd : Bool} {kd : Int} {tt : Int} {ln : Int} {tn : Nat} {TN : Nat} {sz : Nat} {SZ : Nat} {sd : Int} {w : World} (htn : can .f32 tn = TN) (hsz : can .f32 sz = SZ) :
    Calls Try.prog 81 #[.agg #[.int .i64 px, .int .i64 py, .bool hd, .int .i64 kd, .int .i64 tt, .int .i64 ln, .float .f32 tn, .float .f32 sz, .int .i64 sd]] w (Rt fun v w' => v = .agg #[.int .i64 px, .int .i64 py, .bool hd, .int .i64 kd, .int .i64 tt, .int .i64 ln, .float .f32 tn, .float .f32 sz, .int .i64 sd] ∧ Ext0 w w') := by
  have B : Bu w no w [] := Bu.ro All.nil rfl
  refine calls_W (n := 18) Try.func81 rfl rfl (Nat.le_of_ble_eq_true rfl) ?_
  refine W_seq ?_
  refine W_region (by kernel_rfl) ?_
  refine s_k rfl (k_boxN (v := .agg #[.int .i64 px, .int .i64 py, .bool hd, .int .i64 kd, .int .i64 tt, .int .i64 ln, .float .f32 tn, .float .f32 sz, .int .i64 sd]) (cs := [.int .i64 px, .int .i64 py, .bool hd, .int .i64 kd, .int .i64 tt, .int .i64 ln, .float .f32 tn, .float .f32 sz, .int .i64 sd]) rfl rfl (fun b1 w2 hN3 => ?_))
  replace B := B.new1 hN3
  clear hN3
  refine s_k rfl (k_allocN (z := (.agg #[.int .i64 0, .int .i64 0, .bool false, .int .i64 0, .int .i64 0, .int .i64 0, .float .f32 0, .float .f32 0, .int .i64 0])) (cs := [.int .i64 0, .int .i64 0, .bool false, .int .i64 0, .int .i64 0, .int .i64 0, .float .f32 0, .float .f32 0, .int .i64 0]) T81.zero_101 rfl (fun b4 w5 hN6 => ?_))
  replace B := B.new1 hN6
  clear hN6
  refine s_nil ?_
  refine W_seq ?_
  refine W_region (by kernel_rfl) ?_
  refine s_k rfl (k_allocN (z := (.agg #[.int .i64 0, .int .i64 0, .bool false, .int .i64 0, .int .i64 0, .int .i64 0, .float .f32 0, .float .f32 0, .int .i64 0])) (cs := [.int .i64 0, .int .i64 0, .bool false, .int .i64 0, .int .i64 0, .int .i64 0, .float .f32 0, .float .f32 0, .int .i64 0]) T81.zero_101 rfl (fun b7 w8 hN9 => ?_))
  replace B := B.new1 hN9
  clear hN9
  refine s_nil ?_
  refine W_seq ?_
  refine W_region (by kernel_rfl) ?_
  refine s_y (v := .pointer (some ⟨b1, 0, none⟩)) rfl (y_fld (o := 0) T81.fld_105_0_0 rfl) ?_
  refine s_y (v := .int .i64 px) rfl (y_load T81.one_2 rfl ((B.b 2 rfl).cell (j := 0) rfl)) ?_
  refine s_y (v := .pointer (some ⟨b7, 0, none⟩)) rfl (y_fld (o := 0) T81.fld_101_0_0 rfl) ?_
  refine s_k0 rfl (k_stB (v := .int .i64 px) (n := 1) (cs' := [.int .i64 px, .int .i64 0, .bool false, .int .i64 0, .int .i64 0, .int .i64 0, .float .f32 0, .float .f32 0, .int .i64 0]) T81.sz_2_1 rfl rfl rfl (B.b 0 rfl) (by simp [Value.cells, Value.oneCell']) (Nat.le_of_ble_eq_true rfl) rfl (fun w10 hU11 => ?_))
  replace B : Bu w no w10 [.blk b7 [.int .i64 px, .int .i64 0, .bool false, .int .i64 0, .int .i64 0, .int .i64 0, .float .f32 0, .float .f32 0, .int .i64 0] 101, .blk b4 [.int .i64 0, .int .i64 0, .bool false, .int .i64 0, .int .i64 0, .int .i64 0, .float .f32 0, .float .f32 0, .int .i64 0] 101, .blk b1 [.int .i64 px, .int .i64 py, .bool hd, .int .i64 kd, .int .i64 tt, .int .i64 ln, .float .f32 tn, .float .f32 sz, .int .i64 sd] 105] := B.upd [0] rfl hU11
  clear hU11
  refine s_nil ?_
  refine W_seq ?_
  refine W_region (by kernel_rfl) ?_
  refine s_y (v := .pointer (some ⟨b1, 1, none⟩)) rfl (y_fld (o := 0) T81.fld_105_1_1 rfl) ?_
  refine s_y (v := .int .i64 py) rfl (y_load T81.one_2 rfl ((B.b 2 rfl).cell (j := 1) rfl)) ?_
  refine s_y (v := .pointer (some ⟨b7, 1, none⟩)) rfl (y_fld (o := 0) T81.fld_101_1_1 rfl) ?_
  refine s_k0 rfl (k_stB (v := .int .i64 py) (n := 1) (cs' := [.int .i64 px, .int .i64 py, .bool false, .int .i64 0, .int .i64 0, .int .i64 0, .float .f32 0, .float .f32 0, .int .i64 0]) T81.sz_2_1 rfl rfl rfl (B.b 0 rfl) (by simp [Value.cells, Value.oneCell']) (Nat.le_of_ble_eq_true rfl) rfl (fun w12 hU13 => ?_))
  replace B : Bu w no w12 [.blk b7 [.int .i64 px, .int .i64 py, .bool false, .int .i64 0, .int .i64 0, .int .i64 0, .float .f32 0, .float .f32 0, .int .i64 0] 101, .blk b4 [.int .i64 0, .int .i64 0, .bool false, .int .i64 0, .int .i64 0, .int .i64 0, .float .f32 0, .float .f32 0, .int .i64 0] 101, .blk b1 [.int .i64 px, .int .i64 py, .bool hd, .int .i64 kd, .int .i64 tt, .int .i64 ln, .float .f32 tn, .float .f32 sz, .int .i64 sd] 105] := B.upd [0] rfl hU13
  clear hU13
  refine s_nil ?_
  refine W_seq ?_
  refine W_region (by kernel_rfl) ?_
  refine s_y (v := .pointer (some ⟨b1, 2, none⟩)) rfl (y_fld (o := 0) T81.fld_105_2_2 rfl) ?_
  refine s_y (v := .bool hd) rfl (y_load T81.one_4 rfl ((B.b 2 rfl).cell (j := 2) rfl)) ?_
  refine s_y (v := .pointer (some ⟨b7, 2, none⟩)) rfl (y_fld (o := 0) T81.fld_101_2_2 rfl) ?_
  refine s_k0 rfl (k_stB (v := .bool hd) (n := 1) (cs' := [.int .i64 px, .int .i64 py, .bool hd, .int .i64 0, .int .i64 0, .int .i64 0, .float .f32 0, .float .f32 0, .int .i64 0]) T81.sz_4_1 rfl rfl rfl (B.b 0 rfl) (by simp [Value.cells, Value.oneCell']) (Nat.le_of_ble_eq_true rfl) rfl (fun w14 hU15 => ?_))
  replace B : Bu w no w14 [.blk b7 [.int .i64 px, .int .i64 py, .bool hd, .int .i64 0, .int .i64 0, .int .i64 0, .float .f32 0, .float .f32 0, .int .i64 0] 101, .blk b4 [.int .i64 0, .int .i64 0, .bool false, .int .i64 0, .int .i64 0, .int .i64 0, .float .f32 0, .float .f32 0, .int .i64 0] 101, .blk b1 [.int .i64 px, .int .i64 py, .bool hd, .int .i64 kd, .int .i64 tt, .int .i64 ln, .float .f32 tn, .float .f32 sz, .int .i64 sd] 105] := B.upd [0] rfl hU15
  clear hU15
  refine s_nil ?_
  refine W_seq ?_
  refine W_region (by kernel_rfl) ?_
  refine s_y (v := .pointer (some ⟨b1, 3, none⟩)) rfl (y_fld (o := 0) T81.fld_105_3_3 rfl) ?_
  refine s_y (v := .agg #[.int .i64 kd, .int .i64 tt, .int .i64 ln, .float .f32 tn, .float .f32 sz, .int .i64 sd]) rfl (y_loadn (b := b1) (o := 3) (vs := [.int .i64 kd, .int .i64 tt, .int .i64 ln, .float .f32 tn, .float .f32 sz, .int .i64 sd]) T81.agg_103_6 rfl rfl ((B.b 2 rfl).cells (o := 3) rfl)) ?_
  refine s_k rfl (k_call T81.fn_110 (c_l_toWave htn hsz) rfl ?_)
  rintro _ w16 ⟨rfl, e17⟩
  replace B := B.ext0 e17
  clear e17
  refine s_y (v := .pointer (some ⟨b7, 3, none⟩)) rfl (y_fld (o := 0) T81.fld_101_3_3 rfl) ?_
  refine s_k0 rfl (k_stB (v := .agg #[.int .i64 kd, .int .i64 tt, .int .i64 ln, .float .f32 tn, .float .f32 sz, .int .i64 sd]) (n := 6) (cs' := [.int .i64 px, .int .i64 py, .bool hd, .int .i64 kd, .int .i64 tt, .int .i64 ln, .float .f32 tn, .float .f32 sz, .int .i64 sd]) T81.sz_99_6 rfl rfl rfl (B.b 0 rfl) (by simp [Value.cells, Value.oneCell']) (Nat.le_of_ble_eq_true rfl) rfl (fun w18 hU19 => ?_))
  replace B : Bu w no w18 [.blk b7 [.int .i64 px, .int .i64 py, .bool hd, .int .i64 kd, .int .i64 tt, .int .i64 ln, .float .f32 tn, .float .f32 sz, .int .i64 sd] 101, .blk b4 [.int .i64 0, .int .i64 0, .bool false, .int .i64 0, .int .i64 0, .int .i64 0, .float .f32 0, .float .f32 0, .int .i64 0] 101, .blk b1 [.int .i64 px, .int .i64 py, .bool hd, .int .i64 kd, .int .i64 tt, .int .i64 ln, .float .f32 tn, .float .f32 sz, .int .i64 sd] 105] := B.upd [0] rfl hU19
  clear hU19
  refine s_nil ?_
  refine W_seq ?_
  refine W_region (by kernel_rfl) ?_
  refine s_y (v := .agg #[.int .i64 px, .int .i64 py, .bool hd, .int .i64 kd, .int .i64 tt, .int .i64 ln, .float .f32 tn, .float .f32 sz, .int .i64 sd]) rfl (y_loadn (b := b7) (o := 0) (vs := [.int .i64 px, .int .i64 py, .bool hd, .int .i64 kd, .int .i64 tt, .int .i64 ln, .float .f32 tn, .float .f32 sz, .int .i64 sd]) T81.agg_101_9 rfl rfl ((B.b 0 rfl).cells (o := 0) rfl)) ?_
  refine s_k0 rfl (k_stB (v := .agg #[.int .i64 px, .int .i64 py, .bool hd, .int .i64 kd, .int .i64 tt, .int .i64 ln, .float .f32 tn, .float .f32 sz, .int .i64 sd]) (n := 9) (cs' := [.int .i64 px, .int .i64 py, .bool hd, .int .i64 kd, .int .i64 tt, .int .i64 ln, .float .f32 tn, .float .f32 sz, .int .i64 sd]) T81.sz_101_9 rfl rfl rfl (B.b 1 rfl) (by simp [Value.cells, Value.oneCell']) (Nat.le_of_ble_eq_true rfl) rfl (fun w20 hU21 => ?_))
  replace B : Bu w no w20 [.blk b4 [.int .i64 px, .int .i64 py, .bool hd, .int .i64 kd, .int .i64 tt, .int .i64 ln, .float .f32 tn, .float .f32 sz, .int .i64 sd] 101, .blk b7 [.int .i64 px, .int .i64 py, .bool hd, .int .i64 kd, .int .i64 tt, .int .i64 ln, .float .f32 tn, .float .f32 sz, .int .i64 sd] 101, .blk b1 [.int .i64 px, .int .i64 py, .bool hd, .int .i64 kd, .int .i64 tt, .int .i64 ln, .float .f32 tn, .float .f32 sz, .int .i64 sd] 105] := B.upd [1] rfl hU21
  clear hU21
  refine s_nil ?_
  refine W_ret ?_
  refine ret1 (v := .agg #[.int .i64 px, .int .i64 py, .bool hd, .int .i64 kd, .int .i64 tt, .int .i64 ln, .float .f32 tn, .float .f32 sz, .int .i64 sd]) rfl rfl ⟨_, [.int .i64 px, .int .i64 py, .bool hd, .int .i64 kd, .int .i64 tt, .int .i64 ln, .float .f32 tn, .float .f32 sz, .int .i64 sd], _, rfl, (B.b 0 rfl), T81.agg_101_9, rfl⟩ ⟨_, rfl, ?_⟩
  exact ⟨rfl, B.ext⟩
namespace T45
theorem mx : Try.prog.follows .mixedOrders = true := by kernel_rfl
theorem agg_105_9 : aggB Try.prog 105 9 = true := by kernel_rfl
theorem fn_81 : fnB Try.prog 81 = true := by kernel_rfl
theorem sl_62_105_9 : slB Try.prog 62 105 9 = true := by kernel_rfl
theorem sl_65_101_9 : slB Try.prog 65 101 9 = true := by kernel_rfl
theorem slt_65 : SlT Try.prog 65 101 9 64 (.agg #[.int .i64 0, .int .i64 0, .bool false, .int .i64 0, .int .i64 0, .int .i64 0, .float .f32 0, .float .f32 0, .int .i64 0]) := ⟨by kernel_rfl, by kernel_rfl, rfl, by decide⟩
theorem sz_101_9 : szB Try.prog 101 9 = true := by kernel_rfl
end T45
set_option maxRecDepth 100000 in
set_option maxHeartbeats 4000000 in
theorem c_l_toSourceS {a : Option Addr} {n : Nat} {c : Nat} {X : List Src} {w : World} (q : Rd w kS a n X) (hb : n ≤ 1048576) :
    Calls Try.prog 45 #[.slice a n c] w (Rt fun v w' => ∃ (a1 : Option Addr) (c1 : Nat), v = .slice a1 n c1 ∧ New w w' [.ow kS a1 n c1 101 X]) := by
  have hl := q.len
  have B : Bu w no w [.rd kS a n X] := Bu.ro (All.cons q All.nil) rfl
  refine calls_W (n := 23) Try.func45 rfl rfl (Nat.le_of_ble_eq_true rfl) ?_
  refine W_seq ?_
  refine W_region (by kernel_rfl) ?_
  refine s_y (v := .slice none 0 0) rfl (y_assign rfl) ?_
  refine s_nil ?_
  refine W_seq ?_
  refine W_region (by kernel_rfl) ?_
  refine s_y (v := .slice a n c) rfl (y_move rfl) ?_
  refine s_y (v := .int .i64 ((n : Nat) : Int)) rfl (y_len T45.sl_62_105_9 rfl rfl) ?_
  refine s_k rfl (k_mkO (k := kS) (z0 := (⟨0, 0, false, 0, 0, 0, 0, 0, 0⟩ : Src)) T45.slt_65 ⟨0, 0, rfl, can_zero, can_zero⟩ rfl rfl (by omega) (by omega) (by omega) (fun b1 w2 hN3 => ?_))
  replace B := B.new1 hN3
  clear hN3
  refine s_y (v := .slice (some ⟨b1, 0, none⟩) ((((n : Nat) : Int)).toNat) ((((n : Nat) : Int)).toNat)) rfl (y_assign rfl) ?_
  refine s_nil ?_
  refine W_seq ?_
  refine W_seq ?_
  refine W_region (by kernel_rfl) ?_
  refine s_y (v := .int .i64 0) rfl (y_assign rfl) ?_
  refine s_nil ?_
  refine W_block ?_
  refine W_loop (fun ρ' w' => ∃ (ρ1 : Env) (k : Int) (zs : List Src), ρ' = updL ρ1 [(0, .slice a n c), (2, .slice none 0 0), (3, .slice (some ⟨b1, 0, none⟩) ((((n : Nat) : Int)).toNat) ((((n : Nat) : Int)).toNat)), (4, .int .i64 k)] ∧ Bu w no w' [.ow kS (some ⟨b1, 0, none⟩) n n 101 zs, .rd kS a n X] ∧ (0 ≤ k) ∧ (k ≤ (n : Int)) ∧ (zs.length = n) ∧ (∀ i, 0 ≤ i → i < k → gl zs i = gl X i)) (fun ρ' _ => ((n : Int) - iv (ρ' 4)).toNat) ?_ ?_
  · exact ⟨_, 0, _, Fits.eq ⟨rfl, rfl, rfl, rfl, trivial⟩, B, (Int.le_refl _), (by omega), (by simp), (by intro i h0 h1; omega)⟩
  · clear B; rintro _ w4 ⟨ρ5, k, zs, rfl, B, h0k, h1k, hz, hq⟩
    refine W_seq ?_
    refine W_seq ?_
    refine W_region (by kernel_rfl) ?_
    refine s_y (v := .int .i64 k) rfl (y_move rfl) ?_
    refine s_y (v := .slice a n c) rfl (y_move rfl) ?_
    refine s_y (v := .int .i64 ((n : Nat) : Int)) rfl (y_len T45.sl_62_105_9 rfl rfl) ?_
    by_cases c6 : k < ((n : Nat) : Int)
    · refine s_y (v := .bool true) rfl (y_lss rfl rfl (decide_eq_true c6)) ?_
      refine s_nil ?_
      refine W_if_t (by decide) rfl ?_
      refine W_skip ?_
      refine W_seq ?_
      refine W_block ?_
      refine W_region (by kernel_rfl) ?_
      refine s_y (v := .slice (some ⟨b1, 0, none⟩) ((((n : Nat) : Int)).toNat) ((((n : Nat) : Int)).toNat)) rfl (y_move rfl) ?_
      refine s_y (v := .int .i64 k) rfl (y_move rfl) ?_
      refine s_y (v := .slice a n c) rfl (y_move rfl) ?_
      refine s_y (v := .int .i64 k) rfl (y_move rfl) ?_
      refine s_y (v := .pointer (some (sat a ((k).toNat * 9)))) rfl (y_idx T45.sl_62_105_9 rfl rfl ((B.r 1 rfl).addr (by omega)) (by omega) (by omega)) ?_
      obtain ⟨r8, r9, hr10, hr11, hR7⟩ := Rd.atS (B.r 1 rfl) k (by omega) (by omega)
      refine s_y (v := .agg #[.int .i64 ((gl X k).x), .int .i64 ((gl X k).y), .bool ((gl X k).hd), .int .i64 ((gl X k).kd), .int .i64 ((gl X k).tt), .int .i64 ((gl X k).ln), .float .f32 r8, .float .f32 r9, .int .i64 ((gl X k).sd)]) rfl (y_loadR (vs := [.int .i64 ((gl X k).x), .int .i64 ((gl X k).y), .bool ((gl X k).hd), .int .i64 ((gl X k).kd), .int .i64 ((gl X k).tt), .int .i64 ((gl X k).ln), .float .f32 r8, .float .f32 r9, .int .i64 ((gl X k).sd)]) T45.agg_105_9 rfl rfl (by decide) hR7) ?_
      refine s_k rfl (k_call T45.fn_81 (c_l_toSource hr10 hr11) rfl ?_)
      rintro _ w12 ⟨rfl, e13⟩
      replace B := B.ext0 e13
      clear e13
      refine s_y (v := .pointer (some (sat (some ⟨b1, 0, none⟩) ((k).toNat * 9)))) rfl (y_idx T45.sl_65_101_9 rfl rfl ((B.o 0 rfl).rd.addr (by omega)) (by omega) (by omega)) ?_
      refine s_k0 rfl (k_stO (k := kS) (i := k) (j := 0) (x' := (⟨((gl X k).x), ((gl X k).y), ((gl X k).hd), ((gl X k).kd), ((gl X k).tt), ((gl X k).ln), ((gl X k).tn), ((gl X k).sz), ((gl X k).sd)⟩ : Src)) (new := [.int .i64 ((gl X k).x), .int .i64 ((gl X k).y), .bool ((gl X k).hd), .int .i64 ((gl X k).kd), .int .i64 ((gl X k).tt), .int .i64 ((gl X k).ln), .float .f32 r8, .float .f32 r9, .int .i64 ((gl X k).sd)]) T45.sz_101_9 rfl rfl rfl rfl rfl (by simp [Value.oneCell']) (by decide) (B.o 0 rfl) (by omega) (by omega) (by decide) (by rintro q ⟨_, _, rfl, h1, h2⟩; exact ⟨_, _, rfl, hr10, hr11⟩) (fun w14 hU15 => ?_))
      replace B : Bu w no w14 [.ow kS (some ⟨b1, 0, none⟩) n n 101 (pl zs k (⟨((gl X k).x), ((gl X k).y), ((gl X k).hd), ((gl X k).kd), ((gl X k).tt), ((gl X k).ln), ((gl X k).tn), ((gl X k).sz), ((gl X k).sd)⟩ : Src)), .rd kS a n X] := B.upd [0] rfl hU15
      clear hU15
      refine s_nil ?_
      refine W_region (by kernel_rfl) ?_
      refine s_y (v := .int .i64 k) rfl (y_move rfl) ?_
      refine s_y (v := .int .i64 (k + 1)) rfl (y_add rfl rfl rfl (by omega)) ?_
      refine s_y (v := .int .i64 (k + 1)) rfl (y_assign rfl) ?_
      refine s_nil ?_
      refine ⟨⟨_, k + 1, _, Fits.eq ⟨rfl, rfl, rfl, rfl, trivial⟩, B, (by omega), (by omega), ((pl_length ..).trans hz), (gl_same (by omega) (by omega) (by omega) hq)⟩, ?_⟩
      show ((n : Int) - (k + 1)).toNat < ((n : Int) - k).toNat
      omega
    · refine s_y (v := .bool false) rfl (y_lss rfl rfl (decide_eq_false c6)) ?_
      refine s_nil ?_
      refine W_if_f (by decide) rfl ?_
      refine W_exit ?_
      refine W_seq ?_
      refine W_region (by kernel_rfl) ?_
      refine s_y (v := .slice (some ⟨b1, 0, none⟩) ((((n : Nat) : Int)).toNat) ((((n : Nat) : Int)).toNat)) rfl (y_move rfl) ?_
      refine s_y (v := .slice (some ⟨b1, 0, none⟩) ((((n : Nat) : Int)).toNat) ((((n : Nat) : Int)).toNat)) rfl (y_assign rfl) ?_
      refine s_nil ?_
      refine W_ret ?_
      refine ret1 (v := .slice (some ⟨b1, 0, none⟩) ((((n : Nat) : Int)).toNat) ((((n : Nat) : Int)).toNat)) rfl rfl rfl ⟨_, rfl, ?_⟩
      obtain rfl : zs = X := ext_gl (by omega) (fun i h0 h1 => hq i h0 (by omega))
      exact ⟨_, _, rfl, B.give [0] rfl rfl rfl⟩
namespace T118
theorem mx : Try.prog.follows .mixedOrders = true := by kernel_rfl
theorem fn_70 : fnB Try.prog 70 = true := by kernel_rfl
end T118
set_option maxRecDepth 100000 in
set_option maxHeartbeats 4000000 in
theorem c_s_l04Tick {n : Int} {w : World} :
    Calls Try.prog 118 #[.int .i64 n] w (Rt fun v w' => v = .bool (isTick n) ∧ Ext0 w w') := by
  have B : Bu w no w [] := Bu.ro All.nil rfl
  refine calls_W (n := 5) Try.func118 rfl rfl (Nat.le_of_ble_eq_true rfl) ?_
  refine W_seq ?_
  refine W_region (by kernel_rfl) ?_
  refine s_y (v := .bool false) rfl (y_assign rfl) ?_
  refine s_nil ?_
  refine W_seq ?_
  refine W_region (by kernel_rfl) ?_
  refine s_y (v := .int .i64 n) rfl (y_move rfl) ?_
  refine s_k rfl (k_call T118.fn_70 (c_s_l00In) rfl ?_)
  rintro v3 w1 ⟨hv4, e2⟩
  replace B := B.ext0 e2
  clear e2
  by_cases c5 : within n 0 1000000 = true
  · have hb6 := within_b c5
    obtain rfl : v3 = .bool true := hv4.trans (congrArg Value.bool c5)
    refine s_y (v := .bool true) rfl (y_assign rfl) ?_
    refine s_nil ?_
    refine W_ret ?_
    refine ret1 (v := .bool true) rfl rfl rfl ⟨_, rfl, ?_⟩
    exact ⟨congrArg Value.bool (by simp [isTick, *]), B.ext⟩
  · obtain rfl : v3 = .bool false := hv4.trans (congrArg Value.bool (Bool.eq_false_iff.2 c5))
    refine s_y (v := .bool false) rfl (y_assign rfl) ?_
    refine s_nil ?_
    refine W_ret ?_
    refine ret1 (v := .bool false) rfl rfl rfl ⟨_, rfl, ?_⟩
    exact ⟨congrArg Value.bool (by simp [isTick, *]), B.ext⟩
namespace T119
theorem mx : Try.prog.follows .mixedOrders = true := by kernel_rfl
end T119
set_option maxRecDepth 100000 in
set_option maxHeartbeats 4000000 in
theorem c_s_l01Finite {x : Nat} {X : Nat} {w : World} (hx : can .f32 x = X) :
    Calls Try.prog 119 #[.float .f32 x] w (Rt fun v w' => v = .bool (finB X) ∧ Ext0 w w') := by
  have B : Bu w no w [] := Bu.ro All.nil rfl
  refine calls_W (n := 7) Try.func119 rfl rfl (Nat.le_of_ble_eq_true rfl) ?_
  refine W_seq ?_
  refine W_region (by kernel_rfl) ?_
  refine s_y (v := .bool false) rfl (y_assign rfl) ?_
  refine s_nil ?_
  refine W_seq ?_
  refine W_region (by kernel_rfl) ?_
  refine s_y (v := .float .f32 x) rfl (y_move rfl) ?_
  refine s_y (v := .float .f32 x) rfl (y_move rfl) ?_
  refine s_n rfl (n_arith (by decide) rfl rfl) ?_
  rintro _ w4 e5 ⟨r2, rfl, hr3⟩
  replace B := B.ext0 e5
  clear e5
  have hc6 := fopC hr3 hx hx
  by_cases c7 : feq .f32 (fop .sub .f32 X X) 0 = true
  · refine s_y (v := .bool true) rfl (y_feql rfl rfl (feqC hc6 (show can .f32 0 = 0 by kernel_rfl) c7)) ?_
    refine s_y (v := .bool true) rfl (y_assign rfl) ?_
    refine s_nil ?_
    refine W_ret ?_
    refine ret1 (v := .bool true) rfl rfl rfl ⟨_, rfl, ?_⟩
    exact ⟨congrArg Value.bool (by simp_all [finB]), B.ext⟩
  · refine s_y (v := .bool false) rfl (y_feql rfl rfl (feqC hc6 (show can .f32 0 = 0 by kernel_rfl) (Bool.eq_false_iff.2 c7))) ?_
    refine s_y (v := .bool false) rfl (y_assign rfl) ?_
    refine s_nil ?_
    refine W_ret ?_
    refine ret1 (v := .bool false) rfl rfl rfl ⟨_, rfl, ?_⟩
    exact ⟨congrArg Value.bool (by simp_all [finB]), B.ext⟩
namespace T120
theorem mx : Try.prog.follows .mixedOrders = true := by kernel_rfl
theorem fn_70 : fnB Try.prog 70 = true := by kernel_rfl
end T120
set_option maxRecDepth 100000 in
set_option maxHeartbeats 4000000 in
theorem c_s_l04Seed {n : Int} {w : World} :
    Calls Try.prog 120 #[.int .i64 n] w (Rt fun v w' => v = .bool (isSeed n) ∧ Ext0 w w') := by
  have B : Bu w no w [] := Bu.ro All.nil rfl
  refine calls_W (n := 5) Try.func120 rfl rfl (Nat.le_of_ble_eq_true rfl) ?_
  refine W_seq ?_
  refine W_region (by kernel_rfl) ?_
  refine s_y (v := .bool false) rfl (y_assign rfl) ?_
  refine s_nil ?_
  refine W_seq ?_
  refine W_region (by kernel_rfl) ?_
  refine s_y (v := .int .i64 n) rfl (y_move rfl) ?_
  refine s_k rfl (k_call T120.fn_70 (c_s_l00In) rfl ?_)
  rintro v3 w1 ⟨hv4, e2⟩
  replace B := B.ext0 e2
  clear e2
  by_cases c5 : within n 0 2147483647 = true
  · have hb6 := within_b c5
    obtain rfl : v3 = .bool true := hv4.trans (congrArg Value.bool c5)
    refine s_y (v := .bool true) rfl (y_assign rfl) ?_
    refine s_nil ?_
    refine W_ret ?_
    refine ret1 (v := .bool true) rfl rfl rfl ⟨_, rfl, ?_⟩
    exact ⟨congrArg Value.bool (by simp [isSeed, *]), B.ext⟩
  · obtain rfl : v3 = .bool false := hv4.trans (congrArg Value.bool (Bool.eq_false_iff.2 c5))
    refine s_y (v := .bool false) rfl (y_assign rfl) ?_
    refine s_nil ?_
    refine W_ret ?_
    refine ret1 (v := .bool false) rfl rfl rfl ⟨_, rfl, ?_⟩
    exact ⟨congrArg Value.bool (by simp [isSeed, *]), B.ext⟩
namespace T109
theorem mx : Try.prog.follows .mixedOrders = true := by kernel_rfl
theorem fld_99_0_0 : fldB Try.prog 99 0 0 = true := by kernel_rfl
theorem fld_99_1_1 : fldB Try.prog 99 1 1 = true := by kernel_rfl
theorem fld_99_2_2 : fldB Try.prog 99 2 2 = true := by kernel_rfl
theorem fld_99_3_3 : fldB Try.prog 99 3 3 = true := by kernel_rfl
theorem fld_99_5_5 : fldB Try.prog 99 5 5 = true := by kernel_rfl
theorem fn_118 : fnB Try.prog 118 = true := by kernel_rfl
theorem fn_119 : fnB Try.prog 119 = true := by kernel_rfl
theorem fn_120 : fnB Try.prog 120 = true := by kernel_rfl
theorem fn_70 : fnB Try.prog 70 = true := by kernel_rfl
theorem one_2 : oneB Try.prog 2 = true := by kernel_rfl
theorem one_56 : oneB Try.prog 56 = true := by kernel_rfl
end T109
set_option maxRecDepth 100000 in
set_option maxHeartbeats 4000000 in
theorem c_s_l04Is {b : Nat} {o : Nat} {kd : Int} {tt : Int} {ln : Int} {tn : Nat} {TN : Nat} {sz : Nat} {SZ : Nat} {sd : Int} {w : World} (htn : can .f32 tn = TN) (hsz : can .f32 sz = SZ) (Pb : Sl w (some ⟨b, o, none⟩) [.int .i64 kd, .int .i64 tt, .int .i64 ln, .float .f32 tn, .float .f32 sz, .int .i64 sd]) :
    Calls Try.prog 109 #[.pointer (some ⟨b, o, none⟩)] w (Rt fun v w' => v = .bool (validW kd tt ln TN sd) ∧ Ext0 w w') := by
  have B : Bu w no w [.sl (some ⟨b, o, none⟩) [.int .i64 kd, .int .i64 tt, .int .i64 ln, .float .f32 tn, .float .f32 sz, .int .i64 sd]] := Bu.ro (All.cons Pb All.nil) rfl
  refine calls_W (n := 36) Try.func109 rfl rfl (Nat.le_of_ble_eq_true rfl) ?_
  refine W_seq ?_
  refine W_region (by kernel_rfl) ?_
  refine s_y (v := .bool false) rfl (y_assign rfl) ?_
  refine s_nil ?_
  refine W_seq ?_
  refine W_region (by kernel_rfl) ?_
  refine s_y (v := .pointer (some ⟨b, o, none⟩)) rfl (y_move rfl) ?_
  refine s_y (v := .pointer (some ⟨b, o, none⟩)) rfl (y_nil rfl) ?_
  refine s_y (v := .pointer (some ⟨b, o, none⟩)) rfl (y_fld (o := o + 0) T109.fld_99_0_0 rfl) ?_
  refine s_y (v := .int .i64 kd) rfl (y_load T109.one_2 rfl ((B.s 0 rfl).cell (j := 0) rfl)) ?_
  refine s_k rfl (k_call T109.fn_70 (c_s_l00In) rfl ?_)
  rintro v3 w1 ⟨hv4, e2⟩
  replace B := B.ext0 e2
  clear e2
  by_cases c5 : within kd 0 4 = true
  · have hb6 := within_b c5
    obtain rfl : v3 = .bool true := hv4.trans (congrArg Value.bool c5)
    refine s_y (v := .bool true) rfl (y_move rfl) ?_
    refine s_y (v := .pointer (some ⟨b, o, none⟩)) rfl (y_move rfl) ?_
    refine s_y (v := .pointer (some ⟨b, o, none⟩)) rfl (y_nil rfl) ?_
    refine s_y (v := .pointer (some ⟨b, o + 1, none⟩)) rfl (y_fld (o := o + 0) T109.fld_99_1_1 rfl) ?_
    refine s_y (v := .int .i64 tt) rfl (y_load T109.one_2 rfl ((B.s 0 rfl).cell (j := 1) rfl)) ?_
    refine s_k rfl (k_call T109.fn_118 (c_s_l04Tick) rfl ?_)
    rintro v9 w7 ⟨hv10, e8⟩
    replace B := B.ext0 e8
    clear e8
    by_cases c11 : isTick tt = true
    · have hb12 := isTick_b c11
      obtain rfl : v9 = .bool true := hv10.trans (congrArg Value.bool c11)
      refine s_y (v := .bool true) rfl (y_pick_t rfl rfl) ?_
      refine s_y (v := .bool true) rfl (y_move rfl) ?_
      refine s_y (v := .pointer (some ⟨b, o, none⟩)) rfl (y_move rfl) ?_
      refine s_y (v := .pointer (some ⟨b, o, none⟩)) rfl (y_nil rfl) ?_
      refine s_y (v := .pointer (some ⟨b, o + 2, none⟩)) rfl (y_fld (o := o + 0) T109.fld_99_2_2 rfl) ?_
      refine s_y (v := .int .i64 ln) rfl (y_load T109.one_2 rfl ((B.s 0 rfl).cell (j := 2) rfl)) ?_
      refine s_k rfl (k_call T109.fn_70 (c_s_l00In) rfl ?_)
      rintro v15 w13 ⟨hv16, e14⟩
      replace B := B.ext0 e14
      clear e14
      by_cases c17 : within ln 1 1000000 = true
      · have hb18 := within_b c17
        obtain rfl : v15 = .bool true := hv16.trans (congrArg Value.bool c17)
        refine s_y (v := .bool true) rfl (y_pick_t rfl rfl) ?_
        refine s_y (v := .bool true) rfl (y_move rfl) ?_
        refine s_y (v := .pointer (some ⟨b, o, none⟩)) rfl (y_move rfl) ?_
        refine s_y (v := .pointer (some ⟨b, o, none⟩)) rfl (y_nil rfl) ?_
        refine s_y (v := .pointer (some ⟨b, o + 3, none⟩)) rfl (y_fld (o := o + 0) T109.fld_99_3_3 rfl) ?_
        refine s_y (v := .float .f32 tn) rfl (y_load T109.one_56 rfl ((B.s 0 rfl).cell (j := 3) rfl)) ?_
        refine s_k rfl (k_call T109.fn_119 (c_s_l01Finite htn) rfl ?_)
        rintro v21 w19 ⟨hv22, e20⟩
        replace B := B.ext0 e20
        clear e20
        by_cases c23 : finB TN = true
        · obtain rfl : v21 = .bool true := hv22.trans (congrArg Value.bool c23)
          refine s_y (v := .bool true) rfl (y_pick_t rfl rfl) ?_
          refine s_y (v := .bool true) rfl (y_move rfl) ?_
          refine s_y (v := .pointer (some ⟨b, o, none⟩)) rfl (y_move rfl) ?_
          refine s_y (v := .pointer (some ⟨b, o, none⟩)) rfl (y_nil rfl) ?_
          refine s_y (v := .pointer (some ⟨b, o + 5, none⟩)) rfl (y_fld (o := o + 0) T109.fld_99_5_5 rfl) ?_
          refine s_y (v := .int .i64 sd) rfl (y_load T109.one_2 rfl ((B.s 0 rfl).cell (j := 5) rfl)) ?_
          refine s_k rfl (k_call T109.fn_120 (c_s_l04Seed) rfl ?_)
          rintro v26 w24 ⟨hv27, e25⟩
          replace B := B.ext0 e25
          clear e25
          by_cases c28 : isSeed sd = true
          · have hb29 := isSeed_b c28
            obtain rfl : v26 = .bool true := hv27.trans (congrArg Value.bool c28)
            refine s_y (v := .bool true) rfl (y_pick_t rfl rfl) ?_
            refine s_y (v := .bool true) rfl (y_assign rfl) ?_
            refine s_nil ?_
            refine W_ret ?_
            refine ret1 (v := .bool true) rfl rfl rfl ⟨_, rfl, ?_⟩
            exact ⟨congrArg Value.bool (by simp [validW, *]), B.ext⟩
          · obtain rfl : v26 = .bool false := hv27.trans (congrArg Value.bool (Bool.eq_false_iff.2 c28))
            refine s_y (v := .bool false) rfl (y_pick_t rfl rfl) ?_
            refine s_y (v := .bool false) rfl (y_assign rfl) ?_
            refine s_nil ?_
            refine W_ret ?_
            refine ret1 (v := .bool false) rfl rfl rfl ⟨_, rfl, ?_⟩
            exact ⟨congrArg Value.bool (by simp [validW, *]), B.ext⟩
        · obtain rfl : v21 = .bool false := hv22.trans (congrArg Value.bool (Bool.eq_false_iff.2 c23))
          refine s_y (v := .bool false) rfl (y_pick_t rfl rfl) ?_
          refine s_y (v := .bool false) rfl (y_move rfl) ?_
          refine s_skip rfl ?_
          refine s_skip rfl ?_
          refine s_skip rfl ?_
          refine s_skip rfl ?_
          refine s_skip rfl ?_
          refine s_y (v := .bool false) rfl (y_pick_f rfl rfl) ?_
          refine s_y (v := .bool false) rfl (y_assign rfl) ?_
          refine s_nil ?_
          refine W_ret ?_
          refine ret1 (v := .bool false) rfl rfl rfl ⟨_, rfl, ?_⟩
          exact ⟨congrArg Value.bool (by simp [validW, *]), B.ext⟩
      · obtain rfl : v15 = .bool false := hv16.trans (congrArg Value.bool (Bool.eq_false_iff.2 c17))
        refine s_y (v := .bool false) rfl (y_pick_t rfl rfl) ?_
        refine s_y (v := .bool false) rfl (y_move rfl) ?_
        refine s_skip rfl ?_
        refine s_skip rfl ?_
        refine s_skip rfl ?_
        refine s_skip rfl ?_
        refine s_skip rfl ?_
        refine s_y (v := .bool false) rfl (y_pick_f rfl rfl) ?_
        refine s_y (v := .bool false) rfl (y_move rfl) ?_
        refine s_skip rfl ?_
        refine s_skip rfl ?_
        refine s_skip rfl ?_
        refine s_skip rfl ?_
        refine s_skip rfl ?_
        refine s_y (v := .bool false) rfl (y_pick_f rfl rfl) ?_
        refine s_y (v := .bool false) rfl (y_assign rfl) ?_
        refine s_nil ?_
        refine W_ret ?_
        refine ret1 (v := .bool false) rfl rfl rfl ⟨_, rfl, ?_⟩
        exact ⟨congrArg Value.bool (by simp [validW, *]), B.ext⟩
    · obtain rfl : v9 = .bool false := hv10.trans (congrArg Value.bool (Bool.eq_false_iff.2 c11))
      refine s_y (v := .bool false) rfl (y_pick_t rfl rfl) ?_
      refine s_y (v := .bool false) rfl (y_move rfl) ?_
      refine s_skip rfl ?_
      refine s_skip rfl ?_
      refine s_skip rfl ?_
      refine s_skip rfl ?_
      refine s_skip rfl ?_
      refine s_y (v := .bool false) rfl (y_pick_f rfl rfl) ?_
      refine s_y (v := .bool false) rfl (y_move rfl) ?_
      refine s_skip rfl ?_
      refine s_skip rfl ?_
      refine s_skip rfl ?_
      refine s_skip rfl ?_
      refine s_skip rfl ?_
      refine s_y (v := .bool false) rfl (y_pick_f rfl rfl) ?_
      refine s_y (v := .bool false) rfl (y_move rfl) ?_
      refine s_skip rfl ?_
      refine s_skip rfl ?_
      refine s_skip rfl ?_
      refine s_skip rfl ?_
      refine s_skip rfl ?_
      refine s_y (v := .bool false) rfl (y_pick_f rfl rfl) ?_
      refine s_y (v := .bool false) rfl (y_assign rfl) ?_
      refine s_nil ?_
      refine W_ret ?_
      refine ret1 (v := .bool false) rfl rfl rfl ⟨_, rfl, ?_⟩
      exact ⟨congrArg Value.bool (by simp [validW, *]), B.ext⟩
  · obtain rfl : v3 = .bool false := hv4.trans (congrArg Value.bool (Bool.eq_false_iff.2 c5))
    refine s_y (v := .bool false) rfl (y_move rfl) ?_
    refine s_skip rfl ?_
    refine s_skip rfl ?_
    refine s_skip rfl ?_
    refine s_skip rfl ?_
    refine s_skip rfl ?_
    refine s_y (v := .bool false) rfl (y_pick_f rfl rfl) ?_
    refine s_y (v := .bool false) rfl (y_move rfl) ?_
    refine s_skip rfl ?_
    refine s_skip rfl ?_
    refine s_skip rfl ?_
    refine s_skip rfl ?_
    refine s_skip rfl ?_
    refine s_y (v := .bool false) rfl (y_pick_f rfl rfl) ?_
    refine s_y (v := .bool false) rfl (y_move rfl) ?_
    refine s_skip rfl ?_
    refine s_skip rfl ?_
    refine s_skip rfl ?_
    refine s_skip rfl ?_
    refine s_skip rfl ?_
    refine s_y (v := .bool false) rfl (y_pick_f rfl rfl) ?_
    refine s_y (v := .bool false) rfl (y_move rfl) ?_
    refine s_skip rfl ?_
    refine s_skip rfl ?_
    refine s_skip rfl ?_
    refine s_skip rfl ?_
    refine s_skip rfl ?_
    refine s_y (v := .bool false) rfl (y_pick_f rfl rfl) ?_
    refine s_y (v := .bool false) rfl (y_assign rfl) ?_
    refine s_nil ?_
    refine W_ret ?_
    refine ret1 (v := .bool false) rfl rfl rfl ⟨_, rfl, ?_⟩
    exact ⟨congrArg Value.bool (by simp [validW, *]), B.ext⟩
namespace T80
theorem mx : Try.prog.follows .mixedOrders = true := by kernel_rfl
theorem fld_101_0_0 : fldB Try.prog 101 0 0 = true := by kernel_rfl
theorem fld_101_1_1 : fldB Try.prog 101 1 1 = true := by kernel_rfl
theorem fld_101_3_3 : fldB Try.prog 101 3 3 = true := by kernel_rfl
theorem fn_109 : fnB Try.prog 109 = true := by kernel_rfl
theorem fn_69 : fnB Try.prog 69 = true := by kernel_rfl
theorem fn_85 : fnB Try.prog 85 = true := by kernel_rfl
theorem one_2 : oneB Try.prog 2 = true := by kernel_rfl
theorem sl_65_101_9 : slB Try.prog 65 101 9 = true := by kernel_rfl
end T80
set_option maxRecDepth 100000 in
set_option maxHeartbeats 4000000 in
theorem c_s_l04Sources {b : Nat} {o : Nat} {wd : Int} {hi : Int} {wr : Bool} {asp : Option Addr} {nsp : Nat} {csp : Nat} {als : Option Addr} {nls : Nat} {cls : Nat} {aq : Option Addr} {nq : Nat} {cq : Nat} {Xq : List Src} {w : World} (Pb : Sl w (some ⟨b, o, none⟩) [.int .i64 wd, .int .i64 hi, .bool wr, .slice asp nsp csp, .slice als nls cls]) (qq : Rd w kS aq nq Xq) (h1 : 3 ≤ wd) (h2 : wd ≤ 16) (h3 : 3 ≤ hi) (h4 : hi ≤ 16) :
    Calls Try.prog 80 #[.pointer (some ⟨b, o, none⟩), .slice aq nq cq] w (Rt fun v w' => v = .bool (srcsB wd hi wr Xq) ∧ Ext0 w w') := by
  have hlq := qq.len
  have B : Bu w no w [.sl (some ⟨b, o, none⟩) [.int .i64 wd, .int .i64 hi, .bool wr, .slice asp nsp csp, .slice als nls cls], .rd kS aq nq Xq] := Bu.ro (All.cons Pb (All.cons qq All.nil)) rfl
  refine calls_W (n := 49) Try.func80 rfl rfl (Nat.le_of_ble_eq_true rfl) ?_
  refine W_seq ?_
  refine W_region (by kernel_rfl) ?_
  refine s_y (v := .bool false) rfl (y_assign rfl) ?_
  refine s_nil ?_
  refine W_seq ?_
  refine W_seq ?_
  refine W_region (by kernel_rfl) ?_
  refine s_y (v := .slice aq nq cq) rfl (y_move rfl) ?_
  refine s_y (v := .int .i64 ((nq : Nat) : Int)) rfl (y_len T80.sl_65_101_9 rfl rfl) ?_
  by_cases c1 : 8 < ((nq : Nat) : Int)
  · refine s_y (v := .bool true) rfl (y_gtr rfl rfl (decide_eq_true c1)) ?_
    refine s_nil ?_
    refine W_if_t (by decide) rfl ?_
    refine W_seq ?_
    refine W_region (by kernel_rfl) ?_
    refine s_y (v := .bool false) rfl (y_assign rfl) ?_
    refine s_nil ?_
    refine W_ret ?_
    refine ret1 (v := .bool false) rfl rfl rfl ⟨_, rfl, ?_⟩
    exact ⟨congrArg Value.bool ((srcsB_n (by omega)).symm), B.ext⟩
  · refine s_y (v := .bool false) rfl (y_gtr rfl rfl (decide_eq_false c1)) ?_
    refine s_nil ?_
    refine W_if_f (by decide) rfl ?_
    refine W_skip ?_
    refine W_seq ?_
    refine W_seq ?_
    refine W_region (by kernel_rfl) ?_
    refine s_y (v := .int .i64 0) rfl (y_assign rfl) ?_
    refine s_nil ?_
    refine W_block ?_
    refine W_loop (fun ρ' w' => ∃ (ρ1 : Env) (k : Int), ρ' = updL ρ1 [(0, .pointer (some ⟨b, o, none⟩)), (1, .slice aq nq cq), (5, .int .i64 k)] ∧ Bu w no w' [.sl (some ⟨b, o, none⟩) [.int .i64 wd, .int .i64 hi, .bool wr, .slice asp nsp csp, .slice als nls cls], .rd kS aq nq Xq] ∧ (0 ≤ k) ∧ (k ≤ (nq : Int)) ∧ (∀ i, 0 ≤ i → i < k → srcB wd hi wr (gl Xq i) = true)) (fun ρ' _ => ((nq : Int) - iv (ρ' 5)).toNat) ?_ ?_
    · exact ⟨_, 0, Fits.eq ⟨rfl, rfl, rfl, trivial⟩, B, (Int.le_refl _), (by omega), (by intro i h0 h1; omega)⟩
    · clear B; rintro _ w2 ⟨ρ3, k, rfl, B, h0k, h1k, hq⟩
      refine W_seq ?_
      refine W_seq ?_
      refine W_region (by kernel_rfl) ?_
      refine s_y (v := .int .i64 k) rfl (y_move rfl) ?_
      refine s_y (v := .slice aq nq cq) rfl (y_move rfl) ?_
      refine s_y (v := .int .i64 ((nq : Nat) : Int)) rfl (y_len T80.sl_65_101_9 rfl rfl) ?_
      by_cases c4 : k < ((nq : Nat) : Int)
      · refine s_y (v := .bool true) rfl (y_lss rfl rfl (decide_eq_true c4)) ?_
        refine s_nil ?_
        refine W_if_t (by decide) rfl ?_
        refine W_skip ?_
        refine W_seq ?_
        refine W_block ?_
        refine W_seq ?_
        refine W_region (by kernel_rfl) ?_
        refine s_y (v := .slice aq nq cq) rfl (y_move rfl) ?_
        refine s_y (v := .int .i64 k) rfl (y_move rfl) ?_
        refine s_y (v := .pointer (some (sat aq ((k).toNat * 9)))) rfl (y_idx T80.sl_65_101_9 rfl rfl ((B.r 1 rfl).addr (by omega)) (by omega) (by omega)) ?_
        refine s_y (v := .pointer (some (sat aq ((k).toNat * 9)))) rfl (y_assign rfl) ?_
        refine s_nil ?_
        refine W_seq ?_
        have B0_9 := B
        refine W_draw (no) T80.mx (by kernel_rfl) (fun w7 e8 => ?_)
        have R10 := Ext.refl (no) w2
        replace R10 := R10.trans (Ext0.any e8)
        replace B := B.ext0 e8
        clear e8
        refine m_y (v := .pointer (some ⟨b, o, none⟩)) 0 rfl (by kernel_rfl) rfl rfl (fun w' e' => y_move rfl) ?_
        refine m_y (v := .pointer (some (sat aq ((k).toNat * 9)))) 1 rfl (by kernel_rfl) rfl rfl (fun w' e' => y_move rfl) ?_
        refine m_y (v := .pointer (some (sat aq ((k).toNat * 9)))) 2 rfl (by kernel_rfl) rfl rfl (fun w' e' => y_nil rfl) ?_
        refine m_y (v := .pointer (some (sat aq ((k).toNat * 9)))) 3 rfl (by kernel_rfl) rfl rfl (fun w' e' => y_fldEl (j := (k).toNat * 9) T80.fld_101_0_0 rfl ((B.r 1 rfl).addr (by omega))) ?_
        obtain ⟨r12, r13, hr14, hr15, hR11⟩ := Rd.atS (B0_9.r 1 rfl) k (by omega) (by omega)
        refine m_y (v := .int .i64 ((gl Xq k).x)) 4 rfl (by kernel_rfl) rfl rfl (fun w' e' => y_load T80.one_2 rfl ((hR11.ext0 e').cell (i := 0) rfl)) ?_
        refine m_y (v := .pointer (some (sat aq ((k).toNat * 9)))) 5 rfl (by kernel_rfl) rfl rfl (fun w' e' => y_move rfl) ?_
        refine m_y (v := .pointer (some (sat aq ((k).toNat * 9)))) 6 rfl (by kernel_rfl) rfl rfl (fun w' e' => y_nil rfl) ?_
        refine m_y (v := .pointer (some (sat aq ((k).toNat * 9 + 1)))) 7 rfl (by kernel_rfl) rfl rfl (fun w' e' => y_fldEl (j := (k).toNat * 9) T80.fld_101_1_1 rfl ((B.r 1 rfl).addr (by omega))) ?_
        obtain ⟨r17, r18, hr19, hr20, hR16⟩ := Rd.atS (B0_9.r 1 rfl) k (by omega) (by omega)
        refine m_y (v := .int .i64 ((gl Xq k).y)) 8 rfl (by kernel_rfl) rfl rfl (fun w' e' => y_load T80.one_2 rfl ((hR16.ext0 e').cell (i := 1) rfl)) ?_
        refine m_k 9 [10, 11, 12, 13, 14, 15, 16, 17, 18, 19, 20, 21, 22, 23, 24, 25, 26, 27, 28, 29] rfl (by kernel_rfl) rfl rfl (fun w21 e22 => ?_)
        replace R10 := R10.trans (Ext0.any e22)
        replace B := B.ext0 e22
        clear e22
        refine k_call T80.fn_69 (c_s_l02Cell (B.s 0 rfl) (by omega) (by omega) (by omega) (by omega)) rfl ?_
        rintro v25 w23 ⟨hv26, e24⟩
        replace R10 := R10.trans (Ext0.any e24)
        replace B := B.ext0 e24
        clear e24
        refine ⟨fun _ => R10, ?_⟩
        by_cases c27 : cellB wd hi ((gl Xq k).x) ((gl Xq k).y) = true
        · have hb28 := cellB_b c27
          obtain rfl : v25 = .bool true := hv26.trans (congrArg Value.bool c27)
          refine m_y (v := .bool false) 10 rfl (by kernel_rfl) rfl rfl (fun w' e' => y_not rfl rfl) ?_
          refine m_y (v := .bool false) 11 rfl (by kernel_rfl) rfl rfl (fun w' e' => y_move rfl) ?_
          refine m_y (v := .pointer (some ⟨b, o, none⟩)) 12 rfl (by kernel_rfl) rfl rfl (fun w' e' => y_move rfl) ?_
          refine m_y (v := .pointer (some (sat aq ((k).toNat * 9)))) 13 rfl (by kernel_rfl) rfl rfl (fun w' e' => y_move rfl) ?_
          refine m_y (v := .pointer (some (sat aq ((k).toNat * 9)))) 14 rfl (by kernel_rfl) rfl rfl (fun w' e' => y_nil rfl) ?_
          refine m_y (v := .pointer (some (sat aq ((k).toNat * 9)))) 15 rfl (by kernel_rfl) rfl rfl (fun w' e' => y_fldEl (j := (k).toNat * 9) T80.fld_101_0_0 rfl ((B.r 1 rfl).addr (by omega))) ?_
          obtain ⟨r30, r31, hr32, hr33, hR29⟩ := Rd.atS (B0_9.r 1 rfl) k (by omega) (by omega)
          refine m_y (v := .int .i64 ((gl Xq k).x)) 16 rfl (by kernel_rfl) rfl rfl (fun w' e' => y_load T80.one_2 rfl ((hR29.ext0 e').cell (i := 0) rfl)) ?_
          refine m_y (v := .pointer (some (sat aq ((k).toNat * 9)))) 17 rfl (by kernel_rfl) rfl rfl (fun w' e' => y_move rfl) ?_
          refine m_y (v := .pointer (some (sat aq ((k).toNat * 9)))) 18 rfl (by kernel_rfl) rfl rfl (fun w' e' => y_nil rfl) ?_
          refine m_y (v := .pointer (some (sat aq ((k).toNat * 9 + 1)))) 19 rfl (by kernel_rfl) rfl rfl (fun w' e' => y_fldEl (j := (k).toNat * 9) T80.fld_101_1_1 rfl ((B.r 1 rfl).addr (by omega))) ?_
          obtain ⟨r35, r36, hr37, hr38, hR34⟩ := Rd.atS (B0_9.r 1 rfl) k (by omega) (by omega)
          refine m_y (v := .int .i64 ((gl Xq k).y)) 20 rfl (by kernel_rfl) rfl rfl (fun w' e' => y_load T80.one_2 rfl ((hR34.ext0 e').cell (i := 1) rfl)) ?_
          refine m_k 21 [22, 23, 24, 25, 26, 27, 28, 29] rfl (by kernel_rfl) rfl rfl (fun w39 e40 => ?_)
          replace R10 := R10.trans (Ext0.any e40)
          replace B := B.ext0 e40
          clear e40
          refine k_call T80.fn_85 (c_s_l02Border (B.s 0 rfl) (by omega) (by omega) (by omega) (by omega)) rfl ?_
          rintro v43 w41 ⟨hv44, e42⟩
          replace R10 := R10.trans (Ext0.any e42)
          replace B := B.ext0 e42
          clear e42
          refine ⟨fun _ => R10, ?_⟩
          by_cases c45 : bordB wd hi wr ((gl Xq k).x) ((gl Xq k).y) = true
          · obtain rfl : v43 = .bool true := hv44.trans (congrArg Value.bool c45)
            refine m_y (v := .bool true) 22 rfl (by kernel_rfl) rfl rfl (fun w' e' => y_pick_f rfl rfl) ?_
            refine m_y (v := .bool true) 23 rfl (by kernel_rfl) rfl rfl (fun w' e' => y_move rfl) ?_
            refine m_skip 24 rfl (by kernel_rfl) rfl ?_
            refine m_skip 25 rfl (by kernel_rfl) rfl ?_
            refine m_skip 26 rfl (by kernel_rfl) rfl ?_
            refine m_skip 27 rfl (by kernel_rfl) rfl ?_
            refine m_skip 28 rfl (by kernel_rfl) rfl ?_
            refine m_y (v := .bool true) 29 rfl (by kernel_rfl) rfl rfl (fun w' e' => y_pick_t rfl rfl) ?_
            refine m_done (by kernel_rfl) (fun w46 e47 => ?_)
            replace B := B.ext0 e47
            clear e47
            clear B0_9 R10
            refine W_if_t (by decide) rfl ?_
            refine W_seq ?_
            refine W_region (by kernel_rfl) ?_
            refine s_y (v := .bool false) rfl (y_assign rfl) ?_
            refine s_nil ?_
            refine W_ret ?_
            refine ret1 (v := .bool false) rfl rfl rfl ⟨_, rfl, ?_⟩
            exact ⟨congrArg Value.bool ((srcsB_no (i := k) (by omega) (by omega) (by simp only [srcB, (decide_eq_false c1), (decide_eq_true c4), c27, c45, Bool.and_true, Bool.true_and, Bool.and_false, Bool.false_and, Bool.not_true, Bool.not_false, Bool.or_true, Bool.true_or, Bool.or_false, Bool.false_or])).symm), B.ext⟩
          · obtain rfl : v43 = .bool false := hv44.trans (congrArg Value.bool (Bool.eq_false_iff.2 c45))
            refine m_y (v := .bool false) 22 rfl (by kernel_rfl) rfl rfl (fun w' e' => y_pick_f rfl rfl) ?_
            refine m_y (v := .bool false) 23 rfl (by kernel_rfl) rfl rfl (fun w' e' => y_move rfl) ?_
            refine m_y (v := .pointer (some (sat aq ((k).toNat * 9)))) 24 rfl (by kernel_rfl) rfl rfl (fun w' e' => y_move rfl) ?_
            refine m_y (v := .pointer (some (sat aq ((k).toNat * 9)))) 25 rfl (by kernel_rfl) rfl rfl (fun w' e' => y_nil rfl) ?_
            refine m_y (v := .pointer (some (sat aq ((k).toNat * 9 + 3)))) 26 rfl (by kernel_rfl) rfl rfl (fun w' e' => y_fldEl (j := (k).toNat * 9) T80.fld_101_3_3 rfl ((B.r 1 rfl).addr (by omega))) ?_
            refine m_k 27 [28, 29] rfl (by kernel_rfl) rfl rfl (fun w48 e49 => ?_)
            replace R10 := R10.trans (Ext0.any e49)
            replace B := B.ext0 e49
            clear e49
            obtain ⟨r51, r52, hr53, hr54, hR50⟩ := Rd.atS (B.r 1 rfl) k (by omega) (by omega)
            have hR55 : Row _ aq ((k).toNat * 9 + 3) [.int .i64 ((gl Xq k).kd), .int .i64 ((gl Xq k).tt), .int .i64 ((gl Xq k).ln), .float .f32 r51, .float .f32 r52, .int .i64 ((gl Xq k).sd)] := (hR50.part (o := 3) (m := 6) rfl)
            refine k_call T80.fn_109 (c_s_l04Is hr53 hr54 hR55.toSl) (congrArg (fun pq => [pq]) (ptr_eq hR55 (Nat.le_of_ble_eq_true rfl))) ?_
            rintro v58 w56 ⟨hv59, e57⟩
            replace R10 := R10.trans (Ext0.any e57)
            replace B := B.ext0 e57
            clear e57
            refine ⟨fun _ => R10, ?_⟩
            by_cases c60 : validW ((gl Xq k).kd) ((gl Xq k).tt) ((gl Xq k).ln) ((gl Xq k).tn) ((gl Xq k).sd) = true
            · have hb61 := validW_b c60
              obtain rfl : v58 = .bool true := hv59.trans (congrArg Value.bool c60)
              refine m_y (v := .bool false) 28 rfl (by kernel_rfl) rfl rfl (fun w' e' => y_not rfl rfl) ?_
              refine m_y (v := .bool false) 29 rfl (by kernel_rfl) rfl rfl (fun w' e' => y_pick_f rfl rfl) ?_
              refine m_done (by kernel_rfl) (fun w62 e63 => ?_)
              replace B := B.ext0 e63
              clear e63
              clear B0_9 R10
              refine W_if_f (by decide) rfl ?_
              refine W_skip ?_
              refine W_region (by kernel_rfl) ?_
              refine s_y (v := .int .i64 k) rfl (y_move rfl) ?_
              refine s_y (v := .int .i64 (k + 1)) rfl (y_add rfl rfl rfl (by omega)) ?_
              refine s_y (v := .int .i64 (k + 1)) rfl (y_assign rfl) ?_
              refine s_nil ?_
              refine ⟨⟨_, k + 1, Fits.eq ⟨rfl, rfl, rfl, trivial⟩, B, (by omega), (by omega), (allI_more (p := fun i => srcB wd hi wr (gl Xq i)) hq (by simp only [srcB, (decide_eq_false c1), (decide_eq_true c4), c27, (Bool.eq_false_iff.2 c45), c60, Bool.and_true, Bool.true_and, Bool.and_false, Bool.false_and, Bool.not_true, Bool.not_false, Bool.or_true, Bool.true_or, Bool.or_false, Bool.false_or]))⟩, ?_⟩
              show ((nq : Int) - (k + 1)).toNat < ((nq : Int) - k).toNat
              omega
            · obtain rfl : v58 = .bool false := hv59.trans (congrArg Value.bool (Bool.eq_false_iff.2 c60))
              refine m_y (v := .bool true) 28 rfl (by kernel_rfl) rfl rfl (fun w' e' => y_not rfl rfl) ?_
              refine m_y (v := .bool true) 29 rfl (by kernel_rfl) rfl rfl (fun w' e' => y_pick_f rfl rfl) ?_
              refine m_done (by kernel_rfl) (fun w64 e65 => ?_)
              replace B := B.ext0 e65
              clear e65
              clear B0_9 R10
              refine W_if_t (by decide) rfl ?_
              refine W_seq ?_
              refine W_region (by kernel_rfl) ?_
              refine s_y (v := .bool false) rfl (y_assign rfl) ?_
              refine s_nil ?_
              refine W_ret ?_
              refine ret1 (v := .bool false) rfl rfl rfl ⟨_, rfl, ?_⟩
              exact ⟨congrArg Value.bool ((srcsB_no (i := k) (by omega) (by omega) (by simp only [srcB, (decide_eq_false c1), (decide_eq_true c4), c27, (Bool.eq_false_iff.2 c45), (Bool.eq_false_iff.2 c60), Bool.and_true, Bool.true_and, Bool.and_false, Bool.false_and, Bool.not_true, Bool.not_false, Bool.or_true, Bool.true_or, Bool.or_false, Bool.false_or])).symm), B.ext⟩
        · obtain rfl : v25 = .bool false := hv26.trans (congrArg Value.bool (Bool.eq_false_iff.2 c27))
          refine m_y (v := .bool true) 10 rfl (by kernel_rfl) rfl rfl (fun w' e' => y_not rfl rfl) ?_
          refine m_y (v := .bool true) 11 rfl (by kernel_rfl) rfl rfl (fun w' e' => y_move rfl) ?_
          refine m_skip 12 rfl (by kernel_rfl) rfl ?_
          refine m_skip 13 rfl (by kernel_rfl) rfl ?_
          refine m_skip 14 rfl (by kernel_rfl) rfl ?_
          refine m_skip 15 rfl (by kernel_rfl) rfl ?_
          refine m_skip 16 rfl (by kernel_rfl) rfl ?_
          refine m_skip 17 rfl (by kernel_rfl) rfl ?_
          refine m_skip 18 rfl (by kernel_rfl) rfl ?_
          refine m_skip 19 rfl (by kernel_rfl) rfl ?_
          refine m_skip 20 rfl (by kernel_rfl) rfl ?_
          refine m_skip 21 rfl (by kernel_rfl) rfl ?_
          refine m_y (v := .bool true) 22 rfl (by kernel_rfl) rfl rfl (fun w' e' => y_pick_t rfl rfl) ?_
          refine m_y (v := .bool true) 23 rfl (by kernel_rfl) rfl rfl (fun w' e' => y_move rfl) ?_
          refine m_skip 24 rfl (by kernel_rfl) rfl ?_
          refine m_skip 25 rfl (by kernel_rfl) rfl ?_
          refine m_skip 26 rfl (by kernel_rfl) rfl ?_
          refine m_skip 27 rfl (by kernel_rfl) rfl ?_
          refine m_skip 28 rfl (by kernel_rfl) rfl ?_
          refine m_y (v := .bool true) 29 rfl (by kernel_rfl) rfl rfl (fun w' e' => y_pick_t rfl rfl) ?_
          refine m_done (by kernel_rfl) (fun w66 e67 => ?_)
          replace B := B.ext0 e67
          clear e67
          clear B0_9 R10
          refine W_if_t (by decide) rfl ?_
          refine W_seq ?_
          refine W_region (by kernel_rfl) ?_
          refine s_y (v := .bool false) rfl (y_assign rfl) ?_
          refine s_nil ?_
          refine W_ret ?_
          refine ret1 (v := .bool false) rfl rfl rfl ⟨_, rfl, ?_⟩
          exact ⟨congrArg Value.bool ((srcsB_no (i := k) (by omega) (by omega) (by simp only [srcB, (decide_eq_false c1), (decide_eq_true c4), (Bool.eq_false_iff.2 c27), Bool.and_true, Bool.true_and, Bool.and_false, Bool.false_and, Bool.not_true, Bool.not_false, Bool.or_true, Bool.true_or, Bool.or_false, Bool.false_or])).symm), B.ext⟩
      · refine s_y (v := .bool false) rfl (y_lss rfl rfl (decide_eq_false c4)) ?_
        refine s_nil ?_
        refine W_if_f (by decide) rfl ?_
        refine W_exit ?_
        refine W_seq ?_
        refine W_region (by kernel_rfl) ?_
        refine s_y (v := .bool true) rfl (y_assign rfl) ?_
        refine s_nil ?_
        refine W_ret ?_
        refine ret1 (v := .bool true) rfl rfl rfl ⟨_, rfl, ?_⟩
        exact ⟨congrArg Value.bool ((srcsB_yes (by omega) (fun i h0 h1 => hq i h0 (by omega))).symm), B.ext⟩
namespace T44
theorem mx : Try.prog.follows .mixedOrders = true := by kernel_rfl
theorem fn_68 : fnB Try.prog 68 = true := by kernel_rfl
theorem fn_80 : fnB Try.prog 80 = true := by kernel_rfl
end T44
set_option maxRecDepth 100000 in
set_option maxHeartbeats 4000000 in
theorem c_s_AreSources {wd : Int} {hi : Int} {wr : Bool} {asp : Option Addr} {nsp : Nat} {csp : Nat} {Xsp : List Nat} {als : Option Addr} {nls : Nat} {cls : Nat} {Xls : List Nat} {aq : Option Addr} {nq : Nat} {cq : Nat} {Xq : List Src} {w : World} (qsp : Rd w kF asp nsp Xsp) (qls : Rd w kF als nls Xls) (qq : Rd w kS aq nq Xq) (hbsp : nsp ≤ 9223372036854775806) (hbls : nls ≤ 9223372036854775806) :
    Calls Try.prog 44 #[.agg #[.int .i64 wd, .int .i64 hi, .bool wr, .slice asp nsp csp, .slice als nls cls], .slice aq nq cq] w (Rt fun v w' => v = .bool (areSrcB wd hi wr Xsp Xls Xq) ∧ Ext0 w w') := by
  have hlsp := qsp.len
  have hlls := qls.len
  have hlq := qq.len
  have B : Bu w no w [.rd kF asp nsp Xsp, .rd kF als nls Xls, .rd kS aq nq Xq] := Bu.ro (All.cons qsp (All.cons qls (All.cons qq All.nil))) rfl
  refine calls_W (n := 10) Try.func44 rfl rfl (Nat.le_of_ble_eq_true rfl) ?_
  refine W_seq ?_
  refine W_region (by kernel_rfl) ?_
  refine s_k rfl (k_boxN (v := .agg #[.int .i64 wd, .int .i64 hi, .bool wr, .slice asp nsp csp, .slice als nls cls]) (cs := [.int .i64 wd, .int .i64 hi, .bool wr, .slice asp nsp csp, .slice als nls cls]) rfl rfl (fun b1 w2 hN3 => ?_))
  replace B := B.new1 hN3
  clear hN3
  refine s_y (v := .bool false) rfl (y_assign rfl) ?_
  refine s_nil ?_
  refine W_seq ?_
  refine W_region (by kernel_rfl) ?_
  refine s_k rfl (k_call T44.fn_68 (c_s_l02Is (B.r 1 rfl) (B.r 2 rfl) ((B.b 0 rfl).sl) (by omega) (by omega)) rfl ?_)
  rintro v6 w4 ⟨hv7, e5⟩
  replace B := B.ext0 e5
  clear e5
  by_cases c8 : validS wd hi Xsp Xls = true
  · have hb9 := validS_b c8
    obtain rfl : v6 = .bool true := hv7.trans (congrArg Value.bool c8)
    refine s_y (v := .bool true) rfl (y_move rfl) ?_
    refine s_y (v := .slice aq nq cq) rfl (y_move rfl) ?_
    refine s_k rfl (k_call T44.fn_80 (c_s_l04Sources ((B.b 0 rfl).sl) (B.r 3 rfl) (by omega) (by omega) (by omega) (by omega)) rfl ?_)
    rintro v12 w10 ⟨hv13, e11⟩
    replace B := B.ext0 e11
    clear e11
    by_cases c14 : srcsB wd hi wr Xq = true
    · have hb15 := srcsB_b c14
      obtain rfl : v12 = .bool true := hv13.trans (congrArg Value.bool c14)
      refine s_y (v := .bool true) rfl (y_pick_t rfl rfl) ?_
      refine s_y (v := .bool true) rfl (y_assign rfl) ?_
      refine s_nil ?_
      refine W_ret ?_
      refine ret1 (v := .bool true) rfl rfl rfl ⟨_, rfl, ?_⟩
      exact ⟨congrArg Value.bool (by simp only [areSrcB, c8, c14, Bool.and_true, Bool.true_and, Bool.and_false, Bool.false_and, Bool.not_true, Bool.not_false, Bool.or_true, Bool.true_or, Bool.or_false, Bool.false_or]), B.ext⟩
    · obtain rfl : v12 = .bool false := hv13.trans (congrArg Value.bool (Bool.eq_false_iff.2 c14))
      refine s_y (v := .bool false) rfl (y_pick_t rfl rfl) ?_
      refine s_y (v := .bool false) rfl (y_assign rfl) ?_
      refine s_nil ?_
      refine W_ret ?_
      refine ret1 (v := .bool false) rfl rfl rfl ⟨_, rfl, ?_⟩
      exact ⟨congrArg Value.bool (by simp only [areSrcB, c8, (Bool.eq_false_iff.2 c14), Bool.and_true, Bool.true_and, Bool.and_false, Bool.false_and, Bool.not_true, Bool.not_false, Bool.or_true, Bool.true_or, Bool.or_false, Bool.false_or]), B.ext⟩
  · obtain rfl : v6 = .bool false := hv7.trans (congrArg Value.bool (Bool.eq_false_iff.2 c8))
    refine s_y (v := .bool false) rfl (y_move rfl) ?_
    refine s_skip rfl ?_
    refine s_skip rfl ?_
    refine s_y (v := .bool false) rfl (y_pick_f rfl rfl) ?_
    refine s_y (v := .bool false) rfl (y_assign rfl) ?_
    refine s_nil ?_
    refine W_ret ?_
    refine ret1 (v := .bool false) rfl rfl rfl ⟨_, rfl, ?_⟩
    exact ⟨congrArg Value.bool (by simp only [areSrcB, (Bool.eq_false_iff.2 c8), Bool.and_true, Bool.true_and, Bool.and_false, Bool.false_and, Bool.not_true, Bool.not_false, Bool.or_true, Bool.true_or, Bool.or_false, Bool.false_or]), B.ext⟩
namespace T111
theorem mx : Try.prog.follows .mixedOrders = true := by kernel_rfl
theorem fn_64 : fnB Try.prog 64 = true := by kernel_rfl
end T111
set_option maxRecDepth 100000 in
set_option maxHeartbeats 4000000 in
theorem c_i_isTick {n : Int} {w : World} :
    Calls Try.prog 111 #[.int .i64 n] w (Rt fun v w' => v = .bool (isTick n) ∧ Ext0 w w') := by
  have B : Bu w no w [] := Bu.ro All.nil rfl
  refine calls_W (n := 5) Try.func111 rfl rfl (Nat.le_of_ble_eq_true rfl) ?_
  refine W_seq ?_
  refine W_region (by kernel_rfl) ?_
  refine s_y (v := .bool false) rfl (y_assign rfl) ?_
  refine s_nil ?_
  refine W_seq ?_
  refine W_region (by kernel_rfl) ?_
  refine s_y (v := .int .i64 n) rfl (y_move rfl) ?_
  refine s_k rfl (k_call T111.fn_64 (c_i_within) rfl ?_)
  rintro v3 w1 ⟨hv4, e2⟩
  replace B := B.ext0 e2
  clear e2
  by_cases c5 : within n 0 1000000 = true
  · have hb6 := within_b c5
    obtain rfl : v3 = .bool true := hv4.trans (congrArg Value.bool c5)
    refine s_y (v := .bool true) rfl (y_assign rfl) ?_
    refine s_nil ?_
    refine W_ret ?_
    refine ret1 (v := .bool true) rfl rfl rfl ⟨_, rfl, ?_⟩
    exact ⟨congrArg Value.bool (by simp [isTick, *]), B.ext⟩
  · obtain rfl : v3 = .bool false := hv4.trans (congrArg Value.bool (Bool.eq_false_iff.2 c5))
    refine s_y (v := .bool false) rfl (y_assign rfl) ?_
    refine s_nil ?_
    refine W_ret ?_
    refine ret1 (v := .bool false) rfl rfl rfl ⟨_, rfl, ?_⟩
    exact ⟨congrArg Value.bool (by simp [isTick, *]), B.ext⟩
namespace T112
theorem mx : Try.prog.follows .mixedOrders = true := by kernel_rfl
end T112
set_option maxRecDepth 100000 in
set_option maxHeartbeats 4000000 in
theorem c_i_IsFinite {x : Nat} {X : Nat} {w : World} (hx : can .f32 x = X) :
    Calls Try.prog 112 #[.float .f32 x] w (Rt fun v w' => v = .bool (finB X) ∧ Ext0 w w') := by
  have B : Bu w no w [] := Bu.ro All.nil rfl
  refine calls_W (n := 7) Try.func112 rfl rfl (Nat.le_of_ble_eq_true rfl) ?_
  refine W_seq ?_
  refine W_region (by kernel_rfl) ?_
  refine s_y (v := .bool false) rfl (y_assign rfl) ?_
  refine s_nil ?_
  refine W_seq ?_
  refine W_region (by kernel_rfl) ?_
  refine s_y (v := .float .f32 x) rfl (y_move rfl) ?_
  refine s_y (v := .float .f32 x) rfl (y_move rfl) ?_
  refine s_n rfl (n_arith (by decide) rfl rfl) ?_
  rintro _ w4 e5 ⟨r2, rfl, hr3⟩
  replace B := B.ext0 e5
  clear e5
  have hc6 := fopC hr3 hx hx
  by_cases c7 : feq .f32 (fop .sub .f32 X X) 0 = true
  · refine s_y (v := .bool true) rfl (y_feql rfl rfl (feqC hc6 (show can .f32 0 = 0 by kernel_rfl) c7)) ?_
    refine s_y (v := .bool true) rfl (y_assign rfl) ?_
    refine s_nil ?_
    refine W_ret ?_
    refine ret1 (v := .bool true) rfl rfl rfl ⟨_, rfl, ?_⟩
    exact ⟨congrArg Value.bool (by simp_all [finB]), B.ext⟩
  · refine s_y (v := .bool false) rfl (y_feql rfl rfl (feqC hc6 (show can .f32 0 = 0 by kernel_rfl) (Bool.eq_false_iff.2 c7))) ?_
    refine s_y (v := .bool false) rfl (y_assign rfl) ?_
    refine s_nil ?_
    refine W_ret ?_
    refine ret1 (v := .bool false) rfl rfl rfl ⟨_, rfl, ?_⟩
    exact ⟨congrArg Value.bool (by simp_all [finB]), B.ext⟩
namespace T113
theorem mx : Try.prog.follows .mixedOrders = true := by kernel_rfl
theorem fn_64 : fnB Try.prog 64 = true := by kernel_rfl
end T113
set_option maxRecDepth 100000 in
set_option maxHeartbeats 4000000 in
theorem c_i_isSeed {n : Int} {w : World} :
    Calls Try.prog 113 #[.int .i64 n] w (Rt fun v w' => v = .bool (isSeed n) ∧ Ext0 w w') := by
  have B : Bu w no w [] := Bu.ro All.nil rfl
  refine calls_W (n := 5) Try.func113 rfl rfl (Nat.le_of_ble_eq_true rfl) ?_
  refine W_seq ?_
  refine W_region (by kernel_rfl) ?_
  refine s_y (v := .bool false) rfl (y_assign rfl) ?_
  refine s_nil ?_
  refine W_seq ?_
  refine W_region (by kernel_rfl) ?_
  refine s_y (v := .int .i64 n) rfl (y_move rfl) ?_
  refine s_k rfl (k_call T113.fn_64 (c_i_within) rfl ?_)
  rintro v3 w1 ⟨hv4, e2⟩
  replace B := B.ext0 e2
  clear e2
  by_cases c5 : within n 0 2147483647 = true
  · have hb6 := within_b c5
    obtain rfl : v3 = .bool true := hv4.trans (congrArg Value.bool c5)
    refine s_y (v := .bool true) rfl (y_assign rfl) ?_
    refine s_nil ?_
    refine W_ret ?_
    refine ret1 (v := .bool true) rfl rfl rfl ⟨_, rfl, ?_⟩
    exact ⟨congrArg Value.bool (by simp [isSeed, *]), B.ext⟩
  · obtain rfl : v3 = .bool false := hv4.trans (congrArg Value.bool (Bool.eq_false_iff.2 c5))
    refine s_y (v := .bool false) rfl (y_assign rfl) ?_
    refine s_nil ?_
    refine W_ret ?_
    refine ret1 (v := .bool false) rfl rfl rfl ⟨_, rfl, ?_⟩
    exact ⟨congrArg Value.bool (by simp [isSeed, *]), B.ext⟩
namespace T83
theorem mx : Try.prog.follows .mixedOrders = true := by kernel_rfl
theorem fld_99_0_0 : fldB Try.prog 99 0 0 = true := by kernel_rfl
theorem fld_99_1_1 : fldB Try.prog 99 1 1 = true := by kernel_rfl
theorem fld_99_2_2 : fldB Try.prog 99 2 2 = true := by kernel_rfl
theorem fld_99_3_3 : fldB Try.prog 99 3 3 = true := by kernel_rfl
theorem fld_99_5_5 : fldB Try.prog 99 5 5 = true := by kernel_rfl
theorem fn_111 : fnB Try.prog 111 = true := by kernel_rfl
theorem fn_112 : fnB Try.prog 112 = true := by kernel_rfl
theorem fn_113 : fnB Try.prog 113 = true := by kernel_rfl
theorem fn_64 : fnB Try.prog 64 = true := by kernel_rfl
theorem one_2 : oneB Try.prog 2 = true := by kernel_rfl
theorem one_56 : oneB Try.prog 56 = true := by kernel_rfl
end T83
set_option maxRecDepth 100000 in
set_option maxHeartbeats 4000000 in
theorem c_i_ValidWave {kd : Int} {tt : Int} {ln : Int} {tn : Nat} {TN : Nat} {sz : Nat} {SZ : Nat} {sd : Int} {w : World} (htn : can .f32 tn = TN) (hsz : can .f32 sz = SZ) :
    Calls Try.prog 83 #[.agg #[.int .i64 kd, .int .i64 tt, .int .i64 ln, .float .f32 tn, .float .f32 sz, .int .i64 sd]] w (Rt fun v w' => v = .bool (validW kd tt ln TN sd) ∧ Ext0 w w') := by
  have B : Bu w no w [] := Bu.ro All.nil rfl
  refine calls_W (n := 26) Try.func83 rfl rfl (Nat.le_of_ble_eq_true rfl) ?_
  refine W_seq ?_
  refine W_region (by kernel_rfl) ?_
  refine s_k rfl (k_boxN (v := .agg #[.int .i64 kd, .int .i64 tt, .int .i64 ln, .float .f32 tn, .float .f32 sz, .int .i64 sd]) (cs := [.int .i64 kd, .int .i64 tt, .int .i64 ln, .float .f32 tn, .float .f32 sz, .int .i64 sd]) rfl rfl (fun b1 w2 hN3 => ?_))
  replace B := B.new1 hN3
  clear hN3
  refine s_y (v := .bool false) rfl (y_assign rfl) ?_
  refine s_nil ?_
  refine W_seq ?_
  refine W_region (by kernel_rfl) ?_
  refine s_y (v := .pointer (some ⟨b1, 0, none⟩)) rfl (y_fld (o := 0) T83.fld_99_0_0 rfl) ?_
  refine s_y (v := .int .i64 kd) rfl (y_load T83.one_2 rfl ((B.b 0 rfl).cell (j := 0) rfl)) ?_
  refine s_k rfl (k_call T83.fn_64 (c_i_within) rfl ?_)
  rintro v6 w4 ⟨hv7, e5⟩
  replace B := B.ext0 e5
  clear e5
  by_cases c8 : within kd 0 4 = true
  · have hb9 := within_b c8
    obtain rfl : v6 = .bool true := hv7.trans (congrArg Value.bool c8)
    refine s_y (v := .bool true) rfl (y_move rfl) ?_
    refine s_y (v := .pointer (some ⟨b1, 1, none⟩)) rfl (y_fld (o := 0) T83.fld_99_1_1 rfl) ?_
    refine s_y (v := .int .i64 tt) rfl (y_load T83.one_2 rfl ((B.b 0 rfl).cell (j := 1) rfl)) ?_
    refine s_k rfl (k_call T83.fn_111 (c_i_isTick) rfl ?_)
    rintro v12 w10 ⟨hv13, e11⟩
    replace B := B.ext0 e11
    clear e11
    by_cases c14 : isTick tt = true
    · have hb15 := isTick_b c14
      obtain rfl : v12 = .bool true := hv13.trans (congrArg Value.bool c14)
      refine s_y (v := .bool true) rfl (y_pick_t rfl rfl) ?_
      refine s_y (v := .bool true) rfl (y_move rfl) ?_
      refine s_y (v := .pointer (some ⟨b1, 2, none⟩)) rfl (y_fld (o := 0) T83.fld_99_2_2 rfl) ?_
      refine s_y (v := .int .i64 ln) rfl (y_load T83.one_2 rfl ((B.b 0 rfl).cell (j := 2) rfl)) ?_
      refine s_k rfl (k_call T83.fn_64 (c_i_within) rfl ?_)
      rintro v18 w16 ⟨hv19, e17⟩
      replace B := B.ext0 e17
      clear e17
      by_cases c20 : within ln 1 1000000 = true
      · have hb21 := within_b c20
        obtain rfl : v18 = .bool true := hv19.trans (congrArg Value.bool c20)
        refine s_y (v := .bool true) rfl (y_pick_t rfl rfl) ?_
        refine s_y (v := .bool true) rfl (y_move rfl) ?_
        refine s_y (v := .pointer (some ⟨b1, 3, none⟩)) rfl (y_fld (o := 0) T83.fld_99_3_3 rfl) ?_
        refine s_y (v := .float .f32 tn) rfl (y_load T83.one_56 rfl ((B.b 0 rfl).cell (j := 3) rfl)) ?_
        refine s_k rfl (k_call T83.fn_112 (c_i_IsFinite htn) rfl ?_)
        rintro v24 w22 ⟨hv25, e23⟩
        replace B := B.ext0 e23
        clear e23
        by_cases c26 : finB TN = true
        · obtain rfl : v24 = .bool true := hv25.trans (congrArg Value.bool c26)
          refine s_y (v := .bool true) rfl (y_pick_t rfl rfl) ?_
          refine s_y (v := .bool true) rfl (y_move rfl) ?_
          refine s_y (v := .pointer (some ⟨b1, 5, none⟩)) rfl (y_fld (o := 0) T83.fld_99_5_5 rfl) ?_
          refine s_y (v := .int .i64 sd) rfl (y_load T83.one_2 rfl ((B.b 0 rfl).cell (j := 5) rfl)) ?_
          refine s_k rfl (k_call T83.fn_113 (c_i_isSeed) rfl ?_)
          rintro v29 w27 ⟨hv30, e28⟩
          replace B := B.ext0 e28
          clear e28
          by_cases c31 : isSeed sd = true
          · have hb32 := isSeed_b c31
            obtain rfl : v29 = .bool true := hv30.trans (congrArg Value.bool c31)
            refine s_y (v := .bool true) rfl (y_pick_t rfl rfl) ?_
            refine s_y (v := .bool true) rfl (y_assign rfl) ?_
            refine s_nil ?_
            refine W_ret ?_
            refine ret1 (v := .bool true) rfl rfl rfl ⟨_, rfl, ?_⟩
            exact ⟨congrArg Value.bool (by simp [validW, *]), B.ext⟩
          · obtain rfl : v29 = .bool false := hv30.trans (congrArg Value.bool (Bool.eq_false_iff.2 c31))
            refine s_y (v := .bool false) rfl (y_pick_t rfl rfl) ?_
            refine s_y (v := .bool false) rfl (y_assign rfl) ?_
            refine s_nil ?_
            refine W_ret ?_
            refine ret1 (v := .bool false) rfl rfl rfl ⟨_, rfl, ?_⟩
            exact ⟨congrArg Value.bool (by simp [validW, *]), B.ext⟩
        · obtain rfl : v24 = .bool false := hv25.trans (congrArg Value.bool (Bool.eq_false_iff.2 c26))
          refine s_y (v := .bool false) rfl (y_pick_t rfl rfl) ?_
          refine s_y (v := .bool false) rfl (y_move rfl) ?_
          refine s_skip rfl ?_
          refine s_skip rfl ?_
          refine s_skip rfl ?_
          refine s_y (v := .bool false) rfl (y_pick_f rfl rfl) ?_
          refine s_y (v := .bool false) rfl (y_assign rfl) ?_
          refine s_nil ?_
          refine W_ret ?_
          refine ret1 (v := .bool false) rfl rfl rfl ⟨_, rfl, ?_⟩
          exact ⟨congrArg Value.bool (by simp [validW, *]), B.ext⟩
      · obtain rfl : v18 = .bool false := hv19.trans (congrArg Value.bool (Bool.eq_false_iff.2 c20))
        refine s_y (v := .bool false) rfl (y_pick_t rfl rfl) ?_
        refine s_y (v := .bool false) rfl (y_move rfl) ?_
        refine s_skip rfl ?_
        refine s_skip rfl ?_
        refine s_skip rfl ?_
        refine s_y (v := .bool false) rfl (y_pick_f rfl rfl) ?_
        refine s_y (v := .bool false) rfl (y_move rfl) ?_
        refine s_skip rfl ?_
        refine s_skip rfl ?_
        refine s_skip rfl ?_
        refine s_y (v := .bool false) rfl (y_pick_f rfl rfl) ?_
        refine s_y (v := .bool false) rfl (y_assign rfl) ?_
        refine s_nil ?_
        refine W_ret ?_
        refine ret1 (v := .bool false) rfl rfl rfl ⟨_, rfl, ?_⟩
        exact ⟨congrArg Value.bool (by simp [validW, *]), B.ext⟩
    · obtain rfl : v12 = .bool false := hv13.trans (congrArg Value.bool (Bool.eq_false_iff.2 c14))
      refine s_y (v := .bool false) rfl (y_pick_t rfl rfl) ?_
      refine s_y (v := .bool false) rfl (y_move rfl) ?_
      refine s_skip rfl ?_
      refine s_skip rfl ?_
      refine s_skip rfl ?_
      refine s_y (v := .bool false) rfl (y_pick_f rfl rfl) ?_
      refine s_y (v := .bool false) rfl (y_move rfl) ?_
      refine s_skip rfl ?_
      refine s_skip rfl ?_
      refine s_skip rfl ?_
      refine s_y (v := .bool false) rfl (y_pick_f rfl rfl) ?_
      refine s_y (v := .bool false) rfl (y_move rfl) ?_
      refine s_skip rfl ?_
      refine s_skip rfl ?_
      refine s_skip rfl ?_
      refine s_y (v := .bool false) rfl (y_pick_f rfl rfl) ?_
      refine s_y (v := .bool false) rfl (y_assign rfl) ?_
      refine s_nil ?_
      refine W_ret ?_
      refine ret1 (v := .bool false) rfl rfl rfl ⟨_, rfl, ?_⟩
      exact ⟨congrArg Value.bool (by simp [validW, *]), B.ext⟩
  · obtain rfl : v6 = .bool false := hv7.trans (congrArg Value.bool (Bool.eq_false_iff.2 c8))
    refine s_y (v := .bool false) rfl (y_move rfl) ?_
    refine s_skip rfl ?_
    refine s_skip rfl ?_
    refine s_skip rfl ?_
    refine s_y (v := .bool false) rfl (y_pick_f rfl rfl) ?_
    refine s_y (v := .bool false) rfl (y_move rfl) ?_
    refine s_skip rfl ?_
    refine s_skip rfl ?_
    refine s_skip rfl ?_
    refine s_y (v := .bool false) rfl (y_pick_f rfl rfl) ?_
    refine s_y (v := .bool false) rfl (y_move rfl) ?_
    refine s_skip rfl ?_
    refine s_skip rfl ?_
    refine s_skip rfl ?_
    refine s_y (v := .bool false) rfl (y_pick_f rfl rfl) ?_
    refine s_y (v := .bool false) rfl (y_move rfl) ?_
    refine s_skip rfl ?_
    refine s_skip rfl ?_
    refine s_skip rfl ?_
    refine s_y (v := .bool false) rfl (y_pick_f rfl rfl) ?_
    refine s_y (v := .bool false) rfl (y_assign rfl) ?_
    refine s_nil ?_
    refine W_ret ?_
    refine ret1 (v := .bool false) rfl rfl rfl ⟨_, rfl, ?_⟩
    exact ⟨congrArg Value.bool (by simp [validW, *]), B.ext⟩
namespace T46
theorem mx : Try.prog.follows .mixedOrders = true := by kernel_rfl
theorem agg_101_9 : aggB Try.prog 101 9 = true := by kernel_rfl
theorem agg_26_5 : aggB Try.prog 26 5 = true := by kernel_rfl
theorem agg_99_6 : aggB Try.prog 99 6 = true := by kernel_rfl
theorem fld_101_0_0 : fldB Try.prog 101 0 0 = true := by kernel_rfl
theorem fld_101_1_1 : fldB Try.prog 101 1 1 = true := by kernel_rfl
theorem fld_101_3_3 : fldB Try.prog 101 3 3 = true := by kernel_rfl
theorem fn_19 : fnB Try.prog 19 = true := by kernel_rfl
theorem fn_66 : fnB Try.prog 66 = true := by kernel_rfl
theorem fn_82 : fnB Try.prog 82 = true := by kernel_rfl
theorem fn_83 : fnB Try.prog 83 = true := by kernel_rfl
theorem one_2 : oneB Try.prog 2 = true := by kernel_rfl
theorem sl_65_101_9 : slB Try.prog 65 101 9 = true := by kernel_rfl
theorem sz_101_9 : szB Try.prog 101 9 = true := by kernel_rfl
theorem zero_101 : zeroB Try.prog 101 (.agg #[.int .i64 0, .int .i64 0, .bool false, .int .i64 0, .int .i64 0, .int .i64 0, .float .f32 0, .float .f32 0, .int .i64 0]) := by unfold zeroB; kernel_rfl
end T46
set_option maxRecDepth 100000 in
set_option maxHeartbeats 4000000 in
theorem c_i_AreSources {wd : Int} {hi : Int} {wr : Bool} {asp : Option Addr} {nsp : Nat} {csp : Nat} {Xsp : List Nat} {als : Option Addr} {nls : Nat} {cls : Nat} {Xls : List Nat} {aq : Option Addr} {nq : Nat} {cq : Nat} {Xq : List Src} {w : World} (qsp : Rd w kF asp nsp Xsp) (qls : Rd w kF als nls Xls) (qq : Rd w kS aq nq Xq) (hbsp : nsp ≤ 9223372036854775806) (hbls : nls ≤ 9223372036854775806) :
    Calls Try.prog 46 #[.agg #[.int .i64 wd, .int .i64 hi, .bool wr, .slice asp nsp csp, .slice als nls cls], .slice aq nq cq] w (Rt fun v w' => v = .bool (areSrcB wd hi wr Xsp Xls Xq) ∧ Ext0 w w') := by
  have hlsp := qsp.len
  have hlls := qls.len
  have hlq := qq.len
  have B : Bu w no w [.rd kF asp nsp Xsp, .rd kF als nls Xls, .rd kS aq nq Xq] := Bu.ro (All.cons qsp (All.cons qls (All.cons qq All.nil))) rfl
  refine calls_W (n := 43) Try.func46 rfl rfl (Nat.le_of_ble_eq_true rfl) ?_
  refine W_seq ?_
  refine W_region (by kernel_rfl) ?_
  refine s_k rfl (k_boxN (v := .agg #[.int .i64 wd, .int .i64 hi, .bool wr, .slice asp nsp csp, .slice als nls cls]) (cs := [.int .i64 wd, .int .i64 hi, .bool wr, .slice asp nsp csp, .slice als nls cls]) rfl rfl (fun b1 w2 hN3 => ?_))
  replace B := B.new1 hN3
  clear hN3
  refine s_y (v := .bool false) rfl (y_assign rfl) ?_
  refine s_nil ?_
  refine W_seq ?_
  refine W_seq ?_
  refine W_region (by kernel_rfl) ?_
  refine s_y (v := .agg #[.int .i64 wd, .int .i64 hi, .bool wr, .slice asp nsp csp, .slice als nls cls]) rfl (y_loadn (b := b1) (o := 0) (vs := [.int .i64 wd, .int .i64 hi, .bool wr, .slice asp nsp csp, .slice als nls cls]) T46.agg_26_5 rfl rfl ((B.b 0 rfl).cells (o := 0) rfl)) ?_
  refine s_k rfl (k_call T46.fn_19 (c_i_ValidSheet (B.r 1 rfl) (B.r 2 rfl) (by omega) (by omega)) rfl ?_)
  rintro v6 w4 ⟨hv7, e5⟩
  replace B := B.ext0 e5
  clear e5
  by_cases c8 : validS wd hi Xsp Xls = true
  · have hb9 := validS_b c8
    obtain rfl : v6 = .bool true := hv7.trans (congrArg Value.bool c8)
    refine s_y (v := .bool false) rfl (y_not rfl rfl) ?_
    refine s_y (v := .bool false) rfl (y_move rfl) ?_
    refine s_y (v := .slice aq nq cq) rfl (y_move rfl) ?_
    refine s_y (v := .int .i64 ((nq : Nat) : Int)) rfl (y_len T46.sl_65_101_9 rfl rfl) ?_
    by_cases c10 : 8 < ((nq : Nat) : Int)
    · refine s_y (v := .bool true) rfl (y_gtr rfl rfl (decide_eq_true c10)) ?_
      refine s_y (v := .bool true) rfl (y_pick_f rfl rfl) ?_
      refine s_nil ?_
      refine W_if_t (by decide) rfl ?_
      refine W_seq ?_
      refine W_region (by kernel_rfl) ?_
      refine s_y (v := .bool false) rfl (y_assign rfl) ?_
      refine s_nil ?_
      refine W_ret ?_
      refine ret1 (v := .bool false) rfl rfl rfl ⟨_, rfl, ?_⟩
      exact ⟨congrArg Value.bool (by first | exact (areSrc_n1 (by assumption)).symm | exact (areSrc_n2 (by omega)).symm), B.ext⟩
    · refine s_y (v := .bool false) rfl (y_gtr rfl rfl (decide_eq_false c10)) ?_
      refine s_y (v := .bool false) rfl (y_pick_f rfl rfl) ?_
      refine s_nil ?_
      refine W_if_f (by decide) rfl ?_
      refine W_skip ?_
      refine W_seq ?_
      refine W_seq ?_
      refine W_region (by kernel_rfl) ?_
      refine s_y (v := .slice aq nq cq) rfl (y_move rfl) ?_
      refine s_y (v := .int .i64 ((nq : Nat) : Int)) rfl (y_len T46.sl_65_101_9 rfl rfl) ?_
      refine s_y (v := .int .i64 0) rfl (y_move rfl) ?_
      refine s_nil ?_
      refine W_block ?_
      refine W_loop (fun ρ' w' => ∃ (ρ1 : Env) (k : Int), ρ' = updL ρ1 [(2, .pointer (some ⟨b1, 0, none⟩)), (15, .slice aq nq cq), (16, .int .i64 ((nq : Nat) : Int)), (17, .int .i64 k)] ∧ Bu w no w' [.blk b1 [.int .i64 wd, .int .i64 hi, .bool wr, .slice asp nsp csp, .slice als nls cls] 26, .rd kF asp nsp Xsp, .rd kF als nls Xls, .rd kS aq nq Xq] ∧ (0 ≤ k) ∧ (k ≤ (nq : Int)) ∧ (∀ i, 0 ≤ i → i < k → srcB wd hi wr (gl Xq i) = true)) (fun ρ' _ => ((nq : Int) - iv (ρ' 17)).toNat) ?_ ?_
      · exact ⟨_, 0, Fits.eq ⟨rfl, rfl, rfl, rfl, trivial⟩, B, (Int.le_refl _), (by omega), (by intro i h0 h1; omega)⟩
      · clear B; rintro _ w11 ⟨ρ12, k, rfl, B, h0k, h1k, hq⟩
        refine W_seq ?_
        refine W_region (by kernel_rfl) ?_
        by_cases c13 : k < ((nq : Nat) : Int)
        · refine s_y (v := .bool true) rfl (y_lss rfl rfl (decide_eq_true c13)) ?_
          refine s_nil ?_
          refine W_seq ?_
          refine W_if_t (by decide) rfl ?_
          refine W_skip ?_
          refine W_seq ?_
          refine W_block ?_
          refine W_seq ?_
          refine W_region (by kernel_rfl) ?_
          refine s_y (v := .pointer (some (sat aq ((k).toNat * 9)))) rfl (y_idx T46.sl_65_101_9 rfl rfl ((B.r 3 rfl).addr (by omega)) (by omega) (by omega)) ?_
          obtain ⟨r15, r16, hr17, hr18, hR14⟩ := Rd.atS (B.r 3 rfl) k (by omega) (by omega)
          refine s_y (v := .agg #[.int .i64 ((gl Xq k).x), .int .i64 ((gl Xq k).y), .bool ((gl Xq k).hd), .int .i64 ((gl Xq k).kd), .int .i64 ((gl Xq k).tt), .int .i64 ((gl Xq k).ln), .float .f32 r15, .float .f32 r16, .int .i64 ((gl Xq k).sd)]) rfl (y_loadR (vs := [.int .i64 ((gl Xq k).x), .int .i64 ((gl Xq k).y), .bool ((gl Xq k).hd), .int .i64 ((gl Xq k).kd), .int .i64 ((gl Xq k).tt), .int .i64 ((gl Xq k).ln), .float .f32 r15, .float .f32 r16, .int .i64 ((gl Xq k).sd)]) T46.agg_101_9 rfl rfl (by decide) hR14) ?_
          refine s_k rfl (k_allocN (z := (.agg #[.int .i64 0, .int .i64 0, .bool false, .int .i64 0, .int .i64 0, .int .i64 0, .float .f32 0, .float .f32 0, .int .i64 0])) (cs := [.int .i64 0, .int .i64 0, .bool false, .int .i64 0, .int .i64 0, .int .i64 0, .float .f32 0, .float .f32 0, .int .i64 0]) T46.zero_101 rfl (fun b19 w20 hN21 => ?_))
          replace B := B.new1 hN21
          clear hN21
          refine s_k0 rfl (k_stB (v := .agg #[.int .i64 ((gl Xq k).x), .int .i64 ((gl Xq k).y), .bool ((gl Xq k).hd), .int .i64 ((gl Xq k).kd), .int .i64 ((gl Xq k).tt), .int .i64 ((gl Xq k).ln), .float .f32 r15, .float .f32 r16, .int .i64 ((gl Xq k).sd)]) (n := 9) (cs' := [.int .i64 ((gl Xq k).x), .int .i64 ((gl Xq k).y), .bool ((gl Xq k).hd), .int .i64 ((gl Xq k).kd), .int .i64 ((gl Xq k).tt), .int .i64 ((gl Xq k).ln), .float .f32 r15, .float .f32 r16, .int .i64 ((gl Xq k).sd)]) T46.sz_101_9 rfl rfl rfl (B.b 0 rfl) (by simp [Value.cells, Value.oneCell']) (Nat.le_of_ble_eq_true rfl) rfl (fun w22 hU23 => ?_))
          replace B : Bu w no w22 [.blk b19 [.int .i64 ((gl Xq k).x), .int .i64 ((gl Xq k).y), .bool ((gl Xq k).hd), .int .i64 ((gl Xq k).kd), .int .i64 ((gl Xq k).tt), .int .i64 ((gl Xq k).ln), .float .f32 r15, .float .f32 r16, .int .i64 ((gl Xq k).sd)] 101, .blk b1 [.int .i64 wd, .int .i64 hi, .bool wr, .slice asp nsp csp, .slice als nls cls] 26, .rd kF asp nsp Xsp, .rd kF als nls Xls, .rd kS aq nq Xq] := B.upd [0] rfl hU23
          clear hU23
          refine s_nil ?_
          refine W_seq ?_
          refine W_region (by kernel_rfl) ?_
          refine s_y (v := .agg #[.int .i64 wd, .int .i64 hi, .bool wr, .slice asp nsp csp, .slice als nls cls]) rfl (y_loadn (b := b1) (o := 0) (vs := [.int .i64 wd, .int .i64 hi, .bool wr, .slice asp nsp csp, .slice als nls cls]) T46.agg_26_5 rfl rfl ((B.b 1 rfl).cells (o := 0) rfl)) ?_
          refine s_y (v := .pointer (some ⟨b19, 0, none⟩)) rfl (y_fld (o := 0) T46.fld_101_0_0 rfl) ?_
          refine s_y (v := .int .i64 ((gl Xq k).x)) rfl (y_load T46.one_2 rfl ((B.b 0 rfl).cell (j := 0) rfl)) ?_
          refine s_y (v := .pointer (some ⟨b19, 1, none⟩)) rfl (y_fld (o := 0) T46.fld_101_1_1 rfl) ?_
          refine s_y (v := .int .i64 ((gl Xq k).y)) rfl (y_load T46.one_2 rfl ((B.b 0 rfl).cell (j := 1) rfl)) ?_
          refine s_k rfl (k_call T46.fn_66 (c_i_isCell (by omega) (by omega) (by omega) (by omega)) rfl ?_)
          rintro v26 w24 ⟨hv27, e25⟩
          replace B := B.ext0 e25
          clear e25
          by_cases c28 : cellB wd hi ((gl Xq k).x) ((gl Xq k).y) = true
          · have hb29 := cellB_b c28
            obtain rfl : v26 = .bool true := hv27.trans (congrArg Value.bool c28)
            refine s_y (v := .bool false) rfl (y_not rfl rfl) ?_
            refine s_y (v := .bool false) rfl (y_move rfl) ?_
            refine s_y (v := .agg #[.int .i64 wd, .int .i64 hi, .bool wr, .slice asp nsp csp, .slice als nls cls]) rfl (y_loadn (b := b1) (o := 0) (vs := [.int .i64 wd, .int .i64 hi, .bool wr, .slice asp nsp csp, .slice als nls cls]) T46.agg_26_5 rfl rfl ((B.b 1 rfl).cells (o := 0) rfl)) ?_
            refine s_y (v := .pointer (some ⟨b19, 0, none⟩)) rfl (y_fld (o := 0) T46.fld_101_0_0 rfl) ?_
            refine s_y (v := .int .i64 ((gl Xq k).x)) rfl (y_load T46.one_2 rfl ((B.b 0 rfl).cell (j := 0) rfl)) ?_
            refine s_y (v := .pointer (some ⟨b19, 1, none⟩)) rfl (y_fld (o := 0) T46.fld_101_1_1 rfl) ?_
            refine s_y (v := .int .i64 ((gl Xq k).y)) rfl (y_load T46.one_2 rfl ((B.b 0 rfl).cell (j := 1) rfl)) ?_
            refine s_k rfl (k_call T46.fn_82 (c_i_isBorder (by omega) (by omega) (by omega) (by omega)) rfl ?_)
            rintro v32 w30 ⟨hv33, e31⟩
            replace B := B.ext0 e31
            clear e31
            by_cases c34 : bordB wd hi wr ((gl Xq k).x) ((gl Xq k).y) = true
            · obtain rfl : v32 = .bool true := hv33.trans (congrArg Value.bool c34)
              refine s_y (v := .bool true) rfl (y_pick_f rfl rfl) ?_
              refine s_y (v := .bool true) rfl (y_move rfl) ?_
              refine s_skip rfl ?_
              refine s_skip rfl ?_
              refine s_skip rfl ?_
              refine s_skip rfl ?_
              refine s_y (v := .bool true) rfl (y_pick_t rfl rfl) ?_
              refine s_nil ?_
              refine W_if_t (by decide) rfl ?_
              refine W_seq ?_
              refine W_region (by kernel_rfl) ?_
              refine s_y (v := .bool false) rfl (y_assign rfl) ?_
              refine s_nil ?_
              refine W_ret ?_
              refine ret1 (v := .bool false) rfl rfl rfl ⟨_, rfl, ?_⟩
              exact ⟨congrArg Value.bool ((areSrc_no (i := k) (by omega) (by omega) (by simp only [srcB, c8, (decide_eq_false c10), (decide_eq_true c13), c28, c34, Bool.and_true, Bool.true_and, Bool.and_false, Bool.false_and, Bool.not_true, Bool.not_false, Bool.or_true, Bool.true_or, Bool.or_false, Bool.false_or])).symm), B.ext⟩
            · obtain rfl : v32 = .bool false := hv33.trans (congrArg Value.bool (Bool.eq_false_iff.2 c34))
              refine s_y (v := .bool false) rfl (y_pick_f rfl rfl) ?_
              refine s_y (v := .bool false) rfl (y_move rfl) ?_
              refine s_y (v := .pointer (some ⟨b19, 3, none⟩)) rfl (y_fld (o := 0) T46.fld_101_3_3 rfl) ?_
              refine s_y (v := .agg #[.int .i64 ((gl Xq k).kd), .int .i64 ((gl Xq k).tt), .int .i64 ((gl Xq k).ln), .float .f32 r15, .float .f32 r16, .int .i64 ((gl Xq k).sd)]) rfl (y_loadn (b := b19) (o := 3) (vs := [.int .i64 ((gl Xq k).kd), .int .i64 ((gl Xq k).tt), .int .i64 ((gl Xq k).ln), .float .f32 r15, .float .f32 r16, .int .i64 ((gl Xq k).sd)]) T46.agg_99_6 rfl rfl ((B.b 0 rfl).cells (o := 3) rfl)) ?_
              refine s_k rfl (k_call T46.fn_83 (c_i_ValidWave hr17 hr18) rfl ?_)
              rintro v37 w35 ⟨hv38, e36⟩
              replace B := B.ext0 e36
              clear e36
              by_cases c39 : validW ((gl Xq k).kd) ((gl Xq k).tt) ((gl Xq k).ln) ((gl Xq k).tn) ((gl Xq k).sd) = true
              · have hb40 := validW_b c39
                obtain rfl : v37 = .bool true := hv38.trans (congrArg Value.bool c39)
                refine s_y (v := .bool false) rfl (y_not rfl rfl) ?_
                refine s_y (v := .bool false) rfl (y_pick_f rfl rfl) ?_
                refine s_nil ?_
                refine W_if_f (by decide) rfl ?_
                refine W_skip ?_
                refine W_region (by kernel_rfl) ?_
                refine s_y (v := .int .i64 (k + 1)) rfl (y_add rfl rfl rfl (by omega)) ?_
                refine s_y (v := .int .i64 (k + 1)) rfl (y_move rfl) ?_
                refine s_nil ?_
                refine ⟨⟨_, k + 1, Fits.eq ⟨rfl, rfl, rfl, rfl, trivial⟩, (B.pick [1, 2, 3, 4] rfl rfl), (by omega), (by omega), (allI_more (p := fun i => srcB wd hi wr (gl Xq i)) hq (by simp only [srcB, c8, (decide_eq_false c10), (decide_eq_true c13), c28, (Bool.eq_false_iff.2 c34), c39, Bool.and_true, Bool.true_and, Bool.and_false, Bool.false_and, Bool.not_true, Bool.not_false, Bool.or_true, Bool.true_or, Bool.or_false, Bool.false_or]))⟩, ?_⟩
                show ((nq : Int) - (k + 1)).toNat < ((nq : Int) - k).toNat
                omega
              · obtain rfl : v37 = .bool false := hv38.trans (congrArg Value.bool (Bool.eq_false_iff.2 c39))
                refine s_y (v := .bool true) rfl (y_not rfl rfl) ?_
                refine s_y (v := .bool true) rfl (y_pick_f rfl rfl) ?_
                refine s_nil ?_
                refine W_if_t (by decide) rfl ?_
                refine W_seq ?_
                refine W_region (by kernel_rfl) ?_
                refine s_y (v := .bool false) rfl (y_assign rfl) ?_
                refine s_nil ?_
                refine W_ret ?_
                refine ret1 (v := .bool false) rfl rfl rfl ⟨_, rfl, ?_⟩
                exact ⟨congrArg Value.bool ((areSrc_no (i := k) (by omega) (by omega) (by simp only [srcB, c8, (decide_eq_false c10), (decide_eq_true c13), c28, (Bool.eq_false_iff.2 c34), (Bool.eq_false_iff.2 c39), Bool.and_true, Bool.true_and, Bool.and_false, Bool.false_and, Bool.not_true, Bool.not_false, Bool.or_true, Bool.true_or, Bool.or_false, Bool.false_or])).symm), B.ext⟩
          · obtain rfl : v26 = .bool false := hv27.trans (congrArg Value.bool (Bool.eq_false_iff.2 c28))
            refine s_y (v := .bool true) rfl (y_not rfl rfl) ?_
            refine s_y (v := .bool true) rfl (y_move rfl) ?_
            refine s_skip rfl ?_
            refine s_skip rfl ?_
            refine s_skip rfl ?_
            refine s_skip rfl ?_
            refine s_skip rfl ?_
            refine s_skip rfl ?_
            refine s_y (v := .bool true) rfl (y_pick_t rfl rfl) ?_
            refine s_y (v := .bool true) rfl (y_move rfl) ?_
            refine s_skip rfl ?_
            refine s_skip rfl ?_
            refine s_skip rfl ?_
            refine s_skip rfl ?_
            refine s_y (v := .bool true) rfl (y_pick_t rfl rfl) ?_
            refine s_nil ?_
            refine W_if_t (by decide) rfl ?_
            refine W_seq ?_
            refine W_region (by kernel_rfl) ?_
            refine s_y (v := .bool false) rfl (y_assign rfl) ?_
            refine s_nil ?_
            refine W_ret ?_
            refine ret1 (v := .bool false) rfl rfl rfl ⟨_, rfl, ?_⟩
            exact ⟨congrArg Value.bool ((areSrc_no (i := k) (by omega) (by omega) (by simp only [srcB, c8, (decide_eq_false c10), (decide_eq_true c13), (Bool.eq_false_iff.2 c28), Bool.and_true, Bool.true_and, Bool.and_false, Bool.false_and, Bool.not_true, Bool.not_false, Bool.or_true, Bool.true_or, Bool.or_false, Bool.false_or])).symm), B.ext⟩
        · refine s_y (v := .bool false) rfl (y_lss rfl rfl (decide_eq_false c13)) ?_
          refine s_nil ?_
          refine W_seq ?_
          refine W_if_f (by decide) rfl ?_
          refine W_exit ?_
          refine W_seq ?_
          refine W_region (by kernel_rfl) ?_
          refine s_y (v := .bool true) rfl (y_assign rfl) ?_
          refine s_nil ?_
          refine W_ret ?_
          refine ret1 (v := .bool true) rfl rfl rfl ⟨_, rfl, ?_⟩
          exact ⟨congrArg Value.bool ((areSrc_yes (by assumption) (by omega) (fun i h0 h1 => hq i h0 (by omega))).symm), B.ext⟩
  · obtain rfl : v6 = .bool false := hv7.trans (congrArg Value.bool (Bool.eq_false_iff.2 c8))
    refine s_y (v := .bool true) rfl (y_not rfl rfl) ?_
    refine s_y (v := .bool true) rfl (y_move rfl) ?_
    refine s_skip rfl ?_
    refine s_skip rfl ?_
    refine s_skip rfl ?_
    refine s_y (v := .bool true) rfl (y_pick_t rfl rfl) ?_
    refine s_nil ?_
    refine W_if_t (by decide) rfl ?_
    refine W_seq ?_
    refine W_region (by kernel_rfl) ?_
    refine s_y (v := .bool false) rfl (y_assign rfl) ?_
    refine s_nil ?_
    refine W_ret ?_
    refine ret1 (v := .bool false) rfl rfl rfl ⟨_, rfl, ?_⟩
    exact ⟨congrArg Value.bool (by first | exact (areSrc_n1 (by assumption)).symm | exact (areSrc_n2 (by omega)).symm), B.ext⟩
namespace T114
theorem mx : Try.prog.follows .mixedOrders = true := by kernel_rfl
theorem fld_99_0_0 : fldB Try.prog 99 0 0 = true := by kernel_rfl
theorem fld_99_1_1 : fldB Try.prog 99 1 1 = true := by kernel_rfl
theorem fld_99_2_2 : fldB Try.prog 99 2 2 = true := by kernel_rfl
theorem fld_99_3_3 : fldB Try.prog 99 3 3 = true := by kernel_rfl
theorem fld_99_4_4 : fldB Try.prog 99 4 4 = true := by kernel_rfl
theorem fld_99_5_5 : fldB Try.prog 99 5 5 = true := by kernel_rfl
theorem flt_60_f64 : Try.prog.underlying 60 = some (.float .f64) := by kernel_rfl
theorem fn_40 : fnB Try.prog 40 = true := by kernel_rfl
theorem one_2 : oneB Try.prog 2 = true := by kernel_rfl
theorem one_56 : oneB Try.prog 56 = true := by kernel_rfl
theorem und_56 : (Try.prog.underlying 56).isSome = true := by kernel_rfl
end T114
set_option maxRecDepth 100000 in
set_option maxHeartbeats 4000000 in
theorem c_l_eqWave {kd : Int} {tt : Int} {ln : Int} {tn : Nat} {TN : Nat} {sz : Nat} {SZ : Nat} {sd : Int} {tn2 : Nat} {sz2 : Nat} {w : World} (htn : can .f32 tn = TN) (hsz : can .f32 sz = SZ) (htn2 : can .f32 tn2 = TN) (hsz2 : can .f32 sz2 = SZ) :
    Calls Try.prog 114 #[.agg #[.int .i64 kd, .int .i64 tt, .int .i64 ln, .float .f32 tn, .float .f32 sz, .int .i64 sd], .agg #[.int .i64 kd, .int .i64 tt, .int .i64 ln, .float .f32 tn2, .float .f32 sz2, .int .i64 sd]] w (Rt fun v w' => v = .bool true ∧ Ext0 w w') := by
  have B : Bu w no w [] := Bu.ro All.nil rfl
  refine calls_W (n := 41) Try.func114 rfl rfl (Nat.le_of_ble_eq_true rfl) ?_
  refine W_seq ?_
  refine W_region (by kernel_rfl) ?_
  refine s_k rfl (k_boxN (v := .agg #[.int .i64 kd, .int .i64 tt, .int .i64 ln, .float .f32 tn, .float .f32 sz, .int .i64 sd]) (cs := [.int .i64 kd, .int .i64 tt, .int .i64 ln, .float .f32 tn, .float .f32 sz, .int .i64 sd]) rfl rfl (fun b1 w2 hN3 => ?_))
  replace B := B.new1 hN3
  clear hN3
  refine s_k rfl (k_boxN (v := .agg #[.int .i64 kd, .int .i64 tt, .int .i64 ln, .float .f32 tn2, .float .f32 sz2, .int .i64 sd]) (cs := [.int .i64 kd, .int .i64 tt, .int .i64 ln, .float .f32 tn2, .float .f32 sz2, .int .i64 sd]) rfl rfl (fun b4 w5 hN6 => ?_))
  replace B := B.new1 hN6
  clear hN6
  refine s_y (v := .bool false) rfl (y_assign rfl) ?_
  refine s_nil ?_
  refine W_seq ?_
  refine W_seq ?_
  refine W_region (by kernel_rfl) ?_
  refine s_y (v := .pointer (some ⟨b1, 0, none⟩)) rfl (y_fld (o := 0) T114.fld_99_0_0 rfl) ?_
  refine s_y (v := .int .i64 kd) rfl (y_load T114.one_2 rfl ((B.b 1 rfl).cell (j := 0) rfl)) ?_
  refine s_y (v := .pointer (some ⟨b4, 0, none⟩)) rfl (y_fld (o := 0) T114.fld_99_0_0 rfl) ?_
  refine s_y (v := .int .i64 kd) rfl (y_load T114.one_2 rfl ((B.b 0 rfl).cell (j := 0) rfl)) ?_
  refine s_y (v := .bool false) rfl (y_neq rfl rfl (decide_eq_false (fun hq => hq rfl))) ?_
  refine s_nil ?_
  refine W_if_f (by decide) rfl ?_
  refine W_skip ?_
  refine W_seq ?_
  refine W_seq ?_
  refine W_region (by kernel_rfl) ?_
  refine s_y (v := .pointer (some ⟨b1, 1, none⟩)) rfl (y_fld (o := 0) T114.fld_99_1_1 rfl) ?_
  refine s_y (v := .int .i64 tt) rfl (y_load T114.one_2 rfl ((B.b 1 rfl).cell (j := 1) rfl)) ?_
  refine s_y (v := .pointer (some ⟨b4, 1, none⟩)) rfl (y_fld (o := 0) T114.fld_99_1_1 rfl) ?_
  refine s_y (v := .int .i64 tt) rfl (y_load T114.one_2 rfl ((B.b 0 rfl).cell (j := 1) rfl)) ?_
  refine s_y (v := .bool false) rfl (y_neq rfl rfl (decide_eq_false (fun hq => hq rfl))) ?_
  refine s_nil ?_
  refine W_if_f (by decide) rfl ?_
  refine W_skip ?_
  refine W_seq ?_
  refine W_seq ?_
  refine W_region (by kernel_rfl) ?_
  refine s_y (v := .pointer (some ⟨b1, 2, none⟩)) rfl (y_fld (o := 0) T114.fld_99_2_2 rfl) ?_
  refine s_y (v := .int .i64 ln) rfl (y_load T114.one_2 rfl ((B.b 1 rfl).cell (j := 2) rfl)) ?_
  refine s_y (v := .pointer (some ⟨b4, 2, none⟩)) rfl (y_fld (o := 0) T114.fld_99_2_2 rfl) ?_
  refine s_y (v := .int .i64 ln) rfl (y_load T114.one_2 rfl ((B.b 0 rfl).cell (j := 2) rfl)) ?_
  refine s_y (v := .bool false) rfl (y_neq rfl rfl (decide_eq_false (fun hq => hq rfl))) ?_
  refine s_nil ?_
  refine W_if_f (by decide) rfl ?_
  refine W_skip ?_
  refine W_seq ?_
  refine W_seq ?_
  refine W_region (by kernel_rfl) ?_
  refine s_y (v := .pointer (some ⟨b1, 3, none⟩)) rfl (y_fld (o := 0) T114.fld_99_3_3 rfl) ?_
  refine s_y (v := .float .f32 tn) rfl (y_load T114.one_56 rfl ((B.b 1 rfl).cell (j := 3) rfl)) ?_
  refine s_n rfl (n_wide T114.und_56 T114.flt_60_f64 rfl) ?_
  rintro _ w9 e10 ⟨r7, rfl, hr8⟩
  replace B := B.ext0 e10
  clear e10
  have hc11 := wideC hr8 htn
  refine s_y (v := .pointer (some ⟨b4, 3, none⟩)) rfl (y_fld (o := 0) T114.fld_99_3_3 rfl) ?_
  refine s_y (v := .float .f32 tn2) rfl (y_load T114.one_56 rfl ((B.b 0 rfl).cell (j := 3) rfl)) ?_
  refine s_n rfl (n_wide T114.und_56 T114.flt_60_f64 rfl) ?_
  rintro _ w14 e15 ⟨r12, rfl, hr13⟩
  replace B := B.ext0 e15
  clear e15
  have hc16 := wideC hr13 htn2
  refine s_k rfl (k_call T114.fn_40 (c_l_sameFloat hc11 hc16) rfl ?_)
  rintro _ w17 ⟨rfl, e18⟩
  replace B := B.ext0 e18
  clear e18
  refine s_y (v := .bool false) rfl (y_not rfl rfl) ?_
  refine s_nil ?_
  refine W_if_f (by decide) rfl ?_
  refine W_skip ?_
  refine W_seq ?_
  refine W_seq ?_
  refine W_region (by kernel_rfl) ?_
  refine s_y (v := .pointer (some ⟨b1, 4, none⟩)) rfl (y_fld (o := 0) T114.fld_99_4_4 rfl) ?_
  refine s_y (v := .float .f32 sz) rfl (y_load T114.one_56 rfl ((B.b 1 rfl).cell (j := 4) rfl)) ?_
  refine s_n rfl (n_wide T114.und_56 T114.flt_60_f64 rfl) ?_
  rintro _ w21 e22 ⟨r19, rfl, hr20⟩
  replace B := B.ext0 e22
  clear e22
  have hc23 := wideC hr20 hsz
  refine s_y (v := .pointer (some ⟨b4, 4, none⟩)) rfl (y_fld (o := 0) T114.fld_99_4_4 rfl) ?_
  refine s_y (v := .float .f32 sz2) rfl (y_load T114.one_56 rfl ((B.b 0 rfl).cell (j := 4) rfl)) ?_
  refine s_n rfl (n_wide T114.und_56 T114.flt_60_f64 rfl) ?_
  rintro _ w26 e27 ⟨r24, rfl, hr25⟩
  replace B := B.ext0 e27
  clear e27
  have hc28 := wideC hr25 hsz2
  refine s_k rfl (k_call T114.fn_40 (c_l_sameFloat hc23 hc28) rfl ?_)
  rintro _ w29 ⟨rfl, e30⟩
  replace B := B.ext0 e30
  clear e30
  refine s_y (v := .bool false) rfl (y_not rfl rfl) ?_
  refine s_nil ?_
  refine W_if_f (by decide) rfl ?_
  refine W_skip ?_
  refine W_seq ?_
  refine W_seq ?_
  refine W_region (by kernel_rfl) ?_
  refine s_y (v := .pointer (some ⟨b1, 5, none⟩)) rfl (y_fld (o := 0) T114.fld_99_5_5 rfl) ?_
  refine s_y (v := .int .i64 sd) rfl (y_load T114.one_2 rfl ((B.b 1 rfl).cell (j := 5) rfl)) ?_
  refine s_y (v := .pointer (some ⟨b4, 5, none⟩)) rfl (y_fld (o := 0) T114.fld_99_5_5 rfl) ?_
  refine s_y (v := .int .i64 sd) rfl (y_load T114.one_2 rfl ((B.b 0 rfl).cell (j := 5) rfl)) ?_
  refine s_y (v := .bool false) rfl (y_neq rfl rfl (decide_eq_false (fun hq => hq rfl))) ?_
  refine s_nil ?_
  refine W_if_f (by decide) rfl ?_
  refine W_skip ?_
  refine W_seq ?_
  refine W_region (by kernel_rfl) ?_
  refine s_y (v := .bool true) rfl (y_assign rfl) ?_
  refine s_nil ?_
  refine W_ret ?_
  refine ret1 (v := .bool true) rfl rfl rfl ⟨_, rfl, ?_⟩
  exact ⟨rfl, B.ext⟩
namespace T84
theorem mx : Try.prog.follows .mixedOrders = true := by kernel_rfl
theorem agg_99_6 : aggB Try.prog 99 6 = true := by kernel_rfl
theorem bool_4 : Try.prog.underlying 4 = some .bool := by kernel_rfl
theorem fld_101_0_0 : fldB Try.prog 101 0 0 = true := by kernel_rfl
theorem fld_101_1_1 : fldB Try.prog 101 1 1 = true := by kernel_rfl
theorem fld_101_2_2 : fldB Try.prog 101 2 2 = true := by kernel_rfl
theorem fld_101_3_3 : fldB Try.prog 101 3 3 = true := by kernel_rfl
theorem fn_114 : fnB Try.prog 114 = true := by kernel_rfl
theorem one_2 : oneB Try.prog 2 = true := by kernel_rfl
theorem one_4 : oneB Try.prog 4 = true := by kernel_rfl
end T84
set_option maxRecDepth 100000 in
set_option maxHeartbeats 4000000 in
theorem c_l_eqSource {px : Int} {py : Int} {hd : Bool} {kd : Int} {tt : Int} {ln : Int} {tn : Nat} {TN : Nat} {sz : Nat} {SZ : Nat} {sd : Int} {tn2 : Nat} {sz2 : Nat} {w : World} (htn : can .f32 tn = TN) (hsz : can .f32 sz = SZ) (htn2 : can .f32 tn2 = TN) (hsz2 : can .f32 sz2 = SZ) :
    Calls Try.prog 84 #[.agg #[.int .i64 px, .int .i64 py, .bool hd, .int .i64 kd, .int .i64 tt, .int .i64 ln, .float .f32 tn, .float .f32 sz, .int .i64 sd], .agg #[.int .i64 px, .int .i64 py, .bool hd, .int .i64 kd, .int .i64 tt, .int .i64 ln, .float .f32 tn2, .float .f32 sz2, .int .i64 sd]] w (Rt fun v w' => v = .bool true ∧ Ext0 w w') := by
  have B : Bu w no w [] := Bu.ro All.nil rfl
  refine calls_W (n := 26) Try.func84 rfl rfl (Nat.le_of_ble_eq_true rfl) ?_
  refine W_seq ?_
  refine W_region (by kernel_rfl) ?_
  refine s_k rfl (k_boxN (v := .agg #[.int .i64 px, .int .i64 py, .bool hd, .int .i64 kd, .int .i64 tt, .int .i64 ln, .float .f32 tn, .float .f32 sz, .int .i64 sd]) (cs := [.int .i64 px, .int .i64 py, .bool hd, .int .i64 kd, .int .i64 tt, .int .i64 ln, .float .f32 tn, .float .f32 sz, .int .i64 sd]) rfl rfl (fun b1 w2 hN3 => ?_))
  replace B := B.new1 hN3
  clear hN3
  refine s_k rfl (k_boxN (v := .agg #[.int .i64 px, .int .i64 py, .bool hd, .int .i64 kd, .int .i64 tt, .int .i64 ln, .float .f32 tn2, .float .f32 sz2, .int .i64 sd]) (cs := [.int .i64 px, .int .i64 py, .bool hd, .int .i64 kd, .int .i64 tt, .int .i64 ln, .float .f32 tn2, .float .f32 sz2, .int .i64 sd]) rfl rfl (fun b4 w5 hN6 => ?_))
  replace B := B.new1 hN6
  clear hN6
  refine s_y (v := .bool false) rfl (y_assign rfl) ?_
  refine s_nil ?_
  refine W_seq ?_
  refine W_seq ?_
  refine W_region (by kernel_rfl) ?_
  refine s_y (v := .pointer (some ⟨b1, 0, none⟩)) rfl (y_fld (o := 0) T84.fld_101_0_0 rfl) ?_
  refine s_y (v := .int .i64 px) rfl (y_load T84.one_2 rfl ((B.b 1 rfl).cell (j := 0) rfl)) ?_
  refine s_y (v := .pointer (some ⟨b4, 0, none⟩)) rfl (y_fld (o := 0) T84.fld_101_0_0 rfl) ?_
  refine s_y (v := .int .i64 px) rfl (y_load T84.one_2 rfl ((B.b 0 rfl).cell (j := 0) rfl)) ?_
  refine s_y (v := .bool false) rfl (y_neq rfl rfl (decide_eq_false (fun hq => hq rfl))) ?_
  refine s_nil ?_
  refine W_if_f (by decide) rfl ?_
  refine W_skip ?_
  refine W_seq ?_
  refine W_seq ?_
  refine W_region (by kernel_rfl) ?_
  refine s_y (v := .pointer (some ⟨b1, 1, none⟩)) rfl (y_fld (o := 0) T84.fld_101_1_1 rfl) ?_
  refine s_y (v := .int .i64 py) rfl (y_load T84.one_2 rfl ((B.b 1 rfl).cell (j := 1) rfl)) ?_
  refine s_y (v := .pointer (some ⟨b4, 1, none⟩)) rfl (y_fld (o := 0) T84.fld_101_1_1 rfl) ?_
  refine s_y (v := .int .i64 py) rfl (y_load T84.one_2 rfl ((B.b 0 rfl).cell (j := 1) rfl)) ?_
  refine s_y (v := .bool false) rfl (y_neq rfl rfl (decide_eq_false (fun hq => hq rfl))) ?_
  refine s_nil ?_
  refine W_if_f (by decide) rfl ?_
  refine W_skip ?_
  refine W_seq ?_
  refine W_seq ?_
  refine W_region (by kernel_rfl) ?_
  refine s_y (v := .pointer (some ⟨b1, 2, none⟩)) rfl (y_fld (o := 0) T84.fld_101_2_2 rfl) ?_
  refine s_y (v := .bool hd) rfl (y_load T84.one_4 rfl ((B.b 1 rfl).cell (j := 2) rfl)) ?_
  refine s_y (v := .pointer (some ⟨b4, 2, none⟩)) rfl (y_fld (o := 0) T84.fld_101_2_2 rfl) ?_
  refine s_y (v := .bool hd) rfl (y_load T84.one_4 rfl ((B.b 0 rfl).cell (j := 2) rfl)) ?_
  refine s_y (v := .bool false) rfl (y_bneq T84.bool_4 rfl rfl (by simp)) ?_
  refine s_nil ?_
  refine W_if_f (by decide) rfl ?_
  refine W_skip ?_
  refine W_seq ?_
  refine W_seq ?_
  refine W_region (by kernel_rfl) ?_
  refine s_y (v := .pointer (some ⟨b1, 3, none⟩)) rfl (y_fld (o := 0) T84.fld_101_3_3 rfl) ?_
  refine s_y (v := .agg #[.int .i64 kd, .int .i64 tt, .int .i64 ln, .float .f32 tn, .float .f32 sz, .int .i64 sd]) rfl (y_loadn (b := b1) (o := 3) (vs := [.int .i64 kd, .int .i64 tt, .int .i64 ln, .float .f32 tn, .float .f32 sz, .int .i64 sd]) T84.agg_99_6 rfl rfl ((B.b 1 rfl).cells (o := 3) rfl)) ?_
  refine s_y (v := .pointer (some ⟨b4, 3, none⟩)) rfl (y_fld (o := 0) T84.fld_101_3_3 rfl) ?_
  refine s_y (v := .agg #[.int .i64 kd, .int .i64 tt, .int .i64 ln, .float .f32 tn2, .float .f32 sz2, .int .i64 sd]) rfl (y_loadn (b := b4) (o := 3) (vs := [.int .i64 kd, .int .i64 tt, .int .i64 ln, .float .f32 tn2, .float .f32 sz2, .int .i64 sd]) T84.agg_99_6 rfl rfl ((B.b 0 rfl).cells (o := 3) rfl)) ?_
  refine s_k rfl (k_call T84.fn_114 (c_l_eqWave htn hsz htn2 hsz2) rfl ?_)
  rintro _ w7 ⟨rfl, e8⟩
  replace B := B.ext0 e8
  clear e8
  refine s_y (v := .bool false) rfl (y_not rfl rfl) ?_
  refine s_nil ?_
  refine W_if_f (by decide) rfl ?_
  refine W_skip ?_
  refine W_seq ?_
  refine W_region (by kernel_rfl) ?_
  refine s_y (v := .bool true) rfl (y_assign rfl) ?_
  refine s_nil ?_
  refine W_ret ?_
  refine ret1 (v := .bool true) rfl rfl rfl ⟨_, rfl, ?_⟩
  exact ⟨rfl, B.ext⟩
namespace T47
theorem mx : Try.prog.follows .mixedOrders = true := by kernel_rfl
theorem agg_101_9 : aggB Try.prog 101 9 = true := by kernel_rfl
theorem fn_84 : fnB Try.prog 84 = true := by kernel_rfl
theorem sl_65_101_9 : slB Try.prog 65 101 9 = true := by kernel_rfl
end T47
set_option maxRecDepth 100000 in
set_option maxHeartbeats 4000000 in
theorem c_l_eqSourceS {a : Option Addr} {n : Nat} {c : Nat} {X : List Src} {a2 : Option Addr} {n2 : Nat} {c2 : Nat} {w : World} (q : Rd w kS a n X) (q2 : Rd w kS a2 n2 X) (hb : n ≤ 9223372036854775806) :
    Calls Try.prog 47 #[.slice a n c, .slice a2 n2 c2] w (Rt fun v w' => v = .bool true ∧ Ext0 w w') := by
  have hl := q.len
  have hl2 := q2.len
  have B : Bu w no w [.rd kS a n X, .rd kS a2 n2 X] := Bu.ro (All.cons q (All.cons q2 All.nil)) rfl
  refine calls_W (n := 27) Try.func47 rfl rfl (Nat.le_of_ble_eq_true rfl) ?_
  refine W_seq ?_
  refine W_region (by kernel_rfl) ?_
  refine s_y (v := .bool false) rfl (y_assign rfl) ?_
  refine s_nil ?_
  refine W_seq ?_
  refine W_seq ?_
  refine W_region (by kernel_rfl) ?_
  refine s_y (v := .slice a n c) rfl (y_move rfl) ?_
  refine s_y (v := .int .i64 ((n : Nat) : Int)) rfl (y_len T47.sl_65_101_9 rfl rfl) ?_
  refine s_y (v := .slice a2 n2 c2) rfl (y_move rfl) ?_
  refine s_y (v := .int .i64 ((n2 : Nat) : Int)) rfl (y_len T47.sl_65_101_9 rfl rfl) ?_
  by_cases c1 : ((n : Nat) : Int) ≠ ((n2 : Nat) : Int)
  · refine s_y (v := .bool true) rfl (y_neq rfl rfl (decide_eq_true c1)) ?_
    refine s_nil ?_
    refine W_if_t (by decide) rfl ?_
    refine W_seq ?_
    refine W_region (by kernel_rfl) ?_
    refine s_y (v := .bool false) rfl (y_assign rfl) ?_
    refine s_nil ?_
    refine W_ret ?_
    refine ret1 (v := .bool false) rfl rfl rfl ⟨_, rfl, ?_⟩
    exfalso; omega
  · refine s_y (v := .bool false) rfl (y_neq rfl rfl (decide_eq_false c1)) ?_
    refine s_nil ?_
    refine W_if_f (by decide) rfl ?_
    refine W_skip ?_
    refine W_seq ?_
    refine W_seq ?_
    refine W_region (by kernel_rfl) ?_
    refine s_y (v := .int .i64 0) rfl (y_assign rfl) ?_
    refine s_nil ?_
    refine W_block ?_
    refine W_loop (fun ρ' w' => ∃ (ρ1 : Env) (k : Int), ρ' = updL ρ1 [(0, .slice a n c), (1, .slice a2 n2 c2), (5, .int .i64 k)] ∧ Bu w no w' [.rd kS a n X, .rd kS a2 n2 X] ∧ (0 ≤ k) ∧ (k ≤ (n : Int))) (fun ρ' _ => ((n : Int) - iv (ρ' 5)).toNat) ?_ ?_
    · exact ⟨_, 0, Fits.eq ⟨rfl, rfl, rfl, trivial⟩, B, (Int.le_refl _), (by omega)⟩
    · clear B; rintro _ w2 ⟨ρ3, k, rfl, B, h0k, h1k⟩
      refine W_seq ?_
      refine W_seq ?_
      refine W_region (by kernel_rfl) ?_
      refine s_y (v := .int .i64 k) rfl (y_move rfl) ?_
      refine s_y (v := .slice a n c) rfl (y_move rfl) ?_
      refine s_y (v := .int .i64 ((n : Nat) : Int)) rfl (y_len T47.sl_65_101_9 rfl rfl) ?_
      by_cases c4 : k < ((n : Nat) : Int)
      · refine s_y (v := .bool true) rfl (y_lss rfl rfl (decide_eq_true c4)) ?_
        refine s_nil ?_
        refine W_if_t (by decide) rfl ?_
        refine W_skip ?_
        refine W_seq ?_
        refine W_block ?_
        refine W_seq ?_
        have B0_9 := B
        refine W_draw (no) T47.mx (by kernel_rfl) (fun w7 e8 => ?_)
        have R10 := Ext.refl (no) w2
        replace R10 := R10.trans (Ext0.any e8)
        replace B := B.ext0 e8
        clear e8
        refine m_y (v := .slice a n c) 0 rfl (by kernel_rfl) rfl rfl (fun w' e' => y_move rfl) ?_
        refine m_y (v := .int .i64 k) 1 rfl (by kernel_rfl) rfl rfl (fun w' e' => y_move rfl) ?_
        refine m_y (v := .pointer (some (sat a ((k).toNat * 9)))) 2 rfl (by kernel_rfl) rfl rfl (fun w' e' => y_idx T47.sl_65_101_9 rfl rfl ((B.r 0 rfl).addr (by omega)) (by omega) (by omega)) ?_
        obtain ⟨r12, r13, hr14, hr15, hR11⟩ := Rd.atS (B0_9.r 0 rfl) k (by omega) (by omega)
        refine m_y (v := .agg #[.int .i64 ((gl X k).x), .int .i64 ((gl X k).y), .bool ((gl X k).hd), .int .i64 ((gl X k).kd), .int .i64 ((gl X k).tt), .int .i64 ((gl X k).ln), .float .f32 r12, .float .f32 r13, .int .i64 ((gl X k).sd)]) 3 rfl (by kernel_rfl) rfl rfl (fun w' e' => y_loadR (vs := [.int .i64 ((gl X k).x), .int .i64 ((gl X k).y), .bool ((gl X k).hd), .int .i64 ((gl X k).kd), .int .i64 ((gl X k).tt), .int .i64 ((gl X k).ln), .float .f32 r12, .float .f32 r13, .int .i64 ((gl X k).sd)]) T47.agg_101_9 rfl rfl (by decide) (hR11.ext0 e')) ?_
        refine m_y (v := .slice a2 n2 c2) 4 rfl (by kernel_rfl) rfl rfl (fun w' e' => y_move rfl) ?_
        refine m_y (v := .int .i64 k) 5 rfl (by kernel_rfl) rfl rfl (fun w' e' => y_move rfl) ?_
        refine m_y (v := .pointer (some (sat a2 ((k).toNat * 9)))) 6 rfl (by kernel_rfl) rfl rfl (fun w' e' => y_idx T47.sl_65_101_9 rfl rfl ((B.r 1 rfl).addr (by omega)) (by omega) (by omega)) ?_
        obtain ⟨r17, r18, hr19, hr20, hR16⟩ := Rd.atS (B0_9.r 1 rfl) k (by omega) (by omega)
        refine m_y (v := .agg #[.int .i64 ((gl X k).x), .int .i64 ((gl X k).y), .bool ((gl X k).hd), .int .i64 ((gl X k).kd), .int .i64 ((gl X k).tt), .int .i64 ((gl X k).ln), .float .f32 r17, .float .f32 r18, .int .i64 ((gl X k).sd)]) 7 rfl (by kernel_rfl) rfl rfl (fun w' e' => y_loadR (vs := [.int .i64 ((gl X k).x), .int .i64 ((gl X k).y), .bool ((gl X k).hd), .int .i64 ((gl X k).kd), .int .i64 ((gl X k).tt), .int .i64 ((gl X k).ln), .float .f32 r17, .float .f32 r18, .int .i64 ((gl X k).sd)]) T47.agg_101_9 rfl rfl (by decide) (hR16.ext0 e')) ?_
        refine m_k 8 [9] rfl (by kernel_rfl) rfl rfl (fun w21 e22 => ?_)
        replace R10 := R10.trans (Ext0.any e22)
        replace B := B.ext0 e22
        clear e22
        refine k_call T47.fn_84 (c_l_eqSource hr14 hr15 hr19 hr20) rfl ?_
        rintro _ w23 ⟨rfl, e24⟩
        replace R10 := R10.trans (Ext0.any e24)
        replace B := B.ext0 e24
        clear e24
        refine ⟨fun _ => R10, ?_⟩
        refine m_y (v := .bool false) 9 rfl (by kernel_rfl) rfl rfl (fun w' e' => y_not rfl rfl) ?_
        refine m_done (by kernel_rfl) (fun w25 e26 => ?_)
        replace B := B.ext0 e26
        clear e26
        clear B0_9 R10
        refine W_if_f (by decide) rfl ?_
        refine W_skip ?_
        refine W_region (by kernel_rfl) ?_
        refine s_y (v := .int .i64 k) rfl (y_move rfl) ?_
        refine s_y (v := .int .i64 (k + 1)) rfl (y_add rfl rfl rfl (by omega)) ?_
        refine s_y (v := .int .i64 (k + 1)) rfl (y_assign rfl) ?_
        refine s_nil ?_
        refine ⟨⟨_, k + 1, Fits.eq ⟨rfl, rfl, rfl, trivial⟩, B, (by omega), (by omega)⟩, ?_⟩
        show ((n : Int) - (k + 1)).toNat < ((n : Int) - k).toNat
        omega
      · refine s_y (v := .bool false) rfl (y_lss rfl rfl (decide_eq_false c4)) ?_
        refine s_nil ?_
        refine W_if_f (by decide) rfl ?_
        refine W_exit ?_
        refine W_seq ?_
        refine W_region (by kernel_rfl) ?_
        refine s_y (v := .bool true) rfl (y_assign rfl) ?_
        refine s_nil ?_
        refine W_ret ?_
        refine ret1 (v := .bool true) rfl rfl rfl ⟨_, rfl, ?_⟩
        exact ⟨rfl, B.ext⟩
namespace T8
theorem mx : Try.prog.follows .mixedOrders = true := by kernel_rfl
theorem agg_26_5 : aggB Try.prog 26 5 = true := by kernel_rfl
theorem agg_36_5 : aggB Try.prog 36 5 = true := by kernel_rfl
theorem bool_4 : Try.prog.underlying 4 = some .bool := by kernel_rfl
theorem fn_21 : fnB Try.prog 21 = true := by kernel_rfl
theorem fn_23 : fnB Try.prog 23 = true := by kernel_rfl
theorem fn_25 : fnB Try.prog 25 = true := by kernel_rfl
theorem fn_43 : fnB Try.prog 43 = true := by kernel_rfl
theorem fn_44 : fnB Try.prog 44 = true := by kernel_rfl
theorem fn_45 : fnB Try.prog 45 = true := by kernel_rfl
theorem fn_46 : fnB Try.prog 46 = true := by kernel_rfl
theorem fn_47 : fnB Try.prog 47 = true := by kernel_rfl
theorem sz_26_5 : szB Try.prog 26 5 = true := by kernel_rfl
theorem zero_26 : zeroB Try.prog 26 (.agg #[.int .i64 0, .int .i64 0, .bool false, .slice none 0 0, .slice none 0 0]) := by unfold zeroB; kernel_rfl
end T8
set_option maxRecDepth 100000 in
set_option maxHeartbeats 20000000 in
theorem c_FnExactAreSources {wd0 : Int} {hi0 : Int} {wr0 : Bool} {asp0 : Option Addr} {nsp0 : Nat} {csp0 : Nat} {Xsp0 : List Nat} {als0 : Option Addr} {nls0 : Nat} {cls0 : Nat} {Xls0 : List Nat} {a1 : Option Addr} {n1 : Nat} {c1 : Nat} {X1 : List Src} {w : World} (qsp0 : Rd w kF asp0 nsp0 Xsp0) (qls0 : Rd w kF als0 nls0 Xls0) (q1 : Rd w kS a1 n1 X1) (gsp0 : nsp0 ≤ 9223372036854775807) (gls0 : nls0 ≤ 9223372036854775807) (g1 : n1 ≤ 9223372036854775807) :
    Calls Try.prog 8 #[.agg #[.int .i64 wd0, .int .i64 hi0, .bool wr0, .slice asp0 nsp0 csp0, .slice als0 nls0 cls0], .slice a1 n1 c1] w (Rt fun v w' => v = .bool true ∧ Ext0 w w') := by
  have hlsp0 := qsp0.len
  have hlls0 := qls0.len
  have hl1 := q1.len
  have B : Bu w no w [.rd kF asp0 nsp0 Xsp0, .rd kF als0 nls0 Xls0, .rd kS a1 n1 X1] := Bu.ro (All.cons qsp0 (All.cons qls0 (All.cons q1 All.nil))) rfl
  refine calls_W (n := 45) Try.func8 rfl rfl (Nat.le_of_ble_eq_true rfl) ?_
  refine W_seq ?_
  refine W_region (by kernel_rfl) ?_
  refine s_k rfl (k_boxN (v := .agg #[.int .i64 wd0, .int .i64 hi0, .bool wr0, .slice asp0 nsp0 csp0, .slice als0 nls0 cls0]) (cs := [.int .i64 wd0, .int .i64 hi0, .bool wr0, .slice asp0 nsp0 csp0, .slice als0 nls0 cls0]) rfl rfl (fun b1 w2 hN3 => ?_))
  replace B := B.new1 hN3
  clear hN3
  refine s_y (v := .bool false) rfl (y_assign rfl) ?_
  refine s_nil ?_
  refine W_seq ?_
  refine W_region (by kernel_rfl) ?_
  refine s_y (v := .int .i64 1048576) rfl (y_assign rfl) ?_
  refine s_nil ?_
  refine W_seq ?_
  refine W_region (by kernel_rfl) ?_
  refine s_y (v := .agg #[.int .i64 wd0, .int .i64 hi0, .bool wr0, .slice asp0 nsp0 csp0, .slice als0 nls0 cls0]) rfl (y_loadn (b := b1) (o := 0) (vs := [.int .i64 wd0, .int .i64 hi0, .bool wr0, .slice asp0 nsp0 csp0, .slice als0 nls0 cls0]) T8.agg_36_5 rfl rfl ((B.b 0 rfl).cells (o := 0) rfl)) ?_
  refine s_y (v := .int .i64 1048576) rfl (y_move rfl) ?_
  refine s_k rfl (k_call T8.fn_21 (c_l_szSheet (by omega) (by omega) (by omega) (by omega)) rfl ?_)
  rintro v6 w4 ⟨hv7, e5⟩
  replace B := B.ext0 e5
  clear e5
  by_cases c8 : ((nsp0 : Nat) : Int) + ((nls0 : Nat) : Int) ≤ 1048576
  · obtain rfl : v6 = .int .i64 (1048576 - ((nsp0 : Nat) : Int) - ((nls0 : Nat) : Int)) := hv7.trans (congrArg _ (if_pos c8))
    have hk9 : ¬ (1048576 - ((nsp0 : Nat) : Int) - ((nls0 : Nat) : Int)) < 0 := by omega
    refine s_y (v := .int .i64 (1048576 - ((nsp0 : Nat) : Int) - ((nls0 : Nat) : Int))) rfl (y_assign rfl) ?_
    refine s_nil ?_
    refine W_seq ?_
    refine W_seq ?_
    refine W_region (by kernel_rfl) ?_
    refine s_y (v := .int .i64 (1048576 - ((nsp0 : Nat) : Int) - ((nls0 : Nat) : Int))) rfl (y_move rfl) ?_
    refine s_y (v := .bool false) rfl (y_lss rfl rfl (decide_eq_false hk9)) ?_
    refine s_nil ?_
    refine W_if_f (by decide) rfl ?_
    refine W_skip ?_
    refine W_seq ?_
    refine W_region (by kernel_rfl) ?_
    refine s_y (v := .slice a1 n1 c1) rfl (y_move rfl) ?_
    refine s_y (v := .int .i64 (1048576 - ((nsp0 : Nat) : Int) - ((nls0 : Nat) : Int))) rfl (y_move rfl) ?_
    refine s_k rfl (k_call T8.fn_43 (c_l_szSourceS (by omega) (by omega) (by omega)) rfl ?_)
    rintro v12 w10 ⟨hv13, e11⟩
    replace B := B.ext0 e11
    clear e11
    by_cases c14 : ((n1 : Nat) : Int) ≤ (1048576 - ((nsp0 : Nat) : Int) - ((nls0 : Nat) : Int))
    · obtain rfl : v12 = .int .i64 ((1048576 - ((nsp0 : Nat) : Int) - ((nls0 : Nat) : Int)) - ((n1 : Nat) : Int)) := hv13.trans (congrArg _ (if_pos c14))
      have hk15 : ¬ ((1048576 - ((nsp0 : Nat) : Int) - ((nls0 : Nat) : Int)) - ((n1 : Nat) : Int)) < 0 := by omega
      refine s_y (v := .int .i64 ((1048576 - ((nsp0 : Nat) : Int) - ((nls0 : Nat) : Int)) - ((n1 : Nat) : Int))) rfl (y_assign rfl) ?_
      refine s_nil ?_
      refine W_seq ?_
      refine W_seq ?_
      refine W_region (by kernel_rfl) ?_
      refine s_y (v := .int .i64 ((1048576 - ((nsp0 : Nat) : Int) - ((nls0 : Nat) : Int)) - ((n1 : Nat) : Int))) rfl (y_move rfl) ?_
      refine s_y (v := .bool false) rfl (y_lss rfl rfl (decide_eq_false hk15)) ?_
      refine s_nil ?_
      refine W_if_f (by decide) rfl ?_
      refine W_skip ?_
      refine W_seq ?_
      refine W_region (by kernel_rfl) ?_
      refine s_y (v := .agg #[.int .i64 wd0, .int .i64 hi0, .bool wr0, .slice asp0 nsp0 csp0, .slice als0 nls0 cls0]) rfl (y_loadn (b := b1) (o := 0) (vs := [.int .i64 wd0, .int .i64 hi0, .bool wr0, .slice asp0 nsp0 csp0, .slice als0 nls0 cls0]) T8.agg_36_5 rfl rfl ((B.b 0 rfl).cells (o := 0) rfl)) ?_
      refine s_k rfl (k_call T8.fn_23 (c_l_toSheet (B.r 1 rfl) (B.r 2 rfl) (by omega) (by omega)) rfl ?_)
      rintro _ w16 ⟨a17, c18, a19, c20, rfl, hN21⟩
      replace B := B.new2 hN21
      clear hN21
      refine s_y (v := .slice a1 n1 c1) rfl (y_move rfl) ?_
      refine s_k rfl (k_call T8.fn_45 (c_l_toSourceS (B.r 5 rfl) (by omega)) rfl ?_)
      rintro _ w22 ⟨a23, c24, rfl, hN25⟩
      replace B := B.new1 hN25
      clear hN25
      refine s_k rfl (k_call T8.fn_44 (c_s_AreSources ((B.o 1 rfl).rd) ((B.o 2 rfl).rd) ((B.o 0 rfl).rd) (by omega) (by omega)) rfl ?_)
      rintro v28 w26 ⟨hv29, e27⟩
      replace B := B.ext0 e27
      clear e27
      by_cases c30 : areSrcB wd0 hi0 wr0 Xsp0 Xls0 X1 = true
      · have hb31 := areSrcB_b c30
        obtain rfl : v28 = .bool true := hv29.trans (congrArg Value.bool c30)
        refine s_y (v := .bool true) rfl (y_assign rfl) ?_
        refine s_nil ?_
        refine W_seq ?_
        refine W_region (by kernel_rfl) ?_
        refine s_y (v := .agg #[.int .i64 wd0, .int .i64 hi0, .bool wr0, .slice asp0 nsp0 csp0, .slice als0 nls0 cls0]) rfl (y_loadn (b := b1) (o := 0) (vs := [.int .i64 wd0, .int .i64 hi0, .bool wr0, .slice asp0 nsp0 csp0, .slice als0 nls0 cls0]) T8.agg_36_5 rfl rfl ((B.b 3 rfl).cells (o := 0) rfl)) ?_
        refine s_k rfl (k_call T8.fn_23 (c_l_toSheet (B.r 4 rfl) (B.r 5 rfl) (by omega) (by omega)) rfl ?_)
        rintro _ w32 ⟨a33, c34, a35, c36, rfl, hN37⟩
        replace B := B.new2 hN37
        clear hN37
        refine s_k rfl (k_allocN (z := (.agg #[.int .i64 0, .int .i64 0, .bool false, .slice none 0 0, .slice none 0 0])) (cs := [.int .i64 0, .int .i64 0, .bool false, .slice none 0 0, .slice none 0 0]) T8.zero_26 rfl (fun b38 w39 hN40 => ?_))
        replace B := B.new1 hN40
        clear hN40
        refine s_k0 rfl (k_stB (v := .agg #[.int .i64 wd0, .int .i64 hi0, .bool wr0, .slice a33 nsp0 c34, .slice a35 nls0 c36]) (n := 5) (cs' := [.int .i64 wd0, .int .i64 hi0, .bool wr0, .slice a33 nsp0 c34, .slice a35 nls0 c36]) T8.sz_26_5 rfl rfl rfl (B.b 0 rfl) (by simp [Value.cells, Value.oneCell']) (Nat.le_of_ble_eq_true rfl) rfl (fun w41 hU42 => ?_))
        replace B : Bu w no w41 [.blk b38 [.int .i64 wd0, .int .i64 hi0, .bool wr0, .slice a33 nsp0 c34, .slice a35 nls0 c36] 26, .ow kF a33 nsp0 c34 56 Xsp0, .ow kF a35 nls0 c36 56 Xls0, .ow kS a23 n1 c24 101 X1, .ow kF a17 nsp0 c18 56 Xsp0, .ow kF a19 nls0 c20 56 Xls0, .blk b1 [.int .i64 wd0, .int .i64 hi0, .bool wr0, .slice asp0 nsp0 csp0, .slice als0 nls0 cls0] 36, .rd kF asp0 nsp0 Xsp0, .rd kF als0 nls0 Xls0, .rd kS a1 n1 X1] := B.upd [0] rfl hU42
        clear hU42
        refine s_nil ?_
        refine W_seq ?_
        refine W_region (by kernel_rfl) ?_
        refine s_y (v := .slice a1 n1 c1) rfl (y_move rfl) ?_
        refine s_k rfl (k_call T8.fn_45 (c_l_toSourceS (B.r 9 rfl) (by omega)) rfl ?_)
        rintro _ w43 ⟨a44, c45, rfl, hN46⟩
        replace B := B.new1 hN46
        clear hN46
        refine s_y (v := .slice a44 n1 c45) rfl (y_assign rfl) ?_
        refine s_nil ?_
        refine W_seq ?_
        refine W_region (by kernel_rfl) ?_
        refine s_y (v := .agg #[.int .i64 wd0, .int .i64 hi0, .bool wr0, .slice a33 nsp0 c34, .slice a35 nls0 c36]) rfl (y_loadn (b := b38) (o := 0) (vs := [.int .i64 wd0, .int .i64 hi0, .bool wr0, .slice a33 nsp0 c34, .slice a35 nls0 c36]) T8.agg_26_5 rfl rfl ((B.b 1 rfl).cells (o := 0) rfl)) ?_
        refine s_y (v := .slice a44 n1 c45) rfl (y_move rfl) ?_
        refine s_k rfl (k_call T8.fn_46 (c_i_AreSources ((B.o 2 rfl).rd) ((B.o 3 rfl).rd) ((B.o 0 rfl).rd) (by omega) (by omega)) rfl ?_)
        rintro v49 w47 ⟨hv50, e48⟩
        replace B := B.ext0 e48
        clear e48
        obtain rfl : v49 = .bool true := hv50.trans (congrArg Value.bool c30)
        refine s_y (v := .bool true) rfl (y_assign rfl) ?_
        refine s_nil ?_
        refine W_seq ?_
        refine W_seq ?_
        refine W_region (by kernel_rfl) ?_
        refine s_y (v := .bool true) rfl (y_move rfl) ?_
        refine s_y (v := .bool true) rfl (y_move rfl) ?_
        refine s_y (v := .bool false) rfl (y_bneq T8.bool_4 rfl rfl rfl) ?_
        refine s_nil ?_
        refine W_if_f (by decide) rfl ?_
        refine W_skip ?_
        refine W_seq ?_
        refine W_seq ?_
        have B0_55 := B
        refine W_draw (no) T8.mx (by kernel_rfl) (fun w53 e54 => ?_)
        have R56 := Ext.refl (no) w47
        replace R56 := R56.trans (Ext0.any e54)
        replace B := B.ext0 e54
        clear e54
        refine m_y (v := .agg #[.int .i64 wd0, .int .i64 hi0, .bool wr0, .slice a33 nsp0 c34, .slice a35 nls0 c36]) 0 rfl (by kernel_rfl) rfl rfl (fun w' e' => y_loadn (b := b38) (o := 0) (vs := [.int .i64 wd0, .int .i64 hi0, .bool wr0, .slice a33 nsp0 c34, .slice a35 nls0 c36]) T8.agg_26_5 rfl rfl (((B0_55.b 1 rfl).ext0 e').cells (o := 0) rfl)) ?_
        refine m_y (v := .agg #[.int .i64 wd0, .int .i64 hi0, .bool wr0, .slice asp0 nsp0 csp0, .slice als0 nls0 cls0]) 1 rfl (by kernel_rfl) rfl rfl (fun w' e' => y_loadn (b := b1) (o := 0) (vs := [.int .i64 wd0, .int .i64 hi0, .bool wr0, .slice asp0 nsp0 csp0, .slice als0 nls0 cls0]) T8.agg_36_5 rfl rfl (((B0_55.b 7 rfl).ext0 e').cells (o := 0) rfl)) ?_
        refine m_k 2 [3, 4] rfl (by kernel_rfl) rfl rfl (fun w57 e58 => ?_)
        replace R56 := R56.trans (Ext0.any e58)
        replace B := B.ext0 e58
        clear e58
        refine k_call T8.fn_23 (c_l_toSheet (B.r 8 rfl) (B.r 9 rfl) (by omega) (by omega)) rfl ?_
        rintro _ w59 ⟨a60, c61, a62, c63, rfl, hN64⟩
        replace R56 := R56.trans (Ext0.any hN64.ext)
        replace B := B.new2 hN64
        clear hN64
        refine ⟨fun _ => R56, ?_⟩
        refine m_k 3 [4] rfl (by kernel_rfl) rfl rfl (fun w65 e66 => ?_)
        replace R56 := R56.trans (Ext0.any e66)
        replace B := B.ext0 e66
        clear e66
        refine k_call T8.fn_25 (c_l_eqSheet ((B.o 4 rfl).rd) ((B.o 5 rfl).rd) ((B.o 0 rfl).rd) ((B.o 1 rfl).rd) (by omega) (by omega)) rfl ?_
        rintro _ w67 ⟨rfl, e68⟩
        replace R56 := R56.trans (Ext0.any e68)
        replace B := B.ext0 e68
        clear e68
        refine ⟨fun _ => R56, ?_⟩
        refine m_y (v := .bool false) 4 rfl (by kernel_rfl) rfl rfl (fun w' e' => y_not rfl rfl) ?_
        refine m_done (by kernel_rfl) (fun w69 e70 => ?_)
        replace B := B.ext0 e70
        clear e70
        clear B0_55 R56
        refine W_if_f (by decide) rfl ?_
        refine W_skip ?_
        refine W_seq ?_
        refine W_seq ?_
        refine W_region (by kernel_rfl) ?_
        refine s_y (v := .slice a44 n1 c45) rfl (y_move rfl) ?_
        refine s_y (v := .slice a1 n1 c1) rfl (y_move rfl) ?_
        refine s_k rfl (k_call T8.fn_45 (c_l_toSourceS (B.r 12 rfl) (by omega)) rfl ?_)
        rintro _ w71 ⟨a72, c73, rfl, hN74⟩
        replace B := B.new1 hN74
        clear hN74
        refine s_k rfl (k_call T8.fn_47 (c_l_eqSourceS ((B.o 3 rfl).rd) ((B.o 0 rfl).rd) (by omega)) rfl ?_)
        rintro _ w75 ⟨rfl, e76⟩
        replace B := B.ext0 e76
        clear e76
        refine s_y (v := .bool false) rfl (y_not rfl rfl) ?_
        refine s_nil ?_
        refine W_if_f (by decide) rfl ?_
        refine W_skip ?_
        refine W_seq ?_
        refine W_region (by kernel_rfl) ?_
        refine s_y (v := .bool true) rfl (y_assign rfl) ?_
        refine s_nil ?_
        refine W_ret ?_
        refine ret1 (v := .bool true) rfl rfl rfl ⟨_, rfl, ?_⟩
        exact ⟨rfl, B.ext⟩
      · obtain rfl : v28 = .bool false := hv29.trans (congrArg Value.bool (Bool.eq_false_iff.2 c30))
        refine s_y (v := .bool false) rfl (y_assign rfl) ?_
        refine s_nil ?_
        refine W_seq ?_
        refine W_region (by kernel_rfl) ?_
        refine s_y (v := .agg #[.int .i64 wd0, .int .i64 hi0, .bool wr0, .slice asp0 nsp0 csp0, .slice als0 nls0 cls0]) rfl (y_loadn (b := b1) (o := 0) (vs := [.int .i64 wd0, .int .i64 hi0, .bool wr0, .slice asp0 nsp0 csp0, .slice als0 nls0 cls0]) T8.agg_36_5 rfl rfl ((B.b 3 rfl).cells (o := 0) rfl)) ?_
        refine s_k rfl (k_call T8.fn_23 (c_l_toSheet (B.r 4 rfl) (B.r 5 rfl) (by omega) (by omega)) rfl ?_)
        rintro _ w77 ⟨a78, c79, a80, c81, rfl, hN82⟩
        replace B := B.new2 hN82
        clear hN82
        refine s_k rfl (k_allocN (z := (.agg #[.int .i64 0, .int .i64 0, .bool false, .slice none 0 0, .slice none 0 0])) (cs := [.int .i64 0, .int .i64 0, .bool false, .slice none 0 0, .slice none 0 0]) T8.zero_26 rfl (fun b83 w84 hN85 => ?_))
        replace B := B.new1 hN85
        clear hN85
        refine s_k0 rfl (k_stB (v := .agg #[.int .i64 wd0, .int .i64 hi0, .bool wr0, .slice a78 nsp0 c79, .slice a80 nls0 c81]) (n := 5) (cs' := [.int .i64 wd0, .int .i64 hi0, .bool wr0, .slice a78 nsp0 c79, .slice a80 nls0 c81]) T8.sz_26_5 rfl rfl rfl (B.b 0 rfl) (by simp [Value.cells, Value.oneCell']) (Nat.le_of_ble_eq_true rfl) rfl (fun w86 hU87 => ?_))
        replace B : Bu w no w86 [.blk b83 [.int .i64 wd0, .int .i64 hi0, .bool wr0, .slice a78 nsp0 c79, .slice a80 nls0 c81] 26, .ow kF a78 nsp0 c79 56 Xsp0, .ow kF a80 nls0 c81 56 Xls0, .ow kS a23 n1 c24 101 X1, .ow kF a17 nsp0 c18 56 Xsp0, .ow kF a19 nls0 c20 56 Xls0, .blk b1 [.int .i64 wd0, .int .i64 hi0, .bool wr0, .slice asp0 nsp0 csp0, .slice als0 nls0 cls0] 36, .rd kF asp0 nsp0 Xsp0, .rd kF als0 nls0 Xls0, .rd kS a1 n1 X1] := B.upd [0] rfl hU87
        clear hU87
        refine s_nil ?_
        refine W_seq ?_
        refine W_region (by kernel_rfl) ?_
        refine s_y (v := .slice a1 n1 c1) rfl (y_move rfl) ?_
        refine s_k rfl (k_call T8.fn_45 (c_l_toSourceS (B.r 9 rfl) (by omega)) rfl ?_)
        rintro _ w88 ⟨a89, c90, rfl, hN91⟩
        replace B := B.new1 hN91
        clear hN91
        refine s_y (v := .slice a89 n1 c90) rfl (y_assign rfl) ?_
        refine s_nil ?_
        refine W_seq ?_
        refine W_region (by kernel_rfl) ?_
        refine s_y (v := .agg #[.int .i64 wd0, .int .i64 hi0, .bool wr0, .slice a78 nsp0 c79, .slice a80 nls0 c81]) rfl (y_loadn (b := b83) (o := 0) (vs := [.int .i64 wd0, .int .i64 hi0, .bool wr0, .slice a78 nsp0 c79, .slice a80 nls0 c81]) T8.agg_26_5 rfl rfl ((B.b 1 rfl).cells (o := 0) rfl)) ?_
        refine s_y (v := .slice a89 n1 c90) rfl (y_move rfl) ?_
        refine s_k rfl (k_call T8.fn_46 (c_i_AreSources ((B.o 2 rfl).rd) ((B.o 3 rfl).rd) ((B.o 0 rfl).rd) (by omega) (by omega)) rfl ?_)
        rintro v94 w92 ⟨hv95, e93⟩
        replace B := B.ext0 e93
        clear e93
        obtain rfl : v94 = .bool false := hv95.trans (congrArg Value.bool (Bool.eq_false_iff.2 c30))
        refine s_y (v := .bool false) rfl (y_assign rfl) ?_
        refine s_nil ?_
        refine W_seq ?_
        refine W_seq ?_
        refine W_region (by kernel_rfl) ?_
        refine s_y (v := .bool false) rfl (y_move rfl) ?_
        refine s_y (v := .bool false) rfl (y_move rfl) ?_
        refine s_y (v := .bool false) rfl (y_bneq T8.bool_4 rfl rfl rfl) ?_
        refine s_nil ?_
        refine W_if_f (by decide) rfl ?_
        refine W_skip ?_
        refine W_seq ?_
        refine W_seq ?_
        have B0_100 := B
        refine W_draw (no) T8.mx (by kernel_rfl) (fun w98 e99 => ?_)
        have R101 := Ext.refl (no) w92
        replace R101 := R101.trans (Ext0.any e99)
        replace B := B.ext0 e99
        clear e99
        refine m_y (v := .agg #[.int .i64 wd0, .int .i64 hi0, .bool wr0, .slice a78 nsp0 c79, .slice a80 nls0 c81]) 0 rfl (by kernel_rfl) rfl rfl (fun w' e' => y_loadn (b := b83) (o := 0) (vs := [.int .i64 wd0, .int .i64 hi0, .bool wr0, .slice a78 nsp0 c79, .slice a80 nls0 c81]) T8.agg_26_5 rfl rfl (((B0_100.b 1 rfl).ext0 e').cells (o := 0) rfl)) ?_
        refine m_y (v := .agg #[.int .i64 wd0, .int .i64 hi0, .bool wr0, .slice asp0 nsp0 csp0, .slice als0 nls0 cls0]) 1 rfl (by kernel_rfl) rfl rfl (fun w' e' => y_loadn (b := b1) (o := 0) (vs := [.int .i64 wd0, .int .i64 hi0, .bool wr0, .slice asp0 nsp0 csp0, .slice als0 nls0 cls0]) T8.agg_36_5 rfl rfl (((B0_100.b 7 rfl).ext0 e').cells (o := 0) rfl)) ?_
        refine m_k 2 [3, 4] rfl (by kernel_rfl) rfl rfl (fun w102 e103 => ?_)
        replace R101 := R101.trans (Ext0.any e103)
        replace B := B.ext0 e103
        clear e103
        refine k_call T8.fn_23 (c_l_toSheet (B.r 8 rfl) (B.r 9 rfl) (by omega) (by omega)) rfl ?_
        rintro _ w104 ⟨a105, c106, a107, c108, rfl, hN109⟩
        replace R101 := R101.trans (Ext0.any hN109.ext)
        replace B := B.new2 hN109
        clear hN109
        refine ⟨fun _ => R101, ?_⟩
        refine m_k 3 [4] rfl (by kernel_rfl) rfl rfl (fun w110 e111 => ?_)
        replace R101 := R101.trans (Ext0.any e111)
        replace B := B.ext0 e111
        clear e111
        refine k_call T8.fn_25 (c_l_eqSheet ((B.o 4 rfl).rd) ((B.o 5 rfl).rd) ((B.o 0 rfl).rd) ((B.o 1 rfl).rd) (by omega) (by omega)) rfl ?_
        rintro _ w112 ⟨rfl, e113⟩
        replace R101 := R101.trans (Ext0.any e113)
        replace B := B.ext0 e113
        clear e113
        refine ⟨fun _ => R101, ?_⟩
        refine m_y (v := .bool false) 4 rfl (by kernel_rfl) rfl rfl (fun w' e' => y_not rfl rfl) ?_
        refine m_done (by kernel_rfl) (fun w114 e115 => ?_)
        replace B := B.ext0 e115
        clear e115
        clear B0_100 R101
        refine W_if_f (by decide) rfl ?_
        refine W_skip ?_
        refine W_seq ?_
        refine W_seq ?_
        refine W_region (by kernel_rfl) ?_
        refine s_y (v := .slice a89 n1 c90) rfl (y_move rfl) ?_
        refine s_y (v := .slice a1 n1 c1) rfl (y_move rfl) ?_
        refine s_k rfl (k_call T8.fn_45 (c_l_toSourceS (B.r 12 rfl) (by omega)) rfl ?_)
        rintro _ w116 ⟨a117, c118, rfl, hN119⟩
        replace B := B.new1 hN119
        clear hN119
        refine s_k rfl (k_call T8.fn_47 (c_l_eqSourceS ((B.o 3 rfl).rd) ((B.o 0 rfl).rd) (by omega)) rfl ?_)
        rintro _ w120 ⟨rfl, e121⟩
        replace B := B.ext0 e121
        clear e121
        refine s_y (v := .bool false) rfl (y_not rfl rfl) ?_
        refine s_nil ?_
        refine W_if_f (by decide) rfl ?_
        refine W_skip ?_
        refine W_seq ?_
        refine W_region (by kernel_rfl) ?_
        refine s_y (v := .bool true) rfl (y_assign rfl) ?_
        refine s_nil ?_
        refine W_ret ?_
        refine ret1 (v := .bool true) rfl rfl rfl ⟨_, rfl, ?_⟩
        exact ⟨rfl, B.ext⟩
    · obtain rfl : v12 = .int .i64 (-1) := hv13.trans (congrArg _ (if_neg c14))
      refine s_y (v := .int .i64 (-1)) rfl (y_assign rfl) ?_
      refine s_nil ?_
      refine W_seq ?_
      refine W_seq ?_
      refine W_region (by kernel_rfl) ?_
      refine s_y (v := .int .i64 (-1)) rfl (y_move rfl) ?_
      have hk122 : (-1 : Int) < 0 := (by decide)
      refine s_y (v := .bool true) rfl (y_lss rfl rfl (decide_eq_true hk122)) ?_
      refine s_nil ?_
      refine W_if_t (by decide) rfl ?_
      refine W_seq ?_
      refine W_region (by kernel_rfl) ?_
      refine s_y (v := .bool true) rfl (y_assign rfl) ?_
      refine s_nil ?_
      refine W_ret ?_
      refine ret1 (v := .bool true) rfl rfl rfl ⟨_, rfl, ?_⟩
      exact ⟨rfl, B.ext⟩
  · obtain rfl : v6 = .int .i64 (-1) := hv7.trans (congrArg _ (if_neg c8))
    refine s_y (v := .int .i64 (-1)) rfl (y_assign rfl) ?_
    refine s_nil ?_
    refine W_seq ?_
    refine W_seq ?_
    refine W_region (by kernel_rfl) ?_
    refine s_y (v := .int .i64 (-1)) rfl (y_move rfl) ?_
    have hk123 : (-1 : Int) < 0 := (by decide)
    refine s_y (v := .bool true) rfl (y_lss rfl rfl (decide_eq_true hk123)) ?_
    refine s_nil ?_
    refine W_if_t (by decide) rfl ?_
    refine W_seq ?_
    refine W_region (by kernel_rfl) ?_
    refine s_y (v := .bool true) rfl (y_assign rfl) ?_
    refine s_nil ?_
    refine W_ret ?_
    refine ret1 (v := .bool true) rfl rfl rfl ⟨_, rfl, ?_⟩
    exact ⟨rfl, B.ext⟩
end Go.Proofs.Ytalkhbnlphefdaa
