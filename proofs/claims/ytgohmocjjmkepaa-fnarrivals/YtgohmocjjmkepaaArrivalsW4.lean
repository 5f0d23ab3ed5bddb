/- Walks: what the functions under FnArrivals do (part 5). Printed by a program of this claim's author. -/
import Derived.Test.YtgohmocjjmkepaaArrivalsW3
set_option linter.unusedSimpArgs false
set_option linter.unusedVariables false
open Go.Wv
namespace Go.Proofs.Ytgohmocjjmkepaa
open Go.Proofs
namespace T5
theorem mx : Try.prog.follows .mixedOrders = true := by kernel_rfl
theorem agg_26_5 : aggB Try.prog 26 5 = true := by kernel_rfl
theorem agg_30_3 : aggB Try.prog 30 3 = true := by kernel_rfl
theorem agg_44_6 : aggB Try.prog 44 6 = true := by kernel_rfl
theorem fld_26_0_0 : fldB Try.prog 26 0 0 = true := by kernel_rfl
theorem fld_26_1_1 : fldB Try.prog 26 1 1 = true := by kernel_rfl
theorem fld_26_2_2 : fldB Try.prog 26 2 2 = true := by kernel_rfl
theorem fn_15 : fnB Try.prog 15 = true := by kernel_rfl
theorem fn_22 : fnB Try.prog 22 = true := by kernel_rfl
theorem fn_23 : fnB Try.prog 23 = true := by kernel_rfl
theorem fn_24 : fnB Try.prog 24 = true := by kernel_rfl
theorem fn_25 : fnB Try.prog 25 = true := by kernel_rfl
theorem fn_31 : fnB Try.prog 31 = true := by kernel_rfl
theorem fn_32 : fnB Try.prog 32 = true := by kernel_rfl
theorem fn_33 : fnB Try.prog 33 = true := by kernel_rfl
theorem fn_34 : fnB Try.prog 34 = true := by kernel_rfl
theorem fn_35 : fnB Try.prog 35 = true := by kernel_rfl
theorem one_2 : oneB Try.prog 2 = true := by kernel_rfl
theorem one_24 : oneB Try.prog 24 = true := by kernel_rfl
theorem one_34 : oneB Try.prog 34 = true := by kernel_rfl
theorem one_4 : oneB Try.prog 4 = true := by kernel_rfl
theorem sl_24_34_1 : slB Try.prog 24 34 1 = true := by kernel_rfl
theorem sl_59_24_1 : slB Try.prog 59 24 1 = true := by kernel_rfl
theorem slt_58 : SlT Try.prog 58 57 9 64 (.agg #[.int .i64 0, .int .i64 0, .bool false, .int .i64 0, .int .i64 0, .int .i64 0, .float .f32 0, .float .f32 0, .int .i64 0]) := ⟨by kernel_rfl, by kernel_rfl, rfl, by decide⟩
theorem slt_64 : SlT Try.prog 64 63 2 16 (.agg #[.int .i64 0, .int .i64 0]) := ⟨by kernel_rfl, by kernel_rfl, rfl, by decide⟩
theorem sz_26_5 : szB Try.prog 26 5 = true := by kernel_rfl
theorem sz_30_3 : szB Try.prog 30 3 = true := by kernel_rfl
theorem sz_44_6 : szB Try.prog 44 6 = true := by kernel_rfl
theorem zero_26 : zeroB Try.prog 26 (.agg #[.int .i64 0, .int .i64 0, .bool false, .slice none 0 0, .slice none 0 0]) := by unfold zeroB; kernel_rfl
theorem zero_30 : zeroB Try.prog 30 (.agg #[.slice none 0 0, .slice none 0 0, .slice none 0 0]) := by unfold zeroB; kernel_rfl
theorem zero_44 : zeroB Try.prog 44 (.agg #[.int .i64 0, .int .i64 0, .int .i64 0, .float .f32 0, .float .f32 0, .int .i64 0]) := by unfold zeroB; kernel_rfl
end T5
set_option maxRecDepth 100000 in
set_option maxHeartbeats 20000000 in
theorem c_FnArrivals {a0 : Option Addr} {n0 : Nat} {c0 : Nat} {X0 : List Nat} {a1 : Option Addr} {n1 : Nat} {c1 : Nat} {X1 : List Nat} {w : World} (q0 : Rd w kY a0 n0 X0) (q1 : Rd w kY a1 n1 X1) (g0 : n0 ≤ 9223372036854775807) (g1 : n1 ≤ 9223372036854775807) :
    Calls Try.prog 5 #[.slice a0 n0 c0, .slice a1 n1 c1] w (Rt fun v w' => v = .bool true ∧ Ext0 w w') := by
  have hl0 := q0.len
  have hl1 := q1.len
  have B : Bu w no w [.rd kY a0 n0 X0, .rd kY a1 n1 X1] := Bu.ro (All.cons q0 (All.cons q1 All.nil)) rfl
  refine calls_W (n := 171) Try.func5 rfl rfl (Nat.le_of_ble_eq_true rfl) ?_
  refine W_seq ?_
  refine W_region (by kernel_rfl) ?_
  refine s_y (v := .bool false) rfl (y_assign rfl) ?_
  refine s_nil ?_
  refine W_seq ?_
  refine W_seq ?_
  refine W_region (by kernel_rfl) ?_
  refine s_y (v := .slice a0 n0 c0) rfl (y_move rfl) ?_
  refine s_y (v := .slice a1 n1 c1) rfl (y_move rfl) ?_
  refine s_k rfl (k_call T5.fn_22 (c_l_r8Long (B.r 0 rfl) (B.r 1 rfl) (by first | exact lenle (by assumption) | exact lenle6 (by assumption) | exact le256 (by assumption) | exact le2566 (by assumption) | omega) (by first | exact lenle (by assumption) | exact lenle6 (by assumption) | exact le256 (by assumption) | exact le2566 (by assumption) | omega)) rfl ?_)
  rintro v3 w1 ⟨hv4, e2⟩
  replace B := B.ext0 e2
  clear e2
  by_cases c5 : (decide (48 < (n0 : Int)) || decide (48 < (n1 : Int))) = true
  · obtain rfl : v3 = .bool true := hv4.trans (congrArg Value.bool c5)
    refine s_nil ?_
    refine W_if_t (by decide) rfl ?_
    refine W_seq ?_
    refine W_region (by kernel_rfl) ?_
    refine s_y (v := .bool true) rfl (y_assign rfl) ?_
    refine s_nil ?_
    refine W_ret ?_
    refine ret1 (v := .bool true) rfl rfl rfl ⟨_, rfl, ?_⟩
    exact ⟨rfl, B.ext⟩
  · obtain rfl : v3 = .bool false := hv4.trans (congrArg Value.bool (Bool.eq_false_iff.2 c5))
    refine s_nil ?_
    refine W_if_f (by decide) rfl ?_
    refine W_skip ?_
    refine W_seq ?_
    refine W_region (by kernel_rfl) ?_
    refine s_y (v := .slice a0 n0 c0) rfl (y_move rfl) ?_
    refine s_k rfl (k_call T5.fn_31 (c_s_R8Sheet (B.r 0 rfl)) rfl ?_)
    rintro _ w6 ⟨v8, v9, vb10, a11, c12, c13, Z14, a15, c16, c17, Z18, rfl, hp19, hp20, hp21, hp22, hN7⟩
    replace B := B.new2 hN7
    clear hN7
    have hl23 := (B.o 0 rfl).len
    have hl24 := (B.o 1 rfl).len
    have hb25 := validS_b hp21
    refine s_k rfl (k_allocN (z := (.agg #[.int .i64 0, .int .i64 0, .bool false, .slice none 0 0, .slice none 0 0])) (cs := [.int .i64 0, .int .i64 0, .bool false, .slice none 0 0, .slice none 0 0]) T5.zero_26 rfl (fun b26 w27 hN28 => ?_))
    replace B := B.new1 hN28
    clear hN28
    refine s_k0 rfl (k_stB (v := .agg #[.int .i64 v8, .int .i64 v9, .bool vb10, .slice a11 c12 c13, .slice a15 c16 c17]) (n := 5) (cs' := [.int .i64 v8, .int .i64 v9, .bool vb10, .slice a11 c12 c13, .slice a15 c16 c17]) T5.sz_26_5 rfl rfl rfl (B.b 0 rfl) (by simp [Value.cells, Value.oneCell']) (Nat.le_of_ble_eq_true rfl) rfl (fun w29 hU30 => ?_))
    replace B : Bu w no w29 [.blk b26 [.int .i64 v8, .int .i64 v9, .bool vb10, .slice a11 c12 c13, .slice a15 c16 c17] 26, .ow kF a11 c12 c13 34 Z14, .ow kF a15 c16 c17 34 Z18, .rd kY a0 n0 X0, .rd kY a1 n1 X1] := B.upd [0] rfl hU30
    clear hU30
    refine s_nil ?_
    refine W_seq ?_
    refine W_region (by kernel_rfl) ?_
    refine s_y (v := .agg #[.int .i64 v8, .int .i64 v9, .bool vb10, .slice a11 c12 c13, .slice a15 c16 c17]) rfl (y_loadn (b := b26) (o := 0) (vs := [.int .i64 v8, .int .i64 v9, .bool vb10, .slice a11 c12 c13, .slice a15 c16 c17]) T5.agg_26_5 rfl rfl ((B.b 0 rfl).cells (o := 0) rfl)) ?_
    refine s_k rfl (k_call T5.fn_15 (c_i_ZeroField ((B.o 1 rfl).rd) ((B.o 2 rfl).rd) (by first | exact lenle (by assumption) | exact lenle6 (by assumption) | exact le256 (by assumption) | exact le2566 (by assumption) | omega) (by first | exact lenle (by assumption) | exact lenle6 (by assumption) | exact le256 (by assumption) | exact le2566 (by assumption) | omega)) rfl ?_)
    rintro v33 w31 hx32
    obtain ⟨a34, c35, a36, c37, a38, c39, rfl, hN40⟩ := (hx32.resolve_right (fun hz => by rw [hp21] at hz; cases hz.1)).2
    clear hx32
    replace B := B.new3 hN40
    clear hN40
    refine s_y (v := .tuple #[.agg #[.slice a34 (Int.toNat (v8 * v9)) c35, .slice a36 (Int.toNat (v8 * v9)) c37, .slice a38 (Int.toNat (v8 * v9)) c39], .bool true]) rfl (y_move rfl) ?_
    refine s_y (v := .agg #[.slice a34 (Int.toNat (v8 * v9)) c35, .slice a36 (Int.toNat (v8 * v9)) c37, .slice a38 (Int.toNat (v8 * v9)) c39]) rfl (y_extract rfl rfl) ?_
    refine s_y (v := .bool true) rfl (y_extract rfl rfl) ?_
    refine s_k rfl (k_allocN (z := (.agg #[.slice none 0 0, .slice none 0 0, .slice none 0 0])) (cs := [.slice none 0 0, .slice none 0 0, .slice none 0 0]) T5.zero_30 rfl (fun b41 w42 hN43 => ?_))
    replace B := B.new1 hN43
    clear hN43
    refine s_k0 rfl (k_stB (v := .agg #[.slice a34 (Int.toNat (v8 * v9)) c35, .slice a36 (Int.toNat (v8 * v9)) c37, .slice a38 (Int.toNat (v8 * v9)) c39]) (n := 3) (cs' := [.slice a34 (Int.toNat (v8 * v9)) c35, .slice a36 (Int.toNat (v8 * v9)) c37, .slice a38 (Int.toNat (v8 * v9)) c39]) T5.sz_30_3 rfl rfl rfl (B.b 0 rfl) (by simp [Value.cells, Value.oneCell']) (Nat.le_of_ble_eq_true rfl) rfl (fun w44 hU45 => ?_))
    replace B : Bu w no w44 [.blk b41 [.slice a34 (Int.toNat (v8 * v9)) c35, .slice a36 (Int.toNat (v8 * v9)) c37, .slice a38 (Int.toNat (v8 * v9)) c39] 30, .ow kF a34 (Int.toNat (v8 * v9)) c35 34 (List.replicate (Int.toNat (v8 * v9)) 0), .ow kF a36 (Int.toNat (v8 * v9)) c37 34 (List.replicate (Int.toNat (v8 * v9)) 0), .ow kF a38 (Int.toNat (v8 * v9)) c39 34 (List.replicate (Int.toNat (v8 * v9)) 0), .blk b26 [.int .i64 v8, .int .i64 v9, .bool vb10, .slice a11 c12 c13, .slice a15 c16 c17] 26, .ow kF a11 c12 c13 34 Z14, .ow kF a15 c16 c17 34 Z18, .rd kY a0 n0 X0, .rd kY a1 n1 X1] := B.upd [0] rfl hU45
    clear hU45
    refine s_y (v := .bool true) rfl (y_assign rfl) ?_
    refine s_nil ?_
    refine W_seq ?_
    refine W_region (by kernel_rfl) ?_
    refine s_y (v := .slice a1 n1 c1) rfl (y_move rfl) ?_
    refine s_y (v := .pointer (some ⟨b26, 0, none⟩)) rfl (y_fld (o := 0) T5.fld_26_0_0 rfl) ?_
    refine s_y (v := .int .i64 v8) rfl (y_load T5.one_2 rfl ((B.b 4 rfl).cell (j := 0) rfl)) ?_
    refine s_y (v := .int .i64 (v8 - 2)) rfl (y_sub rfl rfl rfl (by omega)) ?_
    refine s_k rfl (k_call T5.fn_24 (c_l_r8At (B.r 8 rfl) (by omega) (by omega) (by first | exact lenle (by assumption) | exact lenle6 (by assumption) | exact le256 (by assumption) | exact le2566 (by assumption) | omega)) rfl ?_)
    rintro _ w46 ⟨u48, rfl, hp49, e47⟩
    replace B := B.ext0 e47
    clear e47
    have hb50 := r8A_b X1 0 (show 1 ≤ (v8 - 2) by omega)
    rw [← hp49] at hb50
    refine s_y (v := .int .i64 (1 + u48)) rfl (y_add rfl rfl rfl (by omega)) ?_
    refine s_y (v := .int .i64 (1 + u48)) rfl (y_assign rfl) ?_
    refine s_nil ?_
    refine W_seq ?_
    refine W_region (by kernel_rfl) ?_
    refine s_y (v := .slice a1 n1 c1) rfl (y_move rfl) ?_
    refine s_y (v := .pointer (some ⟨b26, 1, none⟩)) rfl (y_fld (o := 0) T5.fld_26_1_1 rfl) ?_
    refine s_y (v := .int .i64 v9) rfl (y_load T5.one_2 rfl ((B.b 4 rfl).cell (j := 1) rfl)) ?_
    refine s_y (v := .int .i64 (v9 - 2)) rfl (y_sub rfl rfl rfl (by omega)) ?_
    refine s_k rfl (k_call T5.fn_24 (c_l_r8At (B.r 8 rfl) (by omega) (by omega) (by first | exact lenle (by assumption) | exact lenle6 (by assumption) | exact le256 (by assumption) | exact le2566 (by assumption) | omega)) rfl ?_)
    rintro _ w51 ⟨u53, rfl, hp54, e52⟩
    replace B := B.ext0 e52
    clear e52
    have hb55 := r8A_b X1 1 (show 1 ≤ (v9 - 2) by omega)
    rw [← hp54] at hb55
    refine s_y (v := .int .i64 (1 + u53)) rfl (y_add rfl rfl rfl (by omega)) ?_
    refine s_y (v := .int .i64 (1 + u53)) rfl (y_assign rfl) ?_
    refine s_nil ?_
    refine W_seq ?_
    refine W_region (by kernel_rfl) ?_
    refine s_y (v := .slice a1 n1 c1) rfl (y_move rfl) ?_
    refine s_y (v := .pointer (some ⟨b26, 0, none⟩)) rfl (y_fld (o := 0) T5.fld_26_0_0 rfl) ?_
    refine s_y (v := .int .i64 v8) rfl (y_load T5.one_2 rfl ((B.b 4 rfl).cell (j := 0) rfl)) ?_
    refine s_k rfl (k_call T5.fn_24 (c_l_r8At (B.r 8 rfl) (by omega) (by omega) (by first | exact lenle (by assumption) | exact lenle6 (by assumption) | exact le256 (by assumption) | exact le2566 (by assumption) | omega)) rfl ?_)
    rintro _ w56 ⟨u58, rfl, hp59, e57⟩
    replace B := B.ext0 e57
    clear e57
    have hb60 := r8A_b X1 2 (show 1 ≤ v8 by omega)
    rw [← hp59] at hb60
    refine s_y (v := .int .i64 u58) rfl (y_assign rfl) ?_
    refine s_nil ?_
    refine W_seq ?_
    refine W_region (by kernel_rfl) ?_
    refine s_y (v := .slice a1 n1 c1) rfl (y_move rfl) ?_
    refine s_y (v := .pointer (some ⟨b26, 1, none⟩)) rfl (y_fld (o := 0) T5.fld_26_1_1 rfl) ?_
    refine s_y (v := .int .i64 v9) rfl (y_load T5.one_2 rfl ((B.b 4 rfl).cell (j := 1) rfl)) ?_
    refine s_k rfl (k_call T5.fn_24 (c_l_r8At (B.r 8 rfl) (by omega) (by omega) (by first | exact lenle (by assumption) | exact lenle6 (by assumption) | exact le256 (by assumption) | exact le2566 (by assumption) | omega)) rfl ?_)
    rintro _ w61 ⟨u63, rfl, hp64, e62⟩
    replace B := B.ext0 e62
    clear e62
    have hb65 := r8A_b X1 3 (show 1 ≤ v9 by omega)
    rw [← hp64] at hb65
    refine s_y (v := .int .i64 u63) rfl (y_assign rfl) ?_
    refine s_nil ?_
    refine W_seq ?_
    refine W_region (by kernel_rfl) ?_
    refine s_y (v := .slice a0 n0 c0) rfl (y_move rfl) ?_
    refine s_k rfl (k_call T5.fn_23 (c_s_R8Wave (B.r 7 rfl)) rfl ?_)
    rintro _ w66 ⟨v68, v69, v70, c71, c72, v73, v74, v75, rfl, hp76, hp77, hp78, hp79, hp80, hp81, hp82, hp83, hp84, hp85, hp86, hp87, hp88, hp89, hN67⟩
    replace B := B.ext0 hN67
    clear hN67
    refine s_k rfl (k_allocN (z := (.agg #[.int .i64 0, .int .i64 0, .int .i64 0, .float .f32 0, .float .f32 0, .int .i64 0])) (cs := [.int .i64 0, .int .i64 0, .int .i64 0, .float .f32 0, .float .f32 0, .int .i64 0]) T5.zero_44 rfl (fun b90 w91 hN92 => ?_))
    replace B := B.new1 hN92
    clear hN92
    refine s_k0 rfl (k_stB (v := .agg #[.int .i64 v68, .int .i64 v69, .int .i64 v70, .float .f32 c71, .float .f32 c72, .int .i64 v73]) (n := 6) (cs' := [.int .i64 v68, .int .i64 v69, .int .i64 v70, .float .f32 c71, .float .f32 c72, .int .i64 v73]) T5.sz_44_6 rfl rfl rfl (B.b 0 rfl) (by simp [Value.cells, Value.oneCell']) (Nat.le_of_ble_eq_true rfl) rfl (fun w93 hU94 => ?_))
    replace B : Bu w no w93 [.blk b90 [.int .i64 v68, .int .i64 v69, .int .i64 v70, .float .f32 c71, .float .f32 c72, .int .i64 v73] 44, .blk b41 [.slice a34 (Int.toNat (v8 * v9)) c35, .slice a36 (Int.toNat (v8 * v9)) c37, .slice a38 (Int.toNat (v8 * v9)) c39] 30, .ow kF a34 (Int.toNat (v8 * v9)) c35 34 (List.replicate (Int.toNat (v8 * v9)) 0), .ow kF a36 (Int.toNat (v8 * v9)) c37 34 (List.replicate (Int.toNat (v8 * v9)) 0), .ow kF a38 (Int.toNat (v8 * v9)) c39 34 (List.replicate (Int.toNat (v8 * v9)) 0), .blk b26 [.int .i64 v8, .int .i64 v9, .bool vb10, .slice a11 c12 c13, .slice a15 c16 c17] 26, .ow kF a11 c12 c13 34 Z14, .ow kF a15 c16 c17 34 Z18, .rd kY a0 n0 X0, .rd kY a1 n1 X1] := B.upd [0] rfl hU94
    clear hU94
    refine s_nil ?_
    refine W_seq ?_
    refine W_region (by kernel_rfl) ?_
    refine s_y (v := .int .i64 (1 + u48)) rfl (y_move rfl) ?_
    refine s_y (v := .int .i64 (1 + u53)) rfl (y_move rfl) ?_
    refine s_y (v := .agg #[.int .i64 v68, .int .i64 v69, .int .i64 v70, .float .f32 c71, .float .f32 c72, .int .i64 v73]) rfl (y_loadn (b := b90) (o := 0) (vs := [.int .i64 v68, .int .i64 v69, .int .i64 v70, .float .f32 c71, .float .f32 c72, .int .i64 v73]) T5.agg_44_6 rfl rfl ((B.b 0 rfl).cells (o := 0) rfl)) ?_
    refine s_y (v := .agg #[.int .i64 (1 + u48), .int .i64 (1 + u53), .bool true, .int .i64 v68, .int .i64 v69, .int .i64 v70, .float .f32 c71, .float .f32 c72, .int .i64 v73]) rfl (y_build (cells := #[.int .i64 (1 + u48), .int .i64 (1 + u53), .bool true, .int .i64 v68, .int .i64 v69, .int .i64 v70, .float .f32 c71, .float .f32 c72, .int .i64 v73]) (by kernel_rfl)) ?_
    refine s_k rfl (k_bsliceO (k := kS) (n := 1) (cells := #[.int .i64 (1 + u48), .int .i64 (1 + u53), .bool true, .int .i64 v68, .int .i64 v69, .int .i64 v70, .float .f32 c71, .float .f32 c72, .int .i64 v73]) (X := [(⟨1 + u48, 1 + u53, true, v68, v69, v70, twT v74, szT v75, v73⟩ : Src)]) T5.slt_58 (by decide) (by first | rfl | kernel_rfl) (reps_cons (c := [.int .i64 (1 + u48), .int .i64 (1 + u53), .bool true, .int .i64 v68, .int .i64 v69, .int .i64 v70, .float .f32 c71, .float .f32 c72, .int .i64 v73]) ⟨_, _, rfl, hp88, hp89⟩ (rfl : Reps kS [] [])) rfl (fun b95 w96 hN97 => ?_))
    replace B := B.new1 hN97
    clear hN97
    refine s_y (v := .slice (some ⟨b95, 0, none⟩) 1 1) rfl (y_assign rfl) ?_
    refine s_nil ?_
    refine W_seq ?_
    refine W_region (by kernel_rfl) ?_
    refine s_y (v := .agg #[.int .i64 v8, .int .i64 v9, .bool vb10, .slice a11 c12 c13, .slice a15 c16 c17]) rfl (y_loadn (b := b26) (o := 0) (vs := [.int .i64 v8, .int .i64 v9, .bool vb10, .slice a11 c12 c13, .slice a15 c16 c17]) T5.agg_26_5 rfl rfl ((B.b 6 rfl).cells (o := 0) rfl)) ?_
    refine s_y (v := .agg #[.slice a34 (Int.toNat (v8 * v9)) c35, .slice a36 (Int.toNat (v8 * v9)) c37, .slice a38 (Int.toNat (v8 * v9)) c39]) rfl (y_loadn (b := b41) (o := 0) (vs := [.slice a34 (Int.toNat (v8 * v9)) c35, .slice a36 (Int.toNat (v8 * v9)) c37, .slice a38 (Int.toNat (v8 * v9)) c39]) T5.agg_30_3 rfl rfl ((B.b 2 rfl).cells (o := 0) rfl)) ?_
    refine s_y (v := .slice (some ⟨b95, 0, none⟩) 1 1) rfl (y_move rfl) ?_
    refine s_y (v := .int .i64 u58) rfl (y_move rfl) ?_
    refine s_y (v := .int .i64 u63) rfl (y_move rfl) ?_
    refine s_y (v := .agg #[.int .i64 u58, .int .i64 u63]) rfl (y_build (cells := #[.int .i64 u58, .int .i64 u63]) (by kernel_rfl)) ?_
    refine s_y (v := .int .i64 (1 + u48)) rfl (y_move rfl) ?_
    refine s_y (v := .int .i64 (1 + u53)) rfl (y_move rfl) ?_
    refine s_y (v := .agg #[.int .i64 (1 + u48), .int .i64 (1 + u53)]) rfl (y_build (cells := #[.int .i64 (1 + u48), .int .i64 (1 + u53)]) (by kernel_rfl)) ?_
    refine s_k rfl (k_bsliceO (k := kP) (n := 2) (cells := #[.int .i64 u58, .int .i64 u63, .int .i64 (1 + u48), .int .i64 (1 + u53)]) (X := [(u58, u63), (1 + u48, 1 + u53)]) T5.slt_64 (by decide) (by first | rfl | kernel_rfl) (reps_cons (c := [.int .i64 u58, .int .i64 u63]) rfl (reps_cons (c := [.int .i64 (1 + u48), .int .i64 (1 + u53)]) rfl (rfl : Reps kP [] []))) rfl (fun b98 w99 hN100 => ?_))
    replace B := B.new1 hN100
    clear hN100
    refine s_k rfl (k_call T5.fn_32 (c_i_RunSources ((B.o 8 rfl).rd) ((B.o 9 rfl).rd) ((B.o 4 rfl).rd) ((B.o 5 rfl).rd) ((B.o 6 rfl).rd) ((B.o 1 rfl).rd) ((B.o 0 rfl).rd) (by first | exact lenle (by assumption) | exact lenle6 (by assumption) | exact le256 (by assumption) | exact le2566 (by assumption) | omega) (by first | exact lenle (by assumption) | exact lenle6 (by assumption) | exact le256 (by assumption) | exact le2566 (by assumption) | omega) (by first | exact lenle (by assumption) | exact lenle6 (by assumption) | exact le256 (by assumption) | exact le2566 (by assumption) | omega) (by first | exact lenle (by assumption) | exact lenle6 (by assumption) | exact le256 (by assumption) | exact le2566 (by assumption) | omega) (by first | exact lenle (by assumption) | exact lenle6 (by assumption) | exact le256 (by assumption) | exact le2566 (by assumption) | omega) (by omega) (fun kq h0 h1 i h2 h3 => by obtain rfl : i = 0 := (by omega); show wavOK v68 v69 v70 (twT v74) (0 + kq); exact wav_ok (by omega) (by omega) (by omega))) rfl ?_)
    rintro v103 w101 hx102
    have hnnq : 0 ≤ v8 * v9 := Int.mul_nonneg (by omega) (by omega)
    have hk104 : rsB v8 v9 vb10 Z14 Z18 (List.replicate (Int.toNat (v8 * v9)) 0) (List.replicate (Int.toNat (v8 * v9)) 0) (List.replicate (Int.toNat (v8 * v9)) 0) ([(⟨1 + u48, 1 + u53, true, v68, v69, v70, twT v74, szT v75, v73⟩ : Src)]) ([(u58, u63), (1 + u48, 1 + u53)]) 0 8 = true := (ra_ok hp21 (by omega) ⟨by (try dsimp only); omega, by (try dsimp only); omega⟩ ⟨by (try dsimp only); omega, by (try dsimp only); omega⟩ ⟨by (try dsimp only); omega, by (try dsimp only); omega⟩ ⟨by (try dsimp only); omega, by (try dsimp only); omega⟩ (va_ok (by (try dsimp only); omega) (by (try dsimp only); omega) (by (try dsimp only); omega) (by (try dsimp only); omega) (by (try dsimp only); omega)) (by omega) (by omega))
    obtain ⟨a105, c106, zr107, a108, c109, a110, c111, a112, c113, rfl, hN114⟩ := (hx102.resolve_right (fun hz => by rw [hk104] at hz; cases hz.1)).2
    clear hx102
    replace B : Bu w no w101 [.fam kF 34 allP zr107 (rcs v8 v9 vb10 Z14 Z18 ([(⟨1 + u48, 1 + u53, true, v68, v69, v70, twT v74, szT v75, v73⟩ : Src)]) 0 ((List.replicate (Int.toNat (v8 * v9)) 0), (List.replicate (Int.toNat (v8 * v9)) 0), (List.replicate (Int.toNat (v8 * v9)) 0)) ([(u58, u63), (1 + u48, 1 + u53)]) 2 8), .ow kL a105 2 c106 24 zr107, .ow kF a108 (Int.toNat (v8 * v9)) c109 34 ((rsT v8 v9 vb10 Z14 Z18 ([(⟨1 + u48, 1 + u53, true, v68, v69, v70, twT v74, szT v75, v73⟩ : Src)]) 0 ((List.replicate (Int.toNat (v8 * v9)) 0), (List.replicate (Int.toNat (v8 * v9)) 0), (List.replicate (Int.toNat (v8 * v9)) 0)) (Int.toNat 8)).1), .ow kF a110 (Int.toNat (v8 * v9)) c111 34 ((rsT v8 v9 vb10 Z14 Z18 ([(⟨1 + u48, 1 + u53, true, v68, v69, v70, twT v74, szT v75, v73⟩ : Src)]) 0 ((List.replicate (Int.toNat (v8 * v9)) 0), (List.replicate (Int.toNat (v8 * v9)) 0), (List.replicate (Int.toNat (v8 * v9)) 0)) (Int.toNat 8)).2.1), .ow kF a112 (Int.toNat (v8 * v9)) c113 34 ((rsT v8 v9 vb10 Z14 Z18 ([(⟨1 + u48, 1 + u53, true, v68, v69, v70, twT v74, szT v75, v73⟩ : Src)]) 0 ((List.replicate (Int.toNat (v8 * v9)) 0), (List.replicate (Int.toNat (v8 * v9)) 0), (List.replicate (Int.toNat (v8 * v9)) 0)) (Int.toNat 8)).2.2), .ow kP (some ⟨b98, 0, none⟩) 2 2 63 ([(u58, u63), (1 + u48, 1 + u53)]), .ow kS (some ⟨b95, 0, none⟩) 1 1 57 ([(⟨1 + u48, 1 + u53, true, v68, v69, v70, twT v74, szT v75, v73⟩ : Src)]), .blk b90 [.int .i64 v68, .int .i64 v69, .int .i64 v70, .float .f32 c71, .float .f32 c72, .int .i64 v73] 44, .blk b41 [.slice a34 (Int.toNat (v8 * v9)) c35, .slice a36 (Int.toNat (v8 * v9)) c37, .slice a38 (Int.toNat (v8 * v9)) c39] 30, .ow kF a34 (Int.toNat (v8 * v9)) c35 34 (List.replicate (Int.toNat (v8 * v9)) 0), .ow kF a36 (Int.toNat (v8 * v9)) c37 34 (List.replicate (Int.toNat (v8 * v9)) 0), .ow kF a38 (Int.toNat (v8 * v9)) c39 34 (List.replicate (Int.toNat (v8 * v9)) 0), .blk b26 [.int .i64 v8, .int .i64 v9, .bool vb10, .slice a11 c12 c13, .slice a15 c16 c17] 26, .ow kF a11 c12 c13 34 Z14, .ow kF a15 c16 c17 34 Z18, .rd kY a0 n0 X0, .rd kY a1 n1 X1] := B.new hN114
    clear hN114
    have hl115 := (B.o 1 rfl).len
    have hl116 := (B.o 2 rfl).len
    have hl117 := (B.o 3 rfl).len
    have hl118 := (B.o 4 rfl).len
    refine s_y (v := .tuple #[.slice a105 2 c106, .agg #[.slice a108 (Int.toNat (v8 * v9)) c109, .slice a110 (Int.toNat (v8 * v9)) c111, .slice a112 (Int.toNat (v8 * v9)) c113], .bool true]) rfl (y_move rfl) ?_
    refine s_y (v := .slice a105 2 c106) rfl (y_extract rfl rfl) ?_
    refine s_y (v := .agg #[.slice a108 (Int.toNat (v8 * v9)) c109, .slice a110 (Int.toNat (v8 * v9)) c111, .slice a112 (Int.toNat (v8 * v9)) c113]) rfl (y_extract rfl rfl) ?_
    refine s_y (v := .bool true) rfl (y_extract rfl rfl) ?_
    refine s_k rfl (k_allocN (z := (.agg #[.slice none 0 0, .slice none 0 0, .slice none 0 0])) (cs := [.slice none 0 0, .slice none 0 0, .slice none 0 0]) T5.zero_30 rfl (fun b119 w120 hN121 => ?_))
    replace B := B.new1 hN121
    clear hN121
    refine s_y (v := .slice a105 2 c106) rfl (y_assign rfl) ?_
    refine s_k0 rfl (k_stB (v := .agg #[.slice a108 (Int.toNat (v8 * v9)) c109, .slice a110 (Int.toNat (v8 * v9)) c111, .slice a112 (Int.toNat (v8 * v9)) c113]) (n := 3) (cs' := [.slice a108 (Int.toNat (v8 * v9)) c109, .slice a110 (Int.toNat (v8 * v9)) c111, .slice a112 (Int.toNat (v8 * v9)) c113]) T5.sz_30_3 rfl rfl rfl (B.b 0 rfl) (by simp [Value.cells, Value.oneCell']) (Nat.le_of_ble_eq_true rfl) rfl (fun w122 hU123 => ?_))
    replace B : Bu w no w122 [.blk b119 [.slice a108 (Int.toNat (v8 * v9)) c109, .slice a110 (Int.toNat (v8 * v9)) c111, .slice a112 (Int.toNat (v8 * v9)) c113] 30, .fam kF 34 allP zr107 (rcs v8 v9 vb10 Z14 Z18 ([(⟨1 + u48, 1 + u53, true, v68, v69, v70, twT v74, szT v75, v73⟩ : Src)]) 0 ((List.replicate (Int.toNat (v8 * v9)) 0), (List.replicate (Int.toNat (v8 * v9)) 0), (List.replicate (Int.toNat (v8 * v9)) 0)) ([(u58, u63), (1 + u48, 1 + u53)]) 2 8), .ow kL a105 2 c106 24 zr107, .ow kF a108 (Int.toNat (v8 * v9)) c109 34 ((rsT v8 v9 vb10 Z14 Z18 ([(⟨1 + u48, 1 + u53, true, v68, v69, v70, twT v74, szT v75, v73⟩ : Src)]) 0 ((List.replicate (Int.toNat (v8 * v9)) 0), (List.replicate (Int.toNat (v8 * v9)) 0), (List.replicate (Int.toNat (v8 * v9)) 0)) (Int.toNat 8)).1), .ow kF a110 (Int.toNat (v8 * v9)) c111 34 ((rsT v8 v9 vb10 Z14 Z18 ([(⟨1 + u48, 1 + u53, true, v68, v69, v70, twT v74, szT v75, v73⟩ : Src)]) 0 ((List.replicate (Int.toNat (v8 * v9)) 0), (List.replicate (Int.toNat (v8 * v9)) 0), (List.replicate (Int.toNat (v8 * v9)) 0)) (Int.toNat 8)).2.1), .ow kF a112 (Int.toNat (v8 * v9)) c113 34 ((rsT v8 v9 vb10 Z14 Z18 ([(⟨1 + u48, 1 + u53, true, v68, v69, v70, twT v74, szT v75, v73⟩ : Src)]) 0 ((List.replicate (Int.toNat (v8 * v9)) 0), (List.replicate (Int.toNat (v8 * v9)) 0), (List.replicate (Int.toNat (v8 * v9)) 0)) (Int.toNat 8)).2.2), .ow kP (some ⟨b98, 0, none⟩) 2 2 63 ([(u58, u63), (1 + u48, 1 + u53)]), .ow kS (some ⟨b95, 0, none⟩) 1 1 57 ([(⟨1 + u48, 1 + u53, true, v68, v69, v70, twT v74, szT v75, v73⟩ : Src)]), .blk b90 [.int .i64 v68, .int .i64 v69, .int .i64 v70, .float .f32 c71, .float .f32 c72, .int .i64 v73] 44, .blk b41 [.slice a34 (Int.toNat (v8 * v9)) c35, .slice a36 (Int.toNat (v8 * v9)) c37, .slice a38 (Int.toNat (v8 * v9)) c39] 30, .ow kF a34 (Int.toNat (v8 * v9)) c35 34 (List.replicate (Int.toNat (v8 * v9)) 0), .ow kF a36 (Int.toNat (v8 * v9)) c37 34 (List.replicate (Int.toNat (v8 * v9)) 0), .ow kF a38 (Int.toNat (v8 * v9)) c39 34 (List.replicate (Int.toNat (v8 * v9)) 0), .blk b26 [.int .i64 v8, .int .i64 v9, .bool vb10, .slice a11 c12 c13, .slice a15 c16 c17] 26, .ow kF a11 c12 c13 34 Z14, .ow kF a15 c16 c17 34 Z18, .rd kY a0 n0 X0, .rd kY a1 n1 X1] := B.upd [0] rfl hU123
    clear hU123
    refine s_y (v := .bool true) rfl (y_assign rfl) ?_
    refine s_nil ?_
    refine W_seq ?_
    refine W_region (by kernel_rfl) ?_
    refine s_y (v := .agg #[.int .i64 v68, .int .i64 v69, .int .i64 v70, .float .f32 c71, .float .f32 c72, .int .i64 v73]) rfl (y_loadn (b := b90) (o := 0) (vs := [.int .i64 v68, .int .i64 v69, .int .i64 v70, .float .f32 c71, .float .f32 c72, .int .i64 v73]) T5.agg_44_6 rfl rfl ((B.b 8 rfl).cells (o := 0) rfl)) ?_
    refine s_k rfl (k_call T5.fn_25 (c_i_WaveList hp88 hp89 (by omega) (fun kq h0 h1 => wav_ok (by omega) (by omega) (by omega))) rfl ?_)
    rintro v126 w124 hx125
    have hk127 : (validW v68 v69 v70 (twT v74) v73 && ticksB 0 8) = true := (wl_ok (by omega) (by omega) (by omega) (by omega) (by omega) (by omega))
    obtain ⟨a128, c129, rfl, hN130⟩ := (hx125.resolve_right (fun hz => by rw [hk127] at hz; cases hz.1)).2
    clear hx125
    replace B := B.new1 hN130
    clear hN130
    refine s_y (v := .tuple #[.slice a128 (Int.toNat 8) c129, .bool true]) rfl (y_move rfl) ?_
    refine s_y (v := .slice a128 (Int.toNat 8) c129) rfl (y_extract rfl rfl) ?_
    refine s_y (v := .bool true) rfl (y_extract rfl rfl) ?_
    refine s_y (v := .slice a128 (Int.toNat 8) c129) rfl (y_assign rfl) ?_
    refine s_y (v := .bool true) rfl (y_assign rfl) ?_
    refine s_nil ?_
    refine W_seq ?_
    refine W_seq ?_
    refine W_region (by kernel_rfl) ?_
    refine s_y (v := .bool true) rfl (y_move rfl) ?_
    refine s_y (v := .bool false) rfl (y_not rfl rfl) ?_
    refine s_y (v := .bool false) rfl (y_move rfl) ?_
    refine s_y (v := .bool true) rfl (y_move rfl) ?_
    refine s_y (v := .bool false) rfl (y_not rfl rfl) ?_
    refine s_y (v := .bool false) rfl (y_pick_f rfl rfl) ?_
    refine s_y (v := .bool false) rfl (y_move rfl) ?_
    refine s_y (v := .bool true) rfl (y_move rfl) ?_
    refine s_y (v := .bool false) rfl (y_not rfl rfl) ?_
    refine s_y (v := .bool false) rfl (y_pick_f rfl rfl) ?_
    refine s_y (v := .bool false) rfl (y_move rfl) ?_
    refine s_y (v := .slice a105 2 c106) rfl (y_move rfl) ?_
    refine s_y (v := .int .i64 2) rfl (y_len T5.sl_59_24_1 rfl rfl) ?_
    have hk131 : ¬ ((2 : Int) ≠ 2) := (by omega)
    refine s_y (v := .bool false) rfl (y_neq rfl rfl (decide_eq_false hk131)) ?_
    refine s_y (v := .bool false) rfl (y_pick_f rfl rfl) ?_
    refine s_y (v := .bool false) rfl (y_move rfl) ?_
    refine s_y (v := .slice a105 2 c106) rfl (y_move rfl) ?_
    obtain ⟨a132, z133, c134, hz135⟩ : ∃ a n c, gl zr107 0 = (a, n, c) := ⟨_, _, _, rfl⟩
    have hzl136 := (B.o 3 rfl).len
    have hn137 : Rd _ kF a132 z133 (rcT v8 v9 vb10 Z14 Z18 ([(⟨1 + u48, 1 + u53, true, v68, v69, v70, twT v74, szT v75, v73⟩ : Src)]) 0 ((List.replicate (Int.toNat (v8 * v9)) 0), (List.replicate (Int.toNat (v8 * v9)) 0), (List.replicate (Int.toNat (v8 * v9)) 0)) (u58, u63) 8) := (Fam.rdx (B.f 2 rfl) (i := 0) (by omega) (by omega) hz135 (rcs_gl (by omega) (by omega)))
    replace hn137 := hn137.len.symm.trans rcT_len
    refine s_y (v := .pointer (some (sat a105 (((0 : Int)).toNat * 1)))) rfl (y_idx T5.sl_59_24_1 rfl rfl ((B.o 3 rfl).rd.addr (by omega)) (by omega) (by omega)) ?_
    have hR138 := Rd.atL (B.o 3 rfl).rd (0 : Int) (by omega) (by omega) hz135
    refine s_y (v := .slice a132 z133 c134) rfl (y_load T5.one_24 rfl (hR138.cell (i := 0) rfl)) ?_
    refine s_y (v := .int .i64 ((z133 : Nat) : Int)) rfl (y_len T5.sl_24_34_1 rfl rfl) ?_
    have hk139 : ¬ (((z133 : Nat) : Int) ≠ 8) := (by omega)
    refine s_y (v := .bool false) rfl (y_neq rfl rfl (decide_eq_false hk139)) ?_
    refine s_y (v := .bool false) rfl (y_pick_f rfl rfl) ?_
    refine s_y (v := .bool false) rfl (y_move rfl) ?_
    refine s_y (v := .slice a105 2 c106) rfl (y_move rfl) ?_
    obtain ⟨a140, z141, c142, hz143⟩ : ∃ a n c, gl zr107 1 = (a, n, c) := ⟨_, _, _, rfl⟩
    have hzl144 := (B.o 3 rfl).len
    have hn145 : Rd _ kF a140 z141 (rcT v8 v9 vb10 Z14 Z18 ([(⟨1 + u48, 1 + u53, true, v68, v69, v70, twT v74, szT v75, v73⟩ : Src)]) 0 ((List.replicate (Int.toNat (v8 * v9)) 0), (List.replicate (Int.toNat (v8 * v9)) 0), (List.replicate (Int.toNat (v8 * v9)) 0)) (1 + u48, 1 + u53) 8) := (Fam.rdx (B.f 2 rfl) (i := 1) (by omega) (by omega) hz143 (rcs_gl (by omega) (by omega)))
    replace hn145 := hn145.len.symm.trans rcT_len
    refine s_y (v := .pointer (some (sat a105 (((1 : Int)).toNat * 1)))) rfl (y_idx T5.sl_59_24_1 rfl rfl ((B.o 3 rfl).rd.addr (by omega)) (by omega) (by omega)) ?_
    have hR146 := Rd.atL (B.o 3 rfl).rd (1 : Int) (by omega) (by omega) hz143
    refine s_y (v := .slice a140 z141 c142) rfl (y_load T5.one_24 rfl (hR146.cell (i := 0) rfl)) ?_
    refine s_y (v := .slice a128 (Int.toNat 8) c129) rfl (y_move rfl) ?_
    refine s_k rfl (k_call T5.fn_33 (c_l_r8Same (Fam.rdx (B.f 2 rfl) (i := 1) (by omega) (by omega) hz143 (rcs_gl (by omega) (by omega))) ((B.o 0 rfl).rd) (by first | exact lenle (by assumption) | exact lenle6 (by assumption) | exact le256 (by assumption) | exact le2566 (by assumption) | omega) (by first | exact lenle (by assumption) | exact lenle6 (by assumption) | exact le256 (by assumption) | exact le2566 (by assumption) | omega)) rfl ?_)
    rintro v149 w147 ⟨hv150, e148⟩
    replace B := B.ext0 e148
    clear e148
    have hk151 : sameL (rcT v8 v9 vb10 Z14 Z18 ([(⟨1 + u48, 1 + u53, true, v68, v69, v70, twT v74, szT v75, v73⟩ : Src)]) 0 ((List.replicate (Int.toNat (v8 * v9)) 0), (List.replicate (Int.toNat (v8 * v9)) 0), (List.replicate (Int.toNat (v8 * v9)) 0)) (1 + u48, 1 + u53) 8) (tab 8 (fun kq => wavT v68 v69 v70 (twT v74) (szT v75) v73 (0 + kq))) = true := (arr_same (by omega) ⟨by (try dsimp only); omega, by (try dsimp only); omega⟩ ⟨by (try dsimp only); omega, by (try dsimp only); omega⟩)
    obtain rfl : v149 = .bool true := hv150.trans (congrArg Value.bool hk151)
    refine s_y (v := .bool false) rfl (y_not rfl rfl) ?_
    refine s_y (v := .bool false) rfl (y_pick_f rfl rfl) ?_
    refine s_nil ?_
    refine W_if_f (by decide) rfl ?_
    refine W_skip ?_
    refine W_seq ?_
    have B0_156 := B
    refine W_draw (no) T5.mx (by kernel_rfl) (fun w154 e155 => ?_)
    have R157 := Ext.refl (no) w147
    replace R157 := R157.trans (Ext0.any e155)
    replace B := B.ext0 e155
    clear e155
    refine m_y (v := .int .i64 (1 + u48)) 0 rfl (by kernel_rfl) rfl rfl (fun w' e' => y_move rfl) ?_
    refine m_y (v := .int .i64 u58) 1 rfl (by kernel_rfl) rfl rfl (fun w' e' => y_move rfl) ?_
    refine m_y (v := .pointer (some ⟨b26, 0, none⟩)) 2 rfl (by kernel_rfl) rfl rfl (fun w' e' => y_fld (o := 0) T5.fld_26_0_0 rfl) ?_
    refine m_y (v := .int .i64 v8) 3 rfl (by kernel_rfl) rfl rfl (fun w' e' => y_load T5.one_2 rfl (((B0_156.b 14 rfl).ext0 e').cell (j := 0) rfl)) ?_
    refine m_y (v := .pointer (some ⟨b26, 2, none⟩)) 4 rfl (by kernel_rfl) rfl rfl (fun w' e' => y_fld (o := 0) T5.fld_26_2_2 rfl) ?_
    refine m_y (v := .bool vb10) 5 rfl (by kernel_rfl) rfl rfl (fun w' e' => y_load T5.one_4 rfl (((B0_156.b 14 rfl).ext0 e').cell (j := 2) rfl)) ?_
    refine m_y (v := .int .i64 (1 + u53)) 7 rfl (by kernel_rfl) rfl rfl (fun w' e' => y_move rfl) ?_
    refine m_y (v := .int .i64 u63) 8 rfl (by kernel_rfl) rfl rfl (fun w' e' => y_move rfl) ?_
    refine m_y (v := .pointer (some ⟨b26, 1, none⟩)) 9 rfl (by kernel_rfl) rfl rfl (fun w' e' => y_fld (o := 0) T5.fld_26_1_1 rfl) ?_
    refine m_y (v := .int .i64 v9) 10 rfl (by kernel_rfl) rfl rfl (fun w' e' => y_load T5.one_2 rfl (((B0_156.b 14 rfl).ext0 e').cell (j := 1) rfl)) ?_
    refine m_y (v := .pointer (some ⟨b26, 2, none⟩)) 11 rfl (by kernel_rfl) rfl rfl (fun w' e' => y_fld (o := 0) T5.fld_26_2_2 rfl) ?_
    refine m_y (v := .bool vb10) 12 rfl (by kernel_rfl) rfl rfl (fun w' e' => y_load T5.one_4 rfl (((B0_156.b 14 rfl).ext0 e').cell (j := 2) rfl)) ?_
    refine m_k 6 [13, 14, 15] rfl (by kernel_rfl) rfl rfl (fun w158 e159 => ?_)
    replace R157 := R157.trans (Ext0.any e159)
    replace B := B.ext0 e159
    clear e159
    refine k_call T5.fn_34 (c_l_r8Way (by omega) (by omega) (by omega) (by omega) (by omega) (by omega)) rfl ?_
    rintro _ w160 ⟨rfl, e161⟩
    replace R157 := R157.trans (Ext0.any e161)
    replace B := B.ext0 e161
    clear e161
    refine ⟨fun _ => R157, ?_⟩
    have hwy162 := wayI_b (wr := vb10) (a := 1 + u48) (b := u58) (side := v8) (by omega) (by omega) (by omega) (by omega)
    refine m_k 13 [14, 15] rfl (by kernel_rfl) rfl rfl (fun w163 e164 => ?_)
    replace R157 := R157.trans (Ext0.any e164)
    replace B := B.ext0 e164
    clear e164
    refine k_call T5.fn_34 (c_l_r8Way (by omega) (by omega) (by omega) (by omega) (by omega) (by omega)) rfl ?_
    rintro _ w165 ⟨rfl, e166⟩
    replace R157 := R157.trans (Ext0.any e166)
    replace B := B.ext0 e166
    clear e166
    refine ⟨fun _ => R157, ?_⟩
    have hwy167 := wayI_b (wr := vb10) (a := 1 + u53) (b := u63) (side := v9) (by omega) (by omega) (by omega) (by omega)
    refine m_y (v := .int .i64 ((wayI vb10 (1 + u48) u58 v8) + (wayI vb10 (1 + u53) u63 v9))) 14 rfl (by kernel_rfl) rfl rfl (fun w' e' => y_add rfl rfl rfl (by omega)) ?_
    refine m_y (v := .int .i64 ((wayI vb10 (1 + u48) u58 v8) + (wayI vb10 (1 + u53) u63 v9))) 15 rfl (by kernel_rfl) rfl rfl (fun w' e' => y_assign rfl) ?_
    refine m_done (by kernel_rfl) (fun w168 e169 => ?_)
    replace B := B.ext0 e169
    clear e169
    clear B0_156 R157
    refine W_seq ?_
    refine W_seq ?_
    refine W_region (by kernel_rfl) ?_
    refine s_y (v := .int .i64 0) rfl (y_assign rfl) ?_
    refine s_nil ?_
    refine W_block ?_
    refine W_loop (fun ρ' w' => ∃ (ρ1 : Env) (k1 : Int), ρ' = updL ρ1 [(14, .slice a105 2 c106), (17, .slice a128 (Int.toNat 8) c129), (19, .int .i64 ((wayI vb10 (1 + u48) u58 v8) + (wayI vb10 (1 + u53) u63 v9))), (20, .int .i64 k1)] ∧ Bu w no w' [.ow kF a128 (Int.toNat 8) c129 34 (tab 8 (fun kq => wavT v68 v69 v70 (twT v74) (szT v75) v73 (0 + kq))), .blk b119 [.slice a108 (Int.toNat (v8 * v9)) c109, .slice a110 (Int.toNat (v8 * v9)) c111, .slice a112 (Int.toNat (v8 * v9)) c113] 30, .fam kF 34 allP zr107 (rcs v8 v9 vb10 Z14 Z18 ([(⟨1 + u48, 1 + u53, true, v68, v69, v70, twT v74, szT v75, v73⟩ : Src)]) 0 ((List.replicate (Int.toNat (v8 * v9)) 0), (List.replicate (Int.toNat (v8 * v9)) 0), (List.replicate (Int.toNat (v8 * v9)) 0)) ([(u58, u63), (1 + u48, 1 + u53)]) 2 8), .ow kL a105 2 c106 24 zr107, .ow kF a108 (Int.toNat (v8 * v9)) c109 34 ((rsT v8 v9 vb10 Z14 Z18 ([(⟨1 + u48, 1 + u53, true, v68, v69, v70, twT v74, szT v75, v73⟩ : Src)]) 0 ((List.replicate (Int.toNat (v8 * v9)) 0), (List.replicate (Int.toNat (v8 * v9)) 0), (List.replicate (Int.toNat (v8 * v9)) 0)) (Int.toNat 8)).1), .ow kF a110 (Int.toNat (v8 * v9)) c111 34 ((rsT v8 v9 vb10 Z14 Z18 ([(⟨1 + u48, 1 + u53, true, v68, v69, v70, twT v74, szT v75, v73⟩ : Src)]) 0 ((List.replicate (Int.toNat (v8 * v9)) 0), (List.replicate (Int.toNat (v8 * v9)) 0), (List.replicate (Int.toNat (v8 * v9)) 0)) (Int.toNat 8)).2.1), .ow kF a112 (Int.toNat (v8 * v9)) c113 34 ((rsT v8 v9 vb10 Z14 Z18 ([(⟨1 + u48, 1 + u53, true, v68, v69, v70, twT v74, szT v75, v73⟩ : Src)]) 0 ((List.replicate (Int.toNat (v8 * v9)) 0), (List.replicate (Int.toNat (v8 * v9)) 0), (List.replicate (Int.toNat (v8 * v9)) 0)) (Int.toNat 8)).2.2), .ow kP (some ⟨b98, 0, none⟩) 2 2 63 ([(u58, u63), (1 + u48, 1 + u53)]), .ow kS (some ⟨b95, 0, none⟩) 1 1 57 ([(⟨1 + u48, 1 + u53, true, v68, v69, v70, twT v74, szT v75, v73⟩ : Src)]), .blk b90 [.int .i64 v68, .int .i64 v69, .int .i64 v70, .float .f32 c71, .float .f32 c72, .int .i64 v73] 44, .blk b41 [.slice a34 (Int.toNat (v8 * v9)) c35, .slice a36 (Int.toNat (v8 * v9)) c37, .slice a38 (Int.toNat (v8 * v9)) c39] 30, .ow kF a34 (Int.toNat (v8 * v9)) c35 34 (List.replicate (Int.toNat (v8 * v9)) 0), .ow kF a36 (Int.toNat (v8 * v9)) c37 34 (List.replicate (Int.toNat (v8 * v9)) 0), .ow kF a38 (Int.toNat (v8 * v9)) c39 34 (List.replicate (Int.toNat (v8 * v9)) 0), .blk b26 [.int .i64 v8, .int .i64 v9, .bool vb10, .slice a11 c12 c13, .slice a15 c16 c17] 26, .ow kF a11 c12 c13 34 Z14, .ow kF a15 c16 c17 34 Z18, .rd kY a0 n0 X0, .rd kY a1 n1 X1] ∧ (0 ≤ k1) ∧ (k1 ≤ 8)) (fun ρ' _ => (8 - iv (ρ' 20)).toNat) ?_ ?_
    · exact ⟨_, 0, Fits.eq ⟨rfl, rfl, rfl, rfl, trivial⟩, B, (Int.le_refl _), (by omega)⟩
    · clear B; rintro _ w170 ⟨ρ171, k1, rfl, B, h0k1, h1k1⟩
      refine W_seq ?_
      refine W_seq ?_
      refine W_region (by kernel_rfl) ?_
      refine s_y (v := .int .i64 k1) rfl (y_move rfl) ?_
      by_cases c172 : k1 < 8
      · refine s_y (v := .bool true) rfl (y_lss rfl rfl (decide_eq_true c172)) ?_
        refine s_nil ?_
        refine W_if_t (by decide) rfl ?_
        refine W_skip ?_
        refine W_seq ?_
        refine W_block ?_
        refine W_seq ?_
        refine W_region (by kernel_rfl) ?_
        refine s_y (v := .int .i64 k1) rfl (y_move rfl) ?_
        refine s_y (v := .int .i64 ((wayI vb10 (1 + u48) u58 v8) + (wayI vb10 (1 + u53) u63 v9))) rfl (y_move rfl) ?_
        by_cases c173 : k1 < ((wayI vb10 (1 + u48) u58 v8) + (wayI vb10 (1 + u53) u63 v9))
        · refine s_y (v := .bool true) rfl (y_lss rfl rfl (decide_eq_true c173)) ?_
          refine s_y (v := .bool true) rfl (y_move rfl) ?_
          refine s_y (v := .slice a105 2 c106) rfl (y_move rfl) ?_
          refine s_y (v := .pointer (some (sat a105 (((0 : Int)).toNat * 1)))) rfl (y_idx T5.sl_59_24_1 rfl rfl ((B.o 3 rfl).rd.addr (by omega)) (by omega) (by omega)) ?_
          have hR174 := Rd.atL (B.o 3 rfl).rd (0 : Int) (by omega) (by omega) hz135
          refine s_y (v := .slice a132 z133 c134) rfl (y_load T5.one_24 rfl (hR174.cell (i := 0) rfl)) ?_
          refine s_y (v := .int .i64 k1) rfl (y_move rfl) ?_
          refine s_y (v := .pointer (some (sat a132 ((k1).toNat * 1)))) rfl (y_idx T5.sl_24_34_1 rfl rfl ((Fam.rdx (B.f 2 rfl) (i := 0) (by omega) (by omega) hz135 (rcs_gl (by omega) (by omega))).addr (by omega)) (by omega) (by omega)) ?_
          obtain ⟨r176, hr177, hR175⟩ := Rd.atF (Fam.rdx (B.f 2 rfl) (i := 0) (by omega) (by omega) hz135 (rcs_gl (by omega) (by omega))) k1 (by omega) (by omega)
          refine s_y (v := .float .f32 r176) rfl (y_load T5.one_34 rfl (hR175.cell (i := 0) rfl)) ?_
          have hk178 : ¬ (fne .f32 (el (rcT v8 v9 vb10 Z14 Z18 ([(⟨1 + u48, 1 + u53, true, v68, v69, v70, twT v74, szT v75, v73⟩ : Src)]) 0 ((List.replicate (Int.toNat (v8 * v9)) 0), (List.replicate (Int.toNat (v8 * v9)) 0), (List.replicate (Int.toNat (v8 * v9)) 0)) (u58, u63) 8) k1) 0 = true) := (arr_zero hp21 ⟨by (try dsimp only); omega, by (try dsimp only); omega⟩ ⟨by (try dsimp only); omega, by (try dsimp only); omega⟩ ⟨by (try dsimp only); omega, by (try dsimp only); omega⟩ ⟨by (try dsimp only); omega, by (try dsimp only); omega⟩ (by omega) (by omega) (by assumption))
          refine s_y (v := .bool false) rfl (y_fneq rfl rfl (fneC hr177 (cnLit (k := .f32) (t := 0) (by kernel_rfl) (by kernel_rfl)) (Bool.eq_false_iff.2 hk178))) ?_
          refine s_y (v := .bool false) rfl (y_pick_t rfl rfl) ?_
          refine s_nil ?_
          refine W_if_f (by decide) rfl ?_
          refine W_skip ?_
          refine W_region (by kernel_rfl) ?_
          refine s_y (v := .int .i64 k1) rfl (y_move rfl) ?_
          refine s_y (v := .int .i64 (k1 + 1)) rfl (y_add rfl rfl rfl (by omega)) ?_
          refine s_y (v := .int .i64 (k1 + 1)) rfl (y_assign rfl) ?_
          refine s_nil ?_
          refine ⟨⟨_, k1 + 1, Fits.eq ⟨rfl, rfl, rfl, rfl, trivial⟩, B, (by omega), (by omega)⟩, ?_⟩
          show (8 - (k1 + 1)).toNat < (8 - k1).toNat
          omega
        · refine s_y (v := .bool false) rfl (y_lss rfl rfl (decide_eq_false c173)) ?_
          refine s_y (v := .bool false) rfl (y_move rfl) ?_
          refine s_skip rfl ?_
          refine s_skip rfl ?_
          refine s_skip rfl ?_
          refine s_skip rfl ?_
          refine s_skip rfl ?_
          refine s_skip rfl ?_
          refine s_skip rfl ?_
          refine s_y (v := .bool false) rfl (y_pick_f rfl rfl) ?_
          refine s_nil ?_
          refine W_if_f (by decide) rfl ?_
          refine W_skip ?_
          refine W_region (by kernel_rfl) ?_
          refine s_y (v := .int .i64 k1) rfl (y_move rfl) ?_
          refine s_y (v := .int .i64 (k1 + 1)) rfl (y_add rfl rfl rfl (by omega)) ?_
          refine s_y (v := .int .i64 (k1 + 1)) rfl (y_assign rfl) ?_
          refine s_nil ?_
          refine ⟨⟨_, k1 + 1, Fits.eq ⟨rfl, rfl, rfl, rfl, trivial⟩, B, (by omega), (by omega)⟩, ?_⟩
          show (8 - (k1 + 1)).toNat < (8 - k1).toNat
          omega
      · refine s_y (v := .bool false) rfl (y_lss rfl rfl (decide_eq_false c172)) ?_
        refine s_nil ?_
        refine W_if_f (by decide) rfl ?_
        refine W_exit ?_
        refine W_seq ?_
        refine W_region (by kernel_rfl) ?_
        refine s_y (v := .slice a128 (Int.toNat 8) c129) rfl (y_move rfl) ?_
        refine s_k rfl (k_call T5.fn_35 (c_i_ArrivalOf ((B.o 0 rfl).rd) (cnLit (k := .f32) (t := 1056964608) (by kernel_rfl) (by kernel_rfl)) (by first | exact lenle (by assumption) | exact lenle6 (by assumption) | exact le256 (by assumption) | exact le2566 (by assumption) | omega)) rfl ?_)
        rintro v181 w179 hx180
        by_cases c182 : decide (0 ≤ arrI (tab 8 (fun kq => wavT v68 v69 v70 (twT v74) (szT v75) v73 (0 + kq))) 1056964608) = true
        · obtain ⟨rfl, e183⟩ := (hx180.resolve_right (fun hz => by rw [c182] at hz; cases hz.1)).2
          clear hx180
          replace B := B.ext0 e183
          clear e183
          refine s_y (v := .tuple #[.int .i64 (arrI (tab 8 (fun kq => wavT v68 v69 v70 (twT v74) (szT v75) v73 (0 + kq))) 1056964608), .bool true]) rfl (y_move rfl) ?_
          refine s_y (v := .int .i64 (arrI (tab 8 (fun kq => wavT v68 v69 v70 (twT v74) (szT v75) v73 (0 + kq))) 1056964608)) rfl (y_extract rfl rfl) ?_
          refine s_y (v := .bool true) rfl (y_extract rfl rfl) ?_
          refine s_y (v := .int .i64 (arrI (tab 8 (fun kq => wavT v68 v69 v70 (twT v74) (szT v75) v73 (0 + kq))) 1056964608)) rfl (y_assign rfl) ?_
          refine s_y (v := .bool true) rfl (y_assign rfl) ?_
          refine s_nil ?_
          refine W_seq ?_
          refine W_seq ?_
          refine W_region (by kernel_rfl) ?_
          refine s_y (v := .int .i64 0) rfl (y_assign rfl) ?_
          refine s_nil ?_
          refine W_block ?_
          refine W_loop (fun ρ' w' => ∃ (ρ1 : Env) (k2 : Int), ρ' = updL ρ1 [(17, .slice a128 (Int.toNat 8) c129), (21, .int .i64 (arrI (tab 8 (fun kq => wavT v68 v69 v70 (twT v74) (szT v75) v73 (0 + kq))) 1056964608)), (22, .bool true), (23, .int .i64 k2)] ∧ Bu w no w' [.ow kF a128 (Int.toNat 8) c129 34 (tab 8 (fun kq => wavT v68 v69 v70 (twT v74) (szT v75) v73 (0 + kq))), .blk b119 [.slice a108 (Int.toNat (v8 * v9)) c109, .slice a110 (Int.toNat (v8 * v9)) c111, .slice a112 (Int.toNat (v8 * v9)) c113] 30, .fam kF 34 allP zr107 (rcs v8 v9 vb10 Z14 Z18 ([(⟨1 + u48, 1 + u53, true, v68, v69, v70, twT v74, szT v75, v73⟩ : Src)]) 0 ((List.replicate (Int.toNat (v8 * v9)) 0), (List.replicate (Int.toNat (v8 * v9)) 0), (List.replicate (Int.toNat (v8 * v9)) 0)) ([(u58, u63), (1 + u48, 1 + u53)]) 2 8), .ow kL a105 2 c106 24 zr107, .ow kF a108 (Int.toNat (v8 * v9)) c109 34 ((rsT v8 v9 vb10 Z14 Z18 ([(⟨1 + u48, 1 + u53, true, v68, v69, v70, twT v74, szT v75, v73⟩ : Src)]) 0 ((List.replicate (Int.toNat (v8 * v9)) 0), (List.replicate (Int.toNat (v8 * v9)) 0), (List.replicate (Int.toNat (v8 * v9)) 0)) (Int.toNat 8)).1), .ow kF a110 (Int.toNat (v8 * v9)) c111 34 ((rsT v8 v9 vb10 Z14 Z18 ([(⟨1 + u48, 1 + u53, true, v68, v69, v70, twT v74, szT v75, v73⟩ : Src)]) 0 ((List.replicate (Int.toNat (v8 * v9)) 0), (List.replicate (Int.toNat (v8 * v9)) 0), (List.replicate (Int.toNat (v8 * v9)) 0)) (Int.toNat 8)).2.1), .ow kF a112 (Int.toNat (v8 * v9)) c113 34 ((rsT v8 v9 vb10 Z14 Z18 ([(⟨1 + u48, 1 + u53, true, v68, v69, v70, twT v74, szT v75, v73⟩ : Src)]) 0 ((List.replicate (Int.toNat (v8 * v9)) 0), (List.replicate (Int.toNat (v8 * v9)) 0), (List.replicate (Int.toNat (v8 * v9)) 0)) (Int.toNat 8)).2.2), .ow kP (some ⟨b98, 0, none⟩) 2 2 63 ([(u58, u63), (1 + u48, 1 + u53)]), .ow kS (some ⟨b95, 0, none⟩) 1 1 57 ([(⟨1 + u48, 1 + u53, true, v68, v69, v70, twT v74, szT v75, v73⟩ : Src)]), .blk b90 [.int .i64 v68, .int .i64 v69, .int .i64 v70, .float .f32 c71, .float .f32 c72, .int .i64 v73] 44, .blk b41 [.slice a34 (Int.toNat (v8 * v9)) c35, .slice a36 (Int.toNat (v8 * v9)) c37, .slice a38 (Int.toNat (v8 * v9)) c39] 30, .ow kF a34 (Int.toNat (v8 * v9)) c35 34 (List.replicate (Int.toNat (v8 * v9)) 0), .ow kF a36 (Int.toNat (v8 * v9)) c37 34 (List.replicate (Int.toNat (v8 * v9)) 0), .ow kF a38 (Int.toNat (v8 * v9)) c39 34 (List.replicate (Int.toNat (v8 * v9)) 0), .blk b26 [.int .i64 v8, .int .i64 v9, .bool vb10, .slice a11 c12 c13, .slice a15 c16 c17] 26, .ow kF a11 c12 c13 34 Z14, .ow kF a15 c16 c17 34 Z18, .rd kY a0 n0 X0, .rd kY a1 n1 X1] ∧ (0 ≤ k2) ∧ (k2 ≤ 8) ∧ (∀ j, 0 ≤ j → j < k2 → ¬ fge .f32 (szX (el (tab 8 (fun kq => wavT v68 v69 v70 (twT v74) (szT v75) v73 (0 + kq))) j)) 1056964608 = true)) (fun ρ' _ => (8 - iv (ρ' 23)).toNat) ?_ ?_
          · exact ⟨_, 0, Fits.eq ⟨rfl, rfl, rfl, rfl, trivial⟩, B, (Int.le_refl _), (by omega), (fun j h0 h1 => by omega)⟩
          · clear B; rintro _ w184 ⟨ρ185, k2, rfl, B, h0k2, h1k2, hqv⟩
            refine W_seq ?_
            refine W_seq ?_
            refine W_region (by kernel_rfl) ?_
            refine s_y (v := .int .i64 k2) rfl (y_move rfl) ?_
            by_cases c186 : k2 < 8
            · refine s_y (v := .bool true) rfl (y_lss rfl rfl (decide_eq_true c186)) ?_
              refine s_nil ?_
              refine W_if_t (by decide) rfl ?_
              refine W_skip ?_
              refine W_seq ?_
              refine W_block ?_
              refine W_seq ?_
              refine W_region (by kernel_rfl) ?_
              refine s_y (v := .slice a128 (Int.toNat 8) c129) rfl (y_move rfl) ?_
              refine s_y (v := .int .i64 k2) rfl (y_move rfl) ?_
              refine s_y (v := .pointer (some (sat a128 ((k2).toNat * 1)))) rfl (y_idx T5.sl_24_34_1 rfl rfl ((B.o 0 rfl).rd.addr (by omega)) (by omega) (by omega)) ?_
              obtain ⟨r188, hr189, hR187⟩ := Rd.atF (B.o 0 rfl).rd k2 (by omega) (by omega)
              refine s_y (v := .float .f32 r188) rfl (y_load T5.one_34 rfl (hR187.cell (i := 0) rfl)) ?_
              by_cases c190 : fge .f32 (el (tab 8 (fun kq => wavT v68 v69 v70 (twT v74) (szT v75) v73 (0 + kq))) k2) 1056964608 = true
              · refine s_y (v := .bool true) rfl (y_fgeq rfl rfl (fgeC hr189 (cnLit (k := .f32) (t := 1056964608) (by kernel_rfl) (by kernel_rfl)) c190)) ?_
                refine s_y (v := .bool true) rfl (y_move rfl) ?_
                refine s_skip rfl ?_
                refine s_skip rfl ?_
                refine s_skip rfl ?_
                refine s_skip rfl ?_
                refine s_skip rfl ?_
                refine s_y (v := .bool true) rfl (y_pick_t rfl rfl) ?_
                refine s_nil ?_
                refine W_if_t (by decide) rfl ?_
                refine W_seq ?_
                refine W_region (by kernel_rfl) ?_
                refine s_y (v := .bool true) rfl (y_move rfl) ?_
                refine s_y (v := .bool true) rfl (y_move rfl) ?_
                refine s_y (v := .int .i64 (arrI (tab 8 (fun kq => wavT v68 v69 v70 (twT v74) (szT v75) v73 (0 + kq))) 1056964608)) rfl (y_move rfl) ?_
                refine s_y (v := .int .i64 k2) rfl (y_move rfl) ?_
                have hk191 : (arrI (tab 8 (fun kq => wavT v68 v69 v70 (twT v74) (szT v75) v73 (0 + kq))) 1056964608) = k2 := (arr_first (k := k2) (n := Int.toNat 8) (arrOk_i (by rw [tab_length]; decide) half_ok.1 half_ok.2) (tab_length _ _) (by omega) (by omega) hqv (szh_pos (by rw [el_tab (by omega) (by omega)]; exact (wav_gq (by omega) (by omega) (by omega) (by omega)).1) c190))
                refine s_y (v := .bool true) rfl (y_eql rfl rfl (decide_eq_true hk191)) ?_
                refine s_y (v := .bool true) rfl (y_pick_t rfl rfl) ?_
                refine s_y (v := .bool true) rfl (y_assign rfl) ?_
                refine s_nil ?_
                refine W_ret ?_
                refine ret1 (v := .bool true) rfl rfl rfl ⟨_, rfl, ?_⟩
                exact ⟨rfl, B.ext⟩
              · refine s_y (v := .bool false) rfl (y_fgeq rfl rfl (fgeC hr189 (cnLit (k := .f32) (t := 1056964608) (by kernel_rfl) (by kernel_rfl)) (Bool.eq_false_iff.2 c190))) ?_
                refine s_y (v := .bool false) rfl (y_move rfl) ?_
                refine s_y (v := .slice a128 (Int.toNat 8) c129) rfl (y_move rfl) ?_
                refine s_y (v := .int .i64 k2) rfl (y_move rfl) ?_
                refine s_y (v := .pointer (some (sat a128 ((k2).toNat * 1)))) rfl (y_idx T5.sl_24_34_1 rfl rfl ((B.o 0 rfl).rd.addr (by omega)) (by omega) (by omega)) ?_
                obtain ⟨r193, hr194, hR192⟩ := Rd.atF (B.o 0 rfl).rd k2 (by omega) (by omega)
                refine s_y (v := .float .f32 r193) rfl (y_load T5.one_34 rfl (hR192.cell (i := 0) rfl)) ?_
                by_cases c195 : fle .f32 (el (tab 8 (fun kq => wavT v68 v69 v70 (twT v74) (szT v75) v73 (0 + kq))) k2) 3204448256 = true
                · refine s_y (v := .bool true) rfl (y_fleq rfl rfl (fleC hr194 (cnLit (k := .f32) (t := 3204448256) (by kernel_rfl) (by kernel_rfl)) c195)) ?_
                  refine s_y (v := .bool true) rfl (y_pick_f rfl rfl) ?_
                  refine s_nil ?_
                  refine W_if_t (by decide) rfl ?_
                  refine W_seq ?_
                  refine W_region (by kernel_rfl) ?_
                  refine s_y (v := .bool true) rfl (y_move rfl) ?_
                  refine s_y (v := .bool true) rfl (y_move rfl) ?_
                  refine s_y (v := .int .i64 (arrI (tab 8 (fun kq => wavT v68 v69 v70 (twT v74) (szT v75) v73 (0 + kq))) 1056964608)) rfl (y_move rfl) ?_
                  refine s_y (v := .int .i64 k2) rfl (y_move rfl) ?_
                  have hk196 : (arrI (tab 8 (fun kq => wavT v68 v69 v70 (twT v74) (szT v75) v73 (0 + kq))) 1056964608) = k2 := (arr_first (k := k2) (n := Int.toNat 8) (arrOk_i (by rw [tab_length]; decide) half_ok.1 half_ok.2) (tab_length _ _) (by omega) (by omega) hqv (szh_neg (by rw [el_tab (by omega) (by omega)]; exact (wav_gq (by omega) (by omega) (by omega) (by omega)).1) c195))
                  refine s_y (v := .bool true) rfl (y_eql rfl rfl (decide_eq_true hk196)) ?_
                  refine s_y (v := .bool true) rfl (y_pick_t rfl rfl) ?_
                  refine s_y (v := .bool true) rfl (y_assign rfl) ?_
                  refine s_nil ?_
                  refine W_ret ?_
                  refine ret1 (v := .bool true) rfl rfl rfl ⟨_, rfl, ?_⟩
                  exact ⟨rfl, B.ext⟩
                · refine s_y (v := .bool false) rfl (y_fleq rfl rfl (fleC hr194 (cnLit (k := .f32) (t := 3204448256) (by kernel_rfl) (by kernel_rfl)) (Bool.eq_false_iff.2 c195))) ?_
                  refine s_y (v := .bool false) rfl (y_pick_f rfl rfl) ?_
                  refine s_nil ?_
                  refine W_if_f (by decide) rfl ?_
                  refine W_skip ?_
                  refine W_region (by kernel_rfl) ?_
                  refine s_y (v := .int .i64 k2) rfl (y_move rfl) ?_
                  refine s_y (v := .int .i64 (k2 + 1)) rfl (y_add rfl rfl rfl (by omega)) ?_
                  refine s_y (v := .int .i64 (k2 + 1)) rfl (y_assign rfl) ?_
                  refine s_nil ?_
                  refine ⟨⟨_, k2 + 1, Fits.eq ⟨rfl, rfl, rfl, rfl, trivial⟩, B, (by omega), (by omega), (fun j h0 h1 => if e : j = k2 then (by subst e; exact szh_no (by rw [el_tab (by omega) (by omega)]; exact (wav_gq (by omega) (by omega) (by omega) (by omega)).1) c190 c195) else hqv j h0 (by omega))⟩, ?_⟩
                  show (8 - (k2 + 1)).toNat < (8 - k2).toNat
                  omega
            · refine s_y (v := .bool false) rfl (y_lss rfl rfl (decide_eq_false c186)) ?_
              refine s_nil ?_
              refine W_if_f (by decide) rfl ?_
              refine W_exit ?_
              refine W_seq ?_
              refine W_region (by kernel_rfl) ?_
              refine s_y (v := .bool true) rfl (y_move rfl) ?_
              refine s_y (v := .bool false) rfl (y_not rfl rfl) ?_
              refine s_y (v := .bool false) rfl (y_assign rfl) ?_
              refine s_nil ?_
              refine W_ret ?_
              refine ret1 (v := .bool false) rfl rfl rfl ⟨_, rfl, ?_⟩
              exfalso
              have ha := arr_none (k := k2) (n := Int.toNat 8) (arrOk_i (by rw [tab_length]; decide) half_ok.1 half_ok.2) (tab_length _ _) (by omega) hqv
              have hb := of_decide_eq_true c182
              rw [ha] at hb; exact absurd hb (by decide)
        · obtain ⟨_, rfl, e197⟩ := hx180.resolve_left (fun hz => c182 hz.1)
          clear hx180
          replace B := B.ext0 e197
          clear e197
          refine s_y (v := .tuple #[.int .i64 0, .bool false]) rfl (y_move rfl) ?_
          refine s_y (v := .int .i64 0) rfl (y_extract rfl rfl) ?_
          refine s_y (v := .bool false) rfl (y_extract rfl rfl) ?_
          refine s_y (v := .int .i64 0) rfl (y_assign rfl) ?_
          refine s_y (v := .bool false) rfl (y_assign rfl) ?_
          refine s_nil ?_
          refine W_seq ?_
          refine W_seq ?_
          refine W_region (by kernel_rfl) ?_
          refine s_y (v := .int .i64 0) rfl (y_assign rfl) ?_
          refine s_nil ?_
          refine W_block ?_
          refine W_loop (fun ρ' w' => ∃ (ρ1 : Env) (k2 : Int), ρ' = updL ρ1 [(17, .slice a128 (Int.toNat 8) c129), (21, .int .i64 0), (22, .bool false), (23, .int .i64 k2)] ∧ Bu w no w' [.ow kF a128 (Int.toNat 8) c129 34 (tab 8 (fun kq => wavT v68 v69 v70 (twT v74) (szT v75) v73 (0 + kq))), .blk b119 [.slice a108 (Int.toNat (v8 * v9)) c109, .slice a110 (Int.toNat (v8 * v9)) c111, .slice a112 (Int.toNat (v8 * v9)) c113] 30, .fam kF 34 allP zr107 (rcs v8 v9 vb10 Z14 Z18 ([(⟨1 + u48, 1 + u53, true, v68, v69, v70, twT v74, szT v75, v73⟩ : Src)]) 0 ((List.replicate (Int.toNat (v8 * v9)) 0), (List.replicate (Int.toNat (v8 * v9)) 0), (List.replicate (Int.toNat (v8 * v9)) 0)) ([(u58, u63), (1 + u48, 1 + u53)]) 2 8), .ow kL a105 2 c106 24 zr107, .ow kF a108 (Int.toNat (v8 * v9)) c109 34 ((rsT v8 v9 vb10 Z14 Z18 ([(⟨1 + u48, 1 + u53, true, v68, v69, v70, twT v74, szT v75, v73⟩ : Src)]) 0 ((List.replicate (Int.toNat (v8 * v9)) 0), (List.replicate (Int.toNat (v8 * v9)) 0), (List.replicate (Int.toNat (v8 * v9)) 0)) (Int.toNat 8)).1), .ow kF a110 (Int.toNat (v8 * v9)) c111 34 ((rsT v8 v9 vb10 Z14 Z18 ([(⟨1 + u48, 1 + u53, true, v68, v69, v70, twT v74, szT v75, v73⟩ : Src)]) 0 ((List.replicate (Int.toNat (v8 * v9)) 0), (List.replicate (Int.toNat (v8 * v9)) 0), (List.replicate (Int.toNat (v8 * v9)) 0)) (Int.toNat 8)).2.1), .ow kF a112 (Int.toNat (v8 * v9)) c113 34 ((rsT v8 v9 vb10 Z14 Z18 ([(⟨1 + u48, 1 + u53, true, v68, v69, v70, twT v74, szT v75, v73⟩ : Src)]) 0 ((List.replicate (Int.toNat (v8 * v9)) 0), (List.replicate (Int.toNat (v8 * v9)) 0), (List.replicate (Int.toNat (v8 * v9)) 0)) (Int.toNat 8)).2.2), .ow kP (some ⟨b98, 0, none⟩) 2 2 63 ([(u58, u63), (1 + u48, 1 + u53)]), .ow kS (some ⟨b95, 0, none⟩) 1 1 57 ([(⟨1 + u48, 1 + u53, true, v68, v69, v70, twT v74, szT v75, v73⟩ : Src)]), .blk b90 [.int .i64 v68, .int .i64 v69, .int .i64 v70, .float .f32 c71, .float .f32 c72, .int .i64 v73] 44, .blk b41 [.slice a34 (Int.toNat (v8 * v9)) c35, .slice a36 (Int.toNat (v8 * v9)) c37, .slice a38 (Int.toNat (v8 * v9)) c39] 30, .ow kF a34 (Int.toNat (v8 * v9)) c35 34 (List.replicate (Int.toNat (v8 * v9)) 0), .ow kF a36 (Int.toNat (v8 * v9)) c37 34 (List.replicate (Int.toNat (v8 * v9)) 0), .ow kF a38 (Int.toNat (v8 * v9)) c39 34 (List.replicate (Int.toNat (v8 * v9)) 0), .blk b26 [.int .i64 v8, .int .i64 v9, .bool vb10, .slice a11 c12 c13, .slice a15 c16 c17] 26, .ow kF a11 c12 c13 34 Z14, .ow kF a15 c16 c17 34 Z18, .rd kY a0 n0 X0, .rd kY a1 n1 X1] ∧ (0 ≤ k2) ∧ (k2 ≤ 8) ∧ (∀ j, 0 ≤ j → j < k2 → ¬ fge .f32 (szX (el (tab 8 (fun kq => wavT v68 v69 v70 (twT v74) (szT v75) v73 (0 + kq))) j)) 1056964608 = true)) (fun ρ' _ => (8 - iv (ρ' 23)).toNat) ?_ ?_
          · exact ⟨_, 0, Fits.eq ⟨rfl, rfl, rfl, rfl, trivial⟩, B, (Int.le_refl _), (by omega), (fun j h0 h1 => by omega)⟩
          · clear B; rintro _ w198 ⟨ρ199, k2, rfl, B, h0k2, h1k2, hqv⟩
            refine W_seq ?_
            refine W_seq ?_
            refine W_region (by kernel_rfl) ?_
            refine s_y (v := .int .i64 k2) rfl (y_move rfl) ?_
            by_cases c200 : k2 < 8
            · refine s_y (v := .bool true) rfl (y_lss rfl rfl (decide_eq_true c200)) ?_
              refine s_nil ?_
              refine W_if_t (by decide) rfl ?_
              refine W_skip ?_
              refine W_seq ?_
              refine W_block ?_
              refine W_seq ?_
              refine W_region (by kernel_rfl) ?_
              refine s_y (v := .slice a128 (Int.toNat 8) c129) rfl (y_move rfl) ?_
              refine s_y (v := .int .i64 k2) rfl (y_move rfl) ?_
              refine s_y (v := .pointer (some (sat a128 ((k2).toNat * 1)))) rfl (y_idx T5.sl_24_34_1 rfl rfl ((B.o 0 rfl).rd.addr (by omega)) (by omega) (by omega)) ?_
              obtain ⟨r202, hr203, hR201⟩ := Rd.atF (B.o 0 rfl).rd k2 (by omega) (by omega)
              refine s_y (v := .float .f32 r202) rfl (y_load T5.one_34 rfl (hR201.cell (i := 0) rfl)) ?_
              by_cases c204 : fge .f32 (el (tab 8 (fun kq => wavT v68 v69 v70 (twT v74) (szT v75) v73 (0 + kq))) k2) 1056964608 = true
              · refine s_y (v := .bool true) rfl (y_fgeq rfl rfl (fgeC hr203 (cnLit (k := .f32) (t := 1056964608) (by kernel_rfl) (by kernel_rfl)) c204)) ?_
                refine s_y (v := .bool true) rfl (y_move rfl) ?_
                refine s_skip rfl ?_
                refine s_skip rfl ?_
                refine s_skip rfl ?_
                refine s_skip rfl ?_
                refine s_skip rfl ?_
                refine s_y (v := .bool true) rfl (y_pick_t rfl rfl) ?_
                refine s_nil ?_
                refine W_if_t (by decide) rfl ?_
                refine W_seq ?_
                refine W_region (by kernel_rfl) ?_
                refine s_y (v := .bool false) rfl (y_move rfl) ?_
                refine s_y (v := .bool false) rfl (y_move rfl) ?_
                refine s_skip rfl ?_
                refine s_skip rfl ?_
                refine s_skip rfl ?_
                refine s_y (v := .bool false) rfl (y_pick_f rfl rfl) ?_
                refine s_y (v := .bool false) rfl (y_assign rfl) ?_
                refine s_nil ?_
                refine W_ret ?_
                refine ret1 (v := .bool false) rfl rfl rfl ⟨_, rfl, ?_⟩
                exfalso
                have ha := (arr_first (k := k2) (n := Int.toNat 8) (arrOk_i (by rw [tab_length]; decide) half_ok.1 half_ok.2) (tab_length _ _) (by omega) (by omega) hqv (szh_pos (by rw [el_tab (by omega) (by omega)]; exact (wav_gq (by omega) (by omega) (by omega) (by omega)).1) c204))
                exact c182 (decide_eq_true (by rw [ha]; omega))
              · refine s_y (v := .bool false) rfl (y_fgeq rfl rfl (fgeC hr203 (cnLit (k := .f32) (t := 1056964608) (by kernel_rfl) (by kernel_rfl)) (Bool.eq_false_iff.2 c204))) ?_
                refine s_y (v := .bool false) rfl (y_move rfl) ?_
                refine s_y (v := .slice a128 (Int.toNat 8) c129) rfl (y_move rfl) ?_
                refine s_y (v := .int .i64 k2) rfl (y_move rfl) ?_
                refine s_y (v := .pointer (some (sat a128 ((k2).toNat * 1)))) rfl (y_idx T5.sl_24_34_1 rfl rfl ((B.o 0 rfl).rd.addr (by omega)) (by omega) (by omega)) ?_
                obtain ⟨r206, hr207, hR205⟩ := Rd.atF (B.o 0 rfl).rd k2 (by omega) (by omega)
                refine s_y (v := .float .f32 r206) rfl (y_load T5.one_34 rfl (hR205.cell (i := 0) rfl)) ?_
                by_cases c208 : fle .f32 (el (tab 8 (fun kq => wavT v68 v69 v70 (twT v74) (szT v75) v73 (0 + kq))) k2) 3204448256 = true
                · refine s_y (v := .bool true) rfl (y_fleq rfl rfl (fleC hr207 (cnLit (k := .f32) (t := 3204448256) (by kernel_rfl) (by kernel_rfl)) c208)) ?_
                  refine s_y (v := .bool true) rfl (y_pick_f rfl rfl) ?_
                  refine s_nil ?_
                  refine W_if_t (by decide) rfl ?_
                  refine W_seq ?_
                  refine W_region (by kernel_rfl) ?_
                  refine s_y (v := .bool false) rfl (y_move rfl) ?_
                  refine s_y (v := .bool false) rfl (y_move rfl) ?_
                  refine s_skip rfl ?_
                  refine s_skip rfl ?_
                  refine s_skip rfl ?_
                  refine s_y (v := .bool false) rfl (y_pick_f rfl rfl) ?_
                  refine s_y (v := .bool false) rfl (y_assign rfl) ?_
                  refine s_nil ?_
                  refine W_ret ?_
                  refine ret1 (v := .bool false) rfl rfl rfl ⟨_, rfl, ?_⟩
                  exfalso
                  have ha := (arr_first (k := k2) (n := Int.toNat 8) (arrOk_i (by rw [tab_length]; decide) half_ok.1 half_ok.2) (tab_length _ _) (by omega) (by omega) hqv (szh_neg (by rw [el_tab (by omega) (by omega)]; exact (wav_gq (by omega) (by omega) (by omega) (by omega)).1) c208))
                  exact c182 (decide_eq_true (by rw [ha]; omega))
                · refine s_y (v := .bool false) rfl (y_fleq rfl rfl (fleC hr207 (cnLit (k := .f32) (t := 3204448256) (by kernel_rfl) (by kernel_rfl)) (Bool.eq_false_iff.2 c208))) ?_
                  refine s_y (v := .bool false) rfl (y_pick_f rfl rfl) ?_
                  refine s_nil ?_
                  refine W_if_f (by decide) rfl ?_
                  refine W_skip ?_
                  refine W_region (by kernel_rfl) ?_
                  refine s_y (v := .int .i64 k2) rfl (y_move rfl) ?_
                  refine s_y (v := .int .i64 (k2 + 1)) rfl (y_add rfl rfl rfl (by omega)) ?_
                  refine s_y (v := .int .i64 (k2 + 1)) rfl (y_assign rfl) ?_
                  refine s_nil ?_
                  refine ⟨⟨_, k2 + 1, Fits.eq ⟨rfl, rfl, rfl, rfl, trivial⟩, B, (by omega), (by omega), (fun j h0 h1 => if e : j = k2 then (by subst e; exact szh_no (by rw [el_tab (by omega) (by omega)]; exact (wav_gq (by omega) (by omega) (by omega) (by omega)).1) c204 c208) else hqv j h0 (by omega))⟩, ?_⟩
                  show (8 - (k2 + 1)).toNat < (8 - k2).toNat
                  omega
            · refine s_y (v := .bool false) rfl (y_lss rfl rfl (decide_eq_false c200)) ?_
              refine s_nil ?_
              refine W_if_f (by decide) rfl ?_
              refine W_exit ?_
              refine W_seq ?_
              refine W_region (by kernel_rfl) ?_
              refine s_y (v := .bool false) rfl (y_move rfl) ?_
              refine s_y (v := .bool true) rfl (y_not rfl rfl) ?_
              refine s_y (v := .bool true) rfl (y_assign rfl) ?_
              refine s_nil ?_
              refine W_ret ?_
              refine ret1 (v := .bool true) rfl rfl rfl ⟨_, rfl, ?_⟩
              exact ⟨rfl, B.ext⟩
end Go.Proofs.Ytgohmocjjmkepaa
