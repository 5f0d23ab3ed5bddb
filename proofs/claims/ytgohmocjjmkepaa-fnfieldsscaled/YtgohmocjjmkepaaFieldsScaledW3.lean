/- Walks: what the functions under FnFieldsScaled do (part 4). Printed by a program of this claim's author. -/
import Derived.Test.YtgohmocjjmkepaaFieldsScaledW2
set_option linter.unusedSimpArgs false
set_option linter.unusedVariables false
open Go.Wv
namespace Go.Proofs.Ytgohmocjjmkepaa
open Go.Proofs
namespace T50
theorem mx : Try.prog.follows .mixedOrders = true := by kernel_rfl
theorem fld_30_0_0 : fldB Try.prog 30 0 0 = true := by kernel_rfl
theorem fld_30_1_1 : fldB Try.prog 30 1 1 = true := by kernel_rfl
theorem fld_30_2_2 : fldB Try.prog 30 2 2 = true := by kernel_rfl
theorem fn_102 : fnB Try.prog 102 = true := by kernel_rfl
theorem one_24 : oneB Try.prog 24 = true := by kernel_rfl
end T50
set_option maxRecDepth 100000 in
set_option maxHeartbeats 4000000 in
theorem c_l_r8Fields {afe1 : Option Addr} {nfe1 : Nat} {cfe1 : Nat} {Xfe1 : List Nat} {afx1 : Option Addr} {nfx1 : Nat} {cfx1 : Nat} {Xfx1 : List Nat} {afy1 : Option Addr} {nfy1 : Nat} {cfy1 : Nat} {Xfy1 : List Nat} {afe2 : Option Addr} {nfe2 : Nat} {cfe2 : Nat} {Xfe2 : List Nat} {afx2 : Option Addr} {nfx2 : Nat} {cfx2 : Nat} {Xfx2 : List Nat} {afy2 : Option Addr} {nfy2 : Nat} {cfy2 : Nat} {Xfy2 : List Nat} {w : World} (qfe1 : Rd w kF afe1 nfe1 Xfe1) (qfx1 : Rd w kF afx1 nfx1 Xfx1) (qfy1 : Rd w kF afy1 nfy1 Xfy1) (qfe2 : Rd w kF afe2 nfe2 Xfe2) (qfx2 : Rd w kF afx2 nfx2 Xfx2) (qfy2 : Rd w kF afy2 nfy2 Xfy2) (gfe1 : nfe1 ≤ 9223372036854775807) (gfx1 : nfx1 ≤ 9223372036854775807) (gfy1 : nfy1 ≤ 9223372036854775807) (gfe2 : nfe2 ≤ 9223372036854775807) (gfx2 : nfx2 ≤ 9223372036854775807) (gfy2 : nfy2 ≤ 9223372036854775807) :
    Calls Try.prog 50 #[.agg #[.slice afe1 nfe1 cfe1, .slice afx1 nfx1 cfx1, .slice afy1 nfy1 cfy1], .agg #[.slice afe2 nfe2 cfe2, .slice afx2 nfx2 cfx2, .slice afy2 nfy2 cfy2]] w (Rt fun v w' => v = .bool ((eqL Xfe1 Xfe2 && eqL Xfx1 Xfx2 && eqL Xfy1 Xfy2)) ∧ Ext0 w w') := by
  have hlfe1 := qfe1.len
  have hlfx1 := qfx1.len
  have hlfy1 := qfy1.len
  have hlfe2 := qfe2.len
  have hlfx2 := qfx2.len
  have hlfy2 := qfy2.len
  have B : Bu w no w [.rd kF afe1 nfe1 Xfe1, .rd kF afx1 nfx1 Xfx1, .rd kF afy1 nfy1 Xfy1, .rd kF afe2 nfe2 Xfe2, .rd kF afx2 nfx2 Xfx2, .rd kF afy2 nfy2 Xfy2] := Bu.ro (All.cons qfe1 (All.cons qfx1 (All.cons qfy1 (All.cons qfe2 (All.cons qfx2 (All.cons qfy2 All.nil)))))) rfl
  refine calls_W (n := 24) Try.func50 rfl rfl (Nat.le_of_ble_eq_true rfl) ?_
  refine W_seq ?_
  refine W_region (by kernel_rfl) ?_
  refine s_k rfl (k_boxN (v := .agg #[.slice afe1 nfe1 cfe1, .slice afx1 nfx1 cfx1, .slice afy1 nfy1 cfy1]) (cs := [.slice afe1 nfe1 cfe1, .slice afx1 nfx1 cfx1, .slice afy1 nfy1 cfy1]) rfl rfl (fun b1 w2 hN3 => ?_))
  replace B := B.new1 hN3
  clear hN3
  refine s_k rfl (k_boxN (v := .agg #[.slice afe2 nfe2 cfe2, .slice afx2 nfx2 cfx2, .slice afy2 nfy2 cfy2]) (cs := [.slice afe2 nfe2 cfe2, .slice afx2 nfx2 cfx2, .slice afy2 nfy2 cfy2]) rfl rfl (fun b4 w5 hN6 => ?_))
  replace B := B.new1 hN6
  clear hN6
  refine s_y (v := .bool false) rfl (y_assign rfl) ?_
  refine s_nil ?_
  refine W_seq ?_
  refine W_region (by kernel_rfl) ?_
  refine s_y (v := .pointer (some ⟨b1, 0, none⟩)) rfl (y_fld (o := 0) T50.fld_30_0_0 rfl) ?_
  refine s_y (v := .slice afe1 nfe1 cfe1) rfl (y_load T50.one_24 rfl ((B.b 1 rfl).cell (j := 0) rfl)) ?_
  refine s_y (v := .pointer (some ⟨b4, 0, none⟩)) rfl (y_fld (o := 0) T50.fld_30_0_0 rfl) ?_
  refine s_y (v := .slice afe2 nfe2 cfe2) rfl (y_load T50.one_24 rfl ((B.b 0 rfl).cell (j := 0) rfl)) ?_
  refine s_k rfl (k_call T50.fn_102 (c_l_r8Equal (B.r 2 rfl) (B.r 5 rfl) (by omega) (by omega)) rfl ?_)
  rintro v9 w7 ⟨hv10, e8⟩
  replace B := B.ext0 e8
  clear e8
  by_cases c11 : eqL Xfe1 Xfe2 = true
  · obtain rfl : v9 = .bool true := hv10.trans (congrArg Value.bool c11)
    refine s_y (v := .bool true) rfl (y_move rfl) ?_
    refine s_y (v := .pointer (some ⟨b1, 1, none⟩)) rfl (y_fld (o := 0) T50.fld_30_1_1 rfl) ?_
    refine s_y (v := .slice afx1 nfx1 cfx1) rfl (y_load T50.one_24 rfl ((B.b 1 rfl).cell (j := 1) rfl)) ?_
    refine s_y (v := .pointer (some ⟨b4, 1, none⟩)) rfl (y_fld (o := 0) T50.fld_30_1_1 rfl) ?_
    refine s_y (v := .slice afx2 nfx2 cfx2) rfl (y_load T50.one_24 rfl ((B.b 0 rfl).cell (j := 1) rfl)) ?_
    refine s_k rfl (k_call T50.fn_102 (c_l_r8Equal (B.r 3 rfl) (B.r 6 rfl) (by omega) (by omega)) rfl ?_)
    rintro v14 w12 ⟨hv15, e13⟩
    replace B := B.ext0 e13
    clear e13
    by_cases c16 : eqL Xfx1 Xfx2 = true
    · obtain rfl : v14 = .bool true := hv15.trans (congrArg Value.bool c16)
      refine s_y (v := .bool true) rfl (y_pick_t rfl rfl) ?_
      refine s_y (v := .bool true) rfl (y_move rfl) ?_
      refine s_y (v := .pointer (some ⟨b1, 2, none⟩)) rfl (y_fld (o := 0) T50.fld_30_2_2 rfl) ?_
      refine s_y (v := .slice afy1 nfy1 cfy1) rfl (y_load T50.one_24 rfl ((B.b 1 rfl).cell (j := 2) rfl)) ?_
      refine s_y (v := .pointer (some ⟨b4, 2, none⟩)) rfl (y_fld (o := 0) T50.fld_30_2_2 rfl) ?_
      refine s_y (v := .slice afy2 nfy2 cfy2) rfl (y_load T50.one_24 rfl ((B.b 0 rfl).cell (j := 2) rfl)) ?_
      refine s_k rfl (k_call T50.fn_102 (c_l_r8Equal (B.r 4 rfl) (B.r 7 rfl) (by omega) (by omega)) rfl ?_)
      rintro v19 w17 ⟨hv20, e18⟩
      replace B := B.ext0 e18
      clear e18
      by_cases c21 : eqL Xfy1 Xfy2 = true
      · obtain rfl : v19 = .bool true := hv20.trans (congrArg Value.bool c21)
        refine s_y (v := .bool true) rfl (y_pick_t rfl rfl) ?_
        refine s_y (v := .bool true) rfl (y_assign rfl) ?_
        refine s_nil ?_
        refine W_ret ?_
        refine ret1 (v := .bool true) rfl rfl rfl ⟨_, rfl, ?_⟩
        exact ⟨congrArg Value.bool (by simp only [c11, c16, c21, Bool.and_true, Bool.true_and, Bool.and_false, Bool.false_and, Bool.not_true, Bool.not_false, Bool.or_true, Bool.true_or, Bool.or_false, Bool.false_or]), B.ext⟩
      · obtain rfl : v19 = .bool false := hv20.trans (congrArg Value.bool (Bool.eq_false_iff.2 c21))
        refine s_y (v := .bool false) rfl (y_pick_t rfl rfl) ?_
        refine s_y (v := .bool false) rfl (y_assign rfl) ?_
        refine s_nil ?_
        refine W_ret ?_
        refine ret1 (v := .bool false) rfl rfl rfl ⟨_, rfl, ?_⟩
        exact ⟨congrArg Value.bool (by simp only [c11, c16, (Bool.eq_false_iff.2 c21), Bool.and_true, Bool.true_and, Bool.and_false, Bool.false_and, Bool.not_true, Bool.not_false, Bool.or_true, Bool.true_or, Bool.or_false, Bool.false_or]), B.ext⟩
    · obtain rfl : v14 = .bool false := hv15.trans (congrArg Value.bool (Bool.eq_false_iff.2 c16))
      refine s_y (v := .bool false) rfl (y_pick_t rfl rfl) ?_
      refine s_y (v := .bool false) rfl (y_move rfl) ?_
      refine s_skip rfl ?_
      refine s_skip rfl ?_
      refine s_skip rfl ?_
      refine s_skip rfl ?_
      refine s_skip rfl ?_
      refine s_y (v := .bool false) rfl (y_pick_f rfl rfl) ?_
      refine s_y (v := .bool false) rfl (y_assign rfl) ?_
      refine s_nil ?_
      refine W_ret ?_
      refine ret1 (v := .bool false) rfl rfl rfl ⟨_, rfl, ?_⟩
      exact ⟨congrArg Value.bool (by simp only [c11, (Bool.eq_false_iff.2 c16), Bool.and_true, Bool.true_and, Bool.and_false, Bool.false_and, Bool.not_true, Bool.not_false, Bool.or_true, Bool.true_or, Bool.or_false, Bool.false_or]), B.ext⟩
  · obtain rfl : v9 = .bool false := hv10.trans (congrArg Value.bool (Bool.eq_false_iff.2 c11))
    refine s_y (v := .bool false) rfl (y_move rfl) ?_
    refine s_skip rfl ?_
    refine s_skip rfl ?_
    refine s_skip rfl ?_
    refine s_skip rfl ?_
    refine s_skip rfl ?_
    refine s_y (v := .bool false) rfl (y_pick_f rfl rfl) ?_
    refine s_y (v := .bool false) rfl (y_move rfl) ?_
    refine s_skip rfl ?_
    refine s_skip rfl ?_
    refine s_skip rfl ?_
    refine s_skip rfl ?_
    refine s_skip rfl ?_
    refine s_y (v := .bool false) rfl (y_pick_f rfl rfl) ?_
    refine s_y (v := .bool false) rfl (y_assign rfl) ?_
    refine s_nil ?_
    refine W_ret ?_
    refine ret1 (v := .bool false) rfl rfl rfl ⟨_, rfl, ?_⟩
    exact ⟨congrArg Value.bool (by simp only [(Bool.eq_false_iff.2 c11), Bool.and_true, Bool.true_and, Bool.and_false, Bool.false_and, Bool.not_true, Bool.not_false, Bool.or_true, Bool.true_or, Bool.or_false, Bool.false_or]), B.ext⟩
namespace T8
theorem mx : Try.prog.follows .mixedOrders = true := by kernel_rfl
theorem agg_26_5 : aggB Try.prog 26 5 = true := by kernel_rfl
theorem agg_30_3 : aggB Try.prog 30 3 = true := by kernel_rfl
theorem fn_15 : fnB Try.prog 15 = true := by kernel_rfl
theorem fn_17 : fnB Try.prog 17 = true := by kernel_rfl
theorem fn_22 : fnB Try.prog 22 = true := by kernel_rfl
theorem fn_24 : fnB Try.prog 24 = true := by kernel_rfl
theorem fn_31 : fnB Try.prog 31 = true := by kernel_rfl
theorem fn_36 : fnB Try.prog 36 = true := by kernel_rfl
theorem fn_40 : fnB Try.prog 40 = true := by kernel_rfl
theorem fn_49 : fnB Try.prog 49 = true := by kernel_rfl
theorem fn_50 : fnB Try.prog 50 = true := by kernel_rfl
theorem sz_26_5 : szB Try.prog 26 5 = true := by kernel_rfl
theorem sz_30_3 : szB Try.prog 30 3 = true := by kernel_rfl
theorem zero_26 : zeroB Try.prog 26 (.agg #[.int .i64 0, .int .i64 0, .bool false, .slice none 0 0, .slice none 0 0]) := by unfold zeroB; kernel_rfl
theorem zero_30 : zeroB Try.prog 30 (.agg #[.slice none 0 0, .slice none 0 0, .slice none 0 0]) := by unfold zeroB; kernel_rfl
end T8
set_option maxRecDepth 100000 in
set_option maxHeartbeats 20000000 in
theorem c_FnFieldsScaled {a0 : Option Addr} {n0 : Nat} {c0 : Nat} {X0 : List Nat} {a1 : Option Addr} {n1 : Nat} {c1 : Nat} {X1 : List Nat} {w : World} (q0 : Rd w kY a0 n0 X0) (q1 : Rd w kY a1 n1 X1) (g0 : n0 ≤ 9223372036854775807) (g1 : n1 ≤ 9223372036854775807) :
    Calls Try.prog 8 #[.slice a0 n0 c0, .slice a1 n1 c1] w (Rt fun v w' => v = .bool true ∧ Ext0 w w') := by
  have hl0 := q0.len
  have hl1 := q1.len
  have B : Bu w no w [.rd kY a0 n0 X0, .rd kY a1 n1 X1] := Bu.ro (All.cons q0 (All.cons q1 All.nil)) rfl
  refine calls_W (n := 150) Try.func8 rfl rfl (Nat.le_of_ble_eq_true rfl) ?_
  refine W_seq ?_
  refine W_region (by kernel_rfl) ?_
  refine s_y (v := .bool false) rfl (y_assign rfl) ?_
  refine s_nil ?_
  refine W_seq ?_
  refine W_seq ?_
  refine W_region (by kernel_rfl) ?_
  refine s_y (v := .slice a0 n0 c0) rfl (y_move rfl) ?_
  refine s_y (v := .slice a1 n1 c1) rfl (y_move rfl) ?_
  refine s_k rfl (k_call T8.fn_22 (c_l_r8Long (B.r 0 rfl) (B.r 1 rfl) (by first | exact lenle (by assumption) | exact lenle6 (by assumption) | exact le256 (by assumption) | exact le2566 (by assumption) | omega) (by first | exact lenle (by assumption) | exact lenle6 (by assumption) | exact le256 (by assumption) | exact le2566 (by assumption) | omega)) rfl ?_)
  rintro v3 w1 ⟨hv4, e2⟩
  replace B := B.ext0 e2
  clear e2
  by_cases c5 : (decide (48 < (n0 : Int)) || decide (48 < (n1 : Int))) = true
  · obtain rfl : v3 = .bool true := hv4.trans (congrArg Value.bool c5)
    refine s_nil ?_
    refine W_if_t (by decide) rfl ?_
    refine W_seq ?_
    refine W_region (by kernel_rfl) ?_
    refine s_y (v := .bool true) rfl (y_assign rfl) ?_
    refine s_nil ?_
    refine W_ret ?_
    refine ret1 (v := .bool true) rfl rfl rfl ⟨_, rfl, ?_⟩
    exact ⟨rfl, B.ext⟩
  · obtain rfl : v3 = .bool false := hv4.trans (congrArg Value.bool (Bool.eq_false_iff.2 c5))
    refine s_nil ?_
    refine W_if_f (by decide) rfl ?_
    refine W_skip ?_
    refine W_seq ?_
    refine W_region (by kernel_rfl) ?_
    refine s_y (v := .slice a0 n0 c0) rfl (y_move rfl) ?_
    refine s_k rfl (k_call T8.fn_31 (c_s_R8Sheet (B.r 0 rfl)) rfl ?_)
    rintro _ w6 ⟨v8, v9, vb10, a11, c12, c13, Z14, a15, c16, c17, Z18, rfl, hp19, hp20, hp21, hp22, hN7⟩
    replace B := B.new2 hN7
    clear hN7
    have hl23 := (B.o 0 rfl).len
    have hl24 := (B.o 1 rfl).len
    obtain ⟨⟨⟨⟨hv25, hv26⟩, hv27, hv28⟩, hv29, hv30⟩, hv31, hv32⟩ := validS_b hp21
    refine s_k rfl (k_allocN (z := (.agg #[.int .i64 0, .int .i64 0, .bool false, .slice none 0 0, .slice none 0 0])) (cs := [.int .i64 0, .int .i64 0, .bool false, .slice none 0 0, .slice none 0 0]) T8.zero_26 rfl (fun b33 w34 hN35 => ?_))
    replace B := B.new1 hN35
    clear hN35
    refine s_k0 rfl (k_stB (v := .agg #[.int .i64 v8, .int .i64 v9, .bool vb10, .slice a11 c12 c13, .slice a15 c16 c17]) (n := 5) (cs' := [.int .i64 v8, .int .i64 v9, .bool vb10, .slice a11 c12 c13, .slice a15 c16 c17]) T8.sz_26_5 rfl rfl rfl (B.b 0 rfl) (by simp [Value.cells, Value.oneCell']) (Nat.le_of_ble_eq_true rfl) rfl (fun w36 hU37 => ?_))
    replace B : Bu w no w36 [.blk b33 [.int .i64 v8, .int .i64 v9, .bool vb10, .slice a11 c12 c13, .slice a15 c16 c17] 26, .ow kF a11 c12 c13 34 Z14, .ow kF a15 c16 c17 34 Z18, .rd kY a0 n0 X0, .rd kY a1 n1 X1] := B.upd [0] rfl hU37
    clear hU37
    refine s_nil ?_
    refine W_seq ?_
    refine W_region (by kernel_rfl) ?_
    refine s_y (v := .slice a1 n1 c1) rfl (y_move rfl) ?_
    refine s_y (v := .agg #[.int .i64 v8, .int .i64 v9, .bool vb10, .slice a11 c12 c13, .slice a15 c16 c17]) rfl (y_loadn (b := b33) (o := 0) (vs := [.int .i64 v8, .int .i64 v9, .bool vb10, .slice a11 c12 c13, .slice a15 c16 c17]) T8.agg_26_5 rfl rfl ((B.b 0 rfl).cells (o := 0) rfl)) ?_
    refine s_k rfl (k_call T8.fn_36 (c_s_R8Field (B.r 4 rfl) ((B.o 1 rfl).rd) ((B.o 2 rfl).rd) (by first | assumption | omega) (by first | assumption | omega) (by first | assumption | omega) (by first | assumption | omega) (by omega) (by first | exact lenle (by assumption) | exact lenle6 (by assumption) | exact le256 (by assumption) | exact le2566 (by assumption) | omega) (by first | exact lenle (by assumption) | exact lenle6 (by assumption) | exact le256 (by assumption) | exact le2566 (by assumption) | omega)) rfl ?_)
    rintro _ w38 ⟨a40, c41, c42, Z43, a44, c45, c46, Z47, a48, c49, c50, Z51, rfl, hp52, hp53, hN39⟩
    replace B := B.new3 hN39
    clear hN39
    have hl54 := (B.o 0 rfl).len
    have hl55 := (B.o 1 rfl).len
    have hl56 := (B.o 2 rfl).len
    obtain ⟨⟨hv57, hv58, hv59⟩, _⟩ := fieldB_b hp52
    have hv60 : c41 ≤ 256 := by omega
    have hv61 : c45 ≤ 256 := by omega
    have hv62 : c49 ≤ 256 := by omega
    refine s_k rfl (k_allocN (z := (.agg #[.slice none 0 0, .slice none 0 0, .slice none 0 0])) (cs := [.slice none 0 0, .slice none 0 0, .slice none 0 0]) T8.zero_30 rfl (fun b63 w64 hN65 => ?_))
    replace B := B.new1 hN65
    clear hN65
    refine s_k0 rfl (k_stB (v := .agg #[.slice a40 c41 c42, .slice a44 c45 c46, .slice a48 c49 c50]) (n := 3) (cs' := [.slice a40 c41 c42, .slice a44 c45 c46, .slice a48 c49 c50]) T8.sz_30_3 rfl rfl rfl (B.b 0 rfl) (by simp [Value.cells, Value.oneCell']) (Nat.le_of_ble_eq_true rfl) rfl (fun w66 hU67 => ?_))
    replace B : Bu w no w66 [.blk b63 [.slice a40 c41 c42, .slice a44 c45 c46, .slice a48 c49 c50] 30, .ow kF a40 c41 c42 34 Z43, .ow kF a44 c45 c46 34 Z47, .ow kF a48 c49 c50 34 Z51, .blk b33 [.int .i64 v8, .int .i64 v9, .bool vb10, .slice a11 c12 c13, .slice a15 c16 c17] 26, .ow kF a11 c12 c13 34 Z14, .ow kF a15 c16 c17 34 Z18, .rd kY a0 n0 X0, .rd kY a1 n1 X1] := B.upd [0] rfl hU67
    clear hU67
    refine s_nil ?_
    refine W_seq ?_
    refine W_region (by kernel_rfl) ?_
    refine s_y (v := .slice a1 n1 c1) rfl (y_move rfl) ?_
    refine s_k rfl (k_call T8.fn_24 (c_l_r8At (B.r 8 rfl) (by omega) (by omega) (by first | exact lenle (by assumption) | exact lenle6 (by assumption) | exact le256 (by assumption) | exact le2566 (by assumption) | omega)) rfl ?_)
    rintro _ w68 ⟨u70, rfl, hp71, e69⟩
    replace B := B.ext0 e69
    clear e69
    have hb72 := r8A_b X1 40 (show 1 ≤ 5 by omega)
    rw [← hp71] at hb72
    refine s_y (v := .int .i64 u70) rfl (y_assign rfl) ?_
    refine s_nil ?_
    refine W_seq ?_
    refine W_region (by kernel_rfl) ?_
    refine s_y (v := .agg #[.int .i64 v8, .int .i64 v9, .bool vb10, .slice a11 c12 c13, .slice a15 c16 c17]) rfl (y_loadn (b := b33) (o := 0) (vs := [.int .i64 v8, .int .i64 v9, .bool vb10, .slice a11 c12 c13, .slice a15 c16 c17]) T8.agg_26_5 rfl rfl ((B.b 4 rfl).cells (o := 0) rfl)) ?_
    refine s_y (v := .agg #[.slice a40 c41 c42, .slice a44 c45 c46, .slice a48 c49 c50]) rfl (y_loadn (b := b63) (o := 0) (vs := [.slice a40 c41 c42, .slice a44 c45 c46, .slice a48 c49 c50]) T8.agg_30_3 rfl rfl ((B.b 0 rfl).cells (o := 0) rfl)) ?_
    refine s_y (v := .int .i64 u70) rfl (y_move rfl) ?_
    refine s_k rfl (k_call T8.fn_17 (c_i_RunField ((B.o 5 rfl).rd) ((B.o 6 rfl).rd) ((B.o 1 rfl).rd) ((B.o 2 rfl).rd) ((B.o 3 rfl).rd) (by first | exact lenle (by assumption) | exact lenle6 (by assumption) | exact le256 (by assumption) | exact le2566 (by assumption) | omega) (by first | exact lenle (by assumption) | exact lenle6 (by assumption) | exact le256 (by assumption) | exact le2566 (by assumption) | omega) (by first | exact lenle (by assumption) | exact lenle6 (by assumption) | exact le256 (by assumption) | exact le2566 (by assumption) | omega) (by first | exact lenle (by assumption) | exact lenle6 (by assumption) | exact le256 (by assumption) | exact le2566 (by assumption) | omega) (by first | exact lenle (by assumption) | exact lenle6 (by assumption) | exact le256 (by assumption) | exact le2566 (by assumption) | omega)) rfl ?_)
    rintro v75 w73 hx74
    have hk76 : runB v8 v9 vb10 Z14 Z18 Z43 Z47 Z51 u70 = true := (runB_yes hp52 (by omega))
    obtain ⟨a77, c78, a79, c80, a81, c82, rfl, hN83⟩ := (hx74.resolve_right (fun hz => by rw [hk76] at hz; cases hz.1)).2
    clear hx74
    replace B := B.new3 hN83
    clear hN83
    refine s_y (v := .tuple #[.agg #[.slice a77 c41 c78, .slice a79 c45 c80, .slice a81 c49 c82], .bool true]) rfl (y_move rfl) ?_
    refine s_y (v := .agg #[.slice a77 c41 c78, .slice a79 c45 c80, .slice a81 c49 c82]) rfl (y_extract rfl rfl) ?_
    refine s_y (v := .bool true) rfl (y_extract rfl rfl) ?_
    refine s_k rfl (k_allocN (z := (.agg #[.slice none 0 0, .slice none 0 0, .slice none 0 0])) (cs := [.slice none 0 0, .slice none 0 0, .slice none 0 0]) T8.zero_30 rfl (fun b84 w85 hN86 => ?_))
    replace B := B.new1 hN86
    clear hN86
    refine s_k0 rfl (k_stB (v := .agg #[.slice a77 c41 c78, .slice a79 c45 c80, .slice a81 c49 c82]) (n := 3) (cs' := [.slice a77 c41 c78, .slice a79 c45 c80, .slice a81 c49 c82]) T8.sz_30_3 rfl rfl rfl (B.b 0 rfl) (by simp [Value.cells, Value.oneCell']) (Nat.le_of_ble_eq_true rfl) rfl (fun w87 hU88 => ?_))
    replace B : Bu w no w87 [.blk b84 [.slice a77 c41 c78, .slice a79 c45 c80, .slice a81 c49 c82] 30, .ow kF a77 c41 c78 34 ((rnT v8 v9 vb10 Z14 Z18 (Z43, Z47, Z51) (Int.toNat u70)).1), .ow kF a79 c45 c80 34 ((rnT v8 v9 vb10 Z14 Z18 (Z43, Z47, Z51) (Int.toNat u70)).2.1), .ow kF a81 c49 c82 34 ((rnT v8 v9 vb10 Z14 Z18 (Z43, Z47, Z51) (Int.toNat u70)).2.2), .blk b63 [.slice a40 c41 c42, .slice a44 c45 c46, .slice a48 c49 c50] 30, .ow kF a40 c41 c42 34 Z43, .ow kF a44 c45 c46 34 Z47, .ow kF a48 c49 c50 34 Z51, .blk b33 [.int .i64 v8, .int .i64 v9, .bool vb10, .slice a11 c12 c13, .slice a15 c16 c17] 26, .ow kF a11 c12 c13 34 Z14, .ow kF a15 c16 c17 34 Z18, .rd kY a0 n0 X0, .rd kY a1 n1 X1] := B.upd [0] rfl hU88
    clear hU88
    refine s_y (v := .bool true) rfl (y_assign rfl) ?_
    refine s_nil ?_
    refine W_seq ?_
    refine W_region (by kernel_rfl) ?_
    refine s_y (v := .agg #[.int .i64 v8, .int .i64 v9, .bool vb10, .slice a11 c12 c13, .slice a15 c16 c17]) rfl (y_loadn (b := b33) (o := 0) (vs := [.int .i64 v8, .int .i64 v9, .bool vb10, .slice a11 c12 c13, .slice a15 c16 c17]) T8.agg_26_5 rfl rfl ((B.b 8 rfl).cells (o := 0) rfl)) ?_
    refine s_y (v := .agg #[.slice a40 c41 c42, .slice a44 c45 c46, .slice a48 c49 c50]) rfl (y_loadn (b := b63) (o := 0) (vs := [.slice a40 c41 c42, .slice a44 c45 c46, .slice a48 c49 c50]) T8.agg_30_3 rfl rfl ((B.b 4 rfl).cells (o := 0) rfl)) ?_
    refine s_k rfl (k_call T8.fn_40 (c_i_ScaleField ((B.o 9 rfl).rd) ((B.o 10 rfl).rd) ((B.o 5 rfl).rd) ((B.o 6 rfl).rd) ((B.o 7 rfl).rd) (cnLit (k := .f32) (t := 1073741824) (by kernel_rfl) (by kernel_rfl)) (by first | exact lenle (by assumption) | exact lenle6 (by assumption) | exact le256 (by assumption) | exact le2566 (by assumption) | omega) (by first | exact lenle (by assumption) | exact lenle6 (by assumption) | exact le256 (by assumption) | exact le2566 (by assumption) | omega) (by first | exact lenle (by assumption) | exact lenle6 (by assumption) | exact le256 (by assumption) | exact le2566 (by assumption) | omega) (by first | exact lenle (by assumption) | exact lenle6 (by assumption) | exact le256 (by assumption) | exact le2566 (by assumption) | omega) (by first | exact lenle (by assumption) | exact lenle6 (by assumption) | exact le256 (by assumption) | exact le2566 (by assumption) | omega)) rfl ?_)
    rintro v91 w89 hx90
    have hk92 : sclB v8 v9 vb10 Z14 Z18 Z43 Z47 Z51 1073741824 = true := (scl2_ok hp52 hp53)
    obtain ⟨a93, c94, a95, c96, a97, c98, rfl, hN99⟩ := (hx90.resolve_right (fun hz => by rw [hk92] at hz; cases hz.1)).2
    clear hx90
    replace B := B.new3 hN99
    clear hN99
    refine s_y (v := .tuple #[.agg #[.slice a93 ((v8 * v9).toNat) c94, .slice a95 ((v8 * v9).toNat) c96, .slice a97 ((v8 * v9).toNat) c98], .bool true]) rfl (y_move rfl) ?_
    refine s_y (v := .agg #[.slice a93 ((v8 * v9).toNat) c94, .slice a95 ((v8 * v9).toNat) c96, .slice a97 ((v8 * v9).toNat) c98]) rfl (y_extract rfl rfl) ?_
    refine s_y (v := .bool true) rfl (y_extract rfl rfl) ?_
    refine s_k rfl (k_allocN (z := (.agg #[.slice none 0 0, .slice none 0 0, .slice none 0 0])) (cs := [.slice none 0 0, .slice none 0 0, .slice none 0 0]) T8.zero_30 rfl (fun b100 w101 hN102 => ?_))
    replace B := B.new1 hN102
    clear hN102
    refine s_k0 rfl (k_stB (v := .agg #[.slice a93 ((v8 * v9).toNat) c94, .slice a95 ((v8 * v9).toNat) c96, .slice a97 ((v8 * v9).toNat) c98]) (n := 3) (cs' := [.slice a93 ((v8 * v9).toNat) c94, .slice a95 ((v8 * v9).toNat) c96, .slice a97 ((v8 * v9).toNat) c98]) T8.sz_30_3 rfl rfl rfl (B.b 0 rfl) (by simp [Value.cells, Value.oneCell']) (Nat.le_of_ble_eq_true rfl) rfl (fun w103 hU104 => ?_))
    replace B : Bu w no w103 [.blk b100 [.slice a93 ((v8 * v9).toNat) c94, .slice a95 ((v8 * v9).toNat) c96, .slice a97 ((v8 * v9).toNat) c98] 30, .ow kF a93 ((v8 * v9).toNat) c94 34 (mulL (v8 * v9) Z43 1073741824), .ow kF a95 ((v8 * v9).toNat) c96 34 (mulL (v8 * v9) Z47 1073741824), .ow kF a97 ((v8 * v9).toNat) c98 34 (mulL (v8 * v9) Z51 1073741824), .blk b84 [.slice a77 c41 c78, .slice a79 c45 c80, .slice a81 c49 c82] 30, .ow kF a77 c41 c78 34 ((rnT v8 v9 vb10 Z14 Z18 (Z43, Z47, Z51) (Int.toNat u70)).1), .ow kF a79 c45 c80 34 ((rnT v8 v9 vb10 Z14 Z18 (Z43, Z47, Z51) (Int.toNat u70)).2.1), .ow kF a81 c49 c82 34 ((rnT v8 v9 vb10 Z14 Z18 (Z43, Z47, Z51) (Int.toNat u70)).2.2), .blk b63 [.slice a40 c41 c42, .slice a44 c45 c46, .slice a48 c49 c50] 30, .ow kF a40 c41 c42 34 Z43, .ow kF a44 c45 c46 34 Z47, .ow kF a48 c49 c50 34 Z51, .blk b33 [.int .i64 v8, .int .i64 v9, .bool vb10, .slice a11 c12 c13, .slice a15 c16 c17] 26, .ow kF a11 c12 c13 34 Z14, .ow kF a15 c16 c17 34 Z18, .rd kY a0 n0 X0, .rd kY a1 n1 X1] := B.upd [0] rfl hU104
    clear hU104
    refine s_y (v := .bool true) rfl (y_assign rfl) ?_
    refine s_nil ?_
    refine W_seq ?_
    refine W_region (by kernel_rfl) ?_
    refine s_y (v := .agg #[.int .i64 v8, .int .i64 v9, .bool vb10, .slice a11 c12 c13, .slice a15 c16 c17]) rfl (y_loadn (b := b33) (o := 0) (vs := [.int .i64 v8, .int .i64 v9, .bool vb10, .slice a11 c12 c13, .slice a15 c16 c17]) T8.agg_26_5 rfl rfl ((B.b 12 rfl).cells (o := 0) rfl)) ?_
    refine s_y (v := .agg #[.slice a40 c41 c42, .slice a44 c45 c46, .slice a48 c49 c50]) rfl (y_loadn (b := b63) (o := 0) (vs := [.slice a40 c41 c42, .slice a44 c45 c46, .slice a48 c49 c50]) T8.agg_30_3 rfl rfl ((B.b 8 rfl).cells (o := 0) rfl)) ?_
    refine s_k rfl (k_call T8.fn_40 (c_i_ScaleField ((B.o 13 rfl).rd) ((B.o 14 rfl).rd) ((B.o 9 rfl).rd) ((B.o 10 rfl).rd) ((B.o 11 rfl).rd) (cnLit (k := .f32) (t := 3212836864) (by kernel_rfl) (by kernel_rfl)) (by first | exact lenle (by assumption) | exact lenle6 (by assumption) | exact le256 (by assumption) | exact le2566 (by assumption) | omega) (by first | exact lenle (by assumption) | exact lenle6 (by assumption) | exact le256 (by assumption) | exact le2566 (by assumption) | omega) (by first | exact lenle (by assumption) | exact lenle6 (by assumption) | exact le256 (by assumption) | exact le2566 (by assumption) | omega) (by first | exact lenle (by assumption) | exact lenle6 (by assumption) | exact le256 (by assumption) | exact le2566 (by assumption) | omega) (by first | exact lenle (by assumption) | exact lenle6 (by assumption) | exact le256 (by assumption) | exact le2566 (by assumption) | omega)) rfl ?_)
    rintro v107 w105 hx106
    have hk108 : sclB v8 v9 vb10 Z14 Z18 Z43 Z47 Z51 3212836864 = true := (sclN_ok hp52 hp53)
    obtain ⟨a109, c110, a111, c112, a113, c114, rfl, hN115⟩ := (hx106.resolve_right (fun hz => by rw [hk108] at hz; cases hz.1)).2
    clear hx106
    replace B := B.new3 hN115
    clear hN115
    refine s_y (v := .tuple #[.agg #[.slice a109 ((v8 * v9).toNat) c110, .slice a111 ((v8 * v9).toNat) c112, .slice a113 ((v8 * v9).toNat) c114], .bool true]) rfl (y_move rfl) ?_
    refine s_y (v := .agg #[.slice a109 ((v8 * v9).toNat) c110, .slice a111 ((v8 * v9).toNat) c112, .slice a113 ((v8 * v9).toNat) c114]) rfl (y_extract rfl rfl) ?_
    refine s_y (v := .bool true) rfl (y_extract rfl rfl) ?_
    refine s_k rfl (k_allocN (z := (.agg #[.slice none 0 0, .slice none 0 0, .slice none 0 0])) (cs := [.slice none 0 0, .slice none 0 0, .slice none 0 0]) T8.zero_30 rfl (fun b116 w117 hN118 => ?_))
    replace B := B.new1 hN118
    clear hN118
    refine s_k0 rfl (k_stB (v := .agg #[.slice a109 ((v8 * v9).toNat) c110, .slice a111 ((v8 * v9).toNat) c112, .slice a113 ((v8 * v9).toNat) c114]) (n := 3) (cs' := [.slice a109 ((v8 * v9).toNat) c110, .slice a111 ((v8 * v9).toNat) c112, .slice a113 ((v8 * v9).toNat) c114]) T8.sz_30_3 rfl rfl rfl (B.b 0 rfl) (by simp [Value.cells, Value.oneCell']) (Nat.le_of_ble_eq_true rfl) rfl (fun w119 hU120 => ?_))
    replace B : Bu w no w119 [.blk b116 [.slice a109 ((v8 * v9).toNat) c110, .slice a111 ((v8 * v9).toNat) c112, .slice a113 ((v8 * v9).toNat) c114] 30, .ow kF a109 ((v8 * v9).toNat) c110 34 (mulL (v8 * v9) Z43 3212836864), .ow kF a111 ((v8 * v9).toNat) c112 34 (mulL (v8 * v9) Z47 3212836864), .ow kF a113 ((v8 * v9).toNat) c114 34 (mulL (v8 * v9) Z51 3212836864), .blk b100 [.slice a93 ((v8 * v9).toNat) c94, .slice a95 ((v8 * v9).toNat) c96, .slice a97 ((v8 * v9).toNat) c98] 30, .ow kF a93 ((v8 * v9).toNat) c94 34 (mulL (v8 * v9) Z43 1073741824), .ow kF a95 ((v8 * v9).toNat) c96 34 (mulL (v8 * v9) Z47 1073741824), .ow kF a97 ((v8 * v9).toNat) c98 34 (mulL (v8 * v9) Z51 1073741824), .blk b84 [.slice a77 c41 c78, .slice a79 c45 c80, .slice a81 c49 c82] 30, .ow kF a77 c41 c78 34 ((rnT v8 v9 vb10 Z14 Z18 (Z43, Z47, Z51) (Int.toNat u70)).1), .ow kF a79 c45 c80 34 ((rnT v8 v9 vb10 Z14 Z18 (Z43, Z47, Z51) (Int.toNat u70)).2.1), .ow kF a81 c49 c82 34 ((rnT v8 v9 vb10 Z14 Z18 (Z43, Z47, Z51) (Int.toNat u70)).2.2), .blk b63 [.slice a40 c41 c42, .slice a44 c45 c46, .slice a48 c49 c50] 30, .ow kF a40 c41 c42 34 Z43, .ow kF a44 c45 c46 34 Z47, .ow kF a48 c49 c50 34 Z51, .blk b33 [.int .i64 v8, .int .i64 v9, .bool vb10, .slice a11 c12 c13, .slice a15 c16 c17] 26, .ow kF a11 c12 c13 34 Z14, .ow kF a15 c16 c17 34 Z18, .rd kY a0 n0 X0, .rd kY a1 n1 X1] := B.upd [0] rfl hU120
    clear hU120
    refine s_y (v := .bool true) rfl (y_assign rfl) ?_
    refine s_nil ?_
    refine W_seq ?_
    refine W_region (by kernel_rfl) ?_
    refine s_y (v := .agg #[.int .i64 v8, .int .i64 v9, .bool vb10, .slice a11 c12 c13, .slice a15 c16 c17]) rfl (y_loadn (b := b33) (o := 0) (vs := [.int .i64 v8, .int .i64 v9, .bool vb10, .slice a11 c12 c13, .slice a15 c16 c17]) T8.agg_26_5 rfl rfl ((B.b 16 rfl).cells (o := 0) rfl)) ?_
    refine s_y (v := .agg #[.slice a93 ((v8 * v9).toNat) c94, .slice a95 ((v8 * v9).toNat) c96, .slice a97 ((v8 * v9).toNat) c98]) rfl (y_loadn (b := b100) (o := 0) (vs := [.slice a93 ((v8 * v9).toNat) c94, .slice a95 ((v8 * v9).toNat) c96, .slice a97 ((v8 * v9).toNat) c98]) T8.agg_30_3 rfl rfl ((B.b 4 rfl).cells (o := 0) rfl)) ?_
    refine s_y (v := .int .i64 u70) rfl (y_move rfl) ?_
    refine s_k rfl (k_call T8.fn_17 (c_i_RunField ((B.o 17 rfl).rd) ((B.o 18 rfl).rd) ((B.o 5 rfl).rd) ((B.o 6 rfl).rd) ((B.o 7 rfl).rd) (by first | exact lenle (by assumption) | exact lenle6 (by assumption) | exact le256 (by assumption) | exact le2566 (by assumption) | omega) (by first | exact lenle (by assumption) | exact lenle6 (by assumption) | exact le256 (by assumption) | exact le2566 (by assumption) | omega) (by first | exact lenle (by assumption) | exact lenle6 (by assumption) | exact le256 (by assumption) | exact le2566 (by assumption) | omega) (by first | exact lenle (by assumption) | exact lenle6 (by assumption) | exact le256 (by assumption) | exact le2566 (by assumption) | omega) (by first | exact lenle (by assumption) | exact lenle6 (by assumption) | exact le256 (by assumption) | exact le2566 (by assumption) | omega)) rfl ?_)
    rintro v123 w121 hx122
    have hk124 : runB v8 v9 vb10 Z14 Z18 (mulL (v8 * v9) Z43 1073741824) (mulL (v8 * v9) Z47 1073741824) (mulL (v8 * v9) Z51 1073741824) u70 = true := (runB_yes (scl_field hk92) (by omega))
    obtain ⟨a125, c126, a127, c128, a129, c130, rfl, hN131⟩ := (hx122.resolve_right (fun hz => by rw [hk124] at hz; cases hz.1)).2
    clear hx122
    replace B := B.new3 hN131
    clear hN131
    refine s_y (v := .tuple #[.agg #[.slice a125 ((v8 * v9).toNat) c126, .slice a127 ((v8 * v9).toNat) c128, .slice a129 ((v8 * v9).toNat) c130], .bool true]) rfl (y_move rfl) ?_
    refine s_y (v := .agg #[.slice a125 ((v8 * v9).toNat) c126, .slice a127 ((v8 * v9).toNat) c128, .slice a129 ((v8 * v9).toNat) c130]) rfl (y_extract rfl rfl) ?_
    refine s_y (v := .bool true) rfl (y_extract rfl rfl) ?_
    refine s_k rfl (k_allocN (z := (.agg #[.slice none 0 0, .slice none 0 0, .slice none 0 0])) (cs := [.slice none 0 0, .slice none 0 0, .slice none 0 0]) T8.zero_30 rfl (fun b132 w133 hN134 => ?_))
    replace B := B.new1 hN134
    clear hN134
    refine s_k0 rfl (k_stB (v := .agg #[.slice a125 ((v8 * v9).toNat) c126, .slice a127 ((v8 * v9).toNat) c128, .slice a129 ((v8 * v9).toNat) c130]) (n := 3) (cs' := [.slice a125 ((v8 * v9).toNat) c126, .slice a127 ((v8 * v9).toNat) c128, .slice a129 ((v8 * v9).toNat) c130]) T8.sz_30_3 rfl rfl rfl (B.b 0 rfl) (by simp [Value.cells, Value.oneCell']) (Nat.le_of_ble_eq_true rfl) rfl (fun w135 hU136 => ?_))
    replace B : Bu w no w135 [.blk b132 [.slice a125 ((v8 * v9).toNat) c126, .slice a127 ((v8 * v9).toNat) c128, .slice a129 ((v8 * v9).toNat) c130] 30, .ow kF a125 ((v8 * v9).toNat) c126 34 ((rnT v8 v9 vb10 Z14 Z18 ((mulL (v8 * v9) Z43 1073741824), (mulL (v8 * v9) Z47 1073741824), (mulL (v8 * v9) Z51 1073741824)) (Int.toNat u70)).1), .ow kF a127 ((v8 * v9).toNat) c128 34 ((rnT v8 v9 vb10 Z14 Z18 ((mulL (v8 * v9) Z43 1073741824), (mulL (v8 * v9) Z47 1073741824), (mulL (v8 * v9) Z51 1073741824)) (Int.toNat u70)).2.1), .ow kF a129 ((v8 * v9).toNat) c130 34 ((rnT v8 v9 vb10 Z14 Z18 ((mulL (v8 * v9) Z43 1073741824), (mulL (v8 * v9) Z47 1073741824), (mulL (v8 * v9) Z51 1073741824)) (Int.toNat u70)).2.2), .blk b116 [.slice a109 ((v8 * v9).toNat) c110, .slice a111 ((v8 * v9).toNat) c112, .slice a113 ((v8 * v9).toNat) c114] 30, .ow kF a109 ((v8 * v9).toNat) c110 34 (mulL (v8 * v9) Z43 3212836864), .ow kF a111 ((v8 * v9).toNat) c112 34 (mulL (v8 * v9) Z47 3212836864), .ow kF a113 ((v8 * v9).toNat) c114 34 (mulL (v8 * v9) Z51 3212836864), .blk b100 [.slice a93 ((v8 * v9).toNat) c94, .slice a95 ((v8 * v9).toNat) c96, .slice a97 ((v8 * v9).toNat) c98] 30, .ow kF a93 ((v8 * v9).toNat) c94 34 (mulL (v8 * v9) Z43 1073741824), .ow kF a95 ((v8 * v9).toNat) c96 34 (mulL (v8 * v9) Z47 1073741824), .ow kF a97 ((v8 * v9).toNat) c98 34 (mulL (v8 * v9) Z51 1073741824), .blk b84 [.slice a77 c41 c78, .slice a79 c45 c80, .slice a81 c49 c82] 30, .ow kF a77 c41 c78 34 ((rnT v8 v9 vb10 Z14 Z18 (Z43, Z47, Z51) (Int.toNat u70)).1), .ow kF a79 c45 c80 34 ((rnT v8 v9 vb10 Z14 Z18 (Z43, Z47, Z51) (Int.toNat u70)).2.1), .ow kF a81 c49 c82 34 ((rnT v8 v9 vb10 Z14 Z18 (Z43, Z47, Z51) (Int.toNat u70)).2.2), .blk b63 [.slice a40 c41 c42, .slice a44 c45 c46, .slice a48 c49 c50] 30, .ow kF a40 c41 c42 34 Z43, .ow kF a44 c45 c46 34 Z47, .ow kF a48 c49 c50 34 Z51, .blk b33 [.int .i64 v8, .int .i64 v9, .bool vb10, .slice a11 c12 c13, .slice a15 c16 c17] 26, .ow kF a11 c12 c13 34 Z14, .ow kF a15 c16 c17 34 Z18, .rd kY a0 n0 X0, .rd kY a1 n1 X1] := B.upd [0] rfl hU136
    clear hU136
    refine s_y (v := .bool true) rfl (y_assign rfl) ?_
    refine s_nil ?_
    refine W_seq ?_
    refine W_region (by kernel_rfl) ?_
    refine s_y (v := .agg #[.int .i64 v8, .int .i64 v9, .bool vb10, .slice a11 c12 c13, .slice a15 c16 c17]) rfl (y_loadn (b := b33) (o := 0) (vs := [.int .i64 v8, .int .i64 v9, .bool vb10, .slice a11 c12 c13, .slice a15 c16 c17]) T8.agg_26_5 rfl rfl ((B.b 20 rfl).cells (o := 0) rfl)) ?_
    refine s_y (v := .agg #[.slice a77 c41 c78, .slice a79 c45 c80, .slice a81 c49 c82]) rfl (y_loadn (b := b84) (o := 0) (vs := [.slice a77 c41 c78, .slice a79 c45 c80, .slice a81 c49 c82]) T8.agg_30_3 rfl rfl ((B.b 12 rfl).cells (o := 0) rfl)) ?_
    refine s_k rfl (k_call T8.fn_40 (c_i_ScaleField ((B.o 21 rfl).rd) ((B.o 22 rfl).rd) ((B.o 13 rfl).rd) ((B.o 14 rfl).rd) ((B.o 15 rfl).rd) (cnLit (k := .f32) (t := 1073741824) (by kernel_rfl) (by kernel_rfl)) (by first | exact lenle (by assumption) | exact lenle6 (by assumption) | exact le256 (by assumption) | exact le2566 (by assumption) | omega) (by first | exact lenle (by assumption) | exact lenle6 (by assumption) | exact le256 (by assumption) | exact le2566 (by assumption) | omega) (by first | exact lenle (by assumption) | exact lenle6 (by assumption) | exact le256 (by assumption) | exact le2566 (by assumption) | omega) (by first | exact lenle (by assumption) | exact lenle6 (by assumption) | exact le256 (by assumption) | exact le2566 (by assumption) | omega) (by first | exact lenle (by assumption) | exact lenle6 (by assumption) | exact le256 (by assumption) | exact le2566 (by assumption) | omega)) rfl ?_)
    rintro v139 w137 hx138
    have hk140 : sclB v8 v9 vb10 Z14 Z18 ((rnT v8 v9 vb10 Z14 Z18 (Z43, Z47, Z51) (Int.toNat u70)).1) ((rnT v8 v9 vb10 Z14 Z18 (Z43, Z47, Z51) (Int.toNat u70)).2.1) ((rnT v8 v9 vb10 Z14 Z18 (Z43, Z47, Z51) (Int.toNat u70)).2.2) 1073741824 = true := (scl2_end hp22 hp52 hp53 (by omega))
    obtain ⟨a141, c142, a143, c144, a145, c146, rfl, hN147⟩ := (hx138.resolve_right (fun hz => by rw [hk140] at hz; cases hz.1)).2
    clear hx138
    replace B := B.new3 hN147
    clear hN147
    refine s_y (v := .tuple #[.agg #[.slice a141 ((v8 * v9).toNat) c142, .slice a143 ((v8 * v9).toNat) c144, .slice a145 ((v8 * v9).toNat) c146], .bool true]) rfl (y_move rfl) ?_
    refine s_y (v := .agg #[.slice a141 ((v8 * v9).toNat) c142, .slice a143 ((v8 * v9).toNat) c144, .slice a145 ((v8 * v9).toNat) c146]) rfl (y_extract rfl rfl) ?_
    refine s_y (v := .bool true) rfl (y_extract rfl rfl) ?_
    refine s_k rfl (k_allocN (z := (.agg #[.slice none 0 0, .slice none 0 0, .slice none 0 0])) (cs := [.slice none 0 0, .slice none 0 0, .slice none 0 0]) T8.zero_30 rfl (fun b148 w149 hN150 => ?_))
    replace B := B.new1 hN150
    clear hN150
    refine s_k0 rfl (k_stB (v := .agg #[.slice a141 ((v8 * v9).toNat) c142, .slice a143 ((v8 * v9).toNat) c144, .slice a145 ((v8 * v9).toNat) c146]) (n := 3) (cs' := [.slice a141 ((v8 * v9).toNat) c142, .slice a143 ((v8 * v9).toNat) c144, .slice a145 ((v8 * v9).toNat) c146]) T8.sz_30_3 rfl rfl rfl (B.b 0 rfl) (by simp [Value.cells, Value.oneCell']) (Nat.le_of_ble_eq_true rfl) rfl (fun w151 hU152 => ?_))
    replace B : Bu w no w151 [.blk b148 [.slice a141 ((v8 * v9).toNat) c142, .slice a143 ((v8 * v9).toNat) c144, .slice a145 ((v8 * v9).toNat) c146] 30, .ow kF a141 ((v8 * v9).toNat) c142 34 (mulL (v8 * v9) ((rnT v8 v9 vb10 Z14 Z18 (Z43, Z47, Z51) (Int.toNat u70)).1) 1073741824), .ow kF a143 ((v8 * v9).toNat) c144 34 (mulL (v8 * v9) ((rnT v8 v9 vb10 Z14 Z18 (Z43, Z47, Z51) (Int.toNat u70)).2.1) 1073741824), .ow kF a145 ((v8 * v9).toNat) c146 34 (mulL (v8 * v9) ((rnT v8 v9 vb10 Z14 Z18 (Z43, Z47, Z51) (Int.toNat u70)).2.2) 1073741824), .blk b132 [.slice a125 ((v8 * v9).toNat) c126, .slice a127 ((v8 * v9).toNat) c128, .slice a129 ((v8 * v9).toNat) c130] 30, .ow kF a125 ((v8 * v9).toNat) c126 34 ((rnT v8 v9 vb10 Z14 Z18 ((mulL (v8 * v9) Z43 1073741824), (mulL (v8 * v9) Z47 1073741824), (mulL (v8 * v9) Z51 1073741824)) (Int.toNat u70)).1), .ow kF a127 ((v8 * v9).toNat) c128 34 ((rnT v8 v9 vb10 Z14 Z18 ((mulL (v8 * v9) Z43 1073741824), (mulL (v8 * v9) Z47 1073741824), (mulL (v8 * v9) Z51 1073741824)) (Int.toNat u70)).2.1), .ow kF a129 ((v8 * v9).toNat) c130 34 ((rnT v8 v9 vb10 Z14 Z18 ((mulL (v8 * v9) Z43 1073741824), (mulL (v8 * v9) Z47 1073741824), (mulL (v8 * v9) Z51 1073741824)) (Int.toNat u70)).2.2), .blk b116 [.slice a109 ((v8 * v9).toNat) c110, .slice a111 ((v8 * v9).toNat) c112, .slice a113 ((v8 * v9).toNat) c114] 30, .ow kF a109 ((v8 * v9).toNat) c110 34 (mulL (v8 * v9) Z43 3212836864), .ow kF a111 ((v8 * v9).toNat) c112 34 (mulL (v8 * v9) Z47 3212836864), .ow kF a113 ((v8 * v9).toNat) c114 34 (mulL (v8 * v9) Z51 3212836864), .blk b100 [.slice a93 ((v8 * v9).toNat) c94, .slice a95 ((v8 * v9).toNat) c96, .slice a97 ((v8 * v9).toNat) c98] 30, .ow kF a93 ((v8 * v9).toNat) c94 34 (mulL (v8 * v9) Z43 1073741824), .ow kF a95 ((v8 * v9).toNat) c96 34 (mulL (v8 * v9) Z47 1073741824), .ow kF a97 ((v8 * v9).toNat) c98 34 (mulL (v8 * v9) Z51 1073741824), .blk b84 [.slice a77 c41 c78, .slice a79 c45 c80, .slice a81 c49 c82] 30, .ow kF a77 c41 c78 34 ((rnT v8 v9 vb10 Z14 Z18 (Z43, Z47, Z51) (Int.toNat u70)).1), .ow kF a79 c45 c80 34 ((rnT v8 v9 vb10 Z14 Z18 (Z43, Z47, Z51) (Int.toNat u70)).2.1), .ow kF a81 c49 c82 34 ((rnT v8 v9 vb10 Z14 Z18 (Z43, Z47, Z51) (Int.toNat u70)).2.2), .blk b63 [.slice a40 c41 c42, .slice a44 c45 c46, .slice a48 c49 c50] 30, .ow kF a40 c41 c42 34 Z43, .ow kF a44 c45 c46 34 Z47, .ow kF a48 c49 c50 34 Z51, .blk b33 [.int .i64 v8, .int .i64 v9, .bool vb10, .slice a11 c12 c13, .slice a15 c16 c17] 26, .ow kF a11 c12 c13 34 Z14, .ow kF a15 c16 c17 34 Z18, .rd kY a0 n0 X0, .rd kY a1 n1 X1] := B.upd [0] rfl hU152
    clear hU152
    refine s_y (v := .bool true) rfl (y_assign rfl) ?_
    refine s_nil ?_
    refine W_seq ?_
    refine W_region (by kernel_rfl) ?_
    refine s_y (v := .agg #[.int .i64 v8, .int .i64 v9, .bool vb10, .slice a11 c12 c13, .slice a15 c16 c17]) rfl (y_loadn (b := b33) (o := 0) (vs := [.int .i64 v8, .int .i64 v9, .bool vb10, .slice a11 c12 c13, .slice a15 c16 c17]) T8.agg_26_5 rfl rfl ((B.b 24 rfl).cells (o := 0) rfl)) ?_
    refine s_y (v := .agg #[.slice a109 ((v8 * v9).toNat) c110, .slice a111 ((v8 * v9).toNat) c112, .slice a113 ((v8 * v9).toNat) c114]) rfl (y_loadn (b := b116) (o := 0) (vs := [.slice a109 ((v8 * v9).toNat) c110, .slice a111 ((v8 * v9).toNat) c112, .slice a113 ((v8 * v9).toNat) c114]) T8.agg_30_3 rfl rfl ((B.b 8 rfl).cells (o := 0) rfl)) ?_
    refine s_y (v := .int .i64 u70) rfl (y_move rfl) ?_
    refine s_k rfl (k_call T8.fn_17 (c_i_RunField ((B.o 25 rfl).rd) ((B.o 26 rfl).rd) ((B.o 9 rfl).rd) ((B.o 10 rfl).rd) ((B.o 11 rfl).rd) (by first | exact lenle (by assumption) | exact lenle6 (by assumption) | exact le256 (by assumption) | exact le2566 (by assumption) | omega) (by first | exact lenle (by assumption) | exact lenle6 (by assumption) | exact le256 (by assumption) | exact le2566 (by assumption) | omega) (by first | exact lenle (by assumption) | exact lenle6 (by assumption) | exact le256 (by assumption) | exact le2566 (by assumption) | omega) (by first | exact lenle (by assumption) | exact lenle6 (by assumption) | exact le256 (by assumption) | exact le2566 (by assumption) | omega) (by first | exact lenle (by assumption) | exact lenle6 (by assumption) | exact le256 (by assumption) | exact le2566 (by assumption) | omega)) rfl ?_)
    rintro v155 w153 hx154
    have hk156 : runB v8 v9 vb10 Z14 Z18 (mulL (v8 * v9) Z43 3212836864) (mulL (v8 * v9) Z47 3212836864) (mulL (v8 * v9) Z51 3212836864) u70 = true := (runB_yes (scl_field hk108) (by omega))
    obtain ⟨a157, c158, a159, c160, a161, c162, rfl, hN163⟩ := (hx154.resolve_right (fun hz => by rw [hk156] at hz; cases hz.1)).2
    clear hx154
    replace B := B.new3 hN163
    clear hN163
    refine s_y (v := .tuple #[.agg #[.slice a157 ((v8 * v9).toNat) c158, .slice a159 ((v8 * v9).toNat) c160, .slice a161 ((v8 * v9).toNat) c162], .bool true]) rfl (y_move rfl) ?_
    refine s_y (v := .agg #[.slice a157 ((v8 * v9).toNat) c158, .slice a159 ((v8 * v9).toNat) c160, .slice a161 ((v8 * v9).toNat) c162]) rfl (y_extract rfl rfl) ?_
    refine s_y (v := .bool true) rfl (y_extract rfl rfl) ?_
    refine s_k rfl (k_allocN (z := (.agg #[.slice none 0 0, .slice none 0 0, .slice none 0 0])) (cs := [.slice none 0 0, .slice none 0 0, .slice none 0 0]) T8.zero_30 rfl (fun b164 w165 hN166 => ?_))
    replace B := B.new1 hN166
    clear hN166
    refine s_k0 rfl (k_stB (v := .agg #[.slice a157 ((v8 * v9).toNat) c158, .slice a159 ((v8 * v9).toNat) c160, .slice a161 ((v8 * v9).toNat) c162]) (n := 3) (cs' := [.slice a157 ((v8 * v9).toNat) c158, .slice a159 ((v8 * v9).toNat) c160, .slice a161 ((v8 * v9).toNat) c162]) T8.sz_30_3 rfl rfl rfl (B.b 0 rfl) (by simp [Value.cells, Value.oneCell']) (Nat.le_of_ble_eq_true rfl) rfl (fun w167 hU168 => ?_))
    replace B : Bu w no w167 [.blk b164 [.slice a157 ((v8 * v9).toNat) c158, .slice a159 ((v8 * v9).toNat) c160, .slice a161 ((v8 * v9).toNat) c162] 30, .ow kF a157 ((v8 * v9).toNat) c158 34 ((rnT v8 v9 vb10 Z14 Z18 ((mulL (v8 * v9) Z43 3212836864), (mulL (v8 * v9) Z47 3212836864), (mulL (v8 * v9) Z51 3212836864)) (Int.toNat u70)).1), .ow kF a159 ((v8 * v9).toNat) c160 34 ((rnT v8 v9 vb10 Z14 Z18 ((mulL (v8 * v9) Z43 3212836864), (mulL (v8 * v9) Z47 3212836864), (mulL (v8 * v9) Z51 3212836864)) (Int.toNat u70)).2.1), .ow kF a161 ((v8 * v9).toNat) c162 34 ((rnT v8 v9 vb10 Z14 Z18 ((mulL (v8 * v9) Z43 3212836864), (mulL (v8 * v9) Z47 3212836864), (mulL (v8 * v9) Z51 3212836864)) (Int.toNat u70)).2.2), .blk b148 [.slice a141 ((v8 * v9).toNat) c142, .slice a143 ((v8 * v9).toNat) c144, .slice a145 ((v8 * v9).toNat) c146] 30, .ow kF a141 ((v8 * v9).toNat) c142 34 (mulL (v8 * v9) ((rnT v8 v9 vb10 Z14 Z18 (Z43, Z47, Z51) (Int.toNat u70)).1) 1073741824), .ow kF a143 ((v8 * v9).toNat) c144 34 (mulL (v8 * v9) ((rnT v8 v9 vb10 Z14 Z18 (Z43, Z47, Z51) (Int.toNat u70)).2.1) 1073741824), .ow kF a145 ((v8 * v9).toNat) c146 34 (mulL (v8 * v9) ((rnT v8 v9 vb10 Z14 Z18 (Z43, Z47, Z51) (Int.toNat u70)).2.2) 1073741824), .blk b132 [.slice a125 ((v8 * v9).toNat) c126, .slice a127 ((v8 * v9).toNat) c128, .slice a129 ((v8 * v9).toNat) c130] 30, .ow kF a125 ((v8 * v9).toNat) c126 34 ((rnT v8 v9 vb10 Z14 Z18 ((mulL (v8 * v9) Z43 1073741824), (mulL (v8 * v9) Z47 1073741824), (mulL (v8 * v9) Z51 1073741824)) (Int.toNat u70)).1), .ow kF a127 ((v8 * v9).toNat) c128 34 ((rnT v8 v9 vb10 Z14 Z18 ((mulL (v8 * v9) Z43 1073741824), (mulL (v8 * v9) Z47 1073741824), (mulL (v8 * v9) Z51 1073741824)) (Int.toNat u70)).2.1), .ow kF a129 ((v8 * v9).toNat) c130 34 ((rnT v8 v9 vb10 Z14 Z18 ((mulL (v8 * v9) Z43 1073741824), (mulL (v8 * v9) Z47 1073741824), (mulL (v8 * v9) Z51 1073741824)) (Int.toNat u70)).2.2), .blk b116 [.slice a109 ((v8 * v9).toNat) c110, .slice a111 ((v8 * v9).toNat) c112, .slice a113 ((v8 * v9).toNat) c114] 30, .ow kF a109 ((v8 * v9).toNat) c110 34 (mulL (v8 * v9) Z43 3212836864), .ow kF a111 ((v8 * v9).toNat) c112 34 (mulL (v8 * v9) Z47 3212836864), .ow kF a113 ((v8 * v9).toNat) c114 34 (mulL (v8 * v9) Z51 3212836864), .blk b100 [.slice a93 ((v8 * v9).toNat) c94, .slice a95 ((v8 * v9).toNat) c96, .slice a97 ((v8 * v9).toNat) c98] 30, .ow kF a93 ((v8 * v9).toNat) c94 34 (mulL (v8 * v9) Z43 1073741824), .ow kF a95 ((v8 * v9).toNat) c96 34 (mulL (v8 * v9) Z47 1073741824), .ow kF a97 ((v8 * v9).toNat) c98 34 (mulL (v8 * v9) Z51 1073741824), .blk b84 [.slice a77 c41 c78, .slice a79 c45 c80, .slice a81 c49 c82] 30, .ow kF a77 c41 c78 34 ((rnT v8 v9 vb10 Z14 Z18 (Z43, Z47, Z51) (Int.toNat u70)).1), .ow kF a79 c45 c80 34 ((rnT v8 v9 vb10 Z14 Z18 (Z43, Z47, Z51) (Int.toNat u70)).2.1), .ow kF a81 c49 c82 34 ((rnT v8 v9 vb10 Z14 Z18 (Z43, Z47, Z51) (Int.toNat u70)).2.2), .blk b63 [.slice a40 c41 c42, .slice a44 c45 c46, .slice a48 c49 c50] 30, .ow kF a40 c41 c42 34 Z43, .ow kF a44 c45 c46 34 Z47, .ow kF a48 c49 c50 34 Z51, .blk b33 [.int .i64 v8, .int .i64 v9, .bool vb10, .slice a11 c12 c13, .slice a15 c16 c17] 26, .ow kF a11 c12 c13 34 Z14, .ow kF a15 c16 c17 34 Z18, .rd kY a0 n0 X0, .rd kY a1 n1 X1] := B.upd [0] rfl hU168
    clear hU168
    refine s_y (v := .bool true) rfl (y_assign rfl) ?_
    refine s_nil ?_
    refine W_seq ?_
    refine W_region (by kernel_rfl) ?_
    refine s_y (v := .agg #[.int .i64 v8, .int .i64 v9, .bool vb10, .slice a11 c12 c13, .slice a15 c16 c17]) rfl (y_loadn (b := b33) (o := 0) (vs := [.int .i64 v8, .int .i64 v9, .bool vb10, .slice a11 c12 c13, .slice a15 c16 c17]) T8.agg_26_5 rfl rfl ((B.b 28 rfl).cells (o := 0) rfl)) ?_
    refine s_y (v := .agg #[.slice a77 c41 c78, .slice a79 c45 c80, .slice a81 c49 c82]) rfl (y_loadn (b := b84) (o := 0) (vs := [.slice a77 c41 c78, .slice a79 c45 c80, .slice a81 c49 c82]) T8.agg_30_3 rfl rfl ((B.b 20 rfl).cells (o := 0) rfl)) ?_
    refine s_k rfl (k_call T8.fn_40 (c_i_ScaleField ((B.o 29 rfl).rd) ((B.o 30 rfl).rd) ((B.o 21 rfl).rd) ((B.o 22 rfl).rd) ((B.o 23 rfl).rd) (cnLit (k := .f32) (t := 3212836864) (by kernel_rfl) (by kernel_rfl)) (by first | exact lenle (by assumption) | exact lenle6 (by assumption) | exact le256 (by assumption) | exact le2566 (by assumption) | omega) (by first | exact lenle (by assumption) | exact lenle6 (by assumption) | exact le256 (by assumption) | exact le2566 (by assumption) | omega) (by first | exact lenle (by assumption) | exact lenle6 (by assumption) | exact le256 (by assumption) | exact le2566 (by assumption) | omega) (by first | exact lenle (by assumption) | exact lenle6 (by assumption) | exact le256 (by assumption) | exact le2566 (by assumption) | omega) (by first | exact lenle (by assumption) | exact lenle6 (by assumption) | exact le256 (by assumption) | exact le2566 (by assumption) | omega)) rfl ?_)
    rintro v171 w169 hx170
    have hk172 : sclB v8 v9 vb10 Z14 Z18 ((rnT v8 v9 vb10 Z14 Z18 (Z43, Z47, Z51) (Int.toNat u70)).1) ((rnT v8 v9 vb10 Z14 Z18 (Z43, Z47, Z51) (Int.toNat u70)).2.1) ((rnT v8 v9 vb10 Z14 Z18 (Z43, Z47, Z51) (Int.toNat u70)).2.2) 3212836864 = true := (sclN_end hp22 hp52 hp53 (by omega))
    obtain ⟨a173, c174, a175, c176, a177, c178, rfl, hN179⟩ := (hx170.resolve_right (fun hz => by rw [hk172] at hz; cases hz.1)).2
    clear hx170
    replace B := B.new3 hN179
    clear hN179
    refine s_y (v := .tuple #[.agg #[.slice a173 ((v8 * v9).toNat) c174, .slice a175 ((v8 * v9).toNat) c176, .slice a177 ((v8 * v9).toNat) c178], .bool true]) rfl (y_move rfl) ?_
    refine s_y (v := .agg #[.slice a173 ((v8 * v9).toNat) c174, .slice a175 ((v8 * v9).toNat) c176, .slice a177 ((v8 * v9).toNat) c178]) rfl (y_extract rfl rfl) ?_
    refine s_y (v := .bool true) rfl (y_extract rfl rfl) ?_
    refine s_k rfl (k_allocN (z := (.agg #[.slice none 0 0, .slice none 0 0, .slice none 0 0])) (cs := [.slice none 0 0, .slice none 0 0, .slice none 0 0]) T8.zero_30 rfl (fun b180 w181 hN182 => ?_))
    replace B := B.new1 hN182
    clear hN182
    refine s_k0 rfl (k_stB (v := .agg #[.slice a173 ((v8 * v9).toNat) c174, .slice a175 ((v8 * v9).toNat) c176, .slice a177 ((v8 * v9).toNat) c178]) (n := 3) (cs' := [.slice a173 ((v8 * v9).toNat) c174, .slice a175 ((v8 * v9).toNat) c176, .slice a177 ((v8 * v9).toNat) c178]) T8.sz_30_3 rfl rfl rfl (B.b 0 rfl) (by simp [Value.cells, Value.oneCell']) (Nat.le_of_ble_eq_true rfl) rfl (fun w183 hU184 => ?_))
    replace B : Bu w no w183 [.blk b180 [.slice a173 ((v8 * v9).toNat) c174, .slice a175 ((v8 * v9).toNat) c176, .slice a177 ((v8 * v9).toNat) c178] 30, .ow kF a173 ((v8 * v9).toNat) c174 34 (mulL (v8 * v9) ((rnT v8 v9 vb10 Z14 Z18 (Z43, Z47, Z51) (Int.toNat u70)).1) 3212836864), .ow kF a175 ((v8 * v9).toNat) c176 34 (mulL (v8 * v9) ((rnT v8 v9 vb10 Z14 Z18 (Z43, Z47, Z51) (Int.toNat u70)).2.1) 3212836864), .ow kF a177 ((v8 * v9).toNat) c178 34 (mulL (v8 * v9) ((rnT v8 v9 vb10 Z14 Z18 (Z43, Z47, Z51) (Int.toNat u70)).2.2) 3212836864), .blk b164 [.slice a157 ((v8 * v9).toNat) c158, .slice a159 ((v8 * v9).toNat) c160, .slice a161 ((v8 * v9).toNat) c162] 30, .ow kF a157 ((v8 * v9).toNat) c158 34 ((rnT v8 v9 vb10 Z14 Z18 ((mulL (v8 * v9) Z43 3212836864), (mulL (v8 * v9) Z47 3212836864), (mulL (v8 * v9) Z51 3212836864)) (Int.toNat u70)).1), .ow kF a159 ((v8 * v9).toNat) c160 34 ((rnT v8 v9 vb10 Z14 Z18 ((mulL (v8 * v9) Z43 3212836864), (mulL (v8 * v9) Z47 3212836864), (mulL (v8 * v9) Z51 3212836864)) (Int.toNat u70)).2.1), .ow kF a161 ((v8 * v9).toNat) c162 34 ((rnT v8 v9 vb10 Z14 Z18 ((mulL (v8 * v9) Z43 3212836864), (mulL (v8 * v9) Z47 3212836864), (mulL (v8 * v9) Z51 3212836864)) (Int.toNat u70)).2.2), .blk b148 [.slice a141 ((v8 * v9).toNat) c142, .slice a143 ((v8 * v9).toNat) c144, .slice a145 ((v8 * v9).toNat) c146] 30, .ow kF a141 ((v8 * v9).toNat) c142 34 (mulL (v8 * v9) ((rnT v8 v9 vb10 Z14 Z18 (Z43, Z47, Z51) (Int.toNat u70)).1) 1073741824), .ow kF a143 ((v8 * v9).toNat) c144 34 (mulL (v8 * v9) ((rnT v8 v9 vb10 Z14 Z18 (Z43, Z47, Z51) (Int.toNat u70)).2.1) 1073741824), .ow kF a145 ((v8 * v9).toNat) c146 34 (mulL (v8 * v9) ((rnT v8 v9 vb10 Z14 Z18 (Z43, Z47, Z51) (Int.toNat u70)).2.2) 1073741824), .blk b132 [.slice a125 ((v8 * v9).toNat) c126, .slice a127 ((v8 * v9).toNat) c128, .slice a129 ((v8 * v9).toNat) c130] 30, .ow kF a125 ((v8 * v9).toNat) c126 34 ((rnT v8 v9 vb10 Z14 Z18 ((mulL (v8 * v9) Z43 1073741824), (mulL (v8 * v9) Z47 1073741824), (mulL (v8 * v9) Z51 1073741824)) (Int.toNat u70)).1), .ow kF a127 ((v8 * v9).toNat) c128 34 ((rnT v8 v9 vb10 Z14 Z18 ((mulL (v8 * v9) Z43 1073741824), (mulL (v8 * v9) Z47 1073741824), (mulL (v8 * v9) Z51 1073741824)) (Int.toNat u70)).2.1), .ow kF a129 ((v8 * v9).toNat) c130 34 ((rnT v8 v9 vb10 Z14 Z18 ((mulL (v8 * v9) Z43 1073741824), (mulL (v8 * v9) Z47 1073741824), (mulL (v8 * v9) Z51 1073741824)) (Int.toNat u70)).2.2), .blk b116 [.slice a109 ((v8 * v9).toNat) c110, .slice a111 ((v8 * v9).toNat) c112, .slice a113 ((v8 * v9).toNat) c114] 30, .ow kF a109 ((v8 * v9).toNat) c110 34 (mulL (v8 * v9) Z43 3212836864), .ow kF a111 ((v8 * v9).toNat) c112 34 (mulL (v8 * v9) Z47 3212836864), .ow kF a113 ((v8 * v9).toNat) c114 34 (mulL (v8 * v9) Z51 3212836864), .blk b100 [.slice a93 ((v8 * v9).toNat) c94, .slice a95 ((v8 * v9).toNat) c96, .slice a97 ((v8 * v9).toNat) c98] 30, .ow kF a93 ((v8 * v9).toNat) c94 34 (mulL (v8 * v9) Z43 1073741824), .ow kF a95 ((v8 * v9).toNat) c96 34 (mulL (v8 * v9) Z47 1073741824), .ow kF a97 ((v8 * v9).toNat) c98 34 (mulL (v8 * v9) Z51 1073741824), .blk b84 [.slice a77 c41 c78, .slice a79 c45 c80, .slice a81 c49 c82] 30, .ow kF a77 c41 c78 34 ((rnT v8 v9 vb10 Z14 Z18 (Z43, Z47, Z51) (Int.toNat u70)).1), .ow kF a79 c45 c80 34 ((rnT v8 v9 vb10 Z14 Z18 (Z43, Z47, Z51) (Int.toNat u70)).2.1), .ow kF a81 c49 c82 34 ((rnT v8 v9 vb10 Z14 Z18 (Z43, Z47, Z51) (Int.toNat u70)).2.2), .blk b63 [.slice a40 c41 c42, .slice a44 c45 c46, .slice a48 c49 c50] 30, .ow kF a40 c41 c42 34 Z43, .ow kF a44 c45 c46 34 Z47, .ow kF a48 c49 c50 34 Z51, .blk b33 [.int .i64 v8, .int .i64 v9, .bool vb10, .slice a11 c12 c13, .slice a15 c16 c17] 26, .ow kF a11 c12 c13 34 Z14, .ow kF a15 c16 c17 34 Z18, .rd kY a0 n0 X0, .rd kY a1 n1 X1] := B.upd [0] rfl hU184
    clear hU184
    refine s_y (v := .bool true) rfl (y_assign rfl) ?_
    refine s_nil ?_
    refine W_seq ?_
    refine W_region (by kernel_rfl) ?_
    refine s_y (v := .agg #[.int .i64 v8, .int .i64 v9, .bool vb10, .slice a11 c12 c13, .slice a15 c16 c17]) rfl (y_loadn (b := b33) (o := 0) (vs := [.int .i64 v8, .int .i64 v9, .bool vb10, .slice a11 c12 c13, .slice a15 c16 c17]) T8.agg_26_5 rfl rfl ((B.b 32 rfl).cells (o := 0) rfl)) ?_
    refine s_y (v := .agg #[.slice a40 c41 c42, .slice a44 c45 c46, .slice a48 c49 c50]) rfl (y_loadn (b := b63) (o := 0) (vs := [.slice a40 c41 c42, .slice a44 c45 c46, .slice a48 c49 c50]) T8.agg_30_3 rfl rfl ((B.b 28 rfl).cells (o := 0) rfl)) ?_
    refine s_y (v := .agg #[.slice a109 ((v8 * v9).toNat) c110, .slice a111 ((v8 * v9).toNat) c112, .slice a113 ((v8 * v9).toNat) c114]) rfl (y_loadn (b := b116) (o := 0) (vs := [.slice a109 ((v8 * v9).toNat) c110, .slice a111 ((v8 * v9).toNat) c112, .slice a113 ((v8 * v9).toNat) c114]) T8.agg_30_3 rfl rfl ((B.b 16 rfl).cells (o := 0) rfl)) ?_
    refine s_k rfl (k_call T8.fn_49 (c_i_AddFields ((B.o 33 rfl).rd) ((B.o 34 rfl).rd) ((B.o 29 rfl).rd) ((B.o 30 rfl).rd) ((B.o 31 rfl).rd) ((B.o 17 rfl).rd) ((B.o 18 rfl).rd) ((B.o 19 rfl).rd) (by first | exact lenle (by assumption) | exact lenle6 (by assumption) | exact le256 (by assumption) | exact le2566 (by assumption) | omega) (by first | exact lenle (by assumption) | exact lenle6 (by assumption) | exact le256 (by assumption) | exact le2566 (by assumption) | omega) (by first | exact lenle (by assumption) | exact lenle6 (by assumption) | exact le256 (by assumption) | exact le2566 (by assumption) | omega) (by first | exact lenle (by assumption) | exact lenle6 (by assumption) | exact le256 (by assumption) | exact le2566 (by assumption) | omega) (by first | exact lenle (by assumption) | exact lenle6 (by assumption) | exact le256 (by assumption) | exact le2566 (by assumption) | omega) (by first | exact lenle (by assumption) | exact lenle6 (by assumption) | exact le256 (by assumption) | exact le2566 (by assumption) | omega) (by first | exact lenle (by assumption) | exact lenle6 (by assumption) | exact le256 (by assumption) | exact le2566 (by assumption) | omega) (by first | exact lenle (by assumption) | exact lenle6 (by assumption) | exact le256 (by assumption) | exact le2566 (by assumption) | omega)) rfl ?_)
    rintro v187 w185 hx186
    have hk188 : addB v8 v9 vb10 Z14 Z18 Z43 Z47 Z51 (mulL (v8 * v9) Z43 3212836864) (mulL (v8 * v9) Z47 3212836864) (mulL (v8 * v9) Z51 3212836864) = true := (addN_ok hp52 hp53)
    obtain ⟨a189, c190, a191, c192, a193, c194, rfl, hN195⟩ := (hx186.resolve_right (fun hz => by rw [hk188] at hz; cases hz.1)).2
    clear hx186
    replace B := B.new3 hN195
    clear hN195
    refine s_y (v := .tuple #[.agg #[.slice a189 ((v8 * v9).toNat) c190, .slice a191 ((v8 * v9).toNat) c192, .slice a193 ((v8 * v9).toNat) c194], .bool true]) rfl (y_move rfl) ?_
    refine s_y (v := .agg #[.slice a189 ((v8 * v9).toNat) c190, .slice a191 ((v8 * v9).toNat) c192, .slice a193 ((v8 * v9).toNat) c194]) rfl (y_extract rfl rfl) ?_
    refine s_y (v := .bool true) rfl (y_extract rfl rfl) ?_
    refine s_k rfl (k_allocN (z := (.agg #[.slice none 0 0, .slice none 0 0, .slice none 0 0])) (cs := [.slice none 0 0, .slice none 0 0, .slice none 0 0]) T8.zero_30 rfl (fun b196 w197 hN198 => ?_))
    replace B := B.new1 hN198
    clear hN198
    refine s_k0 rfl (k_stB (v := .agg #[.slice a189 ((v8 * v9).toNat) c190, .slice a191 ((v8 * v9).toNat) c192, .slice a193 ((v8 * v9).toNat) c194]) (n := 3) (cs' := [.slice a189 ((v8 * v9).toNat) c190, .slice a191 ((v8 * v9).toNat) c192, .slice a193 ((v8 * v9).toNat) c194]) T8.sz_30_3 rfl rfl rfl (B.b 0 rfl) (by simp [Value.cells, Value.oneCell']) (Nat.le_of_ble_eq_true rfl) rfl (fun w199 hU200 => ?_))
    replace B : Bu w no w199 [.blk b196 [.slice a189 ((v8 * v9).toNat) c190, .slice a191 ((v8 * v9).toNat) c192, .slice a193 ((v8 * v9).toNat) c194] 30, .ow kF a189 ((v8 * v9).toNat) c190 34 (addL (v8 * v9) Z43 (mulL (v8 * v9) Z43 3212836864)), .ow kF a191 ((v8 * v9).toNat) c192 34 (addL (v8 * v9) Z47 (mulL (v8 * v9) Z47 3212836864)), .ow kF a193 ((v8 * v9).toNat) c194 34 (addL (v8 * v9) Z51 (mulL (v8 * v9) Z51 3212836864)), .blk b180 [.slice a173 ((v8 * v9).toNat) c174, .slice a175 ((v8 * v9).toNat) c176, .slice a177 ((v8 * v9).toNat) c178] 30, .ow kF a173 ((v8 * v9).toNat) c174 34 (mulL (v8 * v9) ((rnT v8 v9 vb10 Z14 Z18 (Z43, Z47, Z51) (Int.toNat u70)).1) 3212836864), .ow kF a175 ((v8 * v9).toNat) c176 34 (mulL (v8 * v9) ((rnT v8 v9 vb10 Z14 Z18 (Z43, Z47, Z51) (Int.toNat u70)).2.1) 3212836864), .ow kF a177 ((v8 * v9).toNat) c178 34 (mulL (v8 * v9) ((rnT v8 v9 vb10 Z14 Z18 (Z43, Z47, Z51) (Int.toNat u70)).2.2) 3212836864), .blk b164 [.slice a157 ((v8 * v9).toNat) c158, .slice a159 ((v8 * v9).toNat) c160, .slice a161 ((v8 * v9).toNat) c162] 30, .ow kF a157 ((v8 * v9).toNat) c158 34 ((rnT v8 v9 vb10 Z14 Z18 ((mulL (v8 * v9) Z43 3212836864), (mulL (v8 * v9) Z47 3212836864), (mulL (v8 * v9) Z51 3212836864)) (Int.toNat u70)).1), .ow kF a159 ((v8 * v9).toNat) c160 34 ((rnT v8 v9 vb10 Z14 Z18 ((mulL (v8 * v9) Z43 3212836864), (mulL (v8 * v9) Z47 3212836864), (mulL (v8 * v9) Z51 3212836864)) (Int.toNat u70)).2.1), .ow kF a161 ((v8 * v9).toNat) c162 34 ((rnT v8 v9 vb10 Z14 Z18 ((mulL (v8 * v9) Z43 3212836864), (mulL (v8 * v9) Z47 3212836864), (mulL (v8 * v9) Z51 3212836864)) (Int.toNat u70)).2.2), .blk b148 [.slice a141 ((v8 * v9).toNat) c142, .slice a143 ((v8 * v9).toNat) c144, .slice a145 ((v8 * v9).toNat) c146] 30, .ow kF a141 ((v8 * v9).toNat) c142 34 (mulL (v8 * v9) ((rnT v8 v9 vb10 Z14 Z18 (Z43, Z47, Z51) (Int.toNat u70)).1) 1073741824), .ow kF a143 ((v8 * v9).toNat) c144 34 (mulL (v8 * v9) ((rnT v8 v9 vb10 Z14 Z18 (Z43, Z47, Z51) (Int.toNat u70)).2.1) 1073741824), .ow kF a145 ((v8 * v9).toNat) c146 34 (mulL (v8 * v9) ((rnT v8 v9 vb10 Z14 Z18 (Z43, Z47, Z51) (Int.toNat u70)).2.2) 1073741824), .blk b132 [.slice a125 ((v8 * v9).toNat) c126, .slice a127 ((v8 * v9).toNat) c128, .slice a129 ((v8 * v9).toNat) c130] 30, .ow kF a125 ((v8 * v9).toNat) c126 34 ((rnT v8 v9 vb10 Z14 Z18 ((mulL (v8 * v9) Z43 1073741824), (mulL (v8 * v9) Z47 1073741824), (mulL (v8 * v9) Z51 1073741824)) (Int.toNat u70)).1), .ow kF a127 ((v8 * v9).toNat) c128 34 ((rnT v8 v9 vb10 Z14 Z18 ((mulL (v8 * v9) Z43 1073741824), (mulL (v8 * v9) Z47 1073741824), (mulL (v8 * v9) Z51 1073741824)) (Int.toNat u70)).2.1), .ow kF a129 ((v8 * v9).toNat) c130 34 ((rnT v8 v9 vb10 Z14 Z18 ((mulL (v8 * v9) Z43 1073741824), (mulL (v8 * v9) Z47 1073741824), (mulL (v8 * v9) Z51 1073741824)) (Int.toNat u70)).2.2), .blk b116 [.slice a109 ((v8 * v9).toNat) c110, .slice a111 ((v8 * v9).toNat) c112, .slice a113 ((v8 * v9).toNat) c114] 30, .ow kF a109 ((v8 * v9).toNat) c110 34 (mulL (v8 * v9) Z43 3212836864), .ow kF a111 ((v8 * v9).toNat) c112 34 (mulL (v8 * v9) Z47 3212836864), .ow kF a113 ((v8 * v9).toNat) c114 34 (mulL (v8 * v9) Z51 3212836864), .blk b100 [.slice a93 ((v8 * v9).toNat) c94, .slice a95 ((v8 * v9).toNat) c96, .slice a97 ((v8 * v9).toNat) c98] 30, .ow kF a93 ((v8 * v9).toNat) c94 34 (mulL (v8 * v9) Z43 1073741824), .ow kF a95 ((v8 * v9).toNat) c96 34 (mulL (v8 * v9) Z47 1073741824), .ow kF a97 ((v8 * v9).toNat) c98 34 (mulL (v8 * v9) Z51 1073741824), .blk b84 [.slice a77 c41 c78, .slice a79 c45 c80, .slice a81 c49 c82] 30, .ow kF a77 c41 c78 34 ((rnT v8 v9 vb10 Z14 Z18 (Z43, Z47, Z51) (Int.toNat u70)).1), .ow kF a79 c45 c80 34 ((rnT v8 v9 vb10 Z14 Z18 (Z43, Z47, Z51) (Int.toNat u70)).2.1), .ow kF a81 c49 c82 34 ((rnT v8 v9 vb10 Z14 Z18 (Z43, Z47, Z51) (Int.toNat u70)).2.2), .blk b63 [.slice a40 c41 c42, .slice a44 c45 c46, .slice a48 c49 c50] 30, .ow kF a40 c41 c42 34 Z43, .ow kF a44 c45 c46 34 Z47, .ow kF a48 c49 c50 34 Z51, .blk b33 [.int .i64 v8, .int .i64 v9, .bool vb10, .slice a11 c12 c13, .slice a15 c16 c17] 26, .ow kF a11 c12 c13 34 Z14, .ow kF a15 c16 c17 34 Z18, .rd kY a0 n0 X0, .rd kY a1 n1 X1] := B.upd [0] rfl hU200
    clear hU200
    refine s_y (v := .bool true) rfl (y_assign rfl) ?_
    refine s_nil ?_
    refine W_seq ?_
    refine W_region (by kernel_rfl) ?_
    refine s_y (v := .agg #[.int .i64 v8, .int .i64 v9, .bool vb10, .slice a11 c12 c13, .slice a15 c16 c17]) rfl (y_loadn (b := b33) (o := 0) (vs := [.int .i64 v8, .int .i64 v9, .bool vb10, .slice a11 c12 c13, .slice a15 c16 c17]) T8.agg_26_5 rfl rfl ((B.b 36 rfl).cells (o := 0) rfl)) ?_
    refine s_k rfl (k_call T8.fn_15 (c_i_ZeroField ((B.o 37 rfl).rd) ((B.o 38 rfl).rd) (by first | exact lenle (by assumption) | exact lenle6 (by assumption) | exact le256 (by assumption) | exact le2566 (by assumption) | omega) (by first | exact lenle (by assumption) | exact lenle6 (by assumption) | exact le256 (by assumption) | exact le2566 (by assumption) | omega)) rfl ?_)
    rintro v203 w201 hx202
    obtain ⟨a204, c205, a206, c207, a208, c209, rfl, hN210⟩ := (hx202.resolve_right (fun hz => by rw [hp21] at hz; cases hz.1)).2
    clear hx202
    replace B := B.new3 hN210
    clear hN210
    refine s_y (v := .tuple #[.agg #[.slice a204 (Int.toNat (v8 * v9)) c205, .slice a206 (Int.toNat (v8 * v9)) c207, .slice a208 (Int.toNat (v8 * v9)) c209], .bool true]) rfl (y_move rfl) ?_
    refine s_y (v := .agg #[.slice a204 (Int.toNat (v8 * v9)) c205, .slice a206 (Int.toNat (v8 * v9)) c207, .slice a208 (Int.toNat (v8 * v9)) c209]) rfl (y_extract rfl rfl) ?_
    refine s_y (v := .bool true) rfl (y_extract rfl rfl) ?_
    refine s_k rfl (k_allocN (z := (.agg #[.slice none 0 0, .slice none 0 0, .slice none 0 0])) (cs := [.slice none 0 0, .slice none 0 0, .slice none 0 0]) T8.zero_30 rfl (fun b211 w212 hN213 => ?_))
    replace B := B.new1 hN213
    clear hN213
    refine s_k0 rfl (k_stB (v := .agg #[.slice a204 (Int.toNat (v8 * v9)) c205, .slice a206 (Int.toNat (v8 * v9)) c207, .slice a208 (Int.toNat (v8 * v9)) c209]) (n := 3) (cs' := [.slice a204 (Int.toNat (v8 * v9)) c205, .slice a206 (Int.toNat (v8 * v9)) c207, .slice a208 (Int.toNat (v8 * v9)) c209]) T8.sz_30_3 rfl rfl rfl (B.b 0 rfl) (by simp [Value.cells, Value.oneCell']) (Nat.le_of_ble_eq_true rfl) rfl (fun w214 hU215 => ?_))
    replace B : Bu w no w214 [.blk b211 [.slice a204 (Int.toNat (v8 * v9)) c205, .slice a206 (Int.toNat (v8 * v9)) c207, .slice a208 (Int.toNat (v8 * v9)) c209] 30, .ow kF a204 (Int.toNat (v8 * v9)) c205 34 (List.replicate (Int.toNat (v8 * v9)) 0), .ow kF a206 (Int.toNat (v8 * v9)) c207 34 (List.replicate (Int.toNat (v8 * v9)) 0), .ow kF a208 (Int.toNat (v8 * v9)) c209 34 (List.replicate (Int.toNat (v8 * v9)) 0), .blk b196 [.slice a189 ((v8 * v9).toNat) c190, .slice a191 ((v8 * v9).toNat) c192, .slice a193 ((v8 * v9).toNat) c194] 30, .ow kF a189 ((v8 * v9).toNat) c190 34 (addL (v8 * v9) Z43 (mulL (v8 * v9) Z43 3212836864)), .ow kF a191 ((v8 * v9).toNat) c192 34 (addL (v8 * v9) Z47 (mulL (v8 * v9) Z47 3212836864)), .ow kF a193 ((v8 * v9).toNat) c194 34 (addL (v8 * v9) Z51 (mulL (v8 * v9) Z51 3212836864)), .blk b180 [.slice a173 ((v8 * v9).toNat) c174, .slice a175 ((v8 * v9).toNat) c176, .slice a177 ((v8 * v9).toNat) c178] 30, .ow kF a173 ((v8 * v9).toNat) c174 34 (mulL (v8 * v9) ((rnT v8 v9 vb10 Z14 Z18 (Z43, Z47, Z51) (Int.toNat u70)).1) 3212836864), .ow kF a175 ((v8 * v9).toNat) c176 34 (mulL (v8 * v9) ((rnT v8 v9 vb10 Z14 Z18 (Z43, Z47, Z51) (Int.toNat u70)).2.1) 3212836864), .ow kF a177 ((v8 * v9).toNat) c178 34 (mulL (v8 * v9) ((rnT v8 v9 vb10 Z14 Z18 (Z43, Z47, Z51) (Int.toNat u70)).2.2) 3212836864), .blk b164 [.slice a157 ((v8 * v9).toNat) c158, .slice a159 ((v8 * v9).toNat) c160, .slice a161 ((v8 * v9).toNat) c162] 30, .ow kF a157 ((v8 * v9).toNat) c158 34 ((rnT v8 v9 vb10 Z14 Z18 ((mulL (v8 * v9) Z43 3212836864), (mulL (v8 * v9) Z47 3212836864), (mulL (v8 * v9) Z51 3212836864)) (Int.toNat u70)).1), .ow kF a159 ((v8 * v9).toNat) c160 34 ((rnT v8 v9 vb10 Z14 Z18 ((mulL (v8 * v9) Z43 3212836864), (mulL (v8 * v9) Z47 3212836864), (mulL (v8 * v9) Z51 3212836864)) (Int.toNat u70)).2.1), .ow kF a161 ((v8 * v9).toNat) c162 34 ((rnT v8 v9 vb10 Z14 Z18 ((mulL (v8 * v9) Z43 3212836864), (mulL (v8 * v9) Z47 3212836864), (mulL (v8 * v9) Z51 3212836864)) (Int.toNat u70)).2.2), .blk b148 [.slice a141 ((v8 * v9).toNat) c142, .slice a143 ((v8 * v9).toNat) c144, .slice a145 ((v8 * v9).toNat) c146] 30, .ow kF a141 ((v8 * v9).toNat) c142 34 (mulL (v8 * v9) ((rnT v8 v9 vb10 Z14 Z18 (Z43, Z47, Z51) (Int.toNat u70)).1) 1073741824), .ow kF a143 ((v8 * v9).toNat) c144 34 (mulL (v8 * v9) ((rnT v8 v9 vb10 Z14 Z18 (Z43, Z47, Z51) (Int.toNat u70)).2.1) 1073741824), .ow kF a145 ((v8 * v9).toNat) c146 34 (mulL (v8 * v9) ((rnT v8 v9 vb10 Z14 Z18 (Z43, Z47, Z51) (Int.toNat u70)).2.2) 1073741824), .blk b132 [.slice a125 ((v8 * v9).toNat) c126, .slice a127 ((v8 * v9).toNat) c128, .slice a129 ((v8 * v9).toNat) c130] 30, .ow kF a125 ((v8 * v9).toNat) c126 34 ((rnT v8 v9 vb10 Z14 Z18 ((mulL (v8 * v9) Z43 1073741824), (mulL (v8 * v9) Z47 1073741824), (mulL (v8 * v9) Z51 1073741824)) (Int.toNat u70)).1), .ow kF a127 ((v8 * v9).toNat) c128 34 ((rnT v8 v9 vb10 Z14 Z18 ((mulL (v8 * v9) Z43 1073741824), (mulL (v8 * v9) Z47 1073741824), (mulL (v8 * v9) Z51 1073741824)) (Int.toNat u70)).2.1), .ow kF a129 ((v8 * v9).toNat) c130 34 ((rnT v8 v9 vb10 Z14 Z18 ((mulL (v8 * v9) Z43 1073741824), (mulL (v8 * v9) Z47 1073741824), (mulL (v8 * v9) Z51 1073741824)) (Int.toNat u70)).2.2), .blk b116 [.slice a109 ((v8 * v9).toNat) c110, .slice a111 ((v8 * v9).toNat) c112, .slice a113 ((v8 * v9).toNat) c114] 30, .ow kF a109 ((v8 * v9).toNat) c110 34 (mulL (v8 * v9) Z43 3212836864), .ow kF a111 ((v8 * v9).toNat) c112 34 (mulL (v8 * v9) Z47 3212836864), .ow kF a113 ((v8 * v9).toNat) c114 34 (mulL (v8 * v9) Z51 3212836864), .blk b100 [.slice a93 ((v8 * v9).toNat) c94, .slice a95 ((v8 * v9).toNat) c96, .slice a97 ((v8 * v9).toNat) c98] 30, .ow kF a93 ((v8 * v9).toNat) c94 34 (mulL (v8 * v9) Z43 1073741824), .ow kF a95 ((v8 * v9).toNat) c96 34 (mulL (v8 * v9) Z47 1073741824), .ow kF a97 ((v8 * v9).toNat) c98 34 (mulL (v8 * v9) Z51 1073741824), .blk b84 [.slice a77 c41 c78, .slice a79 c45 c80, .slice a81 c49 c82] 30, .ow kF a77 c41 c78 34 ((rnT v8 v9 vb10 Z14 Z18 (Z43, Z47, Z51) (Int.toNat u70)).1), .ow kF a79 c45 c80 34 ((rnT v8 v9 vb10 Z14 Z18 (Z43, Z47, Z51) (Int.toNat u70)).2.1), .ow kF a81 c49 c82 34 ((rnT v8 v9 vb10 Z14 Z18 (Z43, Z47, Z51) (Int.toNat u70)).2.2), .blk b63 [.slice a40 c41 c42, .slice a44 c45 c46, .slice a48 c49 c50] 30, .ow kF a40 c41 c42 34 Z43, .ow kF a44 c45 c46 34 Z47, .ow kF a48 c49 c50 34 Z51, .blk b33 [.int .i64 v8, .int .i64 v9, .bool vb10, .slice a11 c12 c13, .slice a15 c16 c17] 26, .ow kF a11 c12 c13 34 Z14, .ow kF a15 c16 c17 34 Z18, .rd kY a0 n0 X0, .rd kY a1 n1 X1] := B.upd [0] rfl hU215
    clear hU215
    refine s_y (v := .bool true) rfl (y_assign rfl) ?_
    refine s_nil ?_
    refine W_seq ?_
    refine W_region (by kernel_rfl) ?_
    refine s_y (v := .agg #[.int .i64 v8, .int .i64 v9, .bool vb10, .slice a11 c12 c13, .slice a15 c16 c17]) rfl (y_loadn (b := b33) (o := 0) (vs := [.int .i64 v8, .int .i64 v9, .bool vb10, .slice a11 c12 c13, .slice a15 c16 c17]) T8.agg_26_5 rfl rfl ((B.b 40 rfl).cells (o := 0) rfl)) ?_
    refine s_y (v := .agg #[.slice a40 c41 c42, .slice a44 c45 c46, .slice a48 c49 c50]) rfl (y_loadn (b := b63) (o := 0) (vs := [.slice a40 c41 c42, .slice a44 c45 c46, .slice a48 c49 c50]) T8.agg_30_3 rfl rfl ((B.b 36 rfl).cells (o := 0) rfl)) ?_
    refine s_y (v := .agg #[.slice a40 c41 c42, .slice a44 c45 c46, .slice a48 c49 c50]) rfl (y_loadn (b := b63) (o := 0) (vs := [.slice a40 c41 c42, .slice a44 c45 c46, .slice a48 c49 c50]) T8.agg_30_3 rfl rfl ((B.b 36 rfl).cells (o := 0) rfl)) ?_
    refine s_k rfl (k_call T8.fn_49 (c_i_AddFields ((B.o 41 rfl).rd) ((B.o 42 rfl).rd) ((B.o 37 rfl).rd) ((B.o 38 rfl).rd) ((B.o 39 rfl).rd) ((B.o 37 rfl).rd) ((B.o 38 rfl).rd) ((B.o 39 rfl).rd) (by first | exact lenle (by assumption) | exact lenle6 (by assumption) | exact le256 (by assumption) | exact le2566 (by assumption) | omega) (by first | exact lenle (by assumption) | exact lenle6 (by assumption) | exact le256 (by assumption) | exact le2566 (by assumption) | omega) (by first | exact lenle (by assumption) | exact lenle6 (by assumption) | exact le256 (by assumption) | exact le2566 (by assumption) | omega) (by first | exact lenle (by assumption) | exact lenle6 (by assumption) | exact le256 (by assumption) | exact le2566 (by assumption) | omega) (by first | exact lenle (by assumption) | exact lenle6 (by assumption) | exact le256 (by assumption) | exact le2566 (by assumption) | omega) (by first | exact lenle (by assumption) | exact lenle6 (by assumption) | exact le256 (by assumption) | exact le2566 (by assumption) | omega) (by first | exact lenle (by assumption) | exact lenle6 (by assumption) | exact le256 (by assumption) | exact le2566 (by assumption) | omega) (by first | exact lenle (by assumption) | exact lenle6 (by assumption) | exact le256 (by assumption) | exact le2566 (by assumption) | omega)) rfl ?_)
    rintro v218 w216 hx217
    have hk219 : addB v8 v9 vb10 Z14 Z18 Z43 Z47 Z51 Z43 Z47 Z51 = true := (addD_ok hp52 hp53)
    obtain ⟨a220, c221, a222, c223, a224, c225, rfl, hN226⟩ := (hx217.resolve_right (fun hz => by rw [hk219] at hz; cases hz.1)).2
    clear hx217
    replace B := B.new3 hN226
    clear hN226
    refine s_y (v := .tuple #[.agg #[.slice a220 ((v8 * v9).toNat) c221, .slice a222 ((v8 * v9).toNat) c223, .slice a224 ((v8 * v9).toNat) c225], .bool true]) rfl (y_move rfl) ?_
    refine s_y (v := .agg #[.slice a220 ((v8 * v9).toNat) c221, .slice a222 ((v8 * v9).toNat) c223, .slice a224 ((v8 * v9).toNat) c225]) rfl (y_extract rfl rfl) ?_
    refine s_y (v := .bool true) rfl (y_extract rfl rfl) ?_
    refine s_k rfl (k_allocN (z := (.agg #[.slice none 0 0, .slice none 0 0, .slice none 0 0])) (cs := [.slice none 0 0, .slice none 0 0, .slice none 0 0]) T8.zero_30 rfl (fun b227 w228 hN229 => ?_))
    replace B := B.new1 hN229
    clear hN229
    refine s_k0 rfl (k_stB (v := .agg #[.slice a220 ((v8 * v9).toNat) c221, .slice a222 ((v8 * v9).toNat) c223, .slice a224 ((v8 * v9).toNat) c225]) (n := 3) (cs' := [.slice a220 ((v8 * v9).toNat) c221, .slice a222 ((v8 * v9).toNat) c223, .slice a224 ((v8 * v9).toNat) c225]) T8.sz_30_3 rfl rfl rfl (B.b 0 rfl) (by simp [Value.cells, Value.oneCell']) (Nat.le_of_ble_eq_true rfl) rfl (fun w230 hU231 => ?_))
    replace B : Bu w no w230 [.blk b227 [.slice a220 ((v8 * v9).toNat) c221, .slice a222 ((v8 * v9).toNat) c223, .slice a224 ((v8 * v9).toNat) c225] 30, .ow kF a220 ((v8 * v9).toNat) c221 34 (addL (v8 * v9) Z43 Z43), .ow kF a222 ((v8 * v9).toNat) c223 34 (addL (v8 * v9) Z47 Z47), .ow kF a224 ((v8 * v9).toNat) c225 34 (addL (v8 * v9) Z51 Z51), .blk b211 [.slice a204 (Int.toNat (v8 * v9)) c205, .slice a206 (Int.toNat (v8 * v9)) c207, .slice a208 (Int.toNat (v8 * v9)) c209] 30, .ow kF a204 (Int.toNat (v8 * v9)) c205 34 (List.replicate (Int.toNat (v8 * v9)) 0), .ow kF a206 (Int.toNat (v8 * v9)) c207 34 (List.replicate (Int.toNat (v8 * v9)) 0), .ow kF a208 (Int.toNat (v8 * v9)) c209 34 (List.replicate (Int.toNat (v8 * v9)) 0), .blk b196 [.slice a189 ((v8 * v9).toNat) c190, .slice a191 ((v8 * v9).toNat) c192, .slice a193 ((v8 * v9).toNat) c194] 30, .ow kF a189 ((v8 * v9).toNat) c190 34 (addL (v8 * v9) Z43 (mulL (v8 * v9) Z43 3212836864)), .ow kF a191 ((v8 * v9).toNat) c192 34 (addL (v8 * v9) Z47 (mulL (v8 * v9) Z47 3212836864)), .ow kF a193 ((v8 * v9).toNat) c194 34 (addL (v8 * v9) Z51 (mulL (v8 * v9) Z51 3212836864)), .blk b180 [.slice a173 ((v8 * v9).toNat) c174, .slice a175 ((v8 * v9).toNat) c176, .slice a177 ((v8 * v9).toNat) c178] 30, .ow kF a173 ((v8 * v9).toNat) c174 34 (mulL (v8 * v9) ((rnT v8 v9 vb10 Z14 Z18 (Z43, Z47, Z51) (Int.toNat u70)).1) 3212836864), .ow kF a175 ((v8 * v9).toNat) c176 34 (mulL (v8 * v9) ((rnT v8 v9 vb10 Z14 Z18 (Z43, Z47, Z51) (Int.toNat u70)).2.1) 3212836864), .ow kF a177 ((v8 * v9).toNat) c178 34 (mulL (v8 * v9) ((rnT v8 v9 vb10 Z14 Z18 (Z43, Z47, Z51) (Int.toNat u70)).2.2) 3212836864), .blk b164 [.slice a157 ((v8 * v9).toNat) c158, .slice a159 ((v8 * v9).toNat) c160, .slice a161 ((v8 * v9).toNat) c162] 30, .ow kF a157 ((v8 * v9).toNat) c158 34 ((rnT v8 v9 vb10 Z14 Z18 ((mulL (v8 * v9) Z43 3212836864), (mulL (v8 * v9) Z47 3212836864), (mulL (v8 * v9) Z51 3212836864)) (Int.toNat u70)).1), .ow kF a159 ((v8 * v9).toNat) c160 34 ((rnT v8 v9 vb10 Z14 Z18 ((mulL (v8 * v9) Z43 3212836864), (mulL (v8 * v9) Z47 3212836864), (mulL (v8 * v9) Z51 3212836864)) (Int.toNat u70)).2.1), .ow kF a161 ((v8 * v9).toNat) c162 34 ((rnT v8 v9 vb10 Z14 Z18 ((mulL (v8 * v9) Z43 3212836864), (mulL (v8 * v9) Z47 3212836864), (mulL (v8 * v9) Z51 3212836864)) (Int.toNat u70)).2.2), .blk b148 [.slice a141 ((v8 * v9).toNat) c142, .slice a143 ((v8 * v9).toNat) c144, .slice a145 ((v8 * v9).toNat) c146] 30, .ow kF a141 ((v8 * v9).toNat) c142 34 (mulL (v8 * v9) ((rnT v8 v9 vb10 Z14 Z18 (Z43, Z47, Z51) (Int.toNat u70)).1) 1073741824), .ow kF a143 ((v8 * v9).toNat) c144 34 (mulL (v8 * v9) ((rnT v8 v9 vb10 Z14 Z18 (Z43, Z47, Z51) (Int.toNat u70)).2.1) 1073741824), .ow kF a145 ((v8 * v9).toNat) c146 34 (mulL (v8 * v9) ((rnT v8 v9 vb10 Z14 Z18 (Z43, Z47, Z51) (Int.toNat u70)).2.2) 1073741824), .blk b132 [.slice a125 ((v8 * v9).toNat) c126, .slice a127 ((v8 * v9).toNat) c128, .slice a129 ((v8 * v9).toNat) c130] 30, .ow kF a125 ((v8 * v9).toNat) c126 34 ((rnT v8 v9 vb10 Z14 Z18 ((mulL (v8 * v9) Z43 1073741824), (mulL (v8 * v9) Z47 1073741824), (mulL (v8 * v9) Z51 1073741824)) (Int.toNat u70)).1), .ow kF a127 ((v8 * v9).toNat) c128 34 ((rnT v8 v9 vb10 Z14 Z18 ((mulL (v8 * v9) Z43 1073741824), (mulL (v8 * v9) Z47 1073741824), (mulL (v8 * v9) Z51 1073741824)) (Int.toNat u70)).2.1), .ow kF a129 ((v8 * v9).toNat) c130 34 ((rnT v8 v9 vb10 Z14 Z18 ((mulL (v8 * v9) Z43 1073741824), (mulL (v8 * v9) Z47 1073741824), (mulL (v8 * v9) Z51 1073741824)) (Int.toNat u70)).2.2), .blk b116 [.slice a109 ((v8 * v9).toNat) c110, .slice a111 ((v8 * v9).toNat) c112, .slice a113 ((v8 * v9).toNat) c114] 30, .ow kF a109 ((v8 * v9).toNat) c110 34 (mulL (v8 * v9) Z43 3212836864), .ow kF a111 ((v8 * v9).toNat) c112 34 (mulL (v8 * v9) Z47 3212836864), .ow kF a113 ((v8 * v9).toNat) c114 34 (mulL (v8 * v9) Z51 3212836864), .blk b100 [.slice a93 ((v8 * v9).toNat) c94, .slice a95 ((v8 * v9).toNat) c96, .slice a97 ((v8 * v9).toNat) c98] 30, .ow kF a93 ((v8 * v9).toNat) c94 34 (mulL (v8 * v9) Z43 1073741824), .ow kF a95 ((v8 * v9).toNat) c96 34 (mulL (v8 * v9) Z47 1073741824), .ow kF a97 ((v8 * v9).toNat) c98 34 (mulL (v8 * v9) Z51 1073741824), .blk b84 [.slice a77 c41 c78, .slice a79 c45 c80, .slice a81 c49 c82] 30, .ow kF a77 c41 c78 34 ((rnT v8 v9 vb10 Z14 Z18 (Z43, Z47, Z51) (Int.toNat u70)).1), .ow kF a79 c45 c80 34 ((rnT v8 v9 vb10 Z14 Z18 (Z43, Z47, Z51) (Int.toNat u70)).2.1), .ow kF a81 c49 c82 34 ((rnT v8 v9 vb10 Z14 Z18 (Z43, Z47, Z51) (Int.toNat u70)).2.2), .blk b63 [.slice a40 c41 c42, .slice a44 c45 c46, .slice a48 c49 c50] 30, .ow kF a40 c41 c42 34 Z43, .ow kF a44 c45 c46 34 Z47, .ow kF a48 c49 c50 34 Z51, .blk b33 [.int .i64 v8, .int .i64 v9, .bool vb10, .slice a11 c12 c13, .slice a15 c16 c17] 26, .ow kF a11 c12 c13 34 Z14, .ow kF a15 c16 c17 34 Z18, .rd kY a0 n0 X0, .rd kY a1 n1 X1] := B.upd [0] rfl hU231
    clear hU231
    refine s_y (v := .bool true) rfl (y_assign rfl) ?_
    refine s_nil ?_
    refine W_seq ?_
    refine W_region (by kernel_rfl) ?_
    refine s_y (v := .bool true) rfl (y_move rfl) ?_
    refine s_y (v := .bool true) rfl (y_move rfl) ?_
    refine s_y (v := .bool true) rfl (y_move rfl) ?_
    refine s_y (v := .bool true) rfl (y_pick_t rfl rfl) ?_
    refine s_y (v := .bool true) rfl (y_move rfl) ?_
    refine s_y (v := .bool true) rfl (y_move rfl) ?_
    refine s_y (v := .bool true) rfl (y_pick_t rfl rfl) ?_
    refine s_y (v := .bool true) rfl (y_move rfl) ?_
    refine s_y (v := .bool true) rfl (y_move rfl) ?_
    refine s_y (v := .bool true) rfl (y_pick_t rfl rfl) ?_
    refine s_y (v := .bool true) rfl (y_move rfl) ?_
    refine s_y (v := .bool true) rfl (y_move rfl) ?_
    refine s_y (v := .bool true) rfl (y_pick_t rfl rfl) ?_
    refine s_y (v := .bool true) rfl (y_move rfl) ?_
    refine s_y (v := .bool true) rfl (y_move rfl) ?_
    refine s_y (v := .bool true) rfl (y_pick_t rfl rfl) ?_
    refine s_y (v := .bool true) rfl (y_move rfl) ?_
    refine s_y (v := .bool true) rfl (y_move rfl) ?_
    refine s_y (v := .bool true) rfl (y_pick_t rfl rfl) ?_
    refine s_y (v := .bool true) rfl (y_move rfl) ?_
    refine s_y (v := .bool true) rfl (y_move rfl) ?_
    refine s_y (v := .bool true) rfl (y_pick_t rfl rfl) ?_
    refine s_y (v := .bool true) rfl (y_move rfl) ?_
    refine s_y (v := .bool true) rfl (y_move rfl) ?_
    refine s_y (v := .bool true) rfl (y_pick_t rfl rfl) ?_
    refine s_y (v := .bool true) rfl (y_move rfl) ?_
    refine s_y (v := .bool true) rfl (y_move rfl) ?_
    refine s_y (v := .bool true) rfl (y_pick_t rfl rfl) ?_
    refine s_y (v := .bool true) rfl (y_move rfl) ?_
    refine s_y (v := .agg #[.slice a125 ((v8 * v9).toNat) c126, .slice a127 ((v8 * v9).toNat) c128, .slice a129 ((v8 * v9).toNat) c130]) rfl (y_loadn (b := b132) (o := 0) (vs := [.slice a125 ((v8 * v9).toNat) c126, .slice a127 ((v8 * v9).toNat) c128, .slice a129 ((v8 * v9).toNat) c130]) T8.agg_30_3 rfl rfl ((B.b 24 rfl).cells (o := 0) rfl)) ?_
    refine s_y (v := .agg #[.slice a141 ((v8 * v9).toNat) c142, .slice a143 ((v8 * v9).toNat) c144, .slice a145 ((v8 * v9).toNat) c146]) rfl (y_loadn (b := b148) (o := 0) (vs := [.slice a141 ((v8 * v9).toNat) c142, .slice a143 ((v8 * v9).toNat) c144, .slice a145 ((v8 * v9).toNat) c146]) T8.agg_30_3 rfl rfl ((B.b 20 rfl).cells (o := 0) rfl)) ?_
    refine s_k rfl (k_call T8.fn_50 (c_l_r8Fields ((B.o 25 rfl).rd) ((B.o 26 rfl).rd) ((B.o 27 rfl).rd) ((B.o 21 rfl).rd) ((B.o 22 rfl).rd) ((B.o 23 rfl).rd) (by first | exact lenle (by assumption) | exact lenle6 (by assumption) | exact le256 (by assumption) | exact le2566 (by assumption) | omega) (by first | exact lenle (by assumption) | exact lenle6 (by assumption) | exact le256 (by assumption) | exact le2566 (by assumption) | omega) (by first | exact lenle (by assumption) | exact lenle6 (by assumption) | exact le256 (by assumption) | exact le2566 (by assumption) | omega) (by first | exact lenle (by assumption) | exact lenle6 (by assumption) | exact le256 (by assumption) | exact le2566 (by assumption) | omega) (by first | exact lenle (by assumption) | exact lenle6 (by assumption) | exact le256 (by assumption) | exact le2566 (by assumption) | omega) (by first | exact lenle (by assumption) | exact lenle6 (by assumption) | exact le256 (by assumption) | exact le2566 (by assumption) | omega)) rfl ?_)
    rintro v234 w232 ⟨hv235, e233⟩
    replace B := B.ext0 e233
    clear e233
    have hk236 : (eqL ((rnT v8 v9 vb10 Z14 Z18 ((mulL (v8 * v9) Z43 1073741824), (mulL (v8 * v9) Z47 1073741824), (mulL (v8 * v9) Z51 1073741824)) (Int.toNat u70)).1) (mulL (v8 * v9) ((rnT v8 v9 vb10 Z14 Z18 (Z43, Z47, Z51) (Int.toNat u70)).1) 1073741824) && eqL ((rnT v8 v9 vb10 Z14 Z18 ((mulL (v8 * v9) Z43 1073741824), (mulL (v8 * v9) Z47 1073741824), (mulL (v8 * v9) Z51 1073741824)) (Int.toNat u70)).2.1) (mulL (v8 * v9) ((rnT v8 v9 vb10 Z14 Z18 (Z43, Z47, Z51) (Int.toNat u70)).2.1) 1073741824) && eqL ((rnT v8 v9 vb10 Z14 Z18 ((mulL (v8 * v9) Z43 1073741824), (mulL (v8 * v9) Z47 1073741824), (mulL (v8 * v9) Z51 1073741824)) (Int.toNat u70)).2.2) (mulL (v8 * v9) ((rnT v8 v9 vb10 Z14 Z18 (Z43, Z47, Z51) (Int.toNat u70)).2.2) 1073741824)) = true := (eq_two hp22 hp52 hp53 (by omega))
    obtain rfl : v234 = .bool true := hv235.trans (congrArg Value.bool hk236)
    refine s_y (v := .bool true) rfl (y_pick_t rfl rfl) ?_
    refine s_y (v := .bool true) rfl (y_move rfl) ?_
    refine s_y (v := .agg #[.slice a157 ((v8 * v9).toNat) c158, .slice a159 ((v8 * v9).toNat) c160, .slice a161 ((v8 * v9).toNat) c162]) rfl (y_loadn (b := b164) (o := 0) (vs := [.slice a157 ((v8 * v9).toNat) c158, .slice a159 ((v8 * v9).toNat) c160, .slice a161 ((v8 * v9).toNat) c162]) T8.agg_30_3 rfl rfl ((B.b 16 rfl).cells (o := 0) rfl)) ?_
    refine s_y (v := .agg #[.slice a173 ((v8 * v9).toNat) c174, .slice a175 ((v8 * v9).toNat) c176, .slice a177 ((v8 * v9).toNat) c178]) rfl (y_loadn (b := b180) (o := 0) (vs := [.slice a173 ((v8 * v9).toNat) c174, .slice a175 ((v8 * v9).toNat) c176, .slice a177 ((v8 * v9).toNat) c178]) T8.agg_30_3 rfl rfl ((B.b 12 rfl).cells (o := 0) rfl)) ?_
    refine s_k rfl (k_call T8.fn_50 (c_l_r8Fields ((B.o 17 rfl).rd) ((B.o 18 rfl).rd) ((B.o 19 rfl).rd) ((B.o 13 rfl).rd) ((B.o 14 rfl).rd) ((B.o 15 rfl).rd) (by first | exact lenle (by assumption) | exact lenle6 (by assumption) | exact le256 (by assumption) | exact le2566 (by assumption) | omega) (by first | exact lenle (by assumption) | exact lenle6 (by assumption) | exact le256 (by assumption) | exact le2566 (by assumption) | omega) (by first | exact lenle (by assumption) | exact lenle6 (by assumption) | exact le256 (by assumption) | exact le2566 (by assumption) | omega) (by first | exact lenle (by assumption) | exact lenle6 (by assumption) | exact le256 (by assumption) | exact le2566 (by assumption) | omega) (by first | exact lenle (by assumption) | exact lenle6 (by assumption) | exact le256 (by assumption) | exact le2566 (by assumption) | omega) (by first | exact lenle (by assumption) | exact lenle6 (by assumption) | exact le256 (by assumption) | exact le2566 (by assumption) | omega)) rfl ?_)
    rintro v239 w237 ⟨hv240, e238⟩
    replace B := B.ext0 e238
    clear e238
    have hk241 : (eqL ((rnT v8 v9 vb10 Z14 Z18 ((mulL (v8 * v9) Z43 3212836864), (mulL (v8 * v9) Z47 3212836864), (mulL (v8 * v9) Z51 3212836864)) (Int.toNat u70)).1) (mulL (v8 * v9) ((rnT v8 v9 vb10 Z14 Z18 (Z43, Z47, Z51) (Int.toNat u70)).1) 3212836864) && eqL ((rnT v8 v9 vb10 Z14 Z18 ((mulL (v8 * v9) Z43 3212836864), (mulL (v8 * v9) Z47 3212836864), (mulL (v8 * v9) Z51 3212836864)) (Int.toNat u70)).2.1) (mulL (v8 * v9) ((rnT v8 v9 vb10 Z14 Z18 (Z43, Z47, Z51) (Int.toNat u70)).2.1) 3212836864) && eqL ((rnT v8 v9 vb10 Z14 Z18 ((mulL (v8 * v9) Z43 3212836864), (mulL (v8 * v9) Z47 3212836864), (mulL (v8 * v9) Z51 3212836864)) (Int.toNat u70)).2.2) (mulL (v8 * v9) ((rnT v8 v9 vb10 Z14 Z18 (Z43, Z47, Z51) (Int.toNat u70)).2.2) 3212836864)) = true := (eq_m1 hp22 hp52 hp53 (by omega))
    obtain rfl : v239 = .bool true := hv240.trans (congrArg Value.bool hk241)
    refine s_y (v := .bool true) rfl (y_pick_t rfl rfl) ?_
    refine s_y (v := .bool true) rfl (y_move rfl) ?_
    refine s_y (v := .agg #[.slice a189 ((v8 * v9).toNat) c190, .slice a191 ((v8 * v9).toNat) c192, .slice a193 ((v8 * v9).toNat) c194]) rfl (y_loadn (b := b196) (o := 0) (vs := [.slice a189 ((v8 * v9).toNat) c190, .slice a191 ((v8 * v9).toNat) c192, .slice a193 ((v8 * v9).toNat) c194]) T8.agg_30_3 rfl rfl ((B.b 8 rfl).cells (o := 0) rfl)) ?_
    refine s_y (v := .agg #[.slice a204 (Int.toNat (v8 * v9)) c205, .slice a206 (Int.toNat (v8 * v9)) c207, .slice a208 (Int.toNat (v8 * v9)) c209]) rfl (y_loadn (b := b211) (o := 0) (vs := [.slice a204 (Int.toNat (v8 * v9)) c205, .slice a206 (Int.toNat (v8 * v9)) c207, .slice a208 (Int.toNat (v8 * v9)) c209]) T8.agg_30_3 rfl rfl ((B.b 4 rfl).cells (o := 0) rfl)) ?_
    refine s_k rfl (k_call T8.fn_50 (c_l_r8Fields ((B.o 9 rfl).rd) ((B.o 10 rfl).rd) ((B.o 11 rfl).rd) ((B.o 5 rfl).rd) ((B.o 6 rfl).rd) ((B.o 7 rfl).rd) (by first | exact lenle (by assumption) | exact lenle6 (by assumption) | exact le256 (by assumption) | exact le2566 (by assumption) | omega) (by first | exact lenle (by assumption) | exact lenle6 (by assumption) | exact le256 (by assumption) | exact le2566 (by assumption) | omega) (by first | exact lenle (by assumption) | exact lenle6 (by assumption) | exact le256 (by assumption) | exact le2566 (by assumption) | omega) (by first | exact lenle (by assumption) | exact lenle6 (by assumption) | exact le256 (by assumption) | exact le2566 (by assumption) | omega) (by first | exact lenle (by assumption) | exact lenle6 (by assumption) | exact le256 (by assumption) | exact le2566 (by assumption) | omega) (by first | exact lenle (by assumption) | exact lenle6 (by assumption) | exact le256 (by assumption) | exact le2566 (by assumption) | omega)) rfl ?_)
    rintro v244 w242 ⟨hv245, e243⟩
    replace B := B.ext0 e243
    clear e243
    have hk246 : (eqL (addL (v8 * v9) Z43 (mulL (v8 * v9) Z43 3212836864)) (List.replicate (Int.toNat (v8 * v9)) 0) && eqL (addL (v8 * v9) Z47 (mulL (v8 * v9) Z47 3212836864)) (List.replicate (Int.toNat (v8 * v9)) 0) && eqL (addL (v8 * v9) Z51 (mulL (v8 * v9) Z51 3212836864)) (List.replicate (Int.toNat (v8 * v9)) 0)) = true := (eq_sum hp53 (tn_len (by assumption)))
    obtain rfl : v244 = .bool true := hv245.trans (congrArg Value.bool hk246)
    refine s_y (v := .bool true) rfl (y_pick_t rfl rfl) ?_
    refine s_y (v := .bool true) rfl (y_move rfl) ?_
    refine s_y (v := .agg #[.slice a220 ((v8 * v9).toNat) c221, .slice a222 ((v8 * v9).toNat) c223, .slice a224 ((v8 * v9).toNat) c225]) rfl (y_loadn (b := b227) (o := 0) (vs := [.slice a220 ((v8 * v9).toNat) c221, .slice a222 ((v8 * v9).toNat) c223, .slice a224 ((v8 * v9).toNat) c225]) T8.agg_30_3 rfl rfl ((B.b 0 rfl).cells (o := 0) rfl)) ?_
    refine s_y (v := .agg #[.slice a93 ((v8 * v9).toNat) c94, .slice a95 ((v8 * v9).toNat) c96, .slice a97 ((v8 * v9).toNat) c98]) rfl (y_loadn (b := b100) (o := 0) (vs := [.slice a93 ((v8 * v9).toNat) c94, .slice a95 ((v8 * v9).toNat) c96, .slice a97 ((v8 * v9).toNat) c98]) T8.agg_30_3 rfl rfl ((B.b 32 rfl).cells (o := 0) rfl)) ?_
    refine s_k rfl (k_call T8.fn_50 (c_l_r8Fields ((B.o 1 rfl).rd) ((B.o 2 rfl).rd) ((B.o 3 rfl).rd) ((B.o 33 rfl).rd) ((B.o 34 rfl).rd) ((B.o 35 rfl).rd) (by first | exact lenle (by assumption) | exact lenle6 (by assumption) | exact le256 (by assumption) | exact le2566 (by assumption) | omega) (by first | exact lenle (by assumption) | exact lenle6 (by assumption) | exact le256 (by assumption) | exact le2566 (by assumption) | omega) (by first | exact lenle (by assumption) | exact lenle6 (by assumption) | exact le256 (by assumption) | exact le2566 (by assumption) | omega) (by first | exact lenle (by assumption) | exact lenle6 (by assumption) | exact le256 (by assumption) | exact le2566 (by assumption) | omega) (by first | exact lenle (by assumption) | exact lenle6 (by assumption) | exact le256 (by assumption) | exact le2566 (by assumption) | omega) (by first | exact lenle (by assumption) | exact lenle6 (by assumption) | exact le256 (by assumption) | exact le2566 (by assumption) | omega)) rfl ?_)
    rintro v249 w247 ⟨hv250, e248⟩
    replace B := B.ext0 e248
    clear e248
    have hk251 : (eqL (addL (v8 * v9) Z43 Z43) (mulL (v8 * v9) Z43 1073741824) && eqL (addL (v8 * v9) Z47 Z47) (mulL (v8 * v9) Z47 1073741824) && eqL (addL (v8 * v9) Z51 Z51) (mulL (v8 * v9) Z51 1073741824)) = true := (eq_dbl hp53 (n0_of (by assumption)))
    obtain rfl : v249 = .bool true := hv250.trans (congrArg Value.bool hk251)
    refine s_y (v := .bool true) rfl (y_pick_t rfl rfl) ?_
    refine s_y (v := .bool true) rfl (y_assign rfl) ?_
    refine s_nil ?_
    refine W_ret ?_
    refine ret1 (v := .bool true) rfl rfl rfl ⟨_, rfl, ?_⟩
    exact ⟨rfl, B.ext⟩
end Go.Proofs.Ytgohmocjjmkepaa
