/- Walks: what the functions under FnMirrors do (part 4). Printed by a program of this claim's author. -/
import Derived.Test.YtgohmocjjmkepaaMirrorsW2
set_option linter.unusedSimpArgs false
set_option linter.unusedVariables false
open Go.Wv
namespace Go.Proofs.Ytgohmocjjmkepaa
open Go.Proofs
namespace T10
theorem mx : Try.prog.follows .mixedOrders = true := by kernel_rfl
theorem agg_26_5 : aggB Try.prog 26 5 = true := by kernel_rfl
theorem agg_30_3 : aggB Try.prog 30 3 = true := by kernel_rfl
theorem bool_4 : Try.prog.underlying 4 = some .bool := by kernel_rfl
theorem fld_26_0_0 : fldB Try.prog 26 0 0 = true := by kernel_rfl
theorem fld_26_1_1 : fldB Try.prog 26 1 1 = true := by kernel_rfl
theorem fld_26_2_2 : fldB Try.prog 26 2 2 = true := by kernel_rfl
theorem fn_22 : fnB Try.prog 22 = true := by kernel_rfl
theorem fn_24 : fnB Try.prog 24 = true := by kernel_rfl
theorem fn_31 : fnB Try.prog 31 = true := by kernel_rfl
theorem fn_41 : fnB Try.prog 41 = true := by kernel_rfl
theorem fn_42 : fnB Try.prog 42 = true := by kernel_rfl
theorem fn_47 : fnB Try.prog 47 = true := by kernel_rfl
theorem fn_51 : fnB Try.prog 51 = true := by kernel_rfl
theorem fn_52 : fnB Try.prog 52 = true := by kernel_rfl
theorem fn_53 : fnB Try.prog 53 = true := by kernel_rfl
theorem fn_54 : fnB Try.prog 54 = true := by kernel_rfl
theorem fn_55 : fnB Try.prog 55 = true := by kernel_rfl
theorem fn_56 : fnB Try.prog 56 = true := by kernel_rfl
theorem fn_57 : fnB Try.prog 57 = true := by kernel_rfl
theorem one_2 : oneB Try.prog 2 = true := by kernel_rfl
theorem one_4 : oneB Try.prog 4 = true := by kernel_rfl
theorem sz_26_5 : szB Try.prog 26 5 = true := by kernel_rfl
theorem sz_30_3 : szB Try.prog 30 3 = true := by kernel_rfl
theorem zero_26 : zeroB Try.prog 26 (.agg #[.int .i64 0, .int .i64 0, .bool false, .slice none 0 0, .slice none 0 0]) := by unfold zeroB; kernel_rfl
theorem zero_30 : zeroB Try.prog 30 (.agg #[.slice none 0 0, .slice none 0 0, .slice none 0 0]) := by unfold zeroB; kernel_rfl
end T10
set_option maxRecDepth 100000 in
set_option maxHeartbeats 20000000 in
theorem c_FnMirrors {a0 : Option Addr} {n0 : Nat} {c0 : Nat} {X0 : List Nat} {a1 : Option Addr} {n1 : Nat} {c1 : Nat} {X1 : List Nat} {w : World} (q0 : Rd w kY a0 n0 X0) (q1 : Rd w kY a1 n1 X1) (g0 : n0 ≤ 9223372036854775807) (g1 : n1 ≤ 9223372036854775807) :
    Calls Try.prog 10 #[.slice a0 n0 c0, .slice a1 n1 c1] w (Rt fun v w' => v = .bool true ∧ Ext0 w w') := by
  have hl0 := q0.len
  have hl1 := q1.len
  have B : Bu w no w [.rd kY a0 n0 X0, .rd kY a1 n1 X1] := Bu.ro (All.cons q0 (All.cons q1 All.nil)) rfl
  refine calls_W (n := 241) Try.func10 rfl rfl (Nat.le_of_ble_eq_true rfl) ?_
  refine W_seq ?_
  refine W_region (by kernel_rfl) ?_
  refine s_y (v := .bool false) rfl (y_assign rfl) ?_
  refine s_nil ?_
  refine W_seq ?_
  refine W_seq ?_
  refine W_region (by kernel_rfl) ?_
  refine s_y (v := .slice a0 n0 c0) rfl (y_move rfl) ?_
  refine s_y (v := .slice a1 n1 c1) rfl (y_move rfl) ?_
  refine s_k rfl (k_call T10.fn_22 (c_l_r8Long (B.r 0 rfl) (B.r 1 rfl) (by first | exact lenle (by assumption) | exact lenle6 (by assumption) | omega) (by first | exact lenle (by assumption) | exact lenle6 (by assumption) | omega)) rfl ?_)
  rintro v3 w1 ⟨hv4, e2⟩
  replace B := B.ext0 e2
  clear e2
  by_cases c5 : (decide (48 < (n0 : Int)) || decide (48 < (n1 : Int))) = true
  · obtain rfl : v3 = .bool true := hv4.trans (congrArg Value.bool c5)
    refine s_nil ?_
    refine W_if_t (by decide) rfl ?_
    refine W_seq ?_
    refine W_region (by kernel_rfl) ?_
    refine s_y (v := .bool true) rfl (y_assign rfl) ?_
    refine s_nil ?_
    refine W_ret ?_
    refine ret1 (v := .bool true) rfl rfl rfl ⟨_, rfl, ?_⟩
    exact ⟨rfl, B.ext⟩
  · obtain rfl : v3 = .bool false := hv4.trans (congrArg Value.bool (Bool.eq_false_iff.2 c5))
    refine s_nil ?_
    refine W_if_f (by decide) rfl ?_
    refine W_skip ?_
    refine W_seq ?_
    refine W_region (by kernel_rfl) ?_
    refine s_y (v := .slice a0 n0 c0) rfl (y_move rfl) ?_
    refine s_k rfl (k_call T10.fn_31 (c_s_R8Sheet (B.r 0 rfl)) rfl ?_)
    rintro _ w6 ⟨v8, v9, vb10, a11, c12, c13, Z14, a15, c16, c17, Z18, rfl, hp19, hp20, hp21, hN7⟩
    replace B := B.new2 hN7
    clear hN7
    have hl22 := (B.o 0 rfl).len
    have hl23 := (B.o 1 rfl).len
    obtain ⟨⟨⟨⟨hv24, hv25⟩, hv26, hv27⟩, hv28, hv29⟩, hv30, hv31⟩ := validS_b hp21
    refine s_k rfl (k_allocN (z := (.agg #[.int .i64 0, .int .i64 0, .bool false, .slice none 0 0, .slice none 0 0])) (cs := [.int .i64 0, .int .i64 0, .bool false, .slice none 0 0, .slice none 0 0]) T10.zero_26 rfl (fun b32 w33 hN34 => ?_))
    replace B := B.new1 hN34
    clear hN34
    refine s_k0 rfl (k_stB (v := .agg #[.int .i64 v8, .int .i64 v9, .bool vb10, .slice a11 c12 c13, .slice a15 c16 c17]) (n := 5) (cs' := [.int .i64 v8, .int .i64 v9, .bool vb10, .slice a11 c12 c13, .slice a15 c16 c17]) T10.sz_26_5 rfl rfl rfl (B.b 0 rfl) (by simp [Value.cells, Value.oneCell']) (Nat.le_of_ble_eq_true rfl) rfl (fun w35 hU36 => ?_))
    replace B : Bu w no w35 [.blk b32 [.int .i64 v8, .int .i64 v9, .bool vb10, .slice a11 c12 c13, .slice a15 c16 c17] 26, .ow kF a11 c12 c13 34 Z14, .ow kF a15 c16 c17 34 Z18, .rd kY a0 n0 X0, .rd kY a1 n1 X1] := B.upd [0] rfl hU36
    clear hU36
    refine s_nil ?_
    refine W_seq ?_
    refine W_region (by kernel_rfl) ?_
    refine s_y (v := .slice a1 n1 c1) rfl (y_move rfl) ?_
    refine s_y (v := .agg #[.int .i64 v8, .int .i64 v9, .bool vb10, .slice a11 c12 c13, .slice a15 c16 c17]) rfl (y_loadn (b := b32) (o := 0) (vs := [.int .i64 v8, .int .i64 v9, .bool vb10, .slice a11 c12 c13, .slice a15 c16 c17]) T10.agg_26_5 rfl rfl ((B.b 0 rfl).cells (o := 0) rfl)) ?_
    refine s_k rfl (k_call T10.fn_42 (c_s_R8Wild (B.r 4 rfl) ((B.o 1 rfl).rd) ((B.o 2 rfl).rd) (by first | assumption | omega) (by first | assumption | omega) (by first | assumption | omega) (by first | assumption | omega) (by omega) (by first | exact lenle (by assumption) | exact lenle6 (by assumption) | omega) (by first | exact lenle (by assumption) | exact lenle6 (by assumption) | omega)) rfl ?_)
    rintro _ w37 ⟨a39, c40, c41, Z42, a43, c44, c45, Z46, a47, c48, c49, Z50, rfl, hp51, hN38⟩
    replace B := B.new3 hN38
    clear hN38
    have hl52 := (B.o 0 rfl).len
    have hl53 := (B.o 1 rfl).len
    have hl54 := (B.o 2 rfl).len
    have hb55 := fieldB_b hp51
    refine s_k rfl (k_allocN (z := (.agg #[.slice none 0 0, .slice none 0 0, .slice none 0 0])) (cs := [.slice none 0 0, .slice none 0 0, .slice none 0 0]) T10.zero_30 rfl (fun b56 w57 hN58 => ?_))
    replace B := B.new1 hN58
    clear hN58
    refine s_k0 rfl (k_stB (v := .agg #[.slice a39 c40 c41, .slice a43 c44 c45, .slice a47 c48 c49]) (n := 3) (cs' := [.slice a39 c40 c41, .slice a43 c44 c45, .slice a47 c48 c49]) T10.sz_30_3 rfl rfl rfl (B.b 0 rfl) (by simp [Value.cells, Value.oneCell']) (Nat.le_of_ble_eq_true rfl) rfl (fun w59 hU60 => ?_))
    replace B : Bu w no w59 [.blk b56 [.slice a39 c40 c41, .slice a43 c44 c45, .slice a47 c48 c49] 30, .ow kF a39 c40 c41 34 Z42, .ow kF a43 c44 c45 34 Z46, .ow kF a47 c48 c49 34 Z50, .blk b32 [.int .i64 v8, .int .i64 v9, .bool vb10, .slice a11 c12 c13, .slice a15 c16 c17] 26, .ow kF a11 c12 c13 34 Z14, .ow kF a15 c16 c17 34 Z18, .rd kY a0 n0 X0, .rd kY a1 n1 X1] := B.upd [0] rfl hU60
    clear hU60
    refine s_nil ?_
    refine W_seq ?_
    refine W_region (by kernel_rfl) ?_
    refine s_y (v := .agg #[.int .i64 v8, .int .i64 v9, .bool vb10, .slice a11 c12 c13, .slice a15 c16 c17]) rfl (y_loadn (b := b32) (o := 0) (vs := [.int .i64 v8, .int .i64 v9, .bool vb10, .slice a11 c12 c13, .slice a15 c16 c17]) T10.agg_26_5 rfl rfl ((B.b 4 rfl).cells (o := 0) rfl)) ?_
    refine s_k rfl (k_call T10.fn_51 (c_i_MirrorSheet ((B.o 5 rfl).rd) ((B.o 6 rfl).rd) (by first | exact lenle (by assumption) | exact lenle6 (by assumption) | omega) (by first | exact lenle (by assumption) | exact lenle6 (by assumption) | omega)) rfl ?_)
    rintro v63 w61 hx62
    obtain ⟨a64, c65, a66, c67, rfl, hN68⟩ := (hx62.resolve_right (fun hz => by rw [hp21] at hz; cases hz.1)).2
    clear hx62
    replace B := B.new2 hN68
    clear hN68
    refine s_y (v := .tuple #[.agg #[.int .i64 v8, .int .i64 v9, .bool vb10, .slice a64 ((v8 * v9).toNat) c65, .slice a66 ((v8 * v9).toNat) c67], .bool true]) rfl (y_move rfl) ?_
    refine s_y (v := .agg #[.int .i64 v8, .int .i64 v9, .bool vb10, .slice a64 ((v8 * v9).toNat) c65, .slice a66 ((v8 * v9).toNat) c67]) rfl (y_extract rfl rfl) ?_
    refine s_y (v := .bool true) rfl (y_extract rfl rfl) ?_
    refine s_k rfl (k_allocN (z := (.agg #[.int .i64 0, .int .i64 0, .bool false, .slice none 0 0, .slice none 0 0])) (cs := [.int .i64 0, .int .i64 0, .bool false, .slice none 0 0, .slice none 0 0]) T10.zero_26 rfl (fun b69 w70 hN71 => ?_))
    replace B := B.new1 hN71
    clear hN71
    refine s_k0 rfl (k_stB (v := .agg #[.int .i64 v8, .int .i64 v9, .bool vb10, .slice a64 ((v8 * v9).toNat) c65, .slice a66 ((v8 * v9).toNat) c67]) (n := 5) (cs' := [.int .i64 v8, .int .i64 v9, .bool vb10, .slice a64 ((v8 * v9).toNat) c65, .slice a66 ((v8 * v9).toNat) c67]) T10.sz_26_5 rfl rfl rfl (B.b 0 rfl) (by simp [Value.cells, Value.oneCell']) (Nat.le_of_ble_eq_true rfl) rfl (fun w72 hU73 => ?_))
    replace B : Bu w no w72 [.blk b69 [.int .i64 v8, .int .i64 v9, .bool vb10, .slice a64 ((v8 * v9).toNat) c65, .slice a66 ((v8 * v9).toNat) c67] 26, .ow kF a64 ((v8 * v9).toNat) c65 34 (mirS v8 v9 Z14), .ow kF a66 ((v8 * v9).toNat) c67 34 (mirS v8 v9 Z18), .blk b56 [.slice a39 c40 c41, .slice a43 c44 c45, .slice a47 c48 c49] 30, .ow kF a39 c40 c41 34 Z42, .ow kF a43 c44 c45 34 Z46, .ow kF a47 c48 c49 34 Z50, .blk b32 [.int .i64 v8, .int .i64 v9, .bool vb10, .slice a11 c12 c13, .slice a15 c16 c17] 26, .ow kF a11 c12 c13 34 Z14, .ow kF a15 c16 c17 34 Z18, .rd kY a0 n0 X0, .rd kY a1 n1 X1] := B.upd [0] rfl hU73
    clear hU73
    refine s_y (v := .bool true) rfl (y_assign rfl) ?_
    refine s_nil ?_
    refine W_seq ?_
    refine W_region (by kernel_rfl) ?_
    refine s_y (v := .agg #[.int .i64 v8, .int .i64 v9, .bool vb10, .slice a64 ((v8 * v9).toNat) c65, .slice a66 ((v8 * v9).toNat) c67]) rfl (y_loadn (b := b69) (o := 0) (vs := [.int .i64 v8, .int .i64 v9, .bool vb10, .slice a64 ((v8 * v9).toNat) c65, .slice a66 ((v8 * v9).toNat) c67]) T10.agg_26_5 rfl rfl ((B.b 0 rfl).cells (o := 0) rfl)) ?_
    refine s_k rfl (k_call T10.fn_51 (c_i_MirrorSheet ((B.o 1 rfl).rd) ((B.o 2 rfl).rd) (by first | exact lenle (by assumption) | exact lenle6 (by assumption) | omega) (by first | exact lenle (by assumption) | exact lenle6 (by assumption) | omega)) rfl ?_)
    rintro v76 w74 hx75
    have hk77 : validS v8 v9 (mirS v8 v9 Z14) (mirS v8 v9 Z18) = true := (validS_mir hp21)
    have hb78 := validS_b hk77
    obtain ⟨a79, c80, a81, c82, rfl, hN83⟩ := (hx75.resolve_right (fun hz => by rw [hk77] at hz; cases hz.1)).2
    clear hx75
    replace B := B.new2 hN83
    clear hN83
    refine s_y (v := .tuple #[.agg #[.int .i64 v8, .int .i64 v9, .bool vb10, .slice a79 ((v8 * v9).toNat) c80, .slice a81 ((v8 * v9).toNat) c82], .bool true]) rfl (y_move rfl) ?_
    refine s_y (v := .agg #[.int .i64 v8, .int .i64 v9, .bool vb10, .slice a79 ((v8 * v9).toNat) c80, .slice a81 ((v8 * v9).toNat) c82]) rfl (y_extract rfl rfl) ?_
    refine s_y (v := .bool true) rfl (y_extract rfl rfl) ?_
    refine s_k rfl (k_allocN (z := (.agg #[.int .i64 0, .int .i64 0, .bool false, .slice none 0 0, .slice none 0 0])) (cs := [.int .i64 0, .int .i64 0, .bool false, .slice none 0 0, .slice none 0 0]) T10.zero_26 rfl (fun b84 w85 hN86 => ?_))
    replace B := B.new1 hN86
    clear hN86
    refine s_k0 rfl (k_stB (v := .agg #[.int .i64 v8, .int .i64 v9, .bool vb10, .slice a79 ((v8 * v9).toNat) c80, .slice a81 ((v8 * v9).toNat) c82]) (n := 5) (cs' := [.int .i64 v8, .int .i64 v9, .bool vb10, .slice a79 ((v8 * v9).toNat) c80, .slice a81 ((v8 * v9).toNat) c82]) T10.sz_26_5 rfl rfl rfl (B.b 0 rfl) (by simp [Value.cells, Value.oneCell']) (Nat.le_of_ble_eq_true rfl) rfl (fun w87 hU88 => ?_))
    replace B : Bu w no w87 [.blk b84 [.int .i64 v8, .int .i64 v9, .bool vb10, .slice a79 ((v8 * v9).toNat) c80, .slice a81 ((v8 * v9).toNat) c82] 26, .ow kF a79 ((v8 * v9).toNat) c80 34 (mirS v8 v9 (mirS v8 v9 Z14)), .ow kF a81 ((v8 * v9).toNat) c82 34 (mirS v8 v9 (mirS v8 v9 Z18)), .blk b69 [.int .i64 v8, .int .i64 v9, .bool vb10, .slice a64 ((v8 * v9).toNat) c65, .slice a66 ((v8 * v9).toNat) c67] 26, .ow kF a64 ((v8 * v9).toNat) c65 34 (mirS v8 v9 Z14), .ow kF a66 ((v8 * v9).toNat) c67 34 (mirS v8 v9 Z18), .blk b56 [.slice a39 c40 c41, .slice a43 c44 c45, .slice a47 c48 c49] 30, .ow kF a39 c40 c41 34 Z42, .ow kF a43 c44 c45 34 Z46, .ow kF a47 c48 c49 34 Z50, .blk b32 [.int .i64 v8, .int .i64 v9, .bool vb10, .slice a11 c12 c13, .slice a15 c16 c17] 26, .ow kF a11 c12 c13 34 Z14, .ow kF a15 c16 c17 34 Z18, .rd kY a0 n0 X0, .rd kY a1 n1 X1] := B.upd [0] rfl hU88
    clear hU88
    refine s_y (v := .bool true) rfl (y_assign rfl) ?_
    refine s_nil ?_
    refine W_seq ?_
    refine W_region (by kernel_rfl) ?_
    refine s_y (v := .agg #[.int .i64 v8, .int .i64 v9, .bool vb10, .slice a11 c12 c13, .slice a15 c16 c17]) rfl (y_loadn (b := b32) (o := 0) (vs := [.int .i64 v8, .int .i64 v9, .bool vb10, .slice a11 c12 c13, .slice a15 c16 c17]) T10.agg_26_5 rfl rfl ((B.b 10 rfl).cells (o := 0) rfl)) ?_
    refine s_y (v := .agg #[.slice a39 c40 c41, .slice a43 c44 c45, .slice a47 c48 c49]) rfl (y_loadn (b := b56) (o := 0) (vs := [.slice a39 c40 c41, .slice a43 c44 c45, .slice a47 c48 c49]) T10.agg_30_3 rfl rfl ((B.b 6 rfl).cells (o := 0) rfl)) ?_
    refine s_k rfl (k_call T10.fn_52 (c_i_MirrorField ((B.o 11 rfl).rd) ((B.o 12 rfl).rd) ((B.o 7 rfl).rd) ((B.o 8 rfl).rd) ((B.o 9 rfl).rd) (by first | exact lenle (by assumption) | exact lenle6 (by assumption) | omega) (by first | exact lenle (by assumption) | exact lenle6 (by assumption) | omega) (by first | exact lenle (by assumption) | exact lenle6 (by assumption) | omega) (by first | exact lenle (by assumption) | exact lenle6 (by assumption) | omega) (by first | exact lenle (by assumption) | exact lenle6 (by assumption) | omega)) rfl ?_)
    rintro v91 w89 hx90
    obtain ⟨a92, c93, a94, c95, a96, c97, rfl, hN98⟩ := (hx90.resolve_right (fun hz => by rw [hp51] at hz; cases hz.1)).2
    clear hx90
    replace B := B.new3 hN98
    clear hN98
    refine s_y (v := .tuple #[.agg #[.slice a92 ((v8 * v9).toNat) c93, .slice a94 ((v8 * v9).toNat) c95, .slice a96 ((v8 * v9).toNat) c97], .bool true]) rfl (y_move rfl) ?_
    refine s_y (v := .agg #[.slice a92 ((v8 * v9).toNat) c93, .slice a94 ((v8 * v9).toNat) c95, .slice a96 ((v8 * v9).toNat) c97]) rfl (y_extract rfl rfl) ?_
    refine s_y (v := .bool true) rfl (y_extract rfl rfl) ?_
    refine s_k rfl (k_allocN (z := (.agg #[.slice none 0 0, .slice none 0 0, .slice none 0 0])) (cs := [.slice none 0 0, .slice none 0 0, .slice none 0 0]) T10.zero_30 rfl (fun b99 w100 hN101 => ?_))
    replace B := B.new1 hN101
    clear hN101
    refine s_k0 rfl (k_stB (v := .agg #[.slice a92 ((v8 * v9).toNat) c93, .slice a94 ((v8 * v9).toNat) c95, .slice a96 ((v8 * v9).toNat) c97]) (n := 3) (cs' := [.slice a92 ((v8 * v9).toNat) c93, .slice a94 ((v8 * v9).toNat) c95, .slice a96 ((v8 * v9).toNat) c97]) T10.sz_30_3 rfl rfl rfl (B.b 0 rfl) (by simp [Value.cells, Value.oneCell']) (Nat.le_of_ble_eq_true rfl) rfl (fun w102 hU103 => ?_))
    replace B : Bu w no w102 [.blk b99 [.slice a92 ((v8 * v9).toNat) c93, .slice a94 ((v8 * v9).toNat) c95, .slice a96 ((v8 * v9).toNat) c97] 30, .ow kF a92 ((v8 * v9).toNat) c93 34 (mirS v8 v9 Z42), .ow kF a94 ((v8 * v9).toNat) c95 34 (mirS v8 v9 Z46), .ow kF a96 ((v8 * v9).toNat) c97 34 (mirY v8 v9 Z50), .blk b84 [.int .i64 v8, .int .i64 v9, .bool vb10, .slice a79 ((v8 * v9).toNat) c80, .slice a81 ((v8 * v9).toNat) c82] 26, .ow kF a79 ((v8 * v9).toNat) c80 34 (mirS v8 v9 (mirS v8 v9 Z14)), .ow kF a81 ((v8 * v9).toNat) c82 34 (mirS v8 v9 (mirS v8 v9 Z18)), .blk b69 [.int .i64 v8, .int .i64 v9, .bool vb10, .slice a64 ((v8 * v9).toNat) c65, .slice a66 ((v8 * v9).toNat) c67] 26, .ow kF a64 ((v8 * v9).toNat) c65 34 (mirS v8 v9 Z14), .ow kF a66 ((v8 * v9).toNat) c67 34 (mirS v8 v9 Z18), .blk b56 [.slice a39 c40 c41, .slice a43 c44 c45, .slice a47 c48 c49] 30, .ow kF a39 c40 c41 34 Z42, .ow kF a43 c44 c45 34 Z46, .ow kF a47 c48 c49 34 Z50, .blk b32 [.int .i64 v8, .int .i64 v9, .bool vb10, .slice a11 c12 c13, .slice a15 c16 c17] 26, .ow kF a11 c12 c13 34 Z14, .ow kF a15 c16 c17 34 Z18, .rd kY a0 n0 X0, .rd kY a1 n1 X1] := B.upd [0] rfl hU103
    clear hU103
    refine s_y (v := .bool true) rfl (y_assign rfl) ?_
    refine s_nil ?_
    refine W_seq ?_
    refine W_region (by kernel_rfl) ?_
    refine s_y (v := .agg #[.int .i64 v8, .int .i64 v9, .bool vb10, .slice a64 ((v8 * v9).toNat) c65, .slice a66 ((v8 * v9).toNat) c67]) rfl (y_loadn (b := b69) (o := 0) (vs := [.int .i64 v8, .int .i64 v9, .bool vb10, .slice a64 ((v8 * v9).toNat) c65, .slice a66 ((v8 * v9).toNat) c67]) T10.agg_26_5 rfl rfl ((B.b 7 rfl).cells (o := 0) rfl)) ?_
    refine s_y (v := .agg #[.slice a92 ((v8 * v9).toNat) c93, .slice a94 ((v8 * v9).toNat) c95, .slice a96 ((v8 * v9).toNat) c97]) rfl (y_loadn (b := b99) (o := 0) (vs := [.slice a92 ((v8 * v9).toNat) c93, .slice a94 ((v8 * v9).toNat) c95, .slice a96 ((v8 * v9).toNat) c97]) T10.agg_30_3 rfl rfl ((B.b 0 rfl).cells (o := 0) rfl)) ?_
    refine s_k rfl (k_call T10.fn_52 (c_i_MirrorField ((B.o 8 rfl).rd) ((B.o 9 rfl).rd) ((B.o 1 rfl).rd) ((B.o 2 rfl).rd) ((B.o 3 rfl).rd) (by first | exact lenle (by assumption) | exact lenle6 (by assumption) | omega) (by first | exact lenle (by assumption) | exact lenle6 (by assumption) | omega) (by first | exact lenle (by assumption) | exact lenle6 (by assumption) | omega) (by first | exact lenle (by assumption) | exact lenle6 (by assumption) | omega) (by first | exact lenle (by assumption) | exact lenle6 (by assumption) | omega)) rfl ?_)
    rintro v106 w104 hx105
    have hk107 : fieldB v8 v9 vb10 (mirS v8 v9 Z14) (mirS v8 v9 Z18) (mirS v8 v9 Z42) (mirS v8 v9 Z46) (mirY v8 v9 Z50) = true := (fieldB_mir hp51)
    have hb108 := fieldB_b hk107
    obtain ⟨a109, c110, a111, c112, a113, c114, rfl, hN115⟩ := (hx105.resolve_right (fun hz => by rw [hk107] at hz; cases hz.1)).2
    clear hx105
    replace B := B.new3 hN115
    clear hN115
    refine s_y (v := .tuple #[.agg #[.slice a109 ((v8 * v9).toNat) c110, .slice a111 ((v8 * v9).toNat) c112, .slice a113 ((v8 * v9).toNat) c114], .bool true]) rfl (y_move rfl) ?_
    refine s_y (v := .agg #[.slice a109 ((v8 * v9).toNat) c110, .slice a111 ((v8 * v9).toNat) c112, .slice a113 ((v8 * v9).toNat) c114]) rfl (y_extract rfl rfl) ?_
    refine s_y (v := .bool true) rfl (y_extract rfl rfl) ?_
    refine s_k rfl (k_allocN (z := (.agg #[.slice none 0 0, .slice none 0 0, .slice none 0 0])) (cs := [.slice none 0 0, .slice none 0 0, .slice none 0 0]) T10.zero_30 rfl (fun b116 w117 hN118 => ?_))
    replace B := B.new1 hN118
    clear hN118
    refine s_k0 rfl (k_stB (v := .agg #[.slice a109 ((v8 * v9).toNat) c110, .slice a111 ((v8 * v9).toNat) c112, .slice a113 ((v8 * v9).toNat) c114]) (n := 3) (cs' := [.slice a109 ((v8 * v9).toNat) c110, .slice a111 ((v8 * v9).toNat) c112, .slice a113 ((v8 * v9).toNat) c114]) T10.sz_30_3 rfl rfl rfl (B.b 0 rfl) (by simp [Value.cells, Value.oneCell']) (Nat.le_of_ble_eq_true rfl) rfl (fun w119 hU120 => ?_))
    replace B : Bu w no w119 [.blk b116 [.slice a109 ((v8 * v9).toNat) c110, .slice a111 ((v8 * v9).toNat) c112, .slice a113 ((v8 * v9).toNat) c114] 30, .ow kF a109 ((v8 * v9).toNat) c110 34 (mirS v8 v9 (mirS v8 v9 Z42)), .ow kF a111 ((v8 * v9).toNat) c112 34 (mirS v8 v9 (mirS v8 v9 Z46)), .ow kF a113 ((v8 * v9).toNat) c114 34 (mirY v8 v9 (mirY v8 v9 Z50)), .blk b99 [.slice a92 ((v8 * v9).toNat) c93, .slice a94 ((v8 * v9).toNat) c95, .slice a96 ((v8 * v9).toNat) c97] 30, .ow kF a92 ((v8 * v9).toNat) c93 34 (mirS v8 v9 Z42), .ow kF a94 ((v8 * v9).toNat) c95 34 (mirS v8 v9 Z46), .ow kF a96 ((v8 * v9).toNat) c97 34 (mirY v8 v9 Z50), .blk b84 [.int .i64 v8, .int .i64 v9, .bool vb10, .slice a79 ((v8 * v9).toNat) c80, .slice a81 ((v8 * v9).toNat) c82] 26, .ow kF a79 ((v8 * v9).toNat) c80 34 (mirS v8 v9 (mirS v8 v9 Z14)), .ow kF a81 ((v8 * v9).toNat) c82 34 (mirS v8 v9 (mirS v8 v9 Z18)), .blk b69 [.int .i64 v8, .int .i64 v9, .bool vb10, .slice a64 ((v8 * v9).toNat) c65, .slice a66 ((v8 * v9).toNat) c67] 26, .ow kF a64 ((v8 * v9).toNat) c65 34 (mirS v8 v9 Z14), .ow kF a66 ((v8 * v9).toNat) c67 34 (mirS v8 v9 Z18), .blk b56 [.slice a39 c40 c41, .slice a43 c44 c45, .slice a47 c48 c49] 30, .ow kF a39 c40 c41 34 Z42, .ow kF a43 c44 c45 34 Z46, .ow kF a47 c48 c49 34 Z50, .blk b32 [.int .i64 v8, .int .i64 v9, .bool vb10, .slice a11 c12 c13, .slice a15 c16 c17] 26, .ow kF a11 c12 c13 34 Z14, .ow kF a15 c16 c17 34 Z18, .rd kY a0 n0 X0, .rd kY a1 n1 X1] := B.upd [0] rfl hU120
    clear hU120
    refine s_y (v := .bool true) rfl (y_assign rfl) ?_
    refine s_nil ?_
    refine W_seq ?_
    refine W_region (by kernel_rfl) ?_
    refine s_y (v := .agg #[.int .i64 v8, .int .i64 v9, .bool vb10, .slice a11 c12 c13, .slice a15 c16 c17]) rfl (y_loadn (b := b32) (o := 0) (vs := [.int .i64 v8, .int .i64 v9, .bool vb10, .slice a11 c12 c13, .slice a15 c16 c17]) T10.agg_26_5 rfl rfl ((B.b 18 rfl).cells (o := 0) rfl)) ?_
    refine s_k rfl (k_call T10.fn_53 (c_i_SwapSheet ((B.o 19 rfl).rd) ((B.o 20 rfl).rd) (by first | exact lenle (by assumption) | exact lenle6 (by assumption) | omega) (by first | exact lenle (by assumption) | exact lenle6 (by assumption) | omega)) rfl ?_)
    rintro v123 w121 hx122
    obtain ⟨a124, c125, a126, c127, rfl, hN128⟩ := (hx122.resolve_right (fun hz => by rw [hp21] at hz; cases hz.1)).2
    clear hx122
    replace B := B.new2 hN128
    clear hN128
    refine s_y (v := .tuple #[.agg #[.int .i64 v9, .int .i64 v8, .bool vb10, .slice a124 ((v8 * v9).toNat) c125, .slice a126 ((v8 * v9).toNat) c127], .bool true]) rfl (y_move rfl) ?_
    refine s_y (v := .agg #[.int .i64 v9, .int .i64 v8, .bool vb10, .slice a124 ((v8 * v9).toNat) c125, .slice a126 ((v8 * v9).toNat) c127]) rfl (y_extract rfl rfl) ?_
    refine s_y (v := .bool true) rfl (y_extract rfl rfl) ?_
    refine s_k rfl (k_allocN (z := (.agg #[.int .i64 0, .int .i64 0, .bool false, .slice none 0 0, .slice none 0 0])) (cs := [.int .i64 0, .int .i64 0, .bool false, .slice none 0 0, .slice none 0 0]) T10.zero_26 rfl (fun b129 w130 hN131 => ?_))
    replace B := B.new1 hN131
    clear hN131
    refine s_k0 rfl (k_stB (v := .agg #[.int .i64 v9, .int .i64 v8, .bool vb10, .slice a124 ((v8 * v9).toNat) c125, .slice a126 ((v8 * v9).toNat) c127]) (n := 5) (cs' := [.int .i64 v9, .int .i64 v8, .bool vb10, .slice a124 ((v8 * v9).toNat) c125, .slice a126 ((v8 * v9).toNat) c127]) T10.sz_26_5 rfl rfl rfl (B.b 0 rfl) (by simp [Value.cells, Value.oneCell']) (Nat.le_of_ble_eq_true rfl) rfl (fun w132 hU133 => ?_))
    replace B : Bu w no w132 [.blk b129 [.int .i64 v9, .int .i64 v8, .bool vb10, .slice a124 ((v8 * v9).toNat) c125, .slice a126 ((v8 * v9).toNat) c127] 26, .ow kF a124 ((v8 * v9).toNat) c125 34 (swpS v8 v9 Z14), .ow kF a126 ((v8 * v9).toNat) c127 34 (swpS v8 v9 Z18), .blk b116 [.slice a109 ((v8 * v9).toNat) c110, .slice a111 ((v8 * v9).toNat) c112, .slice a113 ((v8 * v9).toNat) c114] 30, .ow kF a109 ((v8 * v9).toNat) c110 34 (mirS v8 v9 (mirS v8 v9 Z42)), .ow kF a111 ((v8 * v9).toNat) c112 34 (mirS v8 v9 (mirS v8 v9 Z46)), .ow kF a113 ((v8 * v9).toNat) c114 34 (mirY v8 v9 (mirY v8 v9 Z50)), .blk b99 [.slice a92 ((v8 * v9).toNat) c93, .slice a94 ((v8 * v9).toNat) c95, .slice a96 ((v8 * v9).toNat) c97] 30, .ow kF a92 ((v8 * v9).toNat) c93 34 (mirS v8 v9 Z42), .ow kF a94 ((v8 * v9).toNat) c95 34 (mirS v8 v9 Z46), .ow kF a96 ((v8 * v9).toNat) c97 34 (mirY v8 v9 Z50), .blk b84 [.int .i64 v8, .int .i64 v9, .bool vb10, .slice a79 ((v8 * v9).toNat) c80, .slice a81 ((v8 * v9).toNat) c82] 26, .ow kF a79 ((v8 * v9).toNat) c80 34 (mirS v8 v9 (mirS v8 v9 Z14)), .ow kF a81 ((v8 * v9).toNat) c82 34 (mirS v8 v9 (mirS v8 v9 Z18)), .blk b69 [.int .i64 v8, .int .i64 v9, .bool vb10, .slice a64 ((v8 * v9).toNat) c65, .slice a66 ((v8 * v9).toNat) c67] 26, .ow kF a64 ((v8 * v9).toNat) c65 34 (mirS v8 v9 Z14), .ow kF a66 ((v8 * v9).toNat) c67 34 (mirS v8 v9 Z18), .blk b56 [.slice a39 c40 c41, .slice a43 c44 c45, .slice a47 c48 c49] 30, .ow kF a39 c40 c41 34 Z42, .ow kF a43 c44 c45 34 Z46, .ow kF a47 c48 c49 34 Z50, .blk b32 [.int .i64 v8, .int .i64 v9, .bool vb10, .slice a11 c12 c13, .slice a15 c16 c17] 26, .ow kF a11 c12 c13 34 Z14, .ow kF a15 c16 c17 34 Z18, .rd kY a0 n0 X0, .rd kY a1 n1 X1] := B.upd [0] rfl hU133
    clear hU133
    refine s_y (v := .bool true) rfl (y_assign rfl) ?_
    refine s_nil ?_
    refine W_seq ?_
    refine W_region (by kernel_rfl) ?_
    refine s_y (v := .agg #[.int .i64 v9, .int .i64 v8, .bool vb10, .slice a124 ((v8 * v9).toNat) c125, .slice a126 ((v8 * v9).toNat) c127]) rfl (y_loadn (b := b129) (o := 0) (vs := [.int .i64 v9, .int .i64 v8, .bool vb10, .slice a124 ((v8 * v9).toNat) c125, .slice a126 ((v8 * v9).toNat) c127]) T10.agg_26_5 rfl rfl ((B.b 0 rfl).cells (o := 0) rfl)) ?_
    refine s_k rfl (k_call T10.fn_53 (c_i_SwapSheet ((B.o 1 rfl).rd) ((B.o 2 rfl).rd) (by first | exact lenle (by assumption) | exact lenle6 (by assumption) | omega) (by first | exact lenle (by assumption) | exact lenle6 (by assumption) | omega)) rfl ?_)
    rintro v136 w134 hx135
    have hk137 : validS v9 v8 (swpS v8 v9 Z14) (swpS v8 v9 Z18) = true := (validS_swp hp21)
    have hb138 := validS_b hk137
    obtain ⟨a139, c140, a141, c142, rfl, hN143⟩ := (hx135.resolve_right (fun hz => by rw [hk137] at hz; cases hz.1)).2
    clear hx135
    replace B := B.new2 hN143
    clear hN143
    refine s_y (v := .tuple #[.agg #[.int .i64 v8, .int .i64 v9, .bool vb10, .slice a139 ((v9 * v8).toNat) c140, .slice a141 ((v9 * v8).toNat) c142], .bool true]) rfl (y_move rfl) ?_
    refine s_y (v := .agg #[.int .i64 v8, .int .i64 v9, .bool vb10, .slice a139 ((v9 * v8).toNat) c140, .slice a141 ((v9 * v8).toNat) c142]) rfl (y_extract rfl rfl) ?_
    refine s_y (v := .bool true) rfl (y_extract rfl rfl) ?_
    refine s_k rfl (k_allocN (z := (.agg #[.int .i64 0, .int .i64 0, .bool false, .slice none 0 0, .slice none 0 0])) (cs := [.int .i64 0, .int .i64 0, .bool false, .slice none 0 0, .slice none 0 0]) T10.zero_26 rfl (fun b144 w145 hN146 => ?_))
    replace B := B.new1 hN146
    clear hN146
    refine s_k0 rfl (k_stB (v := .agg #[.int .i64 v8, .int .i64 v9, .bool vb10, .slice a139 ((v9 * v8).toNat) c140, .slice a141 ((v9 * v8).toNat) c142]) (n := 5) (cs' := [.int .i64 v8, .int .i64 v9, .bool vb10, .slice a139 ((v9 * v8).toNat) c140, .slice a141 ((v9 * v8).toNat) c142]) T10.sz_26_5 rfl rfl rfl (B.b 0 rfl) (by simp [Value.cells, Value.oneCell']) (Nat.le_of_ble_eq_true rfl) rfl (fun w147 hU148 => ?_))
    replace B : Bu w no w147 [.blk b144 [.int .i64 v8, .int .i64 v9, .bool vb10, .slice a139 ((v9 * v8).toNat) c140, .slice a141 ((v9 * v8).toNat) c142] 26, .ow kF a139 ((v9 * v8).toNat) c140 34 (swpS v9 v8 (swpS v8 v9 Z14)), .ow kF a141 ((v9 * v8).toNat) c142 34 (swpS v9 v8 (swpS v8 v9 Z18)), .blk b129 [.int .i64 v9, .int .i64 v8, .bool vb10, .slice a124 ((v8 * v9).toNat) c125, .slice a126 ((v8 * v9).toNat) c127] 26, .ow kF a124 ((v8 * v9).toNat) c125 34 (swpS v8 v9 Z14), .ow kF a126 ((v8 * v9).toNat) c127 34 (swpS v8 v9 Z18), .blk b116 [.slice a109 ((v8 * v9).toNat) c110, .slice a111 ((v8 * v9).toNat) c112, .slice a113 ((v8 * v9).toNat) c114] 30, .ow kF a109 ((v8 * v9).toNat) c110 34 (mirS v8 v9 (mirS v8 v9 Z42)), .ow kF a111 ((v8 * v9).toNat) c112 34 (mirS v8 v9 (mirS v8 v9 Z46)), .ow kF a113 ((v8 * v9).toNat) c114 34 (mirY v8 v9 (mirY v8 v9 Z50)), .blk b99 [.slice a92 ((v8 * v9).toNat) c93, .slice a94 ((v8 * v9).toNat) c95, .slice a96 ((v8 * v9).toNat) c97] 30, .ow kF a92 ((v8 * v9).toNat) c93 34 (mirS v8 v9 Z42), .ow kF a94 ((v8 * v9).toNat) c95 34 (mirS v8 v9 Z46), .ow kF a96 ((v8 * v9).toNat) c97 34 (mirY v8 v9 Z50), .blk b84 [.int .i64 v8, .int .i64 v9, .bool vb10, .slice a79 ((v8 * v9).toNat) c80, .slice a81 ((v8 * v9).toNat) c82] 26, .ow kF a79 ((v8 * v9).toNat) c80 34 (mirS v8 v9 (mirS v8 v9 Z14)), .ow kF a81 ((v8 * v9).toNat) c82 34 (mirS v8 v9 (mirS v8 v9 Z18)), .blk b69 [.int .i64 v8, .int .i64 v9, .bool vb10, .slice a64 ((v8 * v9).toNat) c65, .slice a66 ((v8 * v9).toNat) c67] 26, .ow kF a64 ((v8 * v9).toNat) c65 34 (mirS v8 v9 Z14), .ow kF a66 ((v8 * v9).toNat) c67 34 (mirS v8 v9 Z18), .blk b56 [.slice a39 c40 c41, .slice a43 c44 c45, .slice a47 c48 c49] 30, .ow kF a39 c40 c41 34 Z42, .ow kF a43 c44 c45 34 Z46, .ow kF a47 c48 c49 34 Z50, .blk b32 [.int .i64 v8, .int .i64 v9, .bool vb10, .slice a11 c12 c13, .slice a15 c16 c17] 26, .ow kF a11 c12 c13 34 Z14, .ow kF a15 c16 c17 34 Z18, .rd kY a0 n0 X0, .rd kY a1 n1 X1] := B.upd [0] rfl hU148
    clear hU148
    refine s_y (v := .bool true) rfl (y_assign rfl) ?_
    refine s_nil ?_
    refine W_seq ?_
    refine W_region (by kernel_rfl) ?_
    refine s_y (v := .agg #[.int .i64 v8, .int .i64 v9, .bool vb10, .slice a11 c12 c13, .slice a15 c16 c17]) rfl (y_loadn (b := b32) (o := 0) (vs := [.int .i64 v8, .int .i64 v9, .bool vb10, .slice a11 c12 c13, .slice a15 c16 c17]) T10.agg_26_5 rfl rfl ((B.b 24 rfl).cells (o := 0) rfl)) ?_
    refine s_y (v := .agg #[.slice a39 c40 c41, .slice a43 c44 c45, .slice a47 c48 c49]) rfl (y_loadn (b := b56) (o := 0) (vs := [.slice a39 c40 c41, .slice a43 c44 c45, .slice a47 c48 c49]) T10.agg_30_3 rfl rfl ((B.b 20 rfl).cells (o := 0) rfl)) ?_
    refine s_k rfl (k_call T10.fn_54 (c_i_SwapField ((B.o 25 rfl).rd) ((B.o 26 rfl).rd) ((B.o 21 rfl).rd) ((B.o 22 rfl).rd) ((B.o 23 rfl).rd) (by first | exact lenle (by assumption) | exact lenle6 (by assumption) | omega) (by first | exact lenle (by assumption) | exact lenle6 (by assumption) | omega) (by first | exact lenle (by assumption) | exact lenle6 (by assumption) | omega) (by first | exact lenle (by assumption) | exact lenle6 (by assumption) | omega) (by first | exact lenle (by assumption) | exact lenle6 (by assumption) | omega)) rfl ?_)
    rintro v151 w149 hx150
    obtain ⟨a152, c153, a154, c155, a156, c157, rfl, hN158⟩ := (hx150.resolve_right (fun hz => by rw [hp51] at hz; cases hz.1)).2
    clear hx150
    replace B := B.new3 hN158
    clear hN158
    refine s_y (v := .tuple #[.agg #[.slice a152 ((v8 * v9).toNat) c153, .slice a154 ((v8 * v9).toNat) c155, .slice a156 ((v8 * v9).toNat) c157], .bool true]) rfl (y_move rfl) ?_
    refine s_y (v := .agg #[.slice a152 ((v8 * v9).toNat) c153, .slice a154 ((v8 * v9).toNat) c155, .slice a156 ((v8 * v9).toNat) c157]) rfl (y_extract rfl rfl) ?_
    refine s_y (v := .bool true) rfl (y_extract rfl rfl) ?_
    refine s_k rfl (k_allocN (z := (.agg #[.slice none 0 0, .slice none 0 0, .slice none 0 0])) (cs := [.slice none 0 0, .slice none 0 0, .slice none 0 0]) T10.zero_30 rfl (fun b159 w160 hN161 => ?_))
    replace B := B.new1 hN161
    clear hN161
    refine s_k0 rfl (k_stB (v := .agg #[.slice a152 ((v8 * v9).toNat) c153, .slice a154 ((v8 * v9).toNat) c155, .slice a156 ((v8 * v9).toNat) c157]) (n := 3) (cs' := [.slice a152 ((v8 * v9).toNat) c153, .slice a154 ((v8 * v9).toNat) c155, .slice a156 ((v8 * v9).toNat) c157]) T10.sz_30_3 rfl rfl rfl (B.b 0 rfl) (by simp [Value.cells, Value.oneCell']) (Nat.le_of_ble_eq_true rfl) rfl (fun w162 hU163 => ?_))
    replace B : Bu w no w162 [.blk b159 [.slice a152 ((v8 * v9).toNat) c153, .slice a154 ((v8 * v9).toNat) c155, .slice a156 ((v8 * v9).toNat) c157] 30, .ow kF a152 ((v8 * v9).toNat) c153 34 (swpS v8 v9 Z42), .ow kF a154 ((v8 * v9).toNat) c155 34 (negL (v8 * v9) (swpS v8 v9 Z50)), .ow kF a156 ((v8 * v9).toNat) c157 34 (negL (v8 * v9) (swpS v8 v9 Z46)), .blk b144 [.int .i64 v8, .int .i64 v9, .bool vb10, .slice a139 ((v9 * v8).toNat) c140, .slice a141 ((v9 * v8).toNat) c142] 26, .ow kF a139 ((v9 * v8).toNat) c140 34 (swpS v9 v8 (swpS v8 v9 Z14)), .ow kF a141 ((v9 * v8).toNat) c142 34 (swpS v9 v8 (swpS v8 v9 Z18)), .blk b129 [.int .i64 v9, .int .i64 v8, .bool vb10, .slice a124 ((v8 * v9).toNat) c125, .slice a126 ((v8 * v9).toNat) c127] 26, .ow kF a124 ((v8 * v9).toNat) c125 34 (swpS v8 v9 Z14), .ow kF a126 ((v8 * v9).toNat) c127 34 (swpS v8 v9 Z18), .blk b116 [.slice a109 ((v8 * v9).toNat) c110, .slice a111 ((v8 * v9).toNat) c112, .slice a113 ((v8 * v9).toNat) c114] 30, .ow kF a109 ((v8 * v9).toNat) c110 34 (mirS v8 v9 (mirS v8 v9 Z42)), .ow kF a111 ((v8 * v9).toNat) c112 34 (mirS v8 v9 (mirS v8 v9 Z46)), .ow kF a113 ((v8 * v9).toNat) c114 34 (mirY v8 v9 (mirY v8 v9 Z50)), .blk b99 [.slice a92 ((v8 * v9).toNat) c93, .slice a94 ((v8 * v9).toNat) c95, .slice a96 ((v8 * v9).toNat) c97] 30, .ow kF a92 ((v8 * v9).toNat) c93 34 (mirS v8 v9 Z42), .ow kF a94 ((v8 * v9).toNat) c95 34 (mirS v8 v9 Z46), .ow kF a96 ((v8 * v9).toNat) c97 34 (mirY v8 v9 Z50), .blk b84 [.int .i64 v8, .int .i64 v9, .bool vb10, .slice a79 ((v8 * v9).toNat) c80, .slice a81 ((v8 * v9).toNat) c82] 26, .ow kF a79 ((v8 * v9).toNat) c80 34 (mirS v8 v9 (mirS v8 v9 Z14)), .ow kF a81 ((v8 * v9).toNat) c82 34 (mirS v8 v9 (mirS v8 v9 Z18)), .blk b69 [.int .i64 v8, .int .i64 v9, .bool vb10, .slice a64 ((v8 * v9).toNat) c65, .slice a66 ((v8 * v9).toNat) c67] 26, .ow kF a64 ((v8 * v9).toNat) c65 34 (mirS v8 v9 Z14), .ow kF a66 ((v8 * v9).toNat) c67 34 (mirS v8 v9 Z18), .blk b56 [.slice a39 c40 c41, .slice a43 c44 c45, .slice a47 c48 c49] 30, .ow kF a39 c40 c41 34 Z42, .ow kF a43 c44 c45 34 Z46, .ow kF a47 c48 c49 34 Z50, .blk b32 [.int .i64 v8, .int .i64 v9, .bool vb10, .slice a11 c12 c13, .slice a15 c16 c17] 26, .ow kF a11 c12 c13 34 Z14, .ow kF a15 c16 c17 34 Z18, .rd kY a0 n0 X0, .rd kY a1 n1 X1] := B.upd [0] rfl hU163
    clear hU163
    refine s_y (v := .bool true) rfl (y_assign rfl) ?_
    refine s_nil ?_
    refine W_seq ?_
    refine W_region (by kernel_rfl) ?_
    refine s_y (v := .agg #[.int .i64 v9, .int .i64 v8, .bool vb10, .slice a124 ((v8 * v9).toNat) c125, .slice a126 ((v8 * v9).toNat) c127]) rfl (y_loadn (b := b129) (o := 0) (vs := [.int .i64 v9, .int .i64 v8, .bool vb10, .slice a124 ((v8 * v9).toNat) c125, .slice a126 ((v8 * v9).toNat) c127]) T10.agg_26_5 rfl rfl ((B.b 7 rfl).cells (o := 0) rfl)) ?_
    refine s_y (v := .agg #[.slice a152 ((v8 * v9).toNat) c153, .slice a154 ((v8 * v9).toNat) c155, .slice a156 ((v8 * v9).toNat) c157]) rfl (y_loadn (b := b159) (o := 0) (vs := [.slice a152 ((v8 * v9).toNat) c153, .slice a154 ((v8 * v9).toNat) c155, .slice a156 ((v8 * v9).toNat) c157]) T10.agg_30_3 rfl rfl ((B.b 0 rfl).cells (o := 0) rfl)) ?_
    refine s_k rfl (k_call T10.fn_54 (c_i_SwapField ((B.o 8 rfl).rd) ((B.o 9 rfl).rd) ((B.o 1 rfl).rd) ((B.o 2 rfl).rd) ((B.o 3 rfl).rd) (by first | exact lenle (by assumption) | exact lenle6 (by assumption) | omega) (by first | exact lenle (by assumption) | exact lenle6 (by assumption) | omega) (by first | exact lenle (by assumption) | exact lenle6 (by assumption) | omega) (by first | exact lenle (by assumption) | exact lenle6 (by assumption) | omega) (by first | exact lenle (by assumption) | exact lenle6 (by assumption) | omega)) rfl ?_)
    rintro v166 w164 hx165
    have hk167 : fieldB v9 v8 vb10 (swpS v8 v9 Z14) (swpS v8 v9 Z18) (swpS v8 v9 Z42) (negL (v8 * v9) (swpS v8 v9 Z50)) (negL (v8 * v9) (swpS v8 v9 Z46)) = true := (fieldB_swp hp51)
    have hb168 := fieldB_b hk167
    obtain ⟨a169, c170, a171, c172, a173, c174, rfl, hN175⟩ := (hx165.resolve_right (fun hz => by rw [hk167] at hz; cases hz.1)).2
    clear hx165
    replace B := B.new3 hN175
    clear hN175
    refine s_y (v := .tuple #[.agg #[.slice a169 ((v9 * v8).toNat) c170, .slice a171 ((v9 * v8).toNat) c172, .slice a173 ((v9 * v8).toNat) c174], .bool true]) rfl (y_move rfl) ?_
    refine s_y (v := .agg #[.slice a169 ((v9 * v8).toNat) c170, .slice a171 ((v9 * v8).toNat) c172, .slice a173 ((v9 * v8).toNat) c174]) rfl (y_extract rfl rfl) ?_
    refine s_y (v := .bool true) rfl (y_extract rfl rfl) ?_
    refine s_k rfl (k_allocN (z := (.agg #[.slice none 0 0, .slice none 0 0, .slice none 0 0])) (cs := [.slice none 0 0, .slice none 0 0, .slice none 0 0]) T10.zero_30 rfl (fun b176 w177 hN178 => ?_))
    replace B := B.new1 hN178
    clear hN178
    refine s_k0 rfl (k_stB (v := .agg #[.slice a169 ((v9 * v8).toNat) c170, .slice a171 ((v9 * v8).toNat) c172, .slice a173 ((v9 * v8).toNat) c174]) (n := 3) (cs' := [.slice a169 ((v9 * v8).toNat) c170, .slice a171 ((v9 * v8).toNat) c172, .slice a173 ((v9 * v8).toNat) c174]) T10.sz_30_3 rfl rfl rfl (B.b 0 rfl) (by simp [Value.cells, Value.oneCell']) (Nat.le_of_ble_eq_true rfl) rfl (fun w179 hU180 => ?_))
    replace B : Bu w no w179 [.blk b176 [.slice a169 ((v9 * v8).toNat) c170, .slice a171 ((v9 * v8).toNat) c172, .slice a173 ((v9 * v8).toNat) c174] 30, .ow kF a169 ((v9 * v8).toNat) c170 34 (swpS v9 v8 (swpS v8 v9 Z42)), .ow kF a171 ((v9 * v8).toNat) c172 34 (negL (v9 * v8) (swpS v9 v8 (negL (v8 * v9) (swpS v8 v9 Z46)))), .ow kF a173 ((v9 * v8).toNat) c174 34 (negL (v9 * v8) (swpS v9 v8 (negL (v8 * v9) (swpS v8 v9 Z50)))), .blk b159 [.slice a152 ((v8 * v9).toNat) c153, .slice a154 ((v8 * v9).toNat) c155, .slice a156 ((v8 * v9).toNat) c157] 30, .ow kF a152 ((v8 * v9).toNat) c153 34 (swpS v8 v9 Z42), .ow kF a154 ((v8 * v9).toNat) c155 34 (negL (v8 * v9) (swpS v8 v9 Z50)), .ow kF a156 ((v8 * v9).toNat) c157 34 (negL (v8 * v9) (swpS v8 v9 Z46)), .blk b144 [.int .i64 v8, .int .i64 v9, .bool vb10, .slice a139 ((v9 * v8).toNat) c140, .slice a141 ((v9 * v8).toNat) c142] 26, .ow kF a139 ((v9 * v8).toNat) c140 34 (swpS v9 v8 (swpS v8 v9 Z14)), .ow kF a141 ((v9 * v8).toNat) c142 34 (swpS v9 v8 (swpS v8 v9 Z18)), .blk b129 [.int .i64 v9, .int .i64 v8, .bool vb10, .slice a124 ((v8 * v9).toNat) c125, .slice a126 ((v8 * v9).toNat) c127] 26, .ow kF a124 ((v8 * v9).toNat) c125 34 (swpS v8 v9 Z14), .ow kF a126 ((v8 * v9).toNat) c127 34 (swpS v8 v9 Z18), .blk b116 [.slice a109 ((v8 * v9).toNat) c110, .slice a111 ((v8 * v9).toNat) c112, .slice a113 ((v8 * v9).toNat) c114] 30, .ow kF a109 ((v8 * v9).toNat) c110 34 (mirS v8 v9 (mirS v8 v9 Z42)), .ow kF a111 ((v8 * v9).toNat) c112 34 (mirS v8 v9 (mirS v8 v9 Z46)), .ow kF a113 ((v8 * v9).toNat) c114 34 (mirY v8 v9 (mirY v8 v9 Z50)), .blk b99 [.slice a92 ((v8 * v9).toNat) c93, .slice a94 ((v8 * v9).toNat) c95, .slice a96 ((v8 * v9).toNat) c97] 30, .ow kF a92 ((v8 * v9).toNat) c93 34 (mirS v8 v9 Z42), .ow kF a94 ((v8 * v9).toNat) c95 34 (mirS v8 v9 Z46), .ow kF a96 ((v8 * v9).toNat) c97 34 (mirY v8 v9 Z50), .blk b84 [.int .i64 v8, .int .i64 v9, .bool vb10, .slice a79 ((v8 * v9).toNat) c80, .slice a81 ((v8 * v9).toNat) c82] 26, .ow kF a79 ((v8 * v9).toNat) c80 34 (mirS v8 v9 (mirS v8 v9 Z14)), .ow kF a81 ((v8 * v9).toNat) c82 34 (mirS v8 v9 (mirS v8 v9 Z18)), .blk b69 [.int .i64 v8, .int .i64 v9, .bool vb10, .slice a64 ((v8 * v9).toNat) c65, .slice a66 ((v8 * v9).toNat) c67] 26, .ow kF a64 ((v8 * v9).toNat) c65 34 (mirS v8 v9 Z14), .ow kF a66 ((v8 * v9).toNat) c67 34 (mirS v8 v9 Z18), .blk b56 [.slice a39 c40 c41, .slice a43 c44 c45, .slice a47 c48 c49] 30, .ow kF a39 c40 c41 34 Z42, .ow kF a43 c44 c45 34 Z46, .ow kF a47 c48 c49 34 Z50, .blk b32 [.int .i64 v8, .int .i64 v9, .bool vb10, .slice a11 c12 c13, .slice a15 c16 c17] 26, .ow kF a11 c12 c13 34 Z14, .ow kF a15 c16 c17 34 Z18, .rd kY a0 n0 X0, .rd kY a1 n1 X1] := B.upd [0] rfl hU180
    clear hU180
    refine s_y (v := .bool true) rfl (y_assign rfl) ?_
    refine s_nil ?_
    refine W_seq ?_
    refine W_seq ?_
    refine W_region (by kernel_rfl) ?_
    refine s_y (v := .bool true) rfl (y_move rfl) ?_
    refine s_y (v := .bool false) rfl (y_not rfl rfl) ?_
    refine s_y (v := .bool false) rfl (y_move rfl) ?_
    refine s_y (v := .bool true) rfl (y_move rfl) ?_
    refine s_y (v := .bool false) rfl (y_not rfl rfl) ?_
    refine s_y (v := .bool false) rfl (y_pick_f rfl rfl) ?_
    refine s_y (v := .bool false) rfl (y_move rfl) ?_
    refine s_y (v := .bool true) rfl (y_move rfl) ?_
    refine s_y (v := .bool false) rfl (y_not rfl rfl) ?_
    refine s_y (v := .bool false) rfl (y_pick_f rfl rfl) ?_
    refine s_y (v := .bool false) rfl (y_move rfl) ?_
    refine s_y (v := .bool true) rfl (y_move rfl) ?_
    refine s_y (v := .bool false) rfl (y_not rfl rfl) ?_
    refine s_y (v := .bool false) rfl (y_pick_f rfl rfl) ?_
    refine s_y (v := .bool false) rfl (y_move rfl) ?_
    refine s_y (v := .bool true) rfl (y_move rfl) ?_
    refine s_y (v := .bool false) rfl (y_not rfl rfl) ?_
    refine s_y (v := .bool false) rfl (y_pick_f rfl rfl) ?_
    refine s_y (v := .bool false) rfl (y_move rfl) ?_
    refine s_y (v := .bool true) rfl (y_move rfl) ?_
    refine s_y (v := .bool false) rfl (y_not rfl rfl) ?_
    refine s_y (v := .bool false) rfl (y_pick_f rfl rfl) ?_
    refine s_y (v := .bool false) rfl (y_move rfl) ?_
    refine s_y (v := .bool true) rfl (y_move rfl) ?_
    refine s_y (v := .bool false) rfl (y_not rfl rfl) ?_
    refine s_y (v := .bool false) rfl (y_pick_f rfl rfl) ?_
    refine s_y (v := .bool false) rfl (y_move rfl) ?_
    refine s_y (v := .bool true) rfl (y_move rfl) ?_
    refine s_y (v := .bool false) rfl (y_not rfl rfl) ?_
    refine s_y (v := .bool false) rfl (y_pick_f rfl rfl) ?_
    refine s_y (v := .bool false) rfl (y_move rfl) ?_
    refine s_y (v := .agg #[.int .i64 v8, .int .i64 v9, .bool vb10, .slice a79 ((v8 * v9).toNat) c80, .slice a81 ((v8 * v9).toNat) c82]) rfl (y_loadn (b := b84) (o := 0) (vs := [.int .i64 v8, .int .i64 v9, .bool vb10, .slice a79 ((v8 * v9).toNat) c80, .slice a81 ((v8 * v9).toNat) c82]) T10.agg_26_5 rfl rfl ((B.b 22 rfl).cells (o := 0) rfl)) ?_
    refine s_y (v := .agg #[.int .i64 v8, .int .i64 v9, .bool vb10, .slice a11 c12 c13, .slice a15 c16 c17]) rfl (y_loadn (b := b32) (o := 0) (vs := [.int .i64 v8, .int .i64 v9, .bool vb10, .slice a11 c12 c13, .slice a15 c16 c17]) T10.agg_26_5 rfl rfl ((B.b 32 rfl).cells (o := 0) rfl)) ?_
    refine s_k rfl (k_call T10.fn_57 (c_i_SameSheet ((B.o 23 rfl).rd) ((B.o 24 rfl).rd) ((B.o 33 rfl).rd) ((B.o 34 rfl).rd) (by first | exact lenle (by assumption) | exact lenle6 (by assumption) | omega) (by first | exact lenle (by assumption) | exact lenle6 (by assumption) | omega) (by first | exact lenle (by assumption) | exact lenle6 (by assumption) | omega) (by first | exact lenle (by assumption) | exact lenle6 (by assumption) | omega)) rfl ?_)
    rintro v183 w181 ⟨hv184, e182⟩
    replace B := B.ext0 e182
    clear e182
    have hk185 : (decide (v8 = v8) && decide (v9 = v9) && (vb10 == vb10) && sameL (mirS v8 v9 (mirS v8 v9 Z14)) Z14 && sameL (mirS v8 v9 (mirS v8 v9 Z18)) Z18) = true := (sh_mir hp21)
    obtain rfl : v183 = .bool true := hv184.trans (congrArg Value.bool hk185)
    refine s_y (v := .bool false) rfl (y_not rfl rfl) ?_
    refine s_y (v := .bool false) rfl (y_pick_f rfl rfl) ?_
    refine s_y (v := .bool false) rfl (y_move rfl) ?_
    refine s_y (v := .agg #[.slice a109 ((v8 * v9).toNat) c110, .slice a111 ((v8 * v9).toNat) c112, .slice a113 ((v8 * v9).toNat) c114]) rfl (y_loadn (b := b116) (o := 0) (vs := [.slice a109 ((v8 * v9).toNat) c110, .slice a111 ((v8 * v9).toNat) c112, .slice a113 ((v8 * v9).toNat) c114]) T10.agg_30_3 rfl rfl ((B.b 14 rfl).cells (o := 0) rfl)) ?_
    refine s_y (v := .agg #[.slice a39 c40 c41, .slice a43 c44 c45, .slice a47 c48 c49]) rfl (y_loadn (b := b56) (o := 0) (vs := [.slice a39 c40 c41, .slice a43 c44 c45, .slice a47 c48 c49]) T10.agg_30_3 rfl rfl ((B.b 28 rfl).cells (o := 0) rfl)) ?_
    refine s_k rfl (k_call T10.fn_47 (c_i_SameField ((B.o 15 rfl).rd) ((B.o 16 rfl).rd) ((B.o 17 rfl).rd) ((B.o 29 rfl).rd) ((B.o 30 rfl).rd) ((B.o 31 rfl).rd) (by first | exact lenle (by assumption) | exact lenle6 (by assumption) | omega) (by first | exact lenle (by assumption) | exact lenle6 (by assumption) | omega) (by first | exact lenle (by assumption) | exact lenle6 (by assumption) | omega) (by first | exact lenle (by assumption) | exact lenle6 (by assumption) | omega) (by first | exact lenle (by assumption) | exact lenle6 (by assumption) | omega) (by first | exact lenle (by assumption) | exact lenle6 (by assumption) | omega)) rfl ?_)
    rintro v188 w186 ⟨hv189, e187⟩
    replace B := B.ext0 e187
    clear e187
    have hcn190 := (B.o 29 rfl).rd.can
    have hcn191 := (B.o 30 rfl).rd.can
    have hcn192 := (B.o 31 rfl).rd.can
    have hcn193 := (B.o 33 rfl).rd.can
    have hcn194 := (B.o 34 rfl).rd.can
    have hk195 : (sameL (mirS v8 v9 (mirS v8 v9 Z42)) Z42 && sameL (mirS v8 v9 (mirS v8 v9 Z46)) Z46 && sameL (mirY v8 v9 (mirY v8 v9 Z50)) Z50) = true := (fd_mir hp51 hcn192)
    obtain rfl : v188 = .bool true := hv189.trans (congrArg Value.bool hk195)
    refine s_y (v := .bool false) rfl (y_not rfl rfl) ?_
    refine s_y (v := .bool false) rfl (y_pick_f rfl rfl) ?_
    refine s_y (v := .bool false) rfl (y_move rfl) ?_
    refine s_y (v := .agg #[.int .i64 v8, .int .i64 v9, .bool vb10, .slice a139 ((v9 * v8).toNat) c140, .slice a141 ((v9 * v8).toNat) c142]) rfl (y_loadn (b := b144) (o := 0) (vs := [.int .i64 v8, .int .i64 v9, .bool vb10, .slice a139 ((v9 * v8).toNat) c140, .slice a141 ((v9 * v8).toNat) c142]) T10.agg_26_5 rfl rfl ((B.b 8 rfl).cells (o := 0) rfl)) ?_
    refine s_y (v := .agg #[.int .i64 v8, .int .i64 v9, .bool vb10, .slice a11 c12 c13, .slice a15 c16 c17]) rfl (y_loadn (b := b32) (o := 0) (vs := [.int .i64 v8, .int .i64 v9, .bool vb10, .slice a11 c12 c13, .slice a15 c16 c17]) T10.agg_26_5 rfl rfl ((B.b 32 rfl).cells (o := 0) rfl)) ?_
    refine s_k rfl (k_call T10.fn_57 (c_i_SameSheet ((B.o 9 rfl).rd) ((B.o 10 rfl).rd) ((B.o 33 rfl).rd) ((B.o 34 rfl).rd) (by first | exact lenle (by assumption) | exact lenle6 (by assumption) | omega) (by first | exact lenle (by assumption) | exact lenle6 (by assumption) | omega) (by first | exact lenle (by assumption) | exact lenle6 (by assumption) | omega) (by first | exact lenle (by assumption) | exact lenle6 (by assumption) | omega)) rfl ?_)
    rintro v198 w196 ⟨hv199, e197⟩
    replace B := B.ext0 e197
    clear e197
    have hk200 : (decide (v8 = v8) && decide (v9 = v9) && (vb10 == vb10) && sameL (swpS v9 v8 (swpS v8 v9 Z14)) Z14 && sameL (swpS v9 v8 (swpS v8 v9 Z18)) Z18) = true := (sh_swp hp21)
    obtain rfl : v198 = .bool true := hv199.trans (congrArg Value.bool hk200)
    refine s_y (v := .bool false) rfl (y_not rfl rfl) ?_
    refine s_y (v := .bool false) rfl (y_pick_f rfl rfl) ?_
    refine s_y (v := .bool false) rfl (y_move rfl) ?_
    refine s_y (v := .agg #[.slice a169 ((v9 * v8).toNat) c170, .slice a171 ((v9 * v8).toNat) c172, .slice a173 ((v9 * v8).toNat) c174]) rfl (y_loadn (b := b176) (o := 0) (vs := [.slice a169 ((v9 * v8).toNat) c170, .slice a171 ((v9 * v8).toNat) c172, .slice a173 ((v9 * v8).toNat) c174]) T10.agg_30_3 rfl rfl ((B.b 0 rfl).cells (o := 0) rfl)) ?_
    refine s_y (v := .agg #[.slice a39 c40 c41, .slice a43 c44 c45, .slice a47 c48 c49]) rfl (y_loadn (b := b56) (o := 0) (vs := [.slice a39 c40 c41, .slice a43 c44 c45, .slice a47 c48 c49]) T10.agg_30_3 rfl rfl ((B.b 28 rfl).cells (o := 0) rfl)) ?_
    refine s_k rfl (k_call T10.fn_47 (c_i_SameField ((B.o 1 rfl).rd) ((B.o 2 rfl).rd) ((B.o 3 rfl).rd) ((B.o 29 rfl).rd) ((B.o 30 rfl).rd) ((B.o 31 rfl).rd) (by first | exact lenle (by assumption) | exact lenle6 (by assumption) | omega) (by first | exact lenle (by assumption) | exact lenle6 (by assumption) | omega) (by first | exact lenle (by assumption) | exact lenle6 (by assumption) | omega) (by first | exact lenle (by assumption) | exact lenle6 (by assumption) | omega) (by first | exact lenle (by assumption) | exact lenle6 (by assumption) | omega) (by first | exact lenle (by assumption) | exact lenle6 (by assumption) | omega)) rfl ?_)
    rintro v203 w201 ⟨hv204, e202⟩
    replace B := B.ext0 e202
    clear e202
    have hk205 : (sameL (swpS v9 v8 (swpS v8 v9 Z42)) Z42 && sameL (negL (v9 * v8) (swpS v9 v8 (negL (v8 * v9) (swpS v8 v9 Z46)))) Z46 && sameL (negL (v9 * v8) (swpS v9 v8 (negL (v8 * v9) (swpS v8 v9 Z50)))) Z50) = true := (fd_swp hp51 hcn191 hcn192)
    obtain rfl : v203 = .bool true := hv204.trans (congrArg Value.bool hk205)
    refine s_y (v := .bool false) rfl (y_not rfl rfl) ?_
    refine s_y (v := .bool false) rfl (y_pick_f rfl rfl) ?_
    refine s_y (v := .bool false) rfl (y_move rfl) ?_
    refine s_y (v := .agg #[.int .i64 v8, .int .i64 v9, .bool vb10, .slice a64 ((v8 * v9).toNat) c65, .slice a66 ((v8 * v9).toNat) c67]) rfl (y_loadn (b := b69) (o := 0) (vs := [.int .i64 v8, .int .i64 v9, .bool vb10, .slice a64 ((v8 * v9).toNat) c65, .slice a66 ((v8 * v9).toNat) c67]) T10.agg_26_5 rfl rfl ((B.b 25 rfl).cells (o := 0) rfl)) ?_
    refine s_y (v := .agg #[.slice a92 ((v8 * v9).toNat) c93, .slice a94 ((v8 * v9).toNat) c95, .slice a96 ((v8 * v9).toNat) c97]) rfl (y_loadn (b := b99) (o := 0) (vs := [.slice a92 ((v8 * v9).toNat) c93, .slice a94 ((v8 * v9).toNat) c95, .slice a96 ((v8 * v9).toNat) c97]) T10.agg_30_3 rfl rfl ((B.b 18 rfl).cells (o := 0) rfl)) ?_
    refine s_k rfl (k_call T10.fn_41 (c_i_IsField ((B.o 26 rfl).rd) ((B.o 27 rfl).rd) ((B.o 19 rfl).rd) ((B.o 20 rfl).rd) ((B.o 21 rfl).rd) (by first | exact lenle (by assumption) | exact lenle6 (by assumption) | omega) (by first | exact lenle (by assumption) | exact lenle6 (by assumption) | omega) (by first | exact lenle (by assumption) | exact lenle6 (by assumption) | omega) (by first | exact lenle (by assumption) | exact lenle6 (by assumption) | omega) (by first | exact lenle (by assumption) | exact lenle6 (by assumption) | omega)) rfl ?_)
    rintro v208 w206 ⟨hv209, e207⟩
    replace B := B.ext0 e207
    clear e207
    obtain rfl : v208 = .bool true := hv209.trans (congrArg Value.bool hk107)
    refine s_y (v := .bool false) rfl (y_not rfl rfl) ?_
    refine s_y (v := .bool false) rfl (y_pick_f rfl rfl) ?_
    refine s_y (v := .bool false) rfl (y_move rfl) ?_
    refine s_y (v := .agg #[.int .i64 v9, .int .i64 v8, .bool vb10, .slice a124 ((v8 * v9).toNat) c125, .slice a126 ((v8 * v9).toNat) c127]) rfl (y_loadn (b := b129) (o := 0) (vs := [.int .i64 v9, .int .i64 v8, .bool vb10, .slice a124 ((v8 * v9).toNat) c125, .slice a126 ((v8 * v9).toNat) c127]) T10.agg_26_5 rfl rfl ((B.b 11 rfl).cells (o := 0) rfl)) ?_
    refine s_y (v := .agg #[.slice a152 ((v8 * v9).toNat) c153, .slice a154 ((v8 * v9).toNat) c155, .slice a156 ((v8 * v9).toNat) c157]) rfl (y_loadn (b := b159) (o := 0) (vs := [.slice a152 ((v8 * v9).toNat) c153, .slice a154 ((v8 * v9).toNat) c155, .slice a156 ((v8 * v9).toNat) c157]) T10.agg_30_3 rfl rfl ((B.b 4 rfl).cells (o := 0) rfl)) ?_
    refine s_k rfl (k_call T10.fn_41 (c_i_IsField ((B.o 12 rfl).rd) ((B.o 13 rfl).rd) ((B.o 5 rfl).rd) ((B.o 6 rfl).rd) ((B.o 7 rfl).rd) (by first | exact lenle (by assumption) | exact lenle6 (by assumption) | omega) (by first | exact lenle (by assumption) | exact lenle6 (by assumption) | omega) (by first | exact lenle (by assumption) | exact lenle6 (by assumption) | omega) (by first | exact lenle (by assumption) | exact lenle6 (by assumption) | omega) (by first | exact lenle (by assumption) | exact lenle6 (by assumption) | omega)) rfl ?_)
    rintro v212 w210 ⟨hv213, e211⟩
    replace B := B.ext0 e211
    clear e211
    obtain rfl : v212 = .bool true := hv213.trans (congrArg Value.bool hk167)
    refine s_y (v := .bool false) rfl (y_not rfl rfl) ?_
    refine s_y (v := .bool false) rfl (y_pick_f rfl rfl) ?_
    refine s_y (v := .bool false) rfl (y_move rfl) ?_
    refine s_y (v := .pointer (some ⟨b129, 0, none⟩)) rfl (y_fld (o := 0) T10.fld_26_0_0 rfl) ?_
    refine s_y (v := .int .i64 v9) rfl (y_load T10.one_2 rfl ((B.b 11 rfl).cell (j := 0) rfl)) ?_
    refine s_y (v := .pointer (some ⟨b32, 1, none⟩)) rfl (y_fld (o := 0) T10.fld_26_1_1 rfl) ?_
    refine s_y (v := .int .i64 v9) rfl (y_load T10.one_2 rfl ((B.b 32 rfl).cell (j := 1) rfl)) ?_
    refine s_y (v := .bool false) rfl (y_neq rfl rfl (decide_eq_false (fun hq => hq rfl))) ?_
    refine s_y (v := .bool false) rfl (y_pick_f rfl rfl) ?_
    refine s_nil ?_
    refine W_if_f (by decide) rfl ?_
    refine W_skip ?_
    refine W_seq ?_
    refine W_region (by kernel_rfl) ?_
    refine s_y (v := .slice a1 n1 c1) rfl (y_move rfl) ?_
    refine s_k rfl (k_call T10.fn_24 (c_l_r8At (B.r 36 rfl) (by omega) (by omega) (by first | exact lenle (by assumption) | exact lenle6 (by assumption) | omega)) rfl ?_)
    rintro _ w214 ⟨v216, rfl, hp217, e215⟩
    replace B := B.ext0 e215
    clear e215
    have hb218 := r8A_b X1 40 (show 1 ≤ 9 by omega)
    rw [← hp217] at hb218
    refine s_y (v := .int .i64 (v216 - 4)) rfl (y_sub rfl rfl rfl (by omega)) ?_
    refine s_y (v := .int .i64 (v216 - 4)) rfl (y_assign rfl) ?_
    refine s_nil ?_
    refine W_seq ?_
    refine W_region (by kernel_rfl) ?_
    refine s_y (v := .slice a1 n1 c1) rfl (y_move rfl) ?_
    refine s_k rfl (k_call T10.fn_24 (c_l_r8At (B.r 36 rfl) (by omega) (by omega) (by first | exact lenle (by assumption) | exact lenle6 (by assumption) | omega)) rfl ?_)
    rintro _ w219 ⟨v221, rfl, hp222, e220⟩
    replace B := B.ext0 e220
    clear e220
    have hb223 := r8A_b X1 41 (show 1 ≤ 9 by omega)
    rw [← hp222] at hb223
    refine s_y (v := .int .i64 (v221 - 4)) rfl (y_sub rfl rfl rfl (by omega)) ?_
    refine s_y (v := .int .i64 (v221 - 4)) rfl (y_assign rfl) ?_
    refine s_nil ?_
    refine W_seq ?_
    refine W_region (by kernel_rfl) ?_
    refine s_y (v := .agg #[.int .i64 v8, .int .i64 v9, .bool vb10, .slice a11 c12 c13, .slice a15 c16 c17]) rfl (y_loadn (b := b32) (o := 0) (vs := [.int .i64 v8, .int .i64 v9, .bool vb10, .slice a11 c12 c13, .slice a15 c16 c17]) T10.agg_26_5 rfl rfl ((B.b 32 rfl).cells (o := 0) rfl)) ?_
    refine s_y (v := .int .i64 (v216 - 4)) rfl (y_move rfl) ?_
    refine s_y (v := .int .i64 (v221 - 4)) rfl (y_move rfl) ?_
    cases vb10
    · refine s_k rfl (k_call T10.fn_55 (c_i_ShiftSheet ((B.o 33 rfl).rd) ((B.o 34 rfl).rd) (by first | exact lenle (by assumption) | exact lenle6 (by assumption) | omega) (by first | exact lenle (by assumption) | exact lenle6 (by assumption) | omega)) rfl ?_)
      rintro v226 w224 hx225
      have hk227 : ¬ (shB v8 v9 false Z14 Z18 (v216 - 4) (v221 - 4) = true) := (by rw [shB_no rfl]; simp)
      obtain ⟨_, rfl, e228⟩ := hx225.resolve_left (fun hz => hk227 hz.1)
      clear hx225
      replace B := B.ext0 e228
      clear e228
      refine s_y (v := .tuple #[.agg #[.int .i64 0, .int .i64 0, .bool false, .slice none 0 0, .slice none 0 0], .bool false]) rfl (y_move rfl) ?_
      refine s_y (v := .agg #[.int .i64 0, .int .i64 0, .bool false, .slice none 0 0, .slice none 0 0]) rfl (y_extract rfl rfl) ?_
      refine s_y (v := .bool false) rfl (y_extract rfl rfl) ?_
      refine s_k rfl (k_allocN (z := (.agg #[.int .i64 0, .int .i64 0, .bool false, .slice none 0 0, .slice none 0 0])) (cs := [.int .i64 0, .int .i64 0, .bool false, .slice none 0 0, .slice none 0 0]) T10.zero_26 rfl (fun b229 w230 hN231 => ?_))
      replace B := B.new1 hN231
      clear hN231
      refine s_k0 rfl (k_stB (v := .agg #[.int .i64 0, .int .i64 0, .bool false, .slice none 0 0, .slice none 0 0]) (n := 5) (cs' := [.int .i64 0, .int .i64 0, .bool false, .slice none 0 0, .slice none 0 0]) T10.sz_26_5 rfl rfl rfl (B.b 0 rfl) (by simp [Value.cells, Value.oneCell']) (Nat.le_of_ble_eq_true rfl) rfl (fun w232 hU233 => ?_))
      replace B : Bu w no w232 [.blk b229 [.int .i64 0, .int .i64 0, .bool false, .slice none 0 0, .slice none 0 0] 26, .blk b176 [.slice a169 ((v9 * v8).toNat) c170, .slice a171 ((v9 * v8).toNat) c172, .slice a173 ((v9 * v8).toNat) c174] 30, .ow kF a169 ((v9 * v8).toNat) c170 34 (swpS v9 v8 (swpS v8 v9 Z42)), .ow kF a171 ((v9 * v8).toNat) c172 34 (negL (v9 * v8) (swpS v9 v8 (negL (v8 * v9) (swpS v8 v9 Z46)))), .ow kF a173 ((v9 * v8).toNat) c174 34 (negL (v9 * v8) (swpS v9 v8 (negL (v8 * v9) (swpS v8 v9 Z50)))), .blk b159 [.slice a152 ((v8 * v9).toNat) c153, .slice a154 ((v8 * v9).toNat) c155, .slice a156 ((v8 * v9).toNat) c157] 30, .ow kF a152 ((v8 * v9).toNat) c153 34 (swpS v8 v9 Z42), .ow kF a154 ((v8 * v9).toNat) c155 34 (negL (v8 * v9) (swpS v8 v9 Z50)), .ow kF a156 ((v8 * v9).toNat) c157 34 (negL (v8 * v9) (swpS v8 v9 Z46)), .blk b144 [.int .i64 v8, .int .i64 v9, .bool false, .slice a139 ((v9 * v8).toNat) c140, .slice a141 ((v9 * v8).toNat) c142] 26, .ow kF a139 ((v9 * v8).toNat) c140 34 (swpS v9 v8 (swpS v8 v9 Z14)), .ow kF a141 ((v9 * v8).toNat) c142 34 (swpS v9 v8 (swpS v8 v9 Z18)), .blk b129 [.int .i64 v9, .int .i64 v8, .bool false, .slice a124 ((v8 * v9).toNat) c125, .slice a126 ((v8 * v9).toNat) c127] 26, .ow kF a124 ((v8 * v9).toNat) c125 34 (swpS v8 v9 Z14), .ow kF a126 ((v8 * v9).toNat) c127 34 (swpS v8 v9 Z18), .blk b116 [.slice a109 ((v8 * v9).toNat) c110, .slice a111 ((v8 * v9).toNat) c112, .slice a113 ((v8 * v9).toNat) c114] 30, .ow kF a109 ((v8 * v9).toNat) c110 34 (mirS v8 v9 (mirS v8 v9 Z42)), .ow kF a111 ((v8 * v9).toNat) c112 34 (mirS v8 v9 (mirS v8 v9 Z46)), .ow kF a113 ((v8 * v9).toNat) c114 34 (mirY v8 v9 (mirY v8 v9 Z50)), .blk b99 [.slice a92 ((v8 * v9).toNat) c93, .slice a94 ((v8 * v9).toNat) c95, .slice a96 ((v8 * v9).toNat) c97] 30, .ow kF a92 ((v8 * v9).toNat) c93 34 (mirS v8 v9 Z42), .ow kF a94 ((v8 * v9).toNat) c95 34 (mirS v8 v9 Z46), .ow kF a96 ((v8 * v9).toNat) c97 34 (mirY v8 v9 Z50), .blk b84 [.int .i64 v8, .int .i64 v9, .bool false, .slice a79 ((v8 * v9).toNat) c80, .slice a81 ((v8 * v9).toNat) c82] 26, .ow kF a79 ((v8 * v9).toNat) c80 34 (mirS v8 v9 (mirS v8 v9 Z14)), .ow kF a81 ((v8 * v9).toNat) c82 34 (mirS v8 v9 (mirS v8 v9 Z18)), .blk b69 [.int .i64 v8, .int .i64 v9, .bool false, .slice a64 ((v8 * v9).toNat) c65, .slice a66 ((v8 * v9).toNat) c67] 26, .ow kF a64 ((v8 * v9).toNat) c65 34 (mirS v8 v9 Z14), .ow kF a66 ((v8 * v9).toNat) c67 34 (mirS v8 v9 Z18), .blk b56 [.slice a39 c40 c41, .slice a43 c44 c45, .slice a47 c48 c49] 30, .ow kF a39 c40 c41 34 Z42, .ow kF a43 c44 c45 34 Z46, .ow kF a47 c48 c49 34 Z50, .blk b32 [.int .i64 v8, .int .i64 v9, .bool false, .slice a11 c12 c13, .slice a15 c16 c17] 26, .ow kF a11 c12 c13 34 Z14, .ow kF a15 c16 c17 34 Z18, .rd kY a0 n0 X0, .rd kY a1 n1 X1] := B.upd [0] rfl hU233
      clear hU233
      refine s_y (v := .bool false) rfl (y_assign rfl) ?_
      refine s_nil ?_
      refine W_seq ?_
      refine W_region (by kernel_rfl) ?_
      refine s_y (v := .agg #[.int .i64 v8, .int .i64 v9, .bool false, .slice a11 c12 c13, .slice a15 c16 c17]) rfl (y_loadn (b := b32) (o := 0) (vs := [.int .i64 v8, .int .i64 v9, .bool false, .slice a11 c12 c13, .slice a15 c16 c17]) T10.agg_26_5 rfl rfl ((B.b 33 rfl).cells (o := 0) rfl)) ?_
      refine s_y (v := .agg #[.slice a39 c40 c41, .slice a43 c44 c45, .slice a47 c48 c49]) rfl (y_loadn (b := b56) (o := 0) (vs := [.slice a39 c40 c41, .slice a43 c44 c45, .slice a47 c48 c49]) T10.agg_30_3 rfl rfl ((B.b 29 rfl).cells (o := 0) rfl)) ?_
      refine s_y (v := .int .i64 (v216 - 4)) rfl (y_move rfl) ?_
      refine s_y (v := .int .i64 (v221 - 4)) rfl (y_move rfl) ?_
      refine s_k rfl (k_call T10.fn_56 (c_i_ShiftField ((B.o 34 rfl).rd) ((B.o 35 rfl).rd) ((B.o 30 rfl).rd) ((B.o 31 rfl).rd) ((B.o 32 rfl).rd) (by first | exact lenle (by assumption) | exact lenle6 (by assumption) | omega) (by first | exact lenle (by assumption) | exact lenle6 (by assumption) | omega) (by first | exact lenle (by assumption) | exact lenle6 (by assumption) | omega) (by first | exact lenle (by assumption) | exact lenle6 (by assumption) | omega) (by first | exact lenle (by assumption) | exact lenle6 (by assumption) | omega)) rfl ?_)
      rintro v236 w234 hx235
      have hk237 : ¬ (shfB v8 v9 false Z14 Z18 Z42 Z46 Z50 (v216 - 4) (v221 - 4) = true) := (by rw [shfB_no rfl]; simp)
      obtain ⟨_, rfl, e238⟩ := hx235.resolve_left (fun hz => hk237 hz.1)
      clear hx235
      replace B := B.ext0 e238
      clear e238
      refine s_y (v := .tuple #[.agg #[.slice none 0 0, .slice none 0 0, .slice none 0 0], .bool false]) rfl (y_move rfl) ?_
      refine s_y (v := .agg #[.slice none 0 0, .slice none 0 0, .slice none 0 0]) rfl (y_extract rfl rfl) ?_
      refine s_y (v := .bool false) rfl (y_extract rfl rfl) ?_
      refine s_k rfl (k_allocN (z := (.agg #[.slice none 0 0, .slice none 0 0, .slice none 0 0])) (cs := [.slice none 0 0, .slice none 0 0, .slice none 0 0]) T10.zero_30 rfl (fun b239 w240 hN241 => ?_))
      replace B := B.new1 hN241
      clear hN241
      refine s_k0 rfl (k_stB (v := .agg #[.slice none 0 0, .slice none 0 0, .slice none 0 0]) (n := 3) (cs' := [.slice none 0 0, .slice none 0 0, .slice none 0 0]) T10.sz_30_3 rfl rfl rfl (B.b 0 rfl) (by simp [Value.cells, Value.oneCell']) (Nat.le_of_ble_eq_true rfl) rfl (fun w242 hU243 => ?_))
      replace B : Bu w no w242 [.blk b239 [.slice none 0 0, .slice none 0 0, .slice none 0 0] 30, .blk b229 [.int .i64 0, .int .i64 0, .bool false, .slice none 0 0, .slice none 0 0] 26, .blk b176 [.slice a169 ((v9 * v8).toNat) c170, .slice a171 ((v9 * v8).toNat) c172, .slice a173 ((v9 * v8).toNat) c174] 30, .ow kF a169 ((v9 * v8).toNat) c170 34 (swpS v9 v8 (swpS v8 v9 Z42)), .ow kF a171 ((v9 * v8).toNat) c172 34 (negL (v9 * v8) (swpS v9 v8 (negL (v8 * v9) (swpS v8 v9 Z46)))), .ow kF a173 ((v9 * v8).toNat) c174 34 (negL (v9 * v8) (swpS v9 v8 (negL (v8 * v9) (swpS v8 v9 Z50)))), .blk b159 [.slice a152 ((v8 * v9).toNat) c153, .slice a154 ((v8 * v9).toNat) c155, .slice a156 ((v8 * v9).toNat) c157] 30, .ow kF a152 ((v8 * v9).toNat) c153 34 (swpS v8 v9 Z42), .ow kF a154 ((v8 * v9).toNat) c155 34 (negL (v8 * v9) (swpS v8 v9 Z50)), .ow kF a156 ((v8 * v9).toNat) c157 34 (negL (v8 * v9) (swpS v8 v9 Z46)), .blk b144 [.int .i64 v8, .int .i64 v9, .bool false, .slice a139 ((v9 * v8).toNat) c140, .slice a141 ((v9 * v8).toNat) c142] 26, .ow kF a139 ((v9 * v8).toNat) c140 34 (swpS v9 v8 (swpS v8 v9 Z14)), .ow kF a141 ((v9 * v8).toNat) c142 34 (swpS v9 v8 (swpS v8 v9 Z18)), .blk b129 [.int .i64 v9, .int .i64 v8, .bool false, .slice a124 ((v8 * v9).toNat) c125, .slice a126 ((v8 * v9).toNat) c127] 26, .ow kF a124 ((v8 * v9).toNat) c125 34 (swpS v8 v9 Z14), .ow kF a126 ((v8 * v9).toNat) c127 34 (swpS v8 v9 Z18), .blk b116 [.slice a109 ((v8 * v9).toNat) c110, .slice a111 ((v8 * v9).toNat) c112, .slice a113 ((v8 * v9).toNat) c114] 30, .ow kF a109 ((v8 * v9).toNat) c110 34 (mirS v8 v9 (mirS v8 v9 Z42)), .ow kF a111 ((v8 * v9).toNat) c112 34 (mirS v8 v9 (mirS v8 v9 Z46)), .ow kF a113 ((v8 * v9).toNat) c114 34 (mirY v8 v9 (mirY v8 v9 Z50)), .blk b99 [.slice a92 ((v8 * v9).toNat) c93, .slice a94 ((v8 * v9).toNat) c95, .slice a96 ((v8 * v9).toNat) c97] 30, .ow kF a92 ((v8 * v9).toNat) c93 34 (mirS v8 v9 Z42), .ow kF a94 ((v8 * v9).toNat) c95 34 (mirS v8 v9 Z46), .ow kF a96 ((v8 * v9).toNat) c97 34 (mirY v8 v9 Z50), .blk b84 [.int .i64 v8, .int .i64 v9, .bool false, .slice a79 ((v8 * v9).toNat) c80, .slice a81 ((v8 * v9).toNat) c82] 26, .ow kF a79 ((v8 * v9).toNat) c80 34 (mirS v8 v9 (mirS v8 v9 Z14)), .ow kF a81 ((v8 * v9).toNat) c82 34 (mirS v8 v9 (mirS v8 v9 Z18)), .blk b69 [.int .i64 v8, .int .i64 v9, .bool false, .slice a64 ((v8 * v9).toNat) c65, .slice a66 ((v8 * v9).toNat) c67] 26, .ow kF a64 ((v8 * v9).toNat) c65 34 (mirS v8 v9 Z14), .ow kF a66 ((v8 * v9).toNat) c67 34 (mirS v8 v9 Z18), .blk b56 [.slice a39 c40 c41, .slice a43 c44 c45, .slice a47 c48 c49] 30, .ow kF a39 c40 c41 34 Z42, .ow kF a43 c44 c45 34 Z46, .ow kF a47 c48 c49 34 Z50, .blk b32 [.int .i64 v8, .int .i64 v9, .bool false, .slice a11 c12 c13, .slice a15 c16 c17] 26, .ow kF a11 c12 c13 34 Z14, .ow kF a15 c16 c17 34 Z18, .rd kY a0 n0 X0, .rd kY a1 n1 X1] := B.upd [0] rfl hU243
      clear hU243
      refine s_y (v := .bool false) rfl (y_assign rfl) ?_
      refine s_nil ?_
      refine W_seq ?_
      refine W_seq ?_
      refine W_region (by kernel_rfl) ?_
      refine s_y (v := .bool false) rfl (y_move rfl) ?_
      refine s_y (v := .pointer (some ⟨b32, 2, none⟩)) rfl (y_fld (o := 0) T10.fld_26_2_2 rfl) ?_
      refine s_y (v := .bool false) rfl (y_load T10.one_4 rfl ((B.b 34 rfl).cell (j := 2) rfl)) ?_
      refine s_y (v := .bool false) rfl (y_bneq T10.bool_4 rfl rfl rfl) ?_
      refine s_y (v := .bool false) rfl (y_move rfl) ?_
      refine s_y (v := .bool false) rfl (y_move rfl) ?_
      refine s_y (v := .pointer (some ⟨b32, 2, none⟩)) rfl (y_fld (o := 0) T10.fld_26_2_2 rfl) ?_
      refine s_y (v := .bool false) rfl (y_load T10.one_4 rfl ((B.b 34 rfl).cell (j := 2) rfl)) ?_
      refine s_y (v := .bool false) rfl (y_bneq T10.bool_4 rfl rfl rfl) ?_
      refine s_y (v := .bool false) rfl (y_pick_f rfl rfl) ?_
      refine s_y (v := .bool false) rfl (y_move rfl) ?_
      refine s_y (v := .bool false) rfl (y_move rfl) ?_
      refine s_y (v := .bool true) rfl (y_not rfl rfl) ?_
      refine s_y (v := .bool true) rfl (y_pick_f rfl rfl) ?_
      refine s_nil ?_
      refine W_if_t (by decide) rfl ?_
      refine W_seq ?_
      refine W_region (by kernel_rfl) ?_
      refine s_y (v := .bool false) rfl (y_move rfl) ?_
      refine s_y (v := .pointer (some ⟨b32, 2, none⟩)) rfl (y_fld (o := 0) T10.fld_26_2_2 rfl) ?_
      refine s_y (v := .bool false) rfl (y_load T10.one_4 rfl ((B.b 34 rfl).cell (j := 2) rfl)) ?_
      refine s_y (v := .bool true) rfl (y_beql T10.bool_4 rfl rfl rfl) ?_
      refine s_y (v := .bool true) rfl (y_move rfl) ?_
      refine s_y (v := .bool false) rfl (y_move rfl) ?_
      refine s_y (v := .pointer (some ⟨b32, 2, none⟩)) rfl (y_fld (o := 0) T10.fld_26_2_2 rfl) ?_
      refine s_y (v := .bool false) rfl (y_load T10.one_4 rfl ((B.b 34 rfl).cell (j := 2) rfl)) ?_
      refine s_y (v := .bool true) rfl (y_beql T10.bool_4 rfl rfl rfl) ?_
      refine s_y (v := .bool true) rfl (y_pick_t rfl rfl) ?_
      refine s_y (v := .bool true) rfl (y_assign rfl) ?_
      refine s_nil ?_
      refine W_ret ?_
      refine ret1 (v := .bool true) rfl rfl rfl ⟨_, rfl, ?_⟩
      exact ⟨rfl, B.ext⟩
    · refine s_k rfl (k_call T10.fn_55 (c_i_ShiftSheet ((B.o 33 rfl).rd) ((B.o 34 rfl).rd) (by first | exact lenle (by assumption) | exact lenle6 (by assumption) | omega) (by first | exact lenle (by assumption) | exact lenle6 (by assumption) | omega)) rfl ?_)
      rintro v246 w244 hx245
      have hk247 : shB v8 v9 true Z14 Z18 (v216 - 4) (v221 - 4) = true := (shB_yes hp21 (by omega) (by omega))
      have hb248 := shB_b hk247
      obtain ⟨a249, c250, a251, c252, rfl, hN253⟩ := (hx245.resolve_right (fun hz => by rw [hk247] at hz; cases hz.1)).2
      clear hx245
      replace B := B.new2 hN253
      clear hN253
      refine s_y (v := .tuple #[.agg #[.int .i64 v8, .int .i64 v9, .bool true, .slice a249 ((v8 * v9).toNat) c250, .slice a251 ((v8 * v9).toNat) c252], .bool true]) rfl (y_move rfl) ?_
      refine s_y (v := .agg #[.int .i64 v8, .int .i64 v9, .bool true, .slice a249 ((v8 * v9).toNat) c250, .slice a251 ((v8 * v9).toNat) c252]) rfl (y_extract rfl rfl) ?_
      refine s_y (v := .bool true) rfl (y_extract rfl rfl) ?_
      refine s_k rfl (k_allocN (z := (.agg #[.int .i64 0, .int .i64 0, .bool false, .slice none 0 0, .slice none 0 0])) (cs := [.int .i64 0, .int .i64 0, .bool false, .slice none 0 0, .slice none 0 0]) T10.zero_26 rfl (fun b254 w255 hN256 => ?_))
      replace B := B.new1 hN256
      clear hN256
      refine s_k0 rfl (k_stB (v := .agg #[.int .i64 v8, .int .i64 v9, .bool true, .slice a249 ((v8 * v9).toNat) c250, .slice a251 ((v8 * v9).toNat) c252]) (n := 5) (cs' := [.int .i64 v8, .int .i64 v9, .bool true, .slice a249 ((v8 * v9).toNat) c250, .slice a251 ((v8 * v9).toNat) c252]) T10.sz_26_5 rfl rfl rfl (B.b 0 rfl) (by simp [Value.cells, Value.oneCell']) (Nat.le_of_ble_eq_true rfl) rfl (fun w257 hU258 => ?_))
      replace B : Bu w no w257 [.blk b254 [.int .i64 v8, .int .i64 v9, .bool true, .slice a249 ((v8 * v9).toNat) c250, .slice a251 ((v8 * v9).toNat) c252] 26, .ow kF a249 ((v8 * v9).toNat) c250 34 (shfS v8 v9 (v216 - 4) (v221 - 4) Z14), .ow kF a251 ((v8 * v9).toNat) c252 34 (shfS v8 v9 (v216 - 4) (v221 - 4) Z18), .blk b176 [.slice a169 ((v9 * v8).toNat) c170, .slice a171 ((v9 * v8).toNat) c172, .slice a173 ((v9 * v8).toNat) c174] 30, .ow kF a169 ((v9 * v8).toNat) c170 34 (swpS v9 v8 (swpS v8 v9 Z42)), .ow kF a171 ((v9 * v8).toNat) c172 34 (negL (v9 * v8) (swpS v9 v8 (negL (v8 * v9) (swpS v8 v9 Z46)))), .ow kF a173 ((v9 * v8).toNat) c174 34 (negL (v9 * v8) (swpS v9 v8 (negL (v8 * v9) (swpS v8 v9 Z50)))), .blk b159 [.slice a152 ((v8 * v9).toNat) c153, .slice a154 ((v8 * v9).toNat) c155, .slice a156 ((v8 * v9).toNat) c157] 30, .ow kF a152 ((v8 * v9).toNat) c153 34 (swpS v8 v9 Z42), .ow kF a154 ((v8 * v9).toNat) c155 34 (negL (v8 * v9) (swpS v8 v9 Z50)), .ow kF a156 ((v8 * v9).toNat) c157 34 (negL (v8 * v9) (swpS v8 v9 Z46)), .blk b144 [.int .i64 v8, .int .i64 v9, .bool true, .slice a139 ((v9 * v8).toNat) c140, .slice a141 ((v9 * v8).toNat) c142] 26, .ow kF a139 ((v9 * v8).toNat) c140 34 (swpS v9 v8 (swpS v8 v9 Z14)), .ow kF a141 ((v9 * v8).toNat) c142 34 (swpS v9 v8 (swpS v8 v9 Z18)), .blk b129 [.int .i64 v9, .int .i64 v8, .bool true, .slice a124 ((v8 * v9).toNat) c125, .slice a126 ((v8 * v9).toNat) c127] 26, .ow kF a124 ((v8 * v9).toNat) c125 34 (swpS v8 v9 Z14), .ow kF a126 ((v8 * v9).toNat) c127 34 (swpS v8 v9 Z18), .blk b116 [.slice a109 ((v8 * v9).toNat) c110, .slice a111 ((v8 * v9).toNat) c112, .slice a113 ((v8 * v9).toNat) c114] 30, .ow kF a109 ((v8 * v9).toNat) c110 34 (mirS v8 v9 (mirS v8 v9 Z42)), .ow kF a111 ((v8 * v9).toNat) c112 34 (mirS v8 v9 (mirS v8 v9 Z46)), .ow kF a113 ((v8 * v9).toNat) c114 34 (mirY v8 v9 (mirY v8 v9 Z50)), .blk b99 [.slice a92 ((v8 * v9).toNat) c93, .slice a94 ((v8 * v9).toNat) c95, .slice a96 ((v8 * v9).toNat) c97] 30, .ow kF a92 ((v8 * v9).toNat) c93 34 (mirS v8 v9 Z42), .ow kF a94 ((v8 * v9).toNat) c95 34 (mirS v8 v9 Z46), .ow kF a96 ((v8 * v9).toNat) c97 34 (mirY v8 v9 Z50), .blk b84 [.int .i64 v8, .int .i64 v9, .bool true, .slice a79 ((v8 * v9).toNat) c80, .slice a81 ((v8 * v9).toNat) c82] 26, .ow kF a79 ((v8 * v9).toNat) c80 34 (mirS v8 v9 (mirS v8 v9 Z14)), .ow kF a81 ((v8 * v9).toNat) c82 34 (mirS v8 v9 (mirS v8 v9 Z18)), .blk b69 [.int .i64 v8, .int .i64 v9, .bool true, .slice a64 ((v8 * v9).toNat) c65, .slice a66 ((v8 * v9).toNat) c67] 26, .ow kF a64 ((v8 * v9).toNat) c65 34 (mirS v8 v9 Z14), .ow kF a66 ((v8 * v9).toNat) c67 34 (mirS v8 v9 Z18), .blk b56 [.slice a39 c40 c41, .slice a43 c44 c45, .slice a47 c48 c49] 30, .ow kF a39 c40 c41 34 Z42, .ow kF a43 c44 c45 34 Z46, .ow kF a47 c48 c49 34 Z50, .blk b32 [.int .i64 v8, .int .i64 v9, .bool true, .slice a11 c12 c13, .slice a15 c16 c17] 26, .ow kF a11 c12 c13 34 Z14, .ow kF a15 c16 c17 34 Z18, .rd kY a0 n0 X0, .rd kY a1 n1 X1] := B.upd [0] rfl hU258
      clear hU258
      refine s_y (v := .bool true) rfl (y_assign rfl) ?_
      refine s_nil ?_
      refine W_seq ?_
      refine W_region (by kernel_rfl) ?_
      refine s_y (v := .agg #[.int .i64 v8, .int .i64 v9, .bool true, .slice a11 c12 c13, .slice a15 c16 c17]) rfl (y_loadn (b := b32) (o := 0) (vs := [.int .i64 v8, .int .i64 v9, .bool true, .slice a11 c12 c13, .slice a15 c16 c17]) T10.agg_26_5 rfl rfl ((B.b 35 rfl).cells (o := 0) rfl)) ?_
      refine s_y (v := .agg #[.slice a39 c40 c41, .slice a43 c44 c45, .slice a47 c48 c49]) rfl (y_loadn (b := b56) (o := 0) (vs := [.slice a39 c40 c41, .slice a43 c44 c45, .slice a47 c48 c49]) T10.agg_30_3 rfl rfl ((B.b 31 rfl).cells (o := 0) rfl)) ?_
      refine s_y (v := .int .i64 (v216 - 4)) rfl (y_move rfl) ?_
      refine s_y (v := .int .i64 (v221 - 4)) rfl (y_move rfl) ?_
      refine s_k rfl (k_call T10.fn_56 (c_i_ShiftField ((B.o 36 rfl).rd) ((B.o 37 rfl).rd) ((B.o 32 rfl).rd) ((B.o 33 rfl).rd) ((B.o 34 rfl).rd) (by first | exact lenle (by assumption) | exact lenle6 (by assumption) | omega) (by first | exact lenle (by assumption) | exact lenle6 (by assumption) | omega) (by first | exact lenle (by assumption) | exact lenle6 (by assumption) | omega) (by first | exact lenle (by assumption) | exact lenle6 (by assumption) | omega) (by first | exact lenle (by assumption) | exact lenle6 (by assumption) | omega)) rfl ?_)
      rintro v261 w259 hx260
      have hk262 : shfB v8 v9 true Z14 Z18 Z42 Z46 Z50 (v216 - 4) (v221 - 4) = true := (shfB_yes hp51 (by omega) (by omega))
      have hb263 := shfB_b hk262
      obtain ⟨a264, c265, a266, c267, a268, c269, rfl, hN270⟩ := (hx260.resolve_right (fun hz => by rw [hk262] at hz; cases hz.1)).2
      clear hx260
      replace B := B.new3 hN270
      clear hN270
      refine s_y (v := .tuple #[.agg #[.slice a264 ((v8 * v9).toNat) c265, .slice a266 ((v8 * v9).toNat) c267, .slice a268 ((v8 * v9).toNat) c269], .bool true]) rfl (y_move rfl) ?_
      refine s_y (v := .agg #[.slice a264 ((v8 * v9).toNat) c265, .slice a266 ((v8 * v9).toNat) c267, .slice a268 ((v8 * v9).toNat) c269]) rfl (y_extract rfl rfl) ?_
      refine s_y (v := .bool true) rfl (y_extract rfl rfl) ?_
      refine s_k rfl (k_allocN (z := (.agg #[.slice none 0 0, .slice none 0 0, .slice none 0 0])) (cs := [.slice none 0 0, .slice none 0 0, .slice none 0 0]) T10.zero_30 rfl (fun b271 w272 hN273 => ?_))
      replace B := B.new1 hN273
      clear hN273
      refine s_k0 rfl (k_stB (v := .agg #[.slice a264 ((v8 * v9).toNat) c265, .slice a266 ((v8 * v9).toNat) c267, .slice a268 ((v8 * v9).toNat) c269]) (n := 3) (cs' := [.slice a264 ((v8 * v9).toNat) c265, .slice a266 ((v8 * v9).toNat) c267, .slice a268 ((v8 * v9).toNat) c269]) T10.sz_30_3 rfl rfl rfl (B.b 0 rfl) (by simp [Value.cells, Value.oneCell']) (Nat.le_of_ble_eq_true rfl) rfl (fun w274 hU275 => ?_))
      replace B : Bu w no w274 [.blk b271 [.slice a264 ((v8 * v9).toNat) c265, .slice a266 ((v8 * v9).toNat) c267, .slice a268 ((v8 * v9).toNat) c269] 30, .ow kF a264 ((v8 * v9).toNat) c265 34 (shfS v8 v9 (v216 - 4) (v221 - 4) Z42), .ow kF a266 ((v8 * v9).toNat) c267 34 (shfS v8 v9 (v216 - 4) (v221 - 4) Z46), .ow kF a268 ((v8 * v9).toNat) c269 34 (shfS v8 v9 (v216 - 4) (v221 - 4) Z50), .blk b254 [.int .i64 v8, .int .i64 v9, .bool true, .slice a249 ((v8 * v9).toNat) c250, .slice a251 ((v8 * v9).toNat) c252] 26, .ow kF a249 ((v8 * v9).toNat) c250 34 (shfS v8 v9 (v216 - 4) (v221 - 4) Z14), .ow kF a251 ((v8 * v9).toNat) c252 34 (shfS v8 v9 (v216 - 4) (v221 - 4) Z18), .blk b176 [.slice a169 ((v9 * v8).toNat) c170, .slice a171 ((v9 * v8).toNat) c172, .slice a173 ((v9 * v8).toNat) c174] 30, .ow kF a169 ((v9 * v8).toNat) c170 34 (swpS v9 v8 (swpS v8 v9 Z42)), .ow kF a171 ((v9 * v8).toNat) c172 34 (negL (v9 * v8) (swpS v9 v8 (negL (v8 * v9) (swpS v8 v9 Z46)))), .ow kF a173 ((v9 * v8).toNat) c174 34 (negL (v9 * v8) (swpS v9 v8 (negL (v8 * v9) (swpS v8 v9 Z50)))), .blk b159 [.slice a152 ((v8 * v9).toNat) c153, .slice a154 ((v8 * v9).toNat) c155, .slice a156 ((v8 * v9).toNat) c157] 30, .ow kF a152 ((v8 * v9).toNat) c153 34 (swpS v8 v9 Z42), .ow kF a154 ((v8 * v9).toNat) c155 34 (negL (v8 * v9) (swpS v8 v9 Z50)), .ow kF a156 ((v8 * v9).toNat) c157 34 (negL (v8 * v9) (swpS v8 v9 Z46)), .blk b144 [.int .i64 v8, .int .i64 v9, .bool true, .slice a139 ((v9 * v8).toNat) c140, .slice a141 ((v9 * v8).toNat) c142] 26, .ow kF a139 ((v9 * v8).toNat) c140 34 (swpS v9 v8 (swpS v8 v9 Z14)), .ow kF a141 ((v9 * v8).toNat) c142 34 (swpS v9 v8 (swpS v8 v9 Z18)), .blk b129 [.int .i64 v9, .int .i64 v8, .bool true, .slice a124 ((v8 * v9).toNat) c125, .slice a126 ((v8 * v9).toNat) c127] 26, .ow kF a124 ((v8 * v9).toNat) c125 34 (swpS v8 v9 Z14), .ow kF a126 ((v8 * v9).toNat) c127 34 (swpS v8 v9 Z18), .blk b116 [.slice a109 ((v8 * v9).toNat) c110, .slice a111 ((v8 * v9).toNat) c112, .slice a113 ((v8 * v9).toNat) c114] 30, .ow kF a109 ((v8 * v9).toNat) c110 34 (mirS v8 v9 (mirS v8 v9 Z42)), .ow kF a111 ((v8 * v9).toNat) c112 34 (mirS v8 v9 (mirS v8 v9 Z46)), .ow kF a113 ((v8 * v9).toNat) c114 34 (mirY v8 v9 (mirY v8 v9 Z50)), .blk b99 [.slice a92 ((v8 * v9).toNat) c93, .slice a94 ((v8 * v9).toNat) c95, .slice a96 ((v8 * v9).toNat) c97] 30, .ow kF a92 ((v8 * v9).toNat) c93 34 (mirS v8 v9 Z42), .ow kF a94 ((v8 * v9).toNat) c95 34 (mirS v8 v9 Z46), .ow kF a96 ((v8 * v9).toNat) c97 34 (mirY v8 v9 Z50), .blk b84 [.int .i64 v8, .int .i64 v9, .bool true, .slice a79 ((v8 * v9).toNat) c80, .slice a81 ((v8 * v9).toNat) c82] 26, .ow kF a79 ((v8 * v9).toNat) c80 34 (mirS v8 v9 (mirS v8 v9 Z14)), .ow kF a81 ((v8 * v9).toNat) c82 34 (mirS v8 v9 (mirS v8 v9 Z18)), .blk b69 [.int .i64 v8, .int .i64 v9, .bool true, .slice a64 ((v8 * v9).toNat) c65, .slice a66 ((v8 * v9).toNat) c67] 26, .ow kF a64 ((v8 * v9).toNat) c65 34 (mirS v8 v9 Z14), .ow kF a66 ((v8 * v9).toNat) c67 34 (mirS v8 v9 Z18), .blk b56 [.slice a39 c40 c41, .slice a43 c44 c45, .slice a47 c48 c49] 30, .ow kF a39 c40 c41 34 Z42, .ow kF a43 c44 c45 34 Z46, .ow kF a47 c48 c49 34 Z50, .blk b32 [.int .i64 v8, .int .i64 v9, .bool true, .slice a11 c12 c13, .slice a15 c16 c17] 26, .ow kF a11 c12 c13 34 Z14, .ow kF a15 c16 c17 34 Z18, .rd kY a0 n0 X0, .rd kY a1 n1 X1] := B.upd [0] rfl hU275
      clear hU275
      refine s_y (v := .bool true) rfl (y_assign rfl) ?_
      refine s_nil ?_
      refine W_seq ?_
      refine W_seq ?_
      refine W_region (by kernel_rfl) ?_
      refine s_y (v := .bool true) rfl (y_move rfl) ?_
      refine s_y (v := .pointer (some ⟨b32, 2, none⟩)) rfl (y_fld (o := 0) T10.fld_26_2_2 rfl) ?_
      refine s_y (v := .bool true) rfl (y_load T10.one_4 rfl ((B.b 39 rfl).cell (j := 2) rfl)) ?_
      refine s_y (v := .bool false) rfl (y_bneq T10.bool_4 rfl rfl rfl) ?_
      refine s_y (v := .bool false) rfl (y_move rfl) ?_
      refine s_y (v := .bool true) rfl (y_move rfl) ?_
      refine s_y (v := .pointer (some ⟨b32, 2, none⟩)) rfl (y_fld (o := 0) T10.fld_26_2_2 rfl) ?_
      refine s_y (v := .bool true) rfl (y_load T10.one_4 rfl ((B.b 39 rfl).cell (j := 2) rfl)) ?_
      refine s_y (v := .bool false) rfl (y_bneq T10.bool_4 rfl rfl rfl) ?_
      refine s_y (v := .bool false) rfl (y_pick_f rfl rfl) ?_
      refine s_y (v := .bool false) rfl (y_move rfl) ?_
      refine s_y (v := .bool true) rfl (y_move rfl) ?_
      refine s_y (v := .bool false) rfl (y_not rfl rfl) ?_
      refine s_y (v := .bool false) rfl (y_pick_f rfl rfl) ?_
      refine s_nil ?_
      refine W_if_f (by decide) rfl ?_
      refine W_skip ?_
      refine W_seq ?_
      refine W_region (by kernel_rfl) ?_
      refine s_y (v := .agg #[.int .i64 v8, .int .i64 v9, .bool true, .slice a249 ((v8 * v9).toNat) c250, .slice a251 ((v8 * v9).toNat) c252]) rfl (y_loadn (b := b254) (o := 0) (vs := [.int .i64 v8, .int .i64 v9, .bool true, .slice a249 ((v8 * v9).toNat) c250, .slice a251 ((v8 * v9).toNat) c252]) T10.agg_26_5 rfl rfl ((B.b 4 rfl).cells (o := 0) rfl)) ?_
      refine s_y (v := .int .i64 (v216 - 4)) rfl (y_move rfl) ?_
      refine s_y (v := .int .i64 (-(v216 - 4))) rfl (y_ineg rfl rfl (by omega)) ?_
      refine s_y (v := .int .i64 (v221 - 4)) rfl (y_move rfl) ?_
      refine s_y (v := .int .i64 (-(v221 - 4))) rfl (y_ineg rfl rfl (by omega)) ?_
      refine s_k rfl (k_call T10.fn_55 (c_i_ShiftSheet ((B.o 5 rfl).rd) ((B.o 6 rfl).rd) (by first | exact lenle (by assumption) | exact lenle6 (by assumption) | omega) (by first | exact lenle (by assumption) | exact lenle6 (by assumption) | omega)) rfl ?_)
      rintro v278 w276 hx277
      have hk279 : shB v8 v9 true (shfS v8 v9 (v216 - 4) (v221 - 4) Z14) (shfS v8 v9 (v216 - 4) (v221 - 4) Z18) (-(v216 - 4)) (-(v221 - 4)) = true := (shB_yes (validS_shf hp21) (by omega) (by omega))
      have hb280 := shB_b hk279
      obtain ⟨a281, c282, a283, c284, rfl, hN285⟩ := (hx277.resolve_right (fun hz => by rw [hk279] at hz; cases hz.1)).2
      clear hx277
      replace B := B.new2 hN285
      clear hN285
      refine s_y (v := .tuple #[.agg #[.int .i64 v8, .int .i64 v9, .bool true, .slice a281 ((v8 * v9).toNat) c282, .slice a283 ((v8 * v9).toNat) c284], .bool true]) rfl (y_move rfl) ?_
      refine s_y (v := .agg #[.int .i64 v8, .int .i64 v9, .bool true, .slice a281 ((v8 * v9).toNat) c282, .slice a283 ((v8 * v9).toNat) c284]) rfl (y_extract rfl rfl) ?_
      refine s_y (v := .bool true) rfl (y_extract rfl rfl) ?_
      refine s_k rfl (k_allocN (z := (.agg #[.int .i64 0, .int .i64 0, .bool false, .slice none 0 0, .slice none 0 0])) (cs := [.int .i64 0, .int .i64 0, .bool false, .slice none 0 0, .slice none 0 0]) T10.zero_26 rfl (fun b286 w287 hN288 => ?_))
      replace B := B.new1 hN288
      clear hN288
      refine s_k0 rfl (k_stB (v := .agg #[.int .i64 v8, .int .i64 v9, .bool true, .slice a281 ((v8 * v9).toNat) c282, .slice a283 ((v8 * v9).toNat) c284]) (n := 5) (cs' := [.int .i64 v8, .int .i64 v9, .bool true, .slice a281 ((v8 * v9).toNat) c282, .slice a283 ((v8 * v9).toNat) c284]) T10.sz_26_5 rfl rfl rfl (B.b 0 rfl) (by simp [Value.cells, Value.oneCell']) (Nat.le_of_ble_eq_true rfl) rfl (fun w289 hU290 => ?_))
      replace B : Bu w no w289 [.blk b286 [.int .i64 v8, .int .i64 v9, .bool true, .slice a281 ((v8 * v9).toNat) c282, .slice a283 ((v8 * v9).toNat) c284] 26, .ow kF a281 ((v8 * v9).toNat) c282 34 (shfS v8 v9 (-(v216 - 4)) (-(v221 - 4)) (shfS v8 v9 (v216 - 4) (v221 - 4) Z14)), .ow kF a283 ((v8 * v9).toNat) c284 34 (shfS v8 v9 (-(v216 - 4)) (-(v221 - 4)) (shfS v8 v9 (v216 - 4) (v221 - 4) Z18)), .blk b271 [.slice a264 ((v8 * v9).toNat) c265, .slice a266 ((v8 * v9).toNat) c267, .slice a268 ((v8 * v9).toNat) c269] 30, .ow kF a264 ((v8 * v9).toNat) c265 34 (shfS v8 v9 (v216 - 4) (v221 - 4) Z42), .ow kF a266 ((v8 * v9).toNat) c267 34 (shfS v8 v9 (v216 - 4) (v221 - 4) Z46), .ow kF a268 ((v8 * v9).toNat) c269 34 (shfS v8 v9 (v216 - 4) (v221 - 4) Z50), .blk b254 [.int .i64 v8, .int .i64 v9, .bool true, .slice a249 ((v8 * v9).toNat) c250, .slice a251 ((v8 * v9).toNat) c252] 26, .ow kF a249 ((v8 * v9).toNat) c250 34 (shfS v8 v9 (v216 - 4) (v221 - 4) Z14), .ow kF a251 ((v8 * v9).toNat) c252 34 (shfS v8 v9 (v216 - 4) (v221 - 4) Z18), .blk b176 [.slice a169 ((v9 * v8).toNat) c170, .slice a171 ((v9 * v8).toNat) c172, .slice a173 ((v9 * v8).toNat) c174] 30, .ow kF a169 ((v9 * v8).toNat) c170 34 (swpS v9 v8 (swpS v8 v9 Z42)), .ow kF a171 ((v9 * v8).toNat) c172 34 (negL (v9 * v8) (swpS v9 v8 (negL (v8 * v9) (swpS v8 v9 Z46)))), .ow kF a173 ((v9 * v8).toNat) c174 34 (negL (v9 * v8) (swpS v9 v8 (negL (v8 * v9) (swpS v8 v9 Z50)))), .blk b159 [.slice a152 ((v8 * v9).toNat) c153, .slice a154 ((v8 * v9).toNat) c155, .slice a156 ((v8 * v9).toNat) c157] 30, .ow kF a152 ((v8 * v9).toNat) c153 34 (swpS v8 v9 Z42), .ow kF a154 ((v8 * v9).toNat) c155 34 (negL (v8 * v9) (swpS v8 v9 Z50)), .ow kF a156 ((v8 * v9).toNat) c157 34 (negL (v8 * v9) (swpS v8 v9 Z46)), .blk b144 [.int .i64 v8, .int .i64 v9, .bool true, .slice a139 ((v9 * v8).toNat) c140, .slice a141 ((v9 * v8).toNat) c142] 26, .ow kF a139 ((v9 * v8).toNat) c140 34 (swpS v9 v8 (swpS v8 v9 Z14)), .ow kF a141 ((v9 * v8).toNat) c142 34 (swpS v9 v8 (swpS v8 v9 Z18)), .blk b129 [.int .i64 v9, .int .i64 v8, .bool true, .slice a124 ((v8 * v9).toNat) c125, .slice a126 ((v8 * v9).toNat) c127] 26, .ow kF a124 ((v8 * v9).toNat) c125 34 (swpS v8 v9 Z14), .ow kF a126 ((v8 * v9).toNat) c127 34 (swpS v8 v9 Z18), .blk b116 [.slice a109 ((v8 * v9).toNat) c110, .slice a111 ((v8 * v9).toNat) c112, .slice a113 ((v8 * v9).toNat) c114] 30, .ow kF a109 ((v8 * v9).toNat) c110 34 (mirS v8 v9 (mirS v8 v9 Z42)), .ow kF a111 ((v8 * v9).toNat) c112 34 (mirS v8 v9 (mirS v8 v9 Z46)), .ow kF a113 ((v8 * v9).toNat) c114 34 (mirY v8 v9 (mirY v8 v9 Z50)), .blk b99 [.slice a92 ((v8 * v9).toNat) c93, .slice a94 ((v8 * v9).toNat) c95, .slice a96 ((v8 * v9).toNat) c97] 30, .ow kF a92 ((v8 * v9).toNat) c93 34 (mirS v8 v9 Z42), .ow kF a94 ((v8 * v9).toNat) c95 34 (mirS v8 v9 Z46), .ow kF a96 ((v8 * v9).toNat) c97 34 (mirY v8 v9 Z50), .blk b84 [.int .i64 v8, .int .i64 v9, .bool true, .slice a79 ((v8 * v9).toNat) c80, .slice a81 ((v8 * v9).toNat) c82] 26, .ow kF a79 ((v8 * v9).toNat) c80 34 (mirS v8 v9 (mirS v8 v9 Z14)), .ow kF a81 ((v8 * v9).toNat) c82 34 (mirS v8 v9 (mirS v8 v9 Z18)), .blk b69 [.int .i64 v8, .int .i64 v9, .bool true, .slice a64 ((v8 * v9).toNat) c65, .slice a66 ((v8 * v9).toNat) c67] 26, .ow kF a64 ((v8 * v9).toNat) c65 34 (mirS v8 v9 Z14), .ow kF a66 ((v8 * v9).toNat) c67 34 (mirS v8 v9 Z18), .blk b56 [.slice a39 c40 c41, .slice a43 c44 c45, .slice a47 c48 c49] 30, .ow kF a39 c40 c41 34 Z42, .ow kF a43 c44 c45 34 Z46, .ow kF a47 c48 c49 34 Z50, .blk b32 [.int .i64 v8, .int .i64 v9, .bool true, .slice a11 c12 c13, .slice a15 c16 c17] 26, .ow kF a11 c12 c13 34 Z14, .ow kF a15 c16 c17 34 Z18, .rd kY a0 n0 X0, .rd kY a1 n1 X1] := B.upd [0] rfl hU290
      clear hU290
      refine s_y (v := .bool true) rfl (y_assign rfl) ?_
      refine s_nil ?_
      refine W_seq ?_
      refine W_region (by kernel_rfl) ?_
      refine s_y (v := .agg #[.int .i64 v8, .int .i64 v9, .bool true, .slice a249 ((v8 * v9).toNat) c250, .slice a251 ((v8 * v9).toNat) c252]) rfl (y_loadn (b := b254) (o := 0) (vs := [.int .i64 v8, .int .i64 v9, .bool true, .slice a249 ((v8 * v9).toNat) c250, .slice a251 ((v8 * v9).toNat) c252]) T10.agg_26_5 rfl rfl ((B.b 7 rfl).cells (o := 0) rfl)) ?_
      refine s_y (v := .agg #[.slice a264 ((v8 * v9).toNat) c265, .slice a266 ((v8 * v9).toNat) c267, .slice a268 ((v8 * v9).toNat) c269]) rfl (y_loadn (b := b271) (o := 0) (vs := [.slice a264 ((v8 * v9).toNat) c265, .slice a266 ((v8 * v9).toNat) c267, .slice a268 ((v8 * v9).toNat) c269]) T10.agg_30_3 rfl rfl ((B.b 3 rfl).cells (o := 0) rfl)) ?_
      refine s_y (v := .int .i64 (v216 - 4)) rfl (y_move rfl) ?_
      refine s_y (v := .int .i64 (-(v216 - 4))) rfl (y_ineg rfl rfl (by omega)) ?_
      refine s_y (v := .int .i64 (v221 - 4)) rfl (y_move rfl) ?_
      refine s_y (v := .int .i64 (-(v221 - 4))) rfl (y_ineg rfl rfl (by omega)) ?_
      refine s_k rfl (k_call T10.fn_56 (c_i_ShiftField ((B.o 8 rfl).rd) ((B.o 9 rfl).rd) ((B.o 4 rfl).rd) ((B.o 5 rfl).rd) ((B.o 6 rfl).rd) (by first | exact lenle (by assumption) | exact lenle6 (by assumption) | omega) (by first | exact lenle (by assumption) | exact lenle6 (by assumption) | omega) (by first | exact lenle (by assumption) | exact lenle6 (by assumption) | omega) (by first | exact lenle (by assumption) | exact lenle6 (by assumption) | omega) (by first | exact lenle (by assumption) | exact lenle6 (by assumption) | omega)) rfl ?_)
      rintro v293 w291 hx292
      have hk294 : shfB v8 v9 true (shfS v8 v9 (v216 - 4) (v221 - 4) Z14) (shfS v8 v9 (v216 - 4) (v221 - 4) Z18) (shfS v8 v9 (v216 - 4) (v221 - 4) Z42) (shfS v8 v9 (v216 - 4) (v221 - 4) Z46) (shfS v8 v9 (v216 - 4) (v221 - 4) Z50) (-(v216 - 4)) (-(v221 - 4)) = true := (shfB_yes (fieldB_shf hp51) (by omega) (by omega))
      have hb295 := shfB_b hk294
      obtain ⟨a296, c297, a298, c299, a300, c301, rfl, hN302⟩ := (hx292.resolve_right (fun hz => by rw [hk294] at hz; cases hz.1)).2
      clear hx292
      replace B := B.new3 hN302
      clear hN302
      refine s_y (v := .tuple #[.agg #[.slice a296 ((v8 * v9).toNat) c297, .slice a298 ((v8 * v9).toNat) c299, .slice a300 ((v8 * v9).toNat) c301], .bool true]) rfl (y_move rfl) ?_
      refine s_y (v := .agg #[.slice a296 ((v8 * v9).toNat) c297, .slice a298 ((v8 * v9).toNat) c299, .slice a300 ((v8 * v9).toNat) c301]) rfl (y_extract rfl rfl) ?_
      refine s_y (v := .bool true) rfl (y_extract rfl rfl) ?_
      refine s_k rfl (k_allocN (z := (.agg #[.slice none 0 0, .slice none 0 0, .slice none 0 0])) (cs := [.slice none 0 0, .slice none 0 0, .slice none 0 0]) T10.zero_30 rfl (fun b303 w304 hN305 => ?_))
      replace B := B.new1 hN305
      clear hN305
      refine s_k0 rfl (k_stB (v := .agg #[.slice a296 ((v8 * v9).toNat) c297, .slice a298 ((v8 * v9).toNat) c299, .slice a300 ((v8 * v9).toNat) c301]) (n := 3) (cs' := [.slice a296 ((v8 * v9).toNat) c297, .slice a298 ((v8 * v9).toNat) c299, .slice a300 ((v8 * v9).toNat) c301]) T10.sz_30_3 rfl rfl rfl (B.b 0 rfl) (by simp [Value.cells, Value.oneCell']) (Nat.le_of_ble_eq_true rfl) rfl (fun w306 hU307 => ?_))
      replace B : Bu w no w306 [.blk b303 [.slice a296 ((v8 * v9).toNat) c297, .slice a298 ((v8 * v9).toNat) c299, .slice a300 ((v8 * v9).toNat) c301] 30, .ow kF a296 ((v8 * v9).toNat) c297 34 (shfS v8 v9 (-(v216 - 4)) (-(v221 - 4)) (shfS v8 v9 (v216 - 4) (v221 - 4) Z42)), .ow kF a298 ((v8 * v9).toNat) c299 34 (shfS v8 v9 (-(v216 - 4)) (-(v221 - 4)) (shfS v8 v9 (v216 - 4) (v221 - 4) Z46)), .ow kF a300 ((v8 * v9).toNat) c301 34 (shfS v8 v9 (-(v216 - 4)) (-(v221 - 4)) (shfS v8 v9 (v216 - 4) (v221 - 4) Z50)), .blk b286 [.int .i64 v8, .int .i64 v9, .bool true, .slice a281 ((v8 * v9).toNat) c282, .slice a283 ((v8 * v9).toNat) c284] 26, .ow kF a281 ((v8 * v9).toNat) c282 34 (shfS v8 v9 (-(v216 - 4)) (-(v221 - 4)) (shfS v8 v9 (v216 - 4) (v221 - 4) Z14)), .ow kF a283 ((v8 * v9).toNat) c284 34 (shfS v8 v9 (-(v216 - 4)) (-(v221 - 4)) (shfS v8 v9 (v216 - 4) (v221 - 4) Z18)), .blk b271 [.slice a264 ((v8 * v9).toNat) c265, .slice a266 ((v8 * v9).toNat) c267, .slice a268 ((v8 * v9).toNat) c269] 30, .ow kF a264 ((v8 * v9).toNat) c265 34 (shfS v8 v9 (v216 - 4) (v221 - 4) Z42), .ow kF a266 ((v8 * v9).toNat) c267 34 (shfS v8 v9 (v216 - 4) (v221 - 4) Z46), .ow kF a268 ((v8 * v9).toNat) c269 34 (shfS v8 v9 (v216 - 4) (v221 - 4) Z50), .blk b254 [.int .i64 v8, .int .i64 v9, .bool true, .slice a249 ((v8 * v9).toNat) c250, .slice a251 ((v8 * v9).toNat) c252] 26, .ow kF a249 ((v8 * v9).toNat) c250 34 (shfS v8 v9 (v216 - 4) (v221 - 4) Z14), .ow kF a251 ((v8 * v9).toNat) c252 34 (shfS v8 v9 (v216 - 4) (v221 - 4) Z18), .blk b176 [.slice a169 ((v9 * v8).toNat) c170, .slice a171 ((v9 * v8).toNat) c172, .slice a173 ((v9 * v8).toNat) c174] 30, .ow kF a169 ((v9 * v8).toNat) c170 34 (swpS v9 v8 (swpS v8 v9 Z42)), .ow kF a171 ((v9 * v8).toNat) c172 34 (negL (v9 * v8) (swpS v9 v8 (negL (v8 * v9) (swpS v8 v9 Z46)))), .ow kF a173 ((v9 * v8).toNat) c174 34 (negL (v9 * v8) (swpS v9 v8 (negL (v8 * v9) (swpS v8 v9 Z50)))), .blk b159 [.slice a152 ((v8 * v9).toNat) c153, .slice a154 ((v8 * v9).toNat) c155, .slice a156 ((v8 * v9).toNat) c157] 30, .ow kF a152 ((v8 * v9).toNat) c153 34 (swpS v8 v9 Z42), .ow kF a154 ((v8 * v9).toNat) c155 34 (negL (v8 * v9) (swpS v8 v9 Z50)), .ow kF a156 ((v8 * v9).toNat) c157 34 (negL (v8 * v9) (swpS v8 v9 Z46)), .blk b144 [.int .i64 v8, .int .i64 v9, .bool true, .slice a139 ((v9 * v8).toNat) c140, .slice a141 ((v9 * v8).toNat) c142] 26, .ow kF a139 ((v9 * v8).toNat) c140 34 (swpS v9 v8 (swpS v8 v9 Z14)), .ow kF a141 ((v9 * v8).toNat) c142 34 (swpS v9 v8 (swpS v8 v9 Z18)), .blk b129 [.int .i64 v9, .int .i64 v8, .bool true, .slice a124 ((v8 * v9).toNat) c125, .slice a126 ((v8 * v9).toNat) c127] 26, .ow kF a124 ((v8 * v9).toNat) c125 34 (swpS v8 v9 Z14), .ow kF a126 ((v8 * v9).toNat) c127 34 (swpS v8 v9 Z18), .blk b116 [.slice a109 ((v8 * v9).toNat) c110, .slice a111 ((v8 * v9).toNat) c112, .slice a113 ((v8 * v9).toNat) c114] 30, .ow kF a109 ((v8 * v9).toNat) c110 34 (mirS v8 v9 (mirS v8 v9 Z42)), .ow kF a111 ((v8 * v9).toNat) c112 34 (mirS v8 v9 (mirS v8 v9 Z46)), .ow kF a113 ((v8 * v9).toNat) c114 34 (mirY v8 v9 (mirY v8 v9 Z50)), .blk b99 [.slice a92 ((v8 * v9).toNat) c93, .slice a94 ((v8 * v9).toNat) c95, .slice a96 ((v8 * v9).toNat) c97] 30, .ow kF a92 ((v8 * v9).toNat) c93 34 (mirS v8 v9 Z42), .ow kF a94 ((v8 * v9).toNat) c95 34 (mirS v8 v9 Z46), .ow kF a96 ((v8 * v9).toNat) c97 34 (mirY v8 v9 Z50), .blk b84 [.int .i64 v8, .int .i64 v9, .bool true, .slice a79 ((v8 * v9).toNat) c80, .slice a81 ((v8 * v9).toNat) c82] 26, .ow kF a79 ((v8 * v9).toNat) c80 34 (mirS v8 v9 (mirS v8 v9 Z14)), .ow kF a81 ((v8 * v9).toNat) c82 34 (mirS v8 v9 (mirS v8 v9 Z18)), .blk b69 [.int .i64 v8, .int .i64 v9, .bool true, .slice a64 ((v8 * v9).toNat) c65, .slice a66 ((v8 * v9).toNat) c67] 26, .ow kF a64 ((v8 * v9).toNat) c65 34 (mirS v8 v9 Z14), .ow kF a66 ((v8 * v9).toNat) c67 34 (mirS v8 v9 Z18), .blk b56 [.slice a39 c40 c41, .slice a43 c44 c45, .slice a47 c48 c49] 30, .ow kF a39 c40 c41 34 Z42, .ow kF a43 c44 c45 34 Z46, .ow kF a47 c48 c49 34 Z50, .blk b32 [.int .i64 v8, .int .i64 v9, .bool true, .slice a11 c12 c13, .slice a15 c16 c17] 26, .ow kF a11 c12 c13 34 Z14, .ow kF a15 c16 c17 34 Z18, .rd kY a0 n0 X0, .rd kY a1 n1 X1] := B.upd [0] rfl hU307
      clear hU307
      refine s_y (v := .bool true) rfl (y_assign rfl) ?_
      refine s_nil ?_
      refine W_seq ?_
      refine W_region (by kernel_rfl) ?_
      refine s_y (v := .bool true) rfl (y_move rfl) ?_
      refine s_y (v := .bool true) rfl (y_move rfl) ?_
      refine s_y (v := .bool true) rfl (y_move rfl) ?_
      refine s_y (v := .bool true) rfl (y_pick_t rfl rfl) ?_
      refine s_y (v := .bool true) rfl (y_move rfl) ?_
      refine s_y (v := .agg #[.int .i64 v8, .int .i64 v9, .bool true, .slice a281 ((v8 * v9).toNat) c282, .slice a283 ((v8 * v9).toNat) c284]) rfl (y_loadn (b := b286) (o := 0) (vs := [.int .i64 v8, .int .i64 v9, .bool true, .slice a281 ((v8 * v9).toNat) c282, .slice a283 ((v8 * v9).toNat) c284]) T10.agg_26_5 rfl rfl ((B.b 4 rfl).cells (o := 0) rfl)) ?_
      refine s_y (v := .agg #[.int .i64 v8, .int .i64 v9, .bool true, .slice a11 c12 c13, .slice a15 c16 c17]) rfl (y_loadn (b := b32) (o := 0) (vs := [.int .i64 v8, .int .i64 v9, .bool true, .slice a11 c12 c13, .slice a15 c16 c17]) T10.agg_26_5 rfl rfl ((B.b 46 rfl).cells (o := 0) rfl)) ?_
      refine s_k rfl (k_call T10.fn_57 (c_i_SameSheet ((B.o 5 rfl).rd) ((B.o 6 rfl).rd) ((B.o 47 rfl).rd) ((B.o 48 rfl).rd) (by first | exact lenle (by assumption) | exact lenle6 (by assumption) | omega) (by first | exact lenle (by assumption) | exact lenle6 (by assumption) | omega) (by first | exact lenle (by assumption) | exact lenle6 (by assumption) | omega) (by first | exact lenle (by assumption) | exact lenle6 (by assumption) | omega)) rfl ?_)
      rintro v310 w308 ⟨hv311, e309⟩
      replace B := B.ext0 e309
      clear e309
      have hk312 : (decide (v8 = v8) && decide (v9 = v9) && (true == true) && sameL (shfS v8 v9 (-(v216 - 4)) (-(v221 - 4)) (shfS v8 v9 (v216 - 4) (v221 - 4) Z14)) Z14 && sameL (shfS v8 v9 (-(v216 - 4)) (-(v221 - 4)) (shfS v8 v9 (v216 - 4) (v221 - 4) Z18)) Z18) = true := (sh_shf hp21)
      obtain rfl : v310 = .bool true := hv311.trans (congrArg Value.bool hk312)
      refine s_y (v := .bool true) rfl (y_pick_t rfl rfl) ?_
      refine s_y (v := .bool true) rfl (y_move rfl) ?_
      refine s_y (v := .agg #[.slice a296 ((v8 * v9).toNat) c297, .slice a298 ((v8 * v9).toNat) c299, .slice a300 ((v8 * v9).toNat) c301]) rfl (y_loadn (b := b303) (o := 0) (vs := [.slice a296 ((v8 * v9).toNat) c297, .slice a298 ((v8 * v9).toNat) c299, .slice a300 ((v8 * v9).toNat) c301]) T10.agg_30_3 rfl rfl ((B.b 0 rfl).cells (o := 0) rfl)) ?_
      refine s_y (v := .agg #[.slice a39 c40 c41, .slice a43 c44 c45, .slice a47 c48 c49]) rfl (y_loadn (b := b56) (o := 0) (vs := [.slice a39 c40 c41, .slice a43 c44 c45, .slice a47 c48 c49]) T10.agg_30_3 rfl rfl ((B.b 42 rfl).cells (o := 0) rfl)) ?_
      refine s_k rfl (k_call T10.fn_47 (c_i_SameField ((B.o 1 rfl).rd) ((B.o 2 rfl).rd) ((B.o 3 rfl).rd) ((B.o 43 rfl).rd) ((B.o 44 rfl).rd) ((B.o 45 rfl).rd) (by first | exact lenle (by assumption) | exact lenle6 (by assumption) | omega) (by first | exact lenle (by assumption) | exact lenle6 (by assumption) | omega) (by first | exact lenle (by assumption) | exact lenle6 (by assumption) | omega) (by first | exact lenle (by assumption) | exact lenle6 (by assumption) | omega) (by first | exact lenle (by assumption) | exact lenle6 (by assumption) | omega) (by first | exact lenle (by assumption) | exact lenle6 (by assumption) | omega)) rfl ?_)
      rintro v315 w313 ⟨hv316, e314⟩
      replace B := B.ext0 e314
      clear e314
      have hk317 : (sameL (shfS v8 v9 (-(v216 - 4)) (-(v221 - 4)) (shfS v8 v9 (v216 - 4) (v221 - 4) Z42)) Z42 && sameL (shfS v8 v9 (-(v216 - 4)) (-(v221 - 4)) (shfS v8 v9 (v216 - 4) (v221 - 4) Z46)) Z46 && sameL (shfS v8 v9 (-(v216 - 4)) (-(v221 - 4)) (shfS v8 v9 (v216 - 4) (v221 - 4) Z50)) Z50) = true := (fd_shf hp51)
      obtain rfl : v315 = .bool true := hv316.trans (congrArg Value.bool hk317)
      refine s_y (v := .bool true) rfl (y_pick_t rfl rfl) ?_
      refine s_y (v := .bool true) rfl (y_move rfl) ?_
      refine s_y (v := .agg #[.int .i64 v8, .int .i64 v9, .bool true, .slice a249 ((v8 * v9).toNat) c250, .slice a251 ((v8 * v9).toNat) c252]) rfl (y_loadn (b := b254) (o := 0) (vs := [.int .i64 v8, .int .i64 v9, .bool true, .slice a249 ((v8 * v9).toNat) c250, .slice a251 ((v8 * v9).toNat) c252]) T10.agg_26_5 rfl rfl ((B.b 11 rfl).cells (o := 0) rfl)) ?_
      refine s_y (v := .agg #[.slice a264 ((v8 * v9).toNat) c265, .slice a266 ((v8 * v9).toNat) c267, .slice a268 ((v8 * v9).toNat) c269]) rfl (y_loadn (b := b271) (o := 0) (vs := [.slice a264 ((v8 * v9).toNat) c265, .slice a266 ((v8 * v9).toNat) c267, .slice a268 ((v8 * v9).toNat) c269]) T10.agg_30_3 rfl rfl ((B.b 7 rfl).cells (o := 0) rfl)) ?_
      refine s_k rfl (k_call T10.fn_41 (c_i_IsField ((B.o 12 rfl).rd) ((B.o 13 rfl).rd) ((B.o 8 rfl).rd) ((B.o 9 rfl).rd) ((B.o 10 rfl).rd) (by first | exact lenle (by assumption) | exact lenle6 (by assumption) | omega) (by first | exact lenle (by assumption) | exact lenle6 (by assumption) | omega) (by first | exact lenle (by assumption) | exact lenle6 (by assumption) | omega) (by first | exact lenle (by assumption) | exact lenle6 (by assumption) | omega) (by first | exact lenle (by assumption) | exact lenle6 (by assumption) | omega)) rfl ?_)
      rintro v320 w318 ⟨hv321, e319⟩
      replace B := B.ext0 e319
      clear e319
      have hk322 : fieldB v8 v9 true (shfS v8 v9 (v216 - 4) (v221 - 4) Z14) (shfS v8 v9 (v216 - 4) (v221 - 4) Z18) (shfS v8 v9 (v216 - 4) (v221 - 4) Z42) (shfS v8 v9 (v216 - 4) (v221 - 4) Z46) (shfS v8 v9 (v216 - 4) (v221 - 4) Z50) = true := (fieldB_shf hp51)
      have hb323 := fieldB_b hk322
      obtain rfl : v320 = .bool true := hv321.trans (congrArg Value.bool hk322)
      refine s_y (v := .bool true) rfl (y_pick_t rfl rfl) ?_
      refine s_y (v := .bool true) rfl (y_assign rfl) ?_
      refine s_nil ?_
      refine W_ret ?_
      refine ret1 (v := .bool true) rfl rfl rfl ⟨_, rfl, ?_⟩
      exact ⟨rfl, B.ext⟩
end Go.Proofs.Ytgohmocjjmkepaa
