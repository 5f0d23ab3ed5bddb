/- Walks: what the functions under FnWaves do (part 3). Printed by a program of this claim's author. -/
import Derived.Test.YtgohmocjjmkepaaWavesW1
set_option linter.unusedSimpArgs false
set_option linter.unusedVariables false
open Go.Wv
namespace Go.Proofs.Ytgohmocjjmkepaa
open Go.Proofs
namespace T4
theorem mx : Try.prog.follows .mixedOrders = true := by kernel_rfl
theorem agg_44_6 : aggB Try.prog 44 6 = true := by kernel_rfl
theorem fld_44_0_0 : fldB Try.prog 44 0 0 = true := by kernel_rfl
theorem fld_44_1_1 : fldB Try.prog 44 1 1 = true := by kernel_rfl
theorem fld_44_2_2 : fldB Try.prog 44 2 2 = true := by kernel_rfl
theorem fld_44_4_4 : fldB Try.prog 44 4 4 = true := by kernel_rfl
theorem fld_44_5_5 : fldB Try.prog 44 5 5 = true := by kernel_rfl
theorem flt_53_f64 : Try.prog.underlying 53 = some (.float .f64) := by kernel_rfl
theorem fn_22 : fnB Try.prog 22 = true := by kernel_rfl
theorem fn_23 : fnB Try.prog 23 = true := by kernel_rfl
theorem fn_24 : fnB Try.prog 24 = true := by kernel_rfl
theorem fn_25 : fnB Try.prog 25 = true := by kernel_rfl
theorem fn_26 : fnB Try.prog 26 = true := by kernel_rfl
theorem fn_27 : fnB Try.prog 27 = true := by kernel_rfl
theorem fn_28 : fnB Try.prog 28 = true := by kernel_rfl
theorem fn_29 : fnB Try.prog 29 = true := by kernel_rfl
theorem fn_30 : fnB Try.prog 30 = true := by kernel_rfl
theorem one_2 : oneB Try.prog 2 = true := by kernel_rfl
theorem one_34 : oneB Try.prog 34 = true := by kernel_rfl
theorem sl_24_34_1 : slB Try.prog 24 34 1 = true := by kernel_rfl
theorem sz_44_6 : szB Try.prog 44 6 = true := by kernel_rfl
theorem und_34 : (Try.prog.underlying 34).isSome = true := by kernel_rfl
theorem zero_44 : zeroB Try.prog 44 (.agg #[.int .i64 0, .int .i64 0, .int .i64 0, .float .f32 0, .float .f32 0, .int .i64 0]) := by unfold zeroB; kernel_rfl
end T4
set_option maxRecDepth 100000 in
set_option maxHeartbeats 20000000 in
theorem c_FnWaves {a0 : Option Addr} {n0 : Nat} {c0 : Nat} {X0 : List Nat} {a1 : Option Addr} {n1 : Nat} {c1 : Nat} {X1 : List Nat} {w : World} (q0 : Rd w kY a0 n0 X0) (q1 : Rd w kY a1 n1 X1) (g0 : n0 ≤ 9223372036854775807) (g1 : n1 ≤ 9223372036854775807) :
    Calls Try.prog 4 #[.slice a0 n0 c0, .slice a1 n1 c1] w (Rt fun v w' => v = .bool true ∧ Ext0 w w') := by
  have hl0 := q0.len
  have hl1 := q1.len
  have B : Bu w no w [.rd kY a0 n0 X0, .rd kY a1 n1 X1] := Bu.ro (All.cons q0 (All.cons q1 All.nil)) rfl
  refine calls_W (n := 198) Try.func4 rfl rfl (Nat.le_of_ble_eq_true rfl) ?_
  refine W_seq ?_
  refine W_region (by kernel_rfl) ?_
  refine s_y (v := .bool false) rfl (y_assign rfl) ?_
  refine s_nil ?_
  refine W_seq ?_
  refine W_seq ?_
  refine W_region (by kernel_rfl) ?_
  refine s_y (v := .slice a0 n0 c0) rfl (y_move rfl) ?_
  refine s_y (v := .slice a1 n1 c1) rfl (y_move rfl) ?_
  refine s_k rfl (k_call T4.fn_22 (c_l_r8Long (B.r 0 rfl) (B.r 1 rfl) (by first | exact lenle (by assumption) | exact lenle6 (by assumption) | exact le256 (by assumption) | exact le2566 (by assumption) | omega) (by first | exact lenle (by assumption) | exact lenle6 (by assumption) | exact le256 (by assumption) | exact le2566 (by assumption) | omega)) rfl ?_)
  rintro v3 w1 ⟨hv4, e2⟩
  replace B := B.ext0 e2
  clear e2
  by_cases c5 : (decide (48 < (n0 : Int)) || decide (48 < (n1 : Int))) = true
  · obtain rfl : v3 = .bool true := hv4.trans (congrArg Value.bool c5)
    refine s_nil ?_
    refine W_if_t (by decide) rfl ?_
    refine W_seq ?_
    refine W_region (by kernel_rfl) ?_
    refine s_y (v := .bool true) rfl (y_assign rfl) ?_
    refine s_nil ?_
    refine W_ret ?_
    refine ret1 (v := .bool true) rfl rfl rfl ⟨_, rfl, ?_⟩
    exact ⟨rfl, B.ext⟩
  · obtain rfl : v3 = .bool false := hv4.trans (congrArg Value.bool (Bool.eq_false_iff.2 c5))
    refine s_nil ?_
    refine W_if_f (by decide) rfl ?_
    refine W_skip ?_
    refine W_seq ?_
    refine W_region (by kernel_rfl) ?_
    refine s_y (v := .slice a0 n0 c0) rfl (y_move rfl) ?_
    refine s_k rfl (k_call T4.fn_23 (c_s_R8Wave (B.r 0 rfl)) rfl ?_)
    rintro _ w6 ⟨v8, v9, v10, c11, c12, v13, v14, v15, rfl, hp16, hp17, hp18, hp19, hp20, hp21, hp22, hp23, hp24, hp25, hp26, hp27, hp28, hp29, hN7⟩
    replace B := B.ext0 hN7
    clear hN7
    refine s_k rfl (k_allocN (z := (.agg #[.int .i64 0, .int .i64 0, .int .i64 0, .float .f32 0, .float .f32 0, .int .i64 0])) (cs := [.int .i64 0, .int .i64 0, .int .i64 0, .float .f32 0, .float .f32 0, .int .i64 0]) T4.zero_44 rfl (fun b30 w31 hN32 => ?_))
    replace B := B.new1 hN32
    clear hN32
    refine s_k0 rfl (k_stB (v := .agg #[.int .i64 v8, .int .i64 v9, .int .i64 v10, .float .f32 c11, .float .f32 c12, .int .i64 v13]) (n := 6) (cs' := [.int .i64 v8, .int .i64 v9, .int .i64 v10, .float .f32 c11, .float .f32 c12, .int .i64 v13]) T4.sz_44_6 rfl rfl rfl (B.b 0 rfl) (by simp [Value.cells, Value.oneCell']) (Nat.le_of_ble_eq_true rfl) rfl (fun w33 hU34 => ?_))
    replace B : Bu w no w33 [.blk b30 [.int .i64 v8, .int .i64 v9, .int .i64 v10, .float .f32 c11, .float .f32 c12, .int .i64 v13] 44, .rd kY a0 n0 X0, .rd kY a1 n1 X1] := B.upd [0] rfl hU34
    clear hU34
    refine s_nil ?_
    refine W_seq ?_
    refine W_region (by kernel_rfl) ?_
    refine s_y (v := .slice a1 n1 c1) rfl (y_move rfl) ?_
    refine s_k rfl (k_call T4.fn_24 (c_l_r8At (B.r 2 rfl) (by omega) (by omega) (by first | exact lenle (by assumption) | exact lenle6 (by assumption) | exact le256 (by assumption) | exact le2566 (by assumption) | omega)) rfl ?_)
    rintro _ w35 ⟨u37, rfl, hp38, e36⟩
    replace B := B.ext0 e36
    clear e36
    have hb39 := r8A_b X1 0 (show 1 ≤ 20 by omega)
    rw [← hp38] at hb39
    refine s_y (v := .int .i64 u37) rfl (y_assign rfl) ?_
    refine s_nil ?_
    refine W_seq ?_
    refine W_region (by kernel_rfl) ?_
    refine s_y (v := .slice a1 n1 c1) rfl (y_move rfl) ?_
    refine s_k rfl (k_call T4.fn_24 (c_l_r8At (B.r 2 rfl) (by omega) (by omega) (by first | exact lenle (by assumption) | exact lenle6 (by assumption) | exact le256 (by assumption) | exact le2566 (by assumption) | omega)) rfl ?_)
    rintro _ w40 ⟨u42, rfl, hp43, e41⟩
    replace B := B.ext0 e41
    clear e41
    have hb44 := r8A_b X1 1 (show 1 ≤ 8 by omega)
    rw [← hp43] at hb44
    refine s_y (v := .int .i64 u42) rfl (y_assign rfl) ?_
    refine s_nil ?_
    refine W_seq ?_
    refine W_region (by kernel_rfl) ?_
    refine s_y (v := .agg #[.int .i64 v8, .int .i64 v9, .int .i64 v10, .float .f32 c11, .float .f32 c12, .int .i64 v13]) rfl (y_loadn (b := b30) (o := 0) (vs := [.int .i64 v8, .int .i64 v9, .int .i64 v10, .float .f32 c11, .float .f32 c12, .int .i64 v13]) T4.agg_44_6 rfl rfl ((B.b 0 rfl).cells (o := 0) rfl)) ?_
    refine s_y (v := .int .i64 u37) rfl (y_move rfl) ?_
    refine s_k rfl (k_call T4.fn_25 (c_i_WaveList hp28 hp29 (by omega) (fun kq h0 h1 => wav_ok (by omega) (by omega) (by omega))) rfl ?_)
    rintro v47 w45 hx46
    have hk48 : (validW v8 v9 v10 (twT v14) v13 && ticksB u37 8) = true := (wl_ok (by omega) (by omega) (by omega) (by omega) (by omega) (by omega))
    obtain ⟨a49, c50, rfl, hN51⟩ := (hx46.resolve_right (fun hz => by rw [hk48] at hz; cases hz.1)).2
    clear hx46
    replace B := B.new1 hN51
    clear hN51
    refine s_y (v := .tuple #[.slice a49 (Int.toNat 8) c50, .bool true]) rfl (y_move rfl) ?_
    refine s_y (v := .slice a49 (Int.toNat 8) c50) rfl (y_extract rfl rfl) ?_
    refine s_y (v := .bool true) rfl (y_extract rfl rfl) ?_
    refine s_y (v := .slice a49 (Int.toNat 8) c50) rfl (y_assign rfl) ?_
    refine s_y (v := .bool true) rfl (y_assign rfl) ?_
    refine s_nil ?_
    refine W_seq ?_
    refine W_region (by kernel_rfl) ?_
    refine s_y (v := .agg #[.int .i64 v8, .int .i64 v9, .int .i64 v10, .float .f32 c11, .float .f32 c12, .int .i64 v13]) rfl (y_loadn (b := b30) (o := 0) (vs := [.int .i64 v8, .int .i64 v9, .int .i64 v10, .float .f32 c11, .float .f32 c12, .int .i64 v13]) T4.agg_44_6 rfl rfl ((B.b 1 rfl).cells (o := 0) rfl)) ?_
    refine s_y (v := .int .i64 u42) rfl (y_move rfl) ?_
    refine s_k rfl (k_call T4.fn_26 (c_i_LaterWave hp28 hp29) rfl ?_)
    rintro v54 w52 hx53
    have hk55 : laterB v8 v9 v10 (twT v14) v13 u42 = true := (la_ok (by omega) (by omega) (by omega) (by omega) (by omega) (by omega))
    obtain ⟨rfl, e56⟩ := (hx53.resolve_right (fun hz => by rw [hk55] at hz; cases hz.1)).2
    clear hx53
    replace B := B.ext0 e56
    clear e56
    refine s_y (v := .tuple #[.agg #[.int .i64 v8, .int .i64 (v9 + u42), .int .i64 v10, .float .f32 c11, .float .f32 c12, .int .i64 v13], .bool true]) rfl (y_move rfl) ?_
    refine s_y (v := .agg #[.int .i64 v8, .int .i64 (v9 + u42), .int .i64 v10, .float .f32 c11, .float .f32 c12, .int .i64 v13]) rfl (y_extract rfl rfl) ?_
    refine s_y (v := .bool true) rfl (y_extract rfl rfl) ?_
    refine s_k rfl (k_allocN (z := (.agg #[.int .i64 0, .int .i64 0, .int .i64 0, .float .f32 0, .float .f32 0, .int .i64 0])) (cs := [.int .i64 0, .int .i64 0, .int .i64 0, .float .f32 0, .float .f32 0, .int .i64 0]) T4.zero_44 rfl (fun b57 w58 hN59 => ?_))
    replace B := B.new1 hN59
    clear hN59
    refine s_k0 rfl (k_stB (v := .agg #[.int .i64 v8, .int .i64 (v9 + u42), .int .i64 v10, .float .f32 c11, .float .f32 c12, .int .i64 v13]) (n := 6) (cs' := [.int .i64 v8, .int .i64 (v9 + u42), .int .i64 v10, .float .f32 c11, .float .f32 c12, .int .i64 v13]) T4.sz_44_6 rfl rfl rfl (B.b 0 rfl) (by simp [Value.cells, Value.oneCell']) (Nat.le_of_ble_eq_true rfl) rfl (fun w60 hU61 => ?_))
    replace B : Bu w no w60 [.blk b57 [.int .i64 v8, .int .i64 (v9 + u42), .int .i64 v10, .float .f32 c11, .float .f32 c12, .int .i64 v13] 44, .ow kF a49 (Int.toNat 8) c50 34 (tab 8 (fun kq => wavT v8 v9 v10 (twT v14) (szT v15) v13 (u37 + kq))), .blk b30 [.int .i64 v8, .int .i64 v9, .int .i64 v10, .float .f32 c11, .float .f32 c12, .int .i64 v13] 44, .rd kY a0 n0 X0, .rd kY a1 n1 X1] := B.upd [0] rfl hU61
    clear hU61
    refine s_y (v := .bool true) rfl (y_assign rfl) ?_
    refine s_nil ?_
    refine W_seq ?_
    refine W_seq ?_
    refine W_region (by kernel_rfl) ?_
    refine s_y (v := .bool true) rfl (y_move rfl) ?_
    refine s_y (v := .bool false) rfl (y_not rfl rfl) ?_
    refine s_y (v := .bool false) rfl (y_move rfl) ?_
    refine s_y (v := .bool true) rfl (y_move rfl) ?_
    refine s_y (v := .bool false) rfl (y_not rfl rfl) ?_
    refine s_y (v := .bool false) rfl (y_pick_f rfl rfl) ?_
    refine s_y (v := .bool false) rfl (y_move rfl) ?_
    refine s_y (v := .slice a49 (Int.toNat 8) c50) rfl (y_move rfl) ?_
    refine s_y (v := .int .i64 ((Int.toNat 8 : Nat) : Int)) rfl (y_len T4.sl_24_34_1 rfl rfl) ?_
    by_cases c62 : ((Int.toNat 8 : Nat) : Int) ≠ 8
    · refine s_y (v := .bool true) rfl (y_neq rfl rfl (decide_eq_true c62)) ?_
      refine s_y (v := .bool true) rfl (y_pick_f rfl rfl) ?_
      refine s_y (v := .bool true) rfl (y_move rfl) ?_
      refine s_skip rfl ?_
      refine s_skip rfl ?_
      refine s_skip rfl ?_
      refine s_y (v := .bool true) rfl (y_pick_t rfl rfl) ?_
      refine s_y (v := .bool true) rfl (y_move rfl) ?_
      refine s_skip rfl ?_
      refine s_skip rfl ?_
      refine s_skip rfl ?_
      refine s_skip rfl ?_
      refine s_skip rfl ?_
      refine s_skip rfl ?_
      refine s_skip rfl ?_
      refine s_y (v := .bool true) rfl (y_pick_t rfl rfl) ?_
      refine s_nil ?_
      refine W_if_t (by decide) rfl ?_
      refine W_seq ?_
      refine W_region (by kernel_rfl) ?_
      refine s_y (v := .bool false) rfl (y_assign rfl) ?_
      refine s_nil ?_
      refine W_ret ?_
      refine ret1 (v := .bool false) rfl rfl rfl ⟨_, rfl, ?_⟩
      exfalso; omega
    · refine s_y (v := .bool false) rfl (y_neq rfl rfl (decide_eq_false c62)) ?_
      refine s_y (v := .bool false) rfl (y_pick_f rfl rfl) ?_
      refine s_y (v := .bool false) rfl (y_move rfl) ?_
      refine s_y (v := .agg #[.int .i64 v8, .int .i64 v9, .int .i64 v10, .float .f32 c11, .float .f32 c12, .int .i64 v13]) rfl (y_loadn (b := b30) (o := 0) (vs := [.int .i64 v8, .int .i64 v9, .int .i64 v10, .float .f32 c11, .float .f32 c12, .int .i64 v13]) T4.agg_44_6 rfl rfl ((B.b 2 rfl).cells (o := 0) rfl)) ?_
      refine s_k rfl (k_call T4.fn_27 (c_i_ValidWave hp28 hp29) rfl ?_)
      rintro v65 w63 ⟨hv66, e64⟩
      replace B := B.ext0 e64
      clear e64
      have hk67 : validW v8 v9 v10 (twT v14) v13 = true := (va_ok (by omega) (by omega) (by omega) (by omega) (by omega))
      have hb68 := validW_b hk67
      obtain rfl : v65 = .bool true := hv66.trans (congrArg Value.bool hk67)
      refine s_y (v := .bool false) rfl (y_not rfl rfl) ?_
      refine s_y (v := .bool false) rfl (y_pick_f rfl rfl) ?_
      refine s_y (v := .bool false) rfl (y_move rfl) ?_
      refine s_y (v := .pointer (some ⟨b57, 1, none⟩)) rfl (y_fld (o := 0) T4.fld_44_1_1 rfl) ?_
      refine s_y (v := .int .i64 (v9 + u42)) rfl (y_load T4.one_2 rfl ((B.b 0 rfl).cell (j := 1) rfl)) ?_
      refine s_y (v := .pointer (some ⟨b30, 1, none⟩)) rfl (y_fld (o := 0) T4.fld_44_1_1 rfl) ?_
      refine s_y (v := .int .i64 v9) rfl (y_load T4.one_2 rfl ((B.b 2 rfl).cell (j := 1) rfl)) ?_
      refine s_y (v := .int .i64 u42) rfl (y_move rfl) ?_
      refine s_y (v := .int .i64 (v9 + u42)) rfl (y_add rfl rfl rfl (by omega)) ?_
      refine s_y (v := .bool false) rfl (y_neq rfl rfl (decide_eq_false (fun hq => hq rfl))) ?_
      refine s_y (v := .bool false) rfl (y_pick_f rfl rfl) ?_
      refine s_nil ?_
      refine W_if_f (by decide) rfl ?_
      refine W_skip ?_
      refine W_seq ?_
      refine W_seq ?_
      refine W_region (by kernel_rfl) ?_
      refine s_y (v := .int .i64 0) rfl (y_assign rfl) ?_
      refine s_nil ?_
      refine W_block ?_
      refine W_loop (fun ρ' w' => ∃ (ρ1 : Env) (k : Int), ρ' = updL ρ1 [(5, .pointer (some ⟨b30, 0, none⟩)), (6, .int .i64 u37), (7, .int .i64 u42), (8, .slice a49 (Int.toNat 8) c50), (10, .pointer (some ⟨b57, 0, none⟩)), (12, .int .i64 k)] ∧ Bu w no w' [.blk b57 [.int .i64 v8, .int .i64 (v9 + u42), .int .i64 v10, .float .f32 c11, .float .f32 c12, .int .i64 v13] 44, .ow kF a49 (Int.toNat 8) c50 34 (tab 8 (fun kq => wavT v8 v9 v10 (twT v14) (szT v15) v13 (u37 + kq))), .blk b30 [.int .i64 v8, .int .i64 v9, .int .i64 v10, .float .f32 c11, .float .f32 c12, .int .i64 v13] 44, .rd kY a0 n0 X0, .rd kY a1 n1 X1] ∧ (0 ≤ k) ∧ (k ≤ 8)) (fun ρ' _ => (8 - iv (ρ' 12)).toNat) ?_ ?_
      · exact ⟨_, 0, Fits.eq ⟨rfl, rfl, rfl, rfl, rfl, rfl, trivial⟩, B, (Int.le_refl _), (by omega)⟩
      · clear B; rintro _ w69 ⟨ρ70, k, rfl, B, h0k, h1k⟩
        refine W_seq ?_
        refine W_seq ?_
        refine W_region (by kernel_rfl) ?_
        refine s_y (v := .int .i64 k) rfl (y_move rfl) ?_
        by_cases c71 : k < 8
        · refine s_y (v := .bool true) rfl (y_lss rfl rfl (decide_eq_true c71)) ?_
          refine s_nil ?_
          refine W_if_t (by decide) rfl ?_
          refine W_skip ?_
          refine W_seq ?_
          refine W_block ?_
          refine W_seq ?_
          refine W_region (by kernel_rfl) ?_
          refine s_y (v := .agg #[.int .i64 v8, .int .i64 v9, .int .i64 v10, .float .f32 c11, .float .f32 c12, .int .i64 v13]) rfl (y_loadn (b := b30) (o := 0) (vs := [.int .i64 v8, .int .i64 v9, .int .i64 v10, .float .f32 c11, .float .f32 c12, .int .i64 v13]) T4.agg_44_6 rfl rfl ((B.b 2 rfl).cells (o := 0) rfl)) ?_
          refine s_y (v := .int .i64 u37) rfl (y_move rfl) ?_
          refine s_y (v := .int .i64 k) rfl (y_move rfl) ?_
          refine s_y (v := .int .i64 (u37 + k)) rfl (y_add rfl rfl rfl (by omega)) ?_
          refine s_k rfl (k_call T4.fn_28 (c_i_WaveAt hp28 hp29 (wav_ok (by omega) (by omega) (by omega))) rfl ?_)
          rintro v74 w72 hx73
          have hk75 : (validW v8 v9 v10 (twT v14) v13 && isTick (u37 + k)) = true := (wa_ok (by omega) (by omega) (by omega) (by omega) (by omega) (by omega))
          obtain ⟨r76, rfl, hr77, e78⟩ := (hx73.resolve_right (fun hz => by rw [hk75] at hz; cases hz.1)).2
          clear hx73
          replace B := B.ext0 e78
          clear e78
          refine s_y (v := .tuple #[.float .f32 r76, .bool true]) rfl (y_move rfl) ?_
          refine s_y (v := .float .f32 r76) rfl (y_extract rfl rfl) ?_
          refine s_y (v := .bool true) rfl (y_extract rfl rfl) ?_
          refine s_y (v := .float .f32 r76) rfl (y_assign rfl) ?_
          refine s_y (v := .bool true) rfl (y_assign rfl) ?_
          refine s_nil ?_
          refine W_seq ?_
          refine W_region (by kernel_rfl) ?_
          refine s_y (v := .agg #[.int .i64 v8, .int .i64 (v9 + u42), .int .i64 v10, .float .f32 c11, .float .f32 c12, .int .i64 v13]) rfl (y_loadn (b := b57) (o := 0) (vs := [.int .i64 v8, .int .i64 (v9 + u42), .int .i64 v10, .float .f32 c11, .float .f32 c12, .int .i64 v13]) T4.agg_44_6 rfl rfl ((B.b 0 rfl).cells (o := 0) rfl)) ?_
          refine s_y (v := .int .i64 u37) rfl (y_move rfl) ?_
          refine s_y (v := .int .i64 k) rfl (y_move rfl) ?_
          refine s_y (v := .int .i64 (u37 + k)) rfl (y_add rfl rfl rfl (by omega)) ?_
          refine s_y (v := .int .i64 u42) rfl (y_move rfl) ?_
          refine s_y (v := .int .i64 ((u37 + k) + u42)) rfl (y_add rfl rfl rfl (by omega)) ?_
          refine s_k rfl (k_call T4.fn_28 (c_i_WaveAt hp28 hp29 (wav_ok (by omega) (by omega) (by omega))) rfl ?_)
          rintro v81 w79 hx80
          have hk82 : (validW v8 (v9 + u42) v10 (twT v14) v13 && isTick ((u37 + k) + u42)) = true := (wa_ok (by omega) (by omega) (by omega) (by omega) (by omega) (by omega))
          obtain ⟨r83, rfl, hr84, e85⟩ := (hx80.resolve_right (fun hz => by rw [hk82] at hz; cases hz.1)).2
          clear hx80
          replace B := B.ext0 e85
          clear e85
          refine s_y (v := .tuple #[.float .f32 r83, .bool true]) rfl (y_move rfl) ?_
          refine s_y (v := .float .f32 r83) rfl (y_extract rfl rfl) ?_
          refine s_y (v := .bool true) rfl (y_extract rfl rfl) ?_
          refine s_y (v := .float .f32 r83) rfl (y_assign rfl) ?_
          refine s_y (v := .bool true) rfl (y_assign rfl) ?_
          refine s_nil ?_
          refine W_seq ?_
          refine W_region (by kernel_rfl) ?_
          refine s_y (v := .int .i64 u37) rfl (y_move rfl) ?_
          refine s_y (v := .int .i64 k) rfl (y_move rfl) ?_
          refine s_y (v := .int .i64 (u37 + k)) rfl (y_add rfl rfl rfl (by omega)) ?_
          refine s_y (v := .pointer (some ⟨b30, 1, none⟩)) rfl (y_fld (o := 0) T4.fld_44_1_1 rfl) ?_
          refine s_y (v := .int .i64 v9) rfl (y_load T4.one_2 rfl ((B.b 2 rfl).cell (j := 1) rfl)) ?_
          refine s_y (v := .int .i64 ((u37 + k) - v9)) rfl (y_sub rfl rfl rfl (by omega)) ?_
          refine s_y (v := .int .i64 ((u37 + k) - v9)) rfl (y_assign rfl) ?_
          refine s_nil ?_
          refine W_seq ?_
          refine W_seq ?_
          refine W_region (by kernel_rfl) ?_
          refine s_y (v := .bool true) rfl (y_move rfl) ?_
          refine s_y (v := .bool false) rfl (y_not rfl rfl) ?_
          refine s_y (v := .bool false) rfl (y_move rfl) ?_
          refine s_y (v := .bool true) rfl (y_move rfl) ?_
          refine s_y (v := .bool false) rfl (y_not rfl rfl) ?_
          refine s_y (v := .bool false) rfl (y_pick_f rfl rfl) ?_
          refine s_y (v := .bool false) rfl (y_move rfl) ?_
          refine s_y (v := .float .f32 r76) rfl (y_move rfl) ?_
          refine s_y (v := .slice a49 (Int.toNat 8) c50) rfl (y_move rfl) ?_
          refine s_y (v := .int .i64 k) rfl (y_move rfl) ?_
          refine s_y (v := .pointer (some (sat a49 ((k).toNat * 1)))) rfl (y_idx T4.sl_24_34_1 rfl rfl ((B.o 1 rfl).rd.addr (by omega)) (by omega) (by omega)) ?_
          obtain ⟨r87, hr88, hR86⟩ := Rd.atF (B.o 1 rfl).rd k (by omega) (by omega)
          refine s_y (v := .float .f32 r87) rfl (y_load T4.one_34 rfl (hR86.cell (i := 0) rfl)) ?_
          refine s_k rfl (k_call T4.fn_29 (c_i_SameNumber hr77 hr88) rfl ?_)
          rintro v91 w89 ⟨hv92, e90⟩
          replace B := B.ext0 e90
          clear e90
          have hk93 : sameN (wavT v8 v9 v10 (twT v14) (szT v15) v13 (u37 + k)) (el (tab 8 (fun kq => wavT v8 v9 v10 (twT v14) (szT v15) v13 (u37 + kq))) k) = true := (by rw [el_tab (by omega) (by omega)]; exact sameN_refl _)
          obtain rfl : v91 = .bool true := hv92.trans (congrArg Value.bool hk93)
          refine s_y (v := .bool false) rfl (y_not rfl rfl) ?_
          refine s_y (v := .bool false) rfl (y_pick_f rfl rfl) ?_
          refine s_y (v := .bool false) rfl (y_move rfl) ?_
          refine s_y (v := .int .i64 ((u37 + k) - v9)) rfl (y_move rfl) ?_
          by_cases c94 : ((u37 + k) - v9) < 0
          · refine s_y (v := .bool true) rfl (y_lss rfl rfl (decide_eq_true c94)) ?_
            refine s_y (v := .bool true) rfl (y_move rfl) ?_
            refine s_y (v := .float .f32 r76) rfl (y_move rfl) ?_
            have hk95 : ¬ (fne .f32 (wavT v8 v9 v10 (twT v14) (szT v15) v13 (u37 + k)) 0 = true) := (by rw [wav_early (by omega)]; decide +kernel)
            refine s_y (v := .bool false) rfl (y_fneq rfl rfl (fneC hr77 (cnLit (k := .f32) (t := 0) (by kernel_rfl) (by kernel_rfl)) (Bool.eq_false_iff.2 hk95))) ?_
            refine s_y (v := .bool false) rfl (y_pick_t rfl rfl) ?_
            refine s_y (v := .bool false) rfl (y_pick_f rfl rfl) ?_
            refine s_y (v := .bool false) rfl (y_move rfl) ?_
            refine s_y (v := .pointer (some ⟨b30, 0, none⟩)) rfl (y_fld (o := 0) T4.fld_44_0_0 rfl) ?_
            refine s_y (v := .int .i64 v8) rfl (y_load T4.one_2 rfl ((B.b 2 rfl).cell (j := 0) rfl)) ?_
            by_cases c96 : v8 ≠ 4
            · refine s_y (v := .bool true) rfl (y_neq rfl rfl (decide_eq_true c96)) ?_
              refine s_y (v := .bool true) rfl (y_move rfl) ?_
              refine s_y (v := .float .f32 r83) rfl (y_move rfl) ?_
              refine s_y (v := .float .f32 r76) rfl (y_move rfl) ?_
              refine s_k rfl (k_call T4.fn_29 (c_i_SameNumber hr84 hr77) rfl ?_)
              rintro v99 w97 ⟨hv100, e98⟩
              replace B := B.ext0 e98
              clear e98
              have hk101 : sameN (wavT v8 (v9 + u42) v10 (twT v14) (szT v15) v13 ((u37 + k) + u42)) (wavT v8 v9 v10 (twT v14) (szT v15) v13 (u37 + k)) = true := (wav_same (by omega) (by omega) (by omega))
              obtain rfl : v99 = .bool true := hv100.trans (congrArg Value.bool hk101)
              refine s_y (v := .bool false) rfl (y_not rfl rfl) ?_
              refine s_y (v := .bool false) rfl (y_pick_t rfl rfl) ?_
              refine s_y (v := .bool false) rfl (y_pick_f rfl rfl) ?_
              refine s_nil ?_
              refine W_if_f (by decide) rfl ?_
              refine W_skip ?_
              refine W_seq ?_
              refine W_region (by kernel_rfl) ?_
              refine s_y (v := .int .i64 ((u37 + k) - v9)) rfl (y_move rfl) ?_
              by_cases c102 : 0 ≤ ((u37 + k) - v9)
              · refine s_y (v := .bool true) rfl (y_geq rfl rfl (decide_eq_true c102)) ?_
                refine s_y (v := .bool true) rfl (y_move rfl) ?_
                refine s_y (v := .int .i64 ((u37 + k) - v9)) rfl (y_move rfl) ?_
                refine s_y (v := .pointer (some ⟨b30, 2, none⟩)) rfl (y_fld (o := 0) T4.fld_44_2_2 rfl) ?_
                refine s_y (v := .int .i64 v10) rfl (y_load T4.one_2 rfl ((B.b 2 rfl).cell (j := 2) rfl)) ?_
                by_cases c103 : ((u37 + k) - v9) < v10
                · refine s_y (v := .bool true) rfl (y_lss rfl rfl (decide_eq_true c103)) ?_
                  refine s_y (v := .bool true) rfl (y_pick_t rfl rfl) ?_
                  refine s_y (v := .bool true) rfl (y_move rfl) ?_
                  refine s_y (v := .pointer (some ⟨b30, 0, none⟩)) rfl (y_fld (o := 0) T4.fld_44_0_0 rfl) ?_
                  refine s_y (v := .int .i64 v8) rfl (y_load T4.one_2 rfl ((B.b 2 rfl).cell (j := 0) rfl)) ?_
                  by_cases c104 : v8 = 0
                  · refine s_y (v := .bool true) rfl (y_eql rfl rfl (decide_eq_true c104)) ?_
                    refine s_y (v := .bool true) rfl (y_pick_t rfl rfl) ?_
                    refine s_y (v := .bool true) rfl (y_move rfl) ?_
                    refine s_y (v := .float .f32 r76) rfl (y_move rfl) ?_
                    refine s_y (v := .pointer (some ⟨b30, 4, none⟩)) rfl (y_fld (o := 0) T4.fld_44_4_4 rfl) ?_
                    refine s_y (v := .float .f32 c12) rfl (y_load T4.one_34 rfl ((B.b 2 rfl).cell (j := 4) rfl)) ?_
                    have hk105 : ¬ (fne .f32 (wavT v8 v9 v10 (twT v14) (szT v15) v13 (u37 + k)) (szT v15) = true) := (by first | (rw [wav_pulse (by omega) (by omega) (by omega)]; exact fne_fin (sz_gq (by omega) (by omega)).1) | (rw [wav_ramp (by omega) (by omega) (by omega)]; exact fne_fin (sz_gq (by omega) (by omega)).1))
                    refine s_y (v := .bool false) rfl (y_fneq rfl rfl (fneC hr77 hp29 (Bool.eq_false_iff.2 hk105))) ?_
                    refine s_y (v := .bool false) rfl (y_pick_t rfl rfl) ?_
                    refine s_y (v := .bool false) rfl (y_move rfl) ?_
                    refine s_y (v := .int .i64 ((u37 + k) - v9)) rfl (y_move rfl) ?_
                    refine s_y (v := .pointer (some ⟨b30, 2, none⟩)) rfl (y_fld (o := 0) T4.fld_44_2_2 rfl) ?_
                    refine s_y (v := .int .i64 v10) rfl (y_load T4.one_2 rfl ((B.b 2 rfl).cell (j := 2) rfl)) ?_
                    by_cases c106 : v10 ≤ ((u37 + k) - v9)
                    · refine s_y (v := .bool true) rfl (y_geq rfl rfl (decide_eq_true c106)) ?_
                      refine s_y (v := .bool true) rfl (y_move rfl) ?_
                      refine s_y (v := .pointer (some ⟨b30, 0, none⟩)) rfl (y_fld (o := 0) T4.fld_44_0_0 rfl) ?_
                      refine s_y (v := .int .i64 v8) rfl (y_load T4.one_2 rfl ((B.b 2 rfl).cell (j := 0) rfl)) ?_
                      by_cases c107 : v8 = 3
                      · refine s_y (v := .bool true) rfl (y_eql rfl rfl (decide_eq_true c107)) ?_
                        refine s_y (v := .bool true) rfl (y_pick_t rfl rfl) ?_
                        refine s_y (v := .bool true) rfl (y_move rfl) ?_
                        refine s_y (v := .float .f32 r76) rfl (y_move rfl) ?_
                        refine s_y (v := .pointer (some ⟨b30, 4, none⟩)) rfl (y_fld (o := 0) T4.fld_44_4_4 rfl) ?_
                        refine s_y (v := .float .f32 c12) rfl (y_load T4.one_34 rfl ((B.b 2 rfl).cell (j := 4) rfl)) ?_
                        refine s_y (v := .bool false) rfl (y_fneq rfl rfl (fneC hr77 hp29 (Bool.eq_false_iff.2 hk105))) ?_
                        refine s_y (v := .bool false) rfl (y_pick_t rfl rfl) ?_
                        refine s_y (v := .bool false) rfl (y_pick_f rfl rfl) ?_
                        refine s_y (v := .bool false) rfl (y_move rfl) ?_
                        refine s_y (v := .float .f32 r76) rfl (y_move rfl) ?_
                        refine s_n rfl (n_wide T4.und_34 T4.flt_53_f64 rfl) ?_
                        rintro _ w110 e111 ⟨r108, rfl, hr109⟩
                        replace B := B.ext0 e111
                        clear e111
                        have hc112 := wideC hr109 hr77
                        have hk113 : ¬ (fgt .f64 (widen (wavT v8 v9 v10 (twT v14) (szT v15) v13 (u37 + k))) 4611688270227201589 = true) := (not_over (wav_gq (by omega) (by omega) (by omega) (by omega))).1
                        refine s_y (v := .bool false) rfl (y_fgtr rfl rfl (fgtC hc112 (cnLit (k := .f64) (t := 4611688270227201589) (by kernel_rfl) (by kernel_rfl)) (Bool.eq_false_iff.2 hk113))) ?_
                        refine s_y (v := .bool false) rfl (y_pick_f rfl rfl) ?_
                        refine s_y (v := .bool false) rfl (y_move rfl) ?_
                        refine s_y (v := .float .f32 r76) rfl (y_move rfl) ?_
                        refine s_n rfl (n_wide T4.und_34 T4.flt_53_f64 rfl) ?_
                        rintro _ w116 e117 ⟨r114, rfl, hr115⟩
                        replace B := B.ext0 e117
                        clear e117
                        have hc118 := wideC hr115 hr77
                        have hk119 : ¬ (flt .f64 (widen (wavT v8 v9 v10 (twT v14) (szT v15) v13 (u37 + k))) 13835060307081977397 = true) := (not_over (wav_gq (by omega) (by omega) (by omega) (by omega))).2
                        refine s_y (v := .bool false) rfl (y_flss rfl rfl (fltC hc118 (cnLit (k := .f64) (t := 13835060307081977397) (by kernel_rfl) (by kernel_rfl)) (Bool.eq_false_iff.2 hk119))) ?_
                        refine s_y (v := .bool false) rfl (y_pick_f rfl rfl) ?_
                        refine s_nil ?_
                        refine W_if_f (by decide) rfl ?_
                        refine W_skip ?_
                        refine W_region (by kernel_rfl) ?_
                        refine s_y (v := .int .i64 k) rfl (y_move rfl) ?_
                        refine s_y (v := .int .i64 (k + 1)) rfl (y_add rfl rfl rfl (by omega)) ?_
                        refine s_y (v := .int .i64 (k + 1)) rfl (y_assign rfl) ?_
                        refine s_nil ?_
                        refine ⟨⟨_, k + 1, Fits.eq ⟨rfl, rfl, rfl, rfl, rfl, rfl, trivial⟩, B, (by omega), (by omega)⟩, ?_⟩
                        show (8 - (k + 1)).toNat < (8 - k).toNat
                        omega
                      · refine s_y (v := .bool false) rfl (y_eql rfl rfl (decide_eq_false c107)) ?_
                        refine s_y (v := .bool false) rfl (y_pick_t rfl rfl) ?_
                        refine s_y (v := .bool false) rfl (y_move rfl) ?_
                        refine s_skip rfl ?_
                        refine s_skip rfl ?_
                        refine s_skip rfl ?_
                        refine s_skip rfl ?_
                        refine s_y (v := .bool false) rfl (y_pick_f rfl rfl) ?_
                        refine s_y (v := .bool false) rfl (y_pick_f rfl rfl) ?_
                        refine s_y (v := .bool false) rfl (y_move rfl) ?_
                        refine s_y (v := .float .f32 r76) rfl (y_move rfl) ?_
                        refine s_n rfl (n_wide T4.und_34 T4.flt_53_f64 rfl) ?_
                        rintro _ w122 e123 ⟨r120, rfl, hr121⟩
                        replace B := B.ext0 e123
                        clear e123
                        have hc124 := wideC hr121 hr77
                        have hk125 : ¬ (fgt .f64 (widen (wavT v8 v9 v10 (twT v14) (szT v15) v13 (u37 + k))) 4611688270227201589 = true) := (not_over (wav_gq (by omega) (by omega) (by omega) (by omega))).1
                        refine s_y (v := .bool false) rfl (y_fgtr rfl rfl (fgtC hc124 (cnLit (k := .f64) (t := 4611688270227201589) (by kernel_rfl) (by kernel_rfl)) (Bool.eq_false_iff.2 hk125))) ?_
                        refine s_y (v := .bool false) rfl (y_pick_f rfl rfl) ?_
                        refine s_y (v := .bool false) rfl (y_move rfl) ?_
                        refine s_y (v := .float .f32 r76) rfl (y_move rfl) ?_
                        refine s_n rfl (n_wide T4.und_34 T4.flt_53_f64 rfl) ?_
                        rintro _ w128 e129 ⟨r126, rfl, hr127⟩
                        replace B := B.ext0 e129
                        clear e129
                        have hc130 := wideC hr127 hr77
                        have hk131 : ¬ (flt .f64 (widen (wavT v8 v9 v10 (twT v14) (szT v15) v13 (u37 + k))) 13835060307081977397 = true) := (not_over (wav_gq (by omega) (by omega) (by omega) (by omega))).2
                        refine s_y (v := .bool false) rfl (y_flss rfl rfl (fltC hc130 (cnLit (k := .f64) (t := 13835060307081977397) (by kernel_rfl) (by kernel_rfl)) (Bool.eq_false_iff.2 hk131))) ?_
                        refine s_y (v := .bool false) rfl (y_pick_f rfl rfl) ?_
                        refine s_nil ?_
                        refine W_if_f (by decide) rfl ?_
                        refine W_skip ?_
                        refine W_region (by kernel_rfl) ?_
                        refine s_y (v := .int .i64 k) rfl (y_move rfl) ?_
                        refine s_y (v := .int .i64 (k + 1)) rfl (y_add rfl rfl rfl (by omega)) ?_
                        refine s_y (v := .int .i64 (k + 1)) rfl (y_assign rfl) ?_
                        refine s_nil ?_
                        refine ⟨⟨_, k + 1, Fits.eq ⟨rfl, rfl, rfl, rfl, rfl, rfl, trivial⟩, B, (by omega), (by omega)⟩, ?_⟩
                        show (8 - (k + 1)).toNat < (8 - k).toNat
                        omega
                    · refine s_y (v := .bool false) rfl (y_geq rfl rfl (decide_eq_false c106)) ?_
                      refine s_y (v := .bool false) rfl (y_move rfl) ?_
                      refine s_skip rfl ?_
                      refine s_skip rfl ?_
                      refine s_skip rfl ?_
                      refine s_y (v := .bool false) rfl (y_pick_f rfl rfl) ?_
                      refine s_y (v := .bool false) rfl (y_move rfl) ?_
                      refine s_skip rfl ?_
                      refine s_skip rfl ?_
                      refine s_skip rfl ?_
                      refine s_skip rfl ?_
                      refine s_y (v := .bool false) rfl (y_pick_f rfl rfl) ?_
                      refine s_y (v := .bool false) rfl (y_pick_f rfl rfl) ?_
                      refine s_y (v := .bool false) rfl (y_move rfl) ?_
                      refine s_y (v := .float .f32 r76) rfl (y_move rfl) ?_
                      refine s_n rfl (n_wide T4.und_34 T4.flt_53_f64 rfl) ?_
                      rintro _ w134 e135 ⟨r132, rfl, hr133⟩
                      replace B := B.ext0 e135
                      clear e135
                      have hc136 := wideC hr133 hr77
                      have hk137 : ¬ (fgt .f64 (widen (wavT v8 v9 v10 (twT v14) (szT v15) v13 (u37 + k))) 4611688270227201589 = true) := (not_over (wav_gq (by omega) (by omega) (by omega) (by omega))).1
                      refine s_y (v := .bool false) rfl (y_fgtr rfl rfl (fgtC hc136 (cnLit (k := .f64) (t := 4611688270227201589) (by kernel_rfl) (by kernel_rfl)) (Bool.eq_false_iff.2 hk137))) ?_
                      refine s_y (v := .bool false) rfl (y_pick_f rfl rfl) ?_
                      refine s_y (v := .bool false) rfl (y_move rfl) ?_
                      refine s_y (v := .float .f32 r76) rfl (y_move rfl) ?_
                      refine s_n rfl (n_wide T4.und_34 T4.flt_53_f64 rfl) ?_
                      rintro _ w140 e141 ⟨r138, rfl, hr139⟩
                      replace B := B.ext0 e141
                      clear e141
                      have hc142 := wideC hr139 hr77
                      have hk143 : ¬ (flt .f64 (widen (wavT v8 v9 v10 (twT v14) (szT v15) v13 (u37 + k))) 13835060307081977397 = true) := (not_over (wav_gq (by omega) (by omega) (by omega) (by omega))).2
                      refine s_y (v := .bool false) rfl (y_flss rfl rfl (fltC hc142 (cnLit (k := .f64) (t := 13835060307081977397) (by kernel_rfl) (by kernel_rfl)) (Bool.eq_false_iff.2 hk143))) ?_
                      refine s_y (v := .bool false) rfl (y_pick_f rfl rfl) ?_
                      refine s_nil ?_
                      refine W_if_f (by decide) rfl ?_
                      refine W_skip ?_
                      refine W_region (by kernel_rfl) ?_
                      refine s_y (v := .int .i64 k) rfl (y_move rfl) ?_
                      refine s_y (v := .int .i64 (k + 1)) rfl (y_add rfl rfl rfl (by omega)) ?_
                      refine s_y (v := .int .i64 (k + 1)) rfl (y_assign rfl) ?_
                      refine s_nil ?_
                      refine ⟨⟨_, k + 1, Fits.eq ⟨rfl, rfl, rfl, rfl, rfl, rfl, trivial⟩, B, (by omega), (by omega)⟩, ?_⟩
                      show (8 - (k + 1)).toNat < (8 - k).toNat
                      omega
                  · refine s_y (v := .bool false) rfl (y_eql rfl rfl (decide_eq_false c104)) ?_
                    refine s_y (v := .bool false) rfl (y_pick_t rfl rfl) ?_
                    refine s_y (v := .bool false) rfl (y_move rfl) ?_
                    refine s_skip rfl ?_
                    refine s_skip rfl ?_
                    refine s_skip rfl ?_
                    refine s_skip rfl ?_
                    refine s_y (v := .bool false) rfl (y_pick_f rfl rfl) ?_
                    refine s_y (v := .bool false) rfl (y_move rfl) ?_
                    refine s_y (v := .int .i64 ((u37 + k) - v9)) rfl (y_move rfl) ?_
                    refine s_y (v := .pointer (some ⟨b30, 2, none⟩)) rfl (y_fld (o := 0) T4.fld_44_2_2 rfl) ?_
                    refine s_y (v := .int .i64 v10) rfl (y_load T4.one_2 rfl ((B.b 2 rfl).cell (j := 2) rfl)) ?_
                    by_cases c144 : v10 ≤ ((u37 + k) - v9)
                    · refine s_y (v := .bool true) rfl (y_geq rfl rfl (decide_eq_true c144)) ?_
                      refine s_y (v := .bool true) rfl (y_move rfl) ?_
                      refine s_y (v := .pointer (some ⟨b30, 0, none⟩)) rfl (y_fld (o := 0) T4.fld_44_0_0 rfl) ?_
                      refine s_y (v := .int .i64 v8) rfl (y_load T4.one_2 rfl ((B.b 2 rfl).cell (j := 0) rfl)) ?_
                      by_cases c145 : v8 = 3
                      · refine s_y (v := .bool true) rfl (y_eql rfl rfl (decide_eq_true c145)) ?_
                        refine s_y (v := .bool true) rfl (y_pick_t rfl rfl) ?_
                        refine s_y (v := .bool true) rfl (y_move rfl) ?_
                        refine s_y (v := .float .f32 r76) rfl (y_move rfl) ?_
                        refine s_y (v := .pointer (some ⟨b30, 4, none⟩)) rfl (y_fld (o := 0) T4.fld_44_4_4 rfl) ?_
                        refine s_y (v := .float .f32 c12) rfl (y_load T4.one_34 rfl ((B.b 2 rfl).cell (j := 4) rfl)) ?_
                        have hk146 : ¬ (fne .f32 (wavT v8 v9 v10 (twT v14) (szT v15) v13 (u37 + k)) (szT v15) = true) := (by first | (rw [wav_pulse (by omega) (by omega) (by omega)]; exact fne_fin (sz_gq (by omega) (by omega)).1) | (rw [wav_ramp (by omega) (by omega) (by omega)]; exact fne_fin (sz_gq (by omega) (by omega)).1))
                        refine s_y (v := .bool false) rfl (y_fneq rfl rfl (fneC hr77 hp29 (Bool.eq_false_iff.2 hk146))) ?_
                        refine s_y (v := .bool false) rfl (y_pick_t rfl rfl) ?_
                        refine s_y (v := .bool false) rfl (y_pick_f rfl rfl) ?_
                        refine s_y (v := .bool false) rfl (y_move rfl) ?_
                        refine s_y (v := .float .f32 r76) rfl (y_move rfl) ?_
                        refine s_n rfl (n_wide T4.und_34 T4.flt_53_f64 rfl) ?_
                        rintro _ w149 e150 ⟨r147, rfl, hr148⟩
                        replace B := B.ext0 e150
                        clear e150
                        have hc151 := wideC hr148 hr77
                        have hk152 : ¬ (fgt .f64 (widen (wavT v8 v9 v10 (twT v14) (szT v15) v13 (u37 + k))) 4611688270227201589 = true) := (not_over (wav_gq (by omega) (by omega) (by omega) (by omega))).1
                        refine s_y (v := .bool false) rfl (y_fgtr rfl rfl (fgtC hc151 (cnLit (k := .f64) (t := 4611688270227201589) (by kernel_rfl) (by kernel_rfl)) (Bool.eq_false_iff.2 hk152))) ?_
                        refine s_y (v := .bool false) rfl (y_pick_f rfl rfl) ?_
                        refine s_y (v := .bool false) rfl (y_move rfl) ?_
                        refine s_y (v := .float .f32 r76) rfl (y_move rfl) ?_
                        refine s_n rfl (n_wide T4.und_34 T4.flt_53_f64 rfl) ?_
                        rintro _ w155 e156 ⟨r153, rfl, hr154⟩
                        replace B := B.ext0 e156
                        clear e156
                        have hc157 := wideC hr154 hr77
                        have hk158 : ¬ (flt .f64 (widen (wavT v8 v9 v10 (twT v14) (szT v15) v13 (u37 + k))) 13835060307081977397 = true) := (not_over (wav_gq (by omega) (by omega) (by omega) (by omega))).2
                        refine s_y (v := .bool false) rfl (y_flss rfl rfl (fltC hc157 (cnLit (k := .f64) (t := 13835060307081977397) (by kernel_rfl) (by kernel_rfl)) (Bool.eq_false_iff.2 hk158))) ?_
                        refine s_y (v := .bool false) rfl (y_pick_f rfl rfl) ?_
                        refine s_nil ?_
                        refine W_if_f (by decide) rfl ?_
                        refine W_skip ?_
                        refine W_region (by kernel_rfl) ?_
                        refine s_y (v := .int .i64 k) rfl (y_move rfl) ?_
                        refine s_y (v := .int .i64 (k + 1)) rfl (y_add rfl rfl rfl (by omega)) ?_
                        refine s_y (v := .int .i64 (k + 1)) rfl (y_assign rfl) ?_
                        refine s_nil ?_
                        refine ⟨⟨_, k + 1, Fits.eq ⟨rfl, rfl, rfl, rfl, rfl, rfl, trivial⟩, B, (by omega), (by omega)⟩, ?_⟩
                        show (8 - (k + 1)).toNat < (8 - k).toNat
                        omega
                      · refine s_y (v := .bool false) rfl (y_eql rfl rfl (decide_eq_false c145)) ?_
                        refine s_y (v := .bool false) rfl (y_pick_t rfl rfl) ?_
                        refine s_y (v := .bool false) rfl (y_move rfl) ?_
                        refine s_skip rfl ?_
                        refine s_skip rfl ?_
                        refine s_skip rfl ?_
                        refine s_skip rfl ?_
                        refine s_y (v := .bool false) rfl (y_pick_f rfl rfl) ?_
                        refine s_y (v := .bool false) rfl (y_pick_f rfl rfl) ?_
                        refine s_y (v := .bool false) rfl (y_move rfl) ?_
                        refine s_y (v := .float .f32 r76) rfl (y_move rfl) ?_
                        refine s_n rfl (n_wide T4.und_34 T4.flt_53_f64 rfl) ?_
                        rintro _ w161 e162 ⟨r159, rfl, hr160⟩
                        replace B := B.ext0 e162
                        clear e162
                        have hc163 := wideC hr160 hr77
                        have hk164 : ¬ (fgt .f64 (widen (wavT v8 v9 v10 (twT v14) (szT v15) v13 (u37 + k))) 4611688270227201589 = true) := (not_over (wav_gq (by omega) (by omega) (by omega) (by omega))).1
                        refine s_y (v := .bool false) rfl (y_fgtr rfl rfl (fgtC hc163 (cnLit (k := .f64) (t := 4611688270227201589) (by kernel_rfl) (by kernel_rfl)) (Bool.eq_false_iff.2 hk164))) ?_
                        refine s_y (v := .bool false) rfl (y_pick_f rfl rfl) ?_
                        refine s_y (v := .bool false) rfl (y_move rfl) ?_
                        refine s_y (v := .float .f32 r76) rfl (y_move rfl) ?_
                        refine s_n rfl (n_wide T4.und_34 T4.flt_53_f64 rfl) ?_
                        rintro _ w167 e168 ⟨r165, rfl, hr166⟩
                        replace B := B.ext0 e168
                        clear e168
                        have hc169 := wideC hr166 hr77
                        have hk170 : ¬ (flt .f64 (widen (wavT v8 v9 v10 (twT v14) (szT v15) v13 (u37 + k))) 13835060307081977397 = true) := (not_over (wav_gq (by omega) (by omega) (by omega) (by omega))).2
                        refine s_y (v := .bool false) rfl (y_flss rfl rfl (fltC hc169 (cnLit (k := .f64) (t := 13835060307081977397) (by kernel_rfl) (by kernel_rfl)) (Bool.eq_false_iff.2 hk170))) ?_
                        refine s_y (v := .bool false) rfl (y_pick_f rfl rfl) ?_
                        refine s_nil ?_
                        refine W_if_f (by decide) rfl ?_
                        refine W_skip ?_
                        refine W_region (by kernel_rfl) ?_
                        refine s_y (v := .int .i64 k) rfl (y_move rfl) ?_
                        refine s_y (v := .int .i64 (k + 1)) rfl (y_add rfl rfl rfl (by omega)) ?_
                        refine s_y (v := .int .i64 (k + 1)) rfl (y_assign rfl) ?_
                        refine s_nil ?_
                        refine ⟨⟨_, k + 1, Fits.eq ⟨rfl, rfl, rfl, rfl, rfl, rfl, trivial⟩, B, (by omega), (by omega)⟩, ?_⟩
                        show (8 - (k + 1)).toNat < (8 - k).toNat
                        omega
                    · refine s_y (v := .bool false) rfl (y_geq rfl rfl (decide_eq_false c144)) ?_
                      refine s_y (v := .bool false) rfl (y_move rfl) ?_
                      refine s_skip rfl ?_
                      refine s_skip rfl ?_
                      refine s_skip rfl ?_
                      refine s_y (v := .bool false) rfl (y_pick_f rfl rfl) ?_
                      refine s_y (v := .bool false) rfl (y_move rfl) ?_
                      refine s_skip rfl ?_
                      refine s_skip rfl ?_
                      refine s_skip rfl ?_
                      refine s_skip rfl ?_
                      refine s_y (v := .bool false) rfl (y_pick_f rfl rfl) ?_
                      refine s_y (v := .bool false) rfl (y_pick_f rfl rfl) ?_
                      refine s_y (v := .bool false) rfl (y_move rfl) ?_
                      refine s_y (v := .float .f32 r76) rfl (y_move rfl) ?_
                      refine s_n rfl (n_wide T4.und_34 T4.flt_53_f64 rfl) ?_
                      rintro _ w173 e174 ⟨r171, rfl, hr172⟩
                      replace B := B.ext0 e174
                      clear e174
                      have hc175 := wideC hr172 hr77
                      have hk176 : ¬ (fgt .f64 (widen (wavT v8 v9 v10 (twT v14) (szT v15) v13 (u37 + k))) 4611688270227201589 = true) := (not_over (wav_gq (by omega) (by omega) (by omega) (by omega))).1
                      refine s_y (v := .bool false) rfl (y_fgtr rfl rfl (fgtC hc175 (cnLit (k := .f64) (t := 4611688270227201589) (by kernel_rfl) (by kernel_rfl)) (Bool.eq_false_iff.2 hk176))) ?_
                      refine s_y (v := .bool false) rfl (y_pick_f rfl rfl) ?_
                      refine s_y (v := .bool false) rfl (y_move rfl) ?_
                      refine s_y (v := .float .f32 r76) rfl (y_move rfl) ?_
                      refine s_n rfl (n_wide T4.und_34 T4.flt_53_f64 rfl) ?_
                      rintro _ w179 e180 ⟨r177, rfl, hr178⟩
                      replace B := B.ext0 e180
                      clear e180
                      have hc181 := wideC hr178 hr77
                      have hk182 : ¬ (flt .f64 (widen (wavT v8 v9 v10 (twT v14) (szT v15) v13 (u37 + k))) 13835060307081977397 = true) := (not_over (wav_gq (by omega) (by omega) (by omega) (by omega))).2
                      refine s_y (v := .bool false) rfl (y_flss rfl rfl (fltC hc181 (cnLit (k := .f64) (t := 13835060307081977397) (by kernel_rfl) (by kernel_rfl)) (Bool.eq_false_iff.2 hk182))) ?_
                      refine s_y (v := .bool false) rfl (y_pick_f rfl rfl) ?_
                      refine s_nil ?_
                      refine W_if_f (by decide) rfl ?_
                      refine W_skip ?_
                      refine W_region (by kernel_rfl) ?_
                      refine s_y (v := .int .i64 k) rfl (y_move rfl) ?_
                      refine s_y (v := .int .i64 (k + 1)) rfl (y_add rfl rfl rfl (by omega)) ?_
                      refine s_y (v := .int .i64 (k + 1)) rfl (y_assign rfl) ?_
                      refine s_nil ?_
                      refine ⟨⟨_, k + 1, Fits.eq ⟨rfl, rfl, rfl, rfl, rfl, rfl, trivial⟩, B, (by omega), (by omega)⟩, ?_⟩
                      show (8 - (k + 1)).toNat < (8 - k).toNat
                      omega
                · refine s_y (v := .bool false) rfl (y_lss rfl rfl (decide_eq_false c103)) ?_
                  refine s_y (v := .bool false) rfl (y_pick_t rfl rfl) ?_
                  refine s_y (v := .bool false) rfl (y_move rfl) ?_
                  refine s_skip rfl ?_
                  refine s_skip rfl ?_
                  refine s_skip rfl ?_
                  refine s_y (v := .bool false) rfl (y_pick_f rfl rfl) ?_
                  refine s_y (v := .bool false) rfl (y_move rfl) ?_
                  refine s_skip rfl ?_
                  refine s_skip rfl ?_
                  refine s_skip rfl ?_
                  refine s_skip rfl ?_
                  refine s_y (v := .bool false) rfl (y_pick_f rfl rfl) ?_
                  refine s_y (v := .bool false) rfl (y_move rfl) ?_
                  refine s_y (v := .int .i64 ((u37 + k) - v9)) rfl (y_move rfl) ?_
                  refine s_y (v := .pointer (some ⟨b30, 2, none⟩)) rfl (y_fld (o := 0) T4.fld_44_2_2 rfl) ?_
                  refine s_y (v := .int .i64 v10) rfl (y_load T4.one_2 rfl ((B.b 2 rfl).cell (j := 2) rfl)) ?_
                  by_cases c183 : v10 ≤ ((u37 + k) - v9)
                  · refine s_y (v := .bool true) rfl (y_geq rfl rfl (decide_eq_true c183)) ?_
                    refine s_y (v := .bool true) rfl (y_move rfl) ?_
                    refine s_y (v := .pointer (some ⟨b30, 0, none⟩)) rfl (y_fld (o := 0) T4.fld_44_0_0 rfl) ?_
                    refine s_y (v := .int .i64 v8) rfl (y_load T4.one_2 rfl ((B.b 2 rfl).cell (j := 0) rfl)) ?_
                    by_cases c184 : v8 = 3
                    · refine s_y (v := .bool true) rfl (y_eql rfl rfl (decide_eq_true c184)) ?_
                      refine s_y (v := .bool true) rfl (y_pick_t rfl rfl) ?_
                      refine s_y (v := .bool true) rfl (y_move rfl) ?_
                      refine s_y (v := .float .f32 r76) rfl (y_move rfl) ?_
                      refine s_y (v := .pointer (some ⟨b30, 4, none⟩)) rfl (y_fld (o := 0) T4.fld_44_4_4 rfl) ?_
                      refine s_y (v := .float .f32 c12) rfl (y_load T4.one_34 rfl ((B.b 2 rfl).cell (j := 4) rfl)) ?_
                      have hk185 : ¬ (fne .f32 (wavT v8 v9 v10 (twT v14) (szT v15) v13 (u37 + k)) (szT v15) = true) := (by first | (rw [wav_pulse (by omega) (by omega) (by omega)]; exact fne_fin (sz_gq (by omega) (by omega)).1) | (rw [wav_ramp (by omega) (by omega) (by omega)]; exact fne_fin (sz_gq (by omega) (by omega)).1))
                      refine s_y (v := .bool false) rfl (y_fneq rfl rfl (fneC hr77 hp29 (Bool.eq_false_iff.2 hk185))) ?_
                      refine s_y (v := .bool false) rfl (y_pick_t rfl rfl) ?_
                      refine s_y (v := .bool false) rfl (y_pick_f rfl rfl) ?_
                      refine s_y (v := .bool false) rfl (y_move rfl) ?_
                      refine s_y (v := .float .f32 r76) rfl (y_move rfl) ?_
                      refine s_n rfl (n_wide T4.und_34 T4.flt_53_f64 rfl) ?_
                      rintro _ w188 e189 ⟨r186, rfl, hr187⟩
                      replace B := B.ext0 e189
                      clear e189
                      have hc190 := wideC hr187 hr77
                      have hk191 : ¬ (fgt .f64 (widen (wavT v8 v9 v10 (twT v14) (szT v15) v13 (u37 + k))) 4611688270227201589 = true) := (not_over (wav_gq (by omega) (by omega) (by omega) (by omega))).1
                      refine s_y (v := .bool false) rfl (y_fgtr rfl rfl (fgtC hc190 (cnLit (k := .f64) (t := 4611688270227201589) (by kernel_rfl) (by kernel_rfl)) (Bool.eq_false_iff.2 hk191))) ?_
                      refine s_y (v := .bool false) rfl (y_pick_f rfl rfl) ?_
                      refine s_y (v := .bool false) rfl (y_move rfl) ?_
                      refine s_y (v := .float .f32 r76) rfl (y_move rfl) ?_
                      refine s_n rfl (n_wide T4.und_34 T4.flt_53_f64 rfl) ?_
                      rintro _ w194 e195 ⟨r192, rfl, hr193⟩
                      replace B := B.ext0 e195
                      clear e195
                      have hc196 := wideC hr193 hr77
                      have hk197 : ¬ (flt .f64 (widen (wavT v8 v9 v10 (twT v14) (szT v15) v13 (u37 + k))) 13835060307081977397 = true) := (not_over (wav_gq (by omega) (by omega) (by omega) (by omega))).2
                      refine s_y (v := .bool false) rfl (y_flss rfl rfl (fltC hc196 (cnLit (k := .f64) (t := 13835060307081977397) (by kernel_rfl) (by kernel_rfl)) (Bool.eq_false_iff.2 hk197))) ?_
                      refine s_y (v := .bool false) rfl (y_pick_f rfl rfl) ?_
                      refine s_nil ?_
                      refine W_if_f (by decide) rfl ?_
                      refine W_skip ?_
                      refine W_region (by kernel_rfl) ?_
                      refine s_y (v := .int .i64 k) rfl (y_move rfl) ?_
                      refine s_y (v := .int .i64 (k + 1)) rfl (y_add rfl rfl rfl (by omega)) ?_
                      refine s_y (v := .int .i64 (k + 1)) rfl (y_assign rfl) ?_
                      refine s_nil ?_
                      refine ⟨⟨_, k + 1, Fits.eq ⟨rfl, rfl, rfl, rfl, rfl, rfl, trivial⟩, B, (by omega), (by omega)⟩, ?_⟩
                      show (8 - (k + 1)).toNat < (8 - k).toNat
                      omega
                    · refine s_y (v := .bool false) rfl (y_eql rfl rfl (decide_eq_false c184)) ?_
                      refine s_y (v := .bool false) rfl (y_pick_t rfl rfl) ?_
                      refine s_y (v := .bool false) rfl (y_move rfl) ?_
                      refine s_skip rfl ?_
                      refine s_skip rfl ?_
                      refine s_skip rfl ?_
                      refine s_skip rfl ?_
                      refine s_y (v := .bool false) rfl (y_pick_f rfl rfl) ?_
                      refine s_y (v := .bool false) rfl (y_pick_f rfl rfl) ?_
                      refine s_y (v := .bool false) rfl (y_move rfl) ?_
                      refine s_y (v := .float .f32 r76) rfl (y_move rfl) ?_
                      refine s_n rfl (n_wide T4.und_34 T4.flt_53_f64 rfl) ?_
                      rintro _ w200 e201 ⟨r198, rfl, hr199⟩
                      replace B := B.ext0 e201
                      clear e201
                      have hc202 := wideC hr199 hr77
                      have hk203 : ¬ (fgt .f64 (widen (wavT v8 v9 v10 (twT v14) (szT v15) v13 (u37 + k))) 4611688270227201589 = true) := (not_over (wav_gq (by omega) (by omega) (by omega) (by omega))).1
                      refine s_y (v := .bool false) rfl (y_fgtr rfl rfl (fgtC hc202 (cnLit (k := .f64) (t := 4611688270227201589) (by kernel_rfl) (by kernel_rfl)) (Bool.eq_false_iff.2 hk203))) ?_
                      refine s_y (v := .bool false) rfl (y_pick_f rfl rfl) ?_
                      refine s_y (v := .bool false) rfl (y_move rfl) ?_
                      refine s_y (v := .float .f32 r76) rfl (y_move rfl) ?_
                      refine s_n rfl (n_wide T4.und_34 T4.flt_53_f64 rfl) ?_
                      rintro _ w206 e207 ⟨r204, rfl, hr205⟩
                      replace B := B.ext0 e207
                      clear e207
                      have hc208 := wideC hr205 hr77
                      have hk209 : ¬ (flt .f64 (widen (wavT v8 v9 v10 (twT v14) (szT v15) v13 (u37 + k))) 13835060307081977397 = true) := (not_over (wav_gq (by omega) (by omega) (by omega) (by omega))).2
                      refine s_y (v := .bool false) rfl (y_flss rfl rfl (fltC hc208 (cnLit (k := .f64) (t := 13835060307081977397) (by kernel_rfl) (by kernel_rfl)) (Bool.eq_false_iff.2 hk209))) ?_
                      refine s_y (v := .bool false) rfl (y_pick_f rfl rfl) ?_
                      refine s_nil ?_
                      refine W_if_f (by decide) rfl ?_
                      refine W_skip ?_
                      refine W_region (by kernel_rfl) ?_
                      refine s_y (v := .int .i64 k) rfl (y_move rfl) ?_
                      refine s_y (v := .int .i64 (k + 1)) rfl (y_add rfl rfl rfl (by omega)) ?_
                      refine s_y (v := .int .i64 (k + 1)) rfl (y_assign rfl) ?_
                      refine s_nil ?_
                      refine ⟨⟨_, k + 1, Fits.eq ⟨rfl, rfl, rfl, rfl, rfl, rfl, trivial⟩, B, (by omega), (by omega)⟩, ?_⟩
                      show (8 - (k + 1)).toNat < (8 - k).toNat
                      omega
                  · refine s_y (v := .bool false) rfl (y_geq rfl rfl (decide_eq_false c183)) ?_
                    refine s_y (v := .bool false) rfl (y_move rfl) ?_
                    refine s_skip rfl ?_
                    refine s_skip rfl ?_
                    refine s_skip rfl ?_
                    refine s_y (v := .bool false) rfl (y_pick_f rfl rfl) ?_
                    refine s_y (v := .bool false) rfl (y_move rfl) ?_
                    refine s_skip rfl ?_
                    refine s_skip rfl ?_
                    refine s_skip rfl ?_
                    refine s_skip rfl ?_
                    refine s_y (v := .bool false) rfl (y_pick_f rfl rfl) ?_
                    refine s_y (v := .bool false) rfl (y_pick_f rfl rfl) ?_
                    refine s_y (v := .bool false) rfl (y_move rfl) ?_
                    refine s_y (v := .float .f32 r76) rfl (y_move rfl) ?_
                    refine s_n rfl (n_wide T4.und_34 T4.flt_53_f64 rfl) ?_
                    rintro _ w212 e213 ⟨r210, rfl, hr211⟩
                    replace B := B.ext0 e213
                    clear e213
                    have hc214 := wideC hr211 hr77
                    have hk215 : ¬ (fgt .f64 (widen (wavT v8 v9 v10 (twT v14) (szT v15) v13 (u37 + k))) 4611688270227201589 = true) := (not_over (wav_gq (by omega) (by omega) (by omega) (by omega))).1
                    refine s_y (v := .bool false) rfl (y_fgtr rfl rfl (fgtC hc214 (cnLit (k := .f64) (t := 4611688270227201589) (by kernel_rfl) (by kernel_rfl)) (Bool.eq_false_iff.2 hk215))) ?_
                    refine s_y (v := .bool false) rfl (y_pick_f rfl rfl) ?_
                    refine s_y (v := .bool false) rfl (y_move rfl) ?_
                    refine s_y (v := .float .f32 r76) rfl (y_move rfl) ?_
                    refine s_n rfl (n_wide T4.und_34 T4.flt_53_f64 rfl) ?_
                    rintro _ w218 e219 ⟨r216, rfl, hr217⟩
                    replace B := B.ext0 e219
                    clear e219
                    have hc220 := wideC hr217 hr77
                    have hk221 : ¬ (flt .f64 (widen (wavT v8 v9 v10 (twT v14) (szT v15) v13 (u37 + k))) 13835060307081977397 = true) := (not_over (wav_gq (by omega) (by omega) (by omega) (by omega))).2
                    refine s_y (v := .bool false) rfl (y_flss rfl rfl (fltC hc220 (cnLit (k := .f64) (t := 13835060307081977397) (by kernel_rfl) (by kernel_rfl)) (Bool.eq_false_iff.2 hk221))) ?_
                    refine s_y (v := .bool false) rfl (y_pick_f rfl rfl) ?_
                    refine s_nil ?_
                    refine W_if_f (by decide) rfl ?_
                    refine W_skip ?_
                    refine W_region (by kernel_rfl) ?_
                    refine s_y (v := .int .i64 k) rfl (y_move rfl) ?_
                    refine s_y (v := .int .i64 (k + 1)) rfl (y_add rfl rfl rfl (by omega)) ?_
                    refine s_y (v := .int .i64 (k + 1)) rfl (y_assign rfl) ?_
                    refine s_nil ?_
                    refine ⟨⟨_, k + 1, Fits.eq ⟨rfl, rfl, rfl, rfl, rfl, rfl, trivial⟩, B, (by omega), (by omega)⟩, ?_⟩
                    show (8 - (k + 1)).toNat < (8 - k).toNat
                    omega
              · refine s_y (v := .bool false) rfl (y_geq rfl rfl (decide_eq_false c102)) ?_
                refine s_y (v := .bool false) rfl (y_move rfl) ?_
                refine s_skip rfl ?_
                refine s_skip rfl ?_
                refine s_skip rfl ?_
                refine s_skip rfl ?_
                refine s_y (v := .bool false) rfl (y_pick_f rfl rfl) ?_
                refine s_y (v := .bool false) rfl (y_move rfl) ?_
                refine s_skip rfl ?_
                refine s_skip rfl ?_
                refine s_skip rfl ?_
                refine s_y (v := .bool false) rfl (y_pick_f rfl rfl) ?_
                refine s_y (v := .bool false) rfl (y_move rfl) ?_
                refine s_skip rfl ?_
                refine s_skip rfl ?_
                refine s_skip rfl ?_
                refine s_skip rfl ?_
                refine s_y (v := .bool false) rfl (y_pick_f rfl rfl) ?_
                refine s_y (v := .bool false) rfl (y_move rfl) ?_
                refine s_y (v := .int .i64 ((u37 + k) - v9)) rfl (y_move rfl) ?_
                refine s_y (v := .pointer (some ⟨b30, 2, none⟩)) rfl (y_fld (o := 0) T4.fld_44_2_2 rfl) ?_
                refine s_y (v := .int .i64 v10) rfl (y_load T4.one_2 rfl ((B.b 2 rfl).cell (j := 2) rfl)) ?_
                by_cases c222 : v10 ≤ ((u37 + k) - v9)
                · refine s_y (v := .bool true) rfl (y_geq rfl rfl (decide_eq_true c222)) ?_
                  refine s_y (v := .bool true) rfl (y_move rfl) ?_
                  refine s_y (v := .pointer (some ⟨b30, 0, none⟩)) rfl (y_fld (o := 0) T4.fld_44_0_0 rfl) ?_
                  refine s_y (v := .int .i64 v8) rfl (y_load T4.one_2 rfl ((B.b 2 rfl).cell (j := 0) rfl)) ?_
                  by_cases c223 : v8 = 3
                  · refine s_y (v := .bool true) rfl (y_eql rfl rfl (decide_eq_true c223)) ?_
                    refine s_y (v := .bool true) rfl (y_pick_t rfl rfl) ?_
                    refine s_y (v := .bool true) rfl (y_move rfl) ?_
                    refine s_y (v := .float .f32 r76) rfl (y_move rfl) ?_
                    refine s_y (v := .pointer (some ⟨b30, 4, none⟩)) rfl (y_fld (o := 0) T4.fld_44_4_4 rfl) ?_
                    refine s_y (v := .float .f32 c12) rfl (y_load T4.one_34 rfl ((B.b 2 rfl).cell (j := 4) rfl)) ?_
                    have hk224 : ¬ (fne .f32 (wavT v8 v9 v10 (twT v14) (szT v15) v13 (u37 + k)) (szT v15) = true) := (by first | (rw [wav_pulse (by omega) (by omega) (by omega)]; exact fne_fin (sz_gq (by omega) (by omega)).1) | (rw [wav_ramp (by omega) (by omega) (by omega)]; exact fne_fin (sz_gq (by omega) (by omega)).1))
                    refine s_y (v := .bool false) rfl (y_fneq rfl rfl (fneC hr77 hp29 (Bool.eq_false_iff.2 hk224))) ?_
                    refine s_y (v := .bool false) rfl (y_pick_t rfl rfl) ?_
                    refine s_y (v := .bool false) rfl (y_pick_f rfl rfl) ?_
                    refine s_y (v := .bool false) rfl (y_move rfl) ?_
                    refine s_y (v := .float .f32 r76) rfl (y_move rfl) ?_
                    refine s_n rfl (n_wide T4.und_34 T4.flt_53_f64 rfl) ?_
                    rintro _ w227 e228 ⟨r225, rfl, hr226⟩
                    replace B := B.ext0 e228
                    clear e228
                    have hc229 := wideC hr226 hr77
                    have hk230 : ¬ (fgt .f64 (widen (wavT v8 v9 v10 (twT v14) (szT v15) v13 (u37 + k))) 4611688270227201589 = true) := (not_over (wav_gq (by omega) (by omega) (by omega) (by omega))).1
                    refine s_y (v := .bool false) rfl (y_fgtr rfl rfl (fgtC hc229 (cnLit (k := .f64) (t := 4611688270227201589) (by kernel_rfl) (by kernel_rfl)) (Bool.eq_false_iff.2 hk230))) ?_
                    refine s_y (v := .bool false) rfl (y_pick_f rfl rfl) ?_
                    refine s_y (v := .bool false) rfl (y_move rfl) ?_
                    refine s_y (v := .float .f32 r76) rfl (y_move rfl) ?_
                    refine s_n rfl (n_wide T4.und_34 T4.flt_53_f64 rfl) ?_
                    rintro _ w233 e234 ⟨r231, rfl, hr232⟩
                    replace B := B.ext0 e234
                    clear e234
                    have hc235 := wideC hr232 hr77
                    have hk236 : ¬ (flt .f64 (widen (wavT v8 v9 v10 (twT v14) (szT v15) v13 (u37 + k))) 13835060307081977397 = true) := (not_over (wav_gq (by omega) (by omega) (by omega) (by omega))).2
                    refine s_y (v := .bool false) rfl (y_flss rfl rfl (fltC hc235 (cnLit (k := .f64) (t := 13835060307081977397) (by kernel_rfl) (by kernel_rfl)) (Bool.eq_false_iff.2 hk236))) ?_
                    refine s_y (v := .bool false) rfl (y_pick_f rfl rfl) ?_
                    refine s_nil ?_
                    refine W_if_f (by decide) rfl ?_
                    refine W_skip ?_
                    refine W_region (by kernel_rfl) ?_
                    refine s_y (v := .int .i64 k) rfl (y_move rfl) ?_
                    refine s_y (v := .int .i64 (k + 1)) rfl (y_add rfl rfl rfl (by omega)) ?_
                    refine s_y (v := .int .i64 (k + 1)) rfl (y_assign rfl) ?_
                    refine s_nil ?_
                    refine ⟨⟨_, k + 1, Fits.eq ⟨rfl, rfl, rfl, rfl, rfl, rfl, trivial⟩, B, (by omega), (by omega)⟩, ?_⟩
                    show (8 - (k + 1)).toNat < (8 - k).toNat
                    omega
                  · refine s_y (v := .bool false) rfl (y_eql rfl rfl (decide_eq_false c223)) ?_
                    refine s_y (v := .bool false) rfl (y_pick_t rfl rfl) ?_
                    refine s_y (v := .bool false) rfl (y_move rfl) ?_
                    refine s_skip rfl ?_
                    refine s_skip rfl ?_
                    refine s_skip rfl ?_
                    refine s_skip rfl ?_
                    refine s_y (v := .bool false) rfl (y_pick_f rfl rfl) ?_
                    refine s_y (v := .bool false) rfl (y_pick_f rfl rfl) ?_
                    refine s_y (v := .bool false) rfl (y_move rfl) ?_
                    refine s_y (v := .float .f32 r76) rfl (y_move rfl) ?_
                    refine s_n rfl (n_wide T4.und_34 T4.flt_53_f64 rfl) ?_
                    rintro _ w239 e240 ⟨r237, rfl, hr238⟩
                    replace B := B.ext0 e240
                    clear e240
                    have hc241 := wideC hr238 hr77
                    have hk242 : ¬ (fgt .f64 (widen (wavT v8 v9 v10 (twT v14) (szT v15) v13 (u37 + k))) 4611688270227201589 = true) := (not_over (wav_gq (by omega) (by omega) (by omega) (by omega))).1
                    refine s_y (v := .bool false) rfl (y_fgtr rfl rfl (fgtC hc241 (cnLit (k := .f64) (t := 4611688270227201589) (by kernel_rfl) (by kernel_rfl)) (Bool.eq_false_iff.2 hk242))) ?_
                    refine s_y (v := .bool false) rfl (y_pick_f rfl rfl) ?_
                    refine s_y (v := .bool false) rfl (y_move rfl) ?_
                    refine s_y (v := .float .f32 r76) rfl (y_move rfl) ?_
                    refine s_n rfl (n_wide T4.und_34 T4.flt_53_f64 rfl) ?_
                    rintro _ w245 e246 ⟨r243, rfl, hr244⟩
                    replace B := B.ext0 e246
                    clear e246
                    have hc247 := wideC hr244 hr77
                    have hk248 : ¬ (flt .f64 (widen (wavT v8 v9 v10 (twT v14) (szT v15) v13 (u37 + k))) 13835060307081977397 = true) := (not_over (wav_gq (by omega) (by omega) (by omega) (by omega))).2
                    refine s_y (v := .bool false) rfl (y_flss rfl rfl (fltC hc247 (cnLit (k := .f64) (t := 13835060307081977397) (by kernel_rfl) (by kernel_rfl)) (Bool.eq_false_iff.2 hk248))) ?_
                    refine s_y (v := .bool false) rfl (y_pick_f rfl rfl) ?_
                    refine s_nil ?_
                    refine W_if_f (by decide) rfl ?_
                    refine W_skip ?_
                    refine W_region (by kernel_rfl) ?_
                    refine s_y (v := .int .i64 k) rfl (y_move rfl) ?_
                    refine s_y (v := .int .i64 (k + 1)) rfl (y_add rfl rfl rfl (by omega)) ?_
                    refine s_y (v := .int .i64 (k + 1)) rfl (y_assign rfl) ?_
                    refine s_nil ?_
                    refine ⟨⟨_, k + 1, Fits.eq ⟨rfl, rfl, rfl, rfl, rfl, rfl, trivial⟩, B, (by omega), (by omega)⟩, ?_⟩
                    show (8 - (k + 1)).toNat < (8 - k).toNat
                    omega
                · refine s_y (v := .bool false) rfl (y_geq rfl rfl (decide_eq_false c222)) ?_
                  refine s_y (v := .bool false) rfl (y_move rfl) ?_
                  refine s_skip rfl ?_
                  refine s_skip rfl ?_
                  refine s_skip rfl ?_
                  refine s_y (v := .bool false) rfl (y_pick_f rfl rfl) ?_
                  refine s_y (v := .bool false) rfl (y_move rfl) ?_
                  refine s_skip rfl ?_
                  refine s_skip rfl ?_
                  refine s_skip rfl ?_
                  refine s_skip rfl ?_
                  refine s_y (v := .bool false) rfl (y_pick_f rfl rfl) ?_
                  refine s_y (v := .bool false) rfl (y_pick_f rfl rfl) ?_
                  refine s_y (v := .bool false) rfl (y_move rfl) ?_
                  refine s_y (v := .float .f32 r76) rfl (y_move rfl) ?_
                  refine s_n rfl (n_wide T4.und_34 T4.flt_53_f64 rfl) ?_
                  rintro _ w251 e252 ⟨r249, rfl, hr250⟩
                  replace B := B.ext0 e252
                  clear e252
                  have hc253 := wideC hr250 hr77
                  have hk254 : ¬ (fgt .f64 (widen (wavT v8 v9 v10 (twT v14) (szT v15) v13 (u37 + k))) 4611688270227201589 = true) := (not_over (wav_gq (by omega) (by omega) (by omega) (by omega))).1
                  refine s_y (v := .bool false) rfl (y_fgtr rfl rfl (fgtC hc253 (cnLit (k := .f64) (t := 4611688270227201589) (by kernel_rfl) (by kernel_rfl)) (Bool.eq_false_iff.2 hk254))) ?_
                  refine s_y (v := .bool false) rfl (y_pick_f rfl rfl) ?_
                  refine s_y (v := .bool false) rfl (y_move rfl) ?_
                  refine s_y (v := .float .f32 r76) rfl (y_move rfl) ?_
                  refine s_n rfl (n_wide T4.und_34 T4.flt_53_f64 rfl) ?_
                  rintro _ w257 e258 ⟨r255, rfl, hr256⟩
                  replace B := B.ext0 e258
                  clear e258
                  have hc259 := wideC hr256 hr77
                  have hk260 : ¬ (flt .f64 (widen (wavT v8 v9 v10 (twT v14) (szT v15) v13 (u37 + k))) 13835060307081977397 = true) := (not_over (wav_gq (by omega) (by omega) (by omega) (by omega))).2
                  refine s_y (v := .bool false) rfl (y_flss rfl rfl (fltC hc259 (cnLit (k := .f64) (t := 13835060307081977397) (by kernel_rfl) (by kernel_rfl)) (Bool.eq_false_iff.2 hk260))) ?_
                  refine s_y (v := .bool false) rfl (y_pick_f rfl rfl) ?_
                  refine s_nil ?_
                  refine W_if_f (by decide) rfl ?_
                  refine W_skip ?_
                  refine W_region (by kernel_rfl) ?_
                  refine s_y (v := .int .i64 k) rfl (y_move rfl) ?_
                  refine s_y (v := .int .i64 (k + 1)) rfl (y_add rfl rfl rfl (by omega)) ?_
                  refine s_y (v := .int .i64 (k + 1)) rfl (y_assign rfl) ?_
                  refine s_nil ?_
                  refine ⟨⟨_, k + 1, Fits.eq ⟨rfl, rfl, rfl, rfl, rfl, rfl, trivial⟩, B, (by omega), (by omega)⟩, ?_⟩
                  show (8 - (k + 1)).toNat < (8 - k).toNat
                  omega
            · refine s_y (v := .bool false) rfl (y_neq rfl rfl (decide_eq_false c96)) ?_
              refine s_y (v := .bool false) rfl (y_move rfl) ?_
              refine s_skip rfl ?_
              refine s_skip rfl ?_
              refine s_skip rfl ?_
              refine s_skip rfl ?_
              refine s_y (v := .bool false) rfl (y_pick_f rfl rfl) ?_
              refine s_y (v := .bool false) rfl (y_pick_f rfl rfl) ?_
              refine s_nil ?_
              refine W_if_f (by decide) rfl ?_
              refine W_skip ?_
              refine W_seq ?_
              refine W_region (by kernel_rfl) ?_
              refine s_y (v := .int .i64 ((u37 + k) - v9)) rfl (y_move rfl) ?_
              by_cases c261 : 0 ≤ ((u37 + k) - v9)
              · refine s_y (v := .bool true) rfl (y_geq rfl rfl (decide_eq_true c261)) ?_
                refine s_y (v := .bool true) rfl (y_move rfl) ?_
                refine s_y (v := .int .i64 ((u37 + k) - v9)) rfl (y_move rfl) ?_
                refine s_y (v := .pointer (some ⟨b30, 2, none⟩)) rfl (y_fld (o := 0) T4.fld_44_2_2 rfl) ?_
                refine s_y (v := .int .i64 v10) rfl (y_load T4.one_2 rfl ((B.b 2 rfl).cell (j := 2) rfl)) ?_
                by_cases c262 : ((u37 + k) - v9) < v10
                · refine s_y (v := .bool true) rfl (y_lss rfl rfl (decide_eq_true c262)) ?_
                  refine s_y (v := .bool true) rfl (y_pick_t rfl rfl) ?_
                  refine s_y (v := .bool true) rfl (y_move rfl) ?_
                  refine s_y (v := .pointer (some ⟨b30, 0, none⟩)) rfl (y_fld (o := 0) T4.fld_44_0_0 rfl) ?_
                  refine s_y (v := .int .i64 v8) rfl (y_load T4.one_2 rfl ((B.b 2 rfl).cell (j := 0) rfl)) ?_
                  by_cases c263 : v8 = 0
                  · refine s_y (v := .bool true) rfl (y_eql rfl rfl (decide_eq_true c263)) ?_
                    refine s_y (v := .bool true) rfl (y_pick_t rfl rfl) ?_
                    refine s_y (v := .bool true) rfl (y_move rfl) ?_
                    refine s_y (v := .float .f32 r76) rfl (y_move rfl) ?_
                    refine s_y (v := .pointer (some ⟨b30, 4, none⟩)) rfl (y_fld (o := 0) T4.fld_44_4_4 rfl) ?_
                    refine s_y (v := .float .f32 c12) rfl (y_load T4.one_34 rfl ((B.b 2 rfl).cell (j := 4) rfl)) ?_
                    have hk264 : ¬ (fne .f32 (wavT v8 v9 v10 (twT v14) (szT v15) v13 (u37 + k)) (szT v15) = true) := (by first | (rw [wav_pulse (by omega) (by omega) (by omega)]; exact fne_fin (sz_gq (by omega) (by omega)).1) | (rw [wav_ramp (by omega) (by omega) (by omega)]; exact fne_fin (sz_gq (by omega) (by omega)).1))
                    refine s_y (v := .bool false) rfl (y_fneq rfl rfl (fneC hr77 hp29 (Bool.eq_false_iff.2 hk264))) ?_
                    refine s_y (v := .bool false) rfl (y_pick_t rfl rfl) ?_
                    refine s_y (v := .bool false) rfl (y_move rfl) ?_
                    refine s_y (v := .int .i64 ((u37 + k) - v9)) rfl (y_move rfl) ?_
                    refine s_y (v := .pointer (some ⟨b30, 2, none⟩)) rfl (y_fld (o := 0) T4.fld_44_2_2 rfl) ?_
                    refine s_y (v := .int .i64 v10) rfl (y_load T4.one_2 rfl ((B.b 2 rfl).cell (j := 2) rfl)) ?_
                    by_cases c265 : v10 ≤ ((u37 + k) - v9)
                    · refine s_y (v := .bool true) rfl (y_geq rfl rfl (decide_eq_true c265)) ?_
                      refine s_y (v := .bool true) rfl (y_move rfl) ?_
                      refine s_y (v := .pointer (some ⟨b30, 0, none⟩)) rfl (y_fld (o := 0) T4.fld_44_0_0 rfl) ?_
                      refine s_y (v := .int .i64 v8) rfl (y_load T4.one_2 rfl ((B.b 2 rfl).cell (j := 0) rfl)) ?_
                      by_cases c266 : v8 = 3
                      · refine s_y (v := .bool true) rfl (y_eql rfl rfl (decide_eq_true c266)) ?_
                        refine s_y (v := .bool true) rfl (y_pick_t rfl rfl) ?_
                        refine s_y (v := .bool true) rfl (y_move rfl) ?_
                        refine s_y (v := .float .f32 r76) rfl (y_move rfl) ?_
                        refine s_y (v := .pointer (some ⟨b30, 4, none⟩)) rfl (y_fld (o := 0) T4.fld_44_4_4 rfl) ?_
                        refine s_y (v := .float .f32 c12) rfl (y_load T4.one_34 rfl ((B.b 2 rfl).cell (j := 4) rfl)) ?_
                        refine s_y (v := .bool false) rfl (y_fneq rfl rfl (fneC hr77 hp29 (Bool.eq_false_iff.2 hk264))) ?_
                        refine s_y (v := .bool false) rfl (y_pick_t rfl rfl) ?_
                        refine s_y (v := .bool false) rfl (y_pick_f rfl rfl) ?_
                        refine s_y (v := .bool false) rfl (y_move rfl) ?_
                        refine s_y (v := .float .f32 r76) rfl (y_move rfl) ?_
                        refine s_n rfl (n_wide T4.und_34 T4.flt_53_f64 rfl) ?_
                        rintro _ w269 e270 ⟨r267, rfl, hr268⟩
                        replace B := B.ext0 e270
                        clear e270
                        have hc271 := wideC hr268 hr77
                        have hk272 : ¬ (fgt .f64 (widen (wavT v8 v9 v10 (twT v14) (szT v15) v13 (u37 + k))) 4611688270227201589 = true) := (not_over (wav_gq (by omega) (by omega) (by omega) (by omega))).1
                        refine s_y (v := .bool false) rfl (y_fgtr rfl rfl (fgtC hc271 (cnLit (k := .f64) (t := 4611688270227201589) (by kernel_rfl) (by kernel_rfl)) (Bool.eq_false_iff.2 hk272))) ?_
                        refine s_y (v := .bool false) rfl (y_pick_f rfl rfl) ?_
                        refine s_y (v := .bool false) rfl (y_move rfl) ?_
                        refine s_y (v := .float .f32 r76) rfl (y_move rfl) ?_
                        refine s_n rfl (n_wide T4.und_34 T4.flt_53_f64 rfl) ?_
                        rintro _ w275 e276 ⟨r273, rfl, hr274⟩
                        replace B := B.ext0 e276
                        clear e276
                        have hc277 := wideC hr274 hr77
                        have hk278 : ¬ (flt .f64 (widen (wavT v8 v9 v10 (twT v14) (szT v15) v13 (u37 + k))) 13835060307081977397 = true) := (not_over (wav_gq (by omega) (by omega) (by omega) (by omega))).2
                        refine s_y (v := .bool false) rfl (y_flss rfl rfl (fltC hc277 (cnLit (k := .f64) (t := 13835060307081977397) (by kernel_rfl) (by kernel_rfl)) (Bool.eq_false_iff.2 hk278))) ?_
                        refine s_y (v := .bool false) rfl (y_pick_f rfl rfl) ?_
                        refine s_nil ?_
                        refine W_if_f (by decide) rfl ?_
                        refine W_skip ?_
                        refine W_region (by kernel_rfl) ?_
                        refine s_y (v := .int .i64 k) rfl (y_move rfl) ?_
                        refine s_y (v := .int .i64 (k + 1)) rfl (y_add rfl rfl rfl (by omega)) ?_
                        refine s_y (v := .int .i64 (k + 1)) rfl (y_assign rfl) ?_
                        refine s_nil ?_
                        refine ⟨⟨_, k + 1, Fits.eq ⟨rfl, rfl, rfl, rfl, rfl, rfl, trivial⟩, B, (by omega), (by omega)⟩, ?_⟩
                        show (8 - (k + 1)).toNat < (8 - k).toNat
                        omega
                      · refine s_y (v := .bool false) rfl (y_eql rfl rfl (decide_eq_false c266)) ?_
                        refine s_y (v := .bool false) rfl (y_pick_t rfl rfl) ?_
                        refine s_y (v := .bool false) rfl (y_move rfl) ?_
                        refine s_skip rfl ?_
                        refine s_skip rfl ?_
                        refine s_skip rfl ?_
                        refine s_skip rfl ?_
                        refine s_y (v := .bool false) rfl (y_pick_f rfl rfl) ?_
                        refine s_y (v := .bool false) rfl (y_pick_f rfl rfl) ?_
                        refine s_y (v := .bool false) rfl (y_move rfl) ?_
                        refine s_y (v := .float .f32 r76) rfl (y_move rfl) ?_
                        refine s_n rfl (n_wide T4.und_34 T4.flt_53_f64 rfl) ?_
                        rintro _ w281 e282 ⟨r279, rfl, hr280⟩
                        replace B := B.ext0 e282
                        clear e282
                        have hc283 := wideC hr280 hr77
                        have hk284 : ¬ (fgt .f64 (widen (wavT v8 v9 v10 (twT v14) (szT v15) v13 (u37 + k))) 4611688270227201589 = true) := (not_over (wav_gq (by omega) (by omega) (by omega) (by omega))).1
                        refine s_y (v := .bool false) rfl (y_fgtr rfl rfl (fgtC hc283 (cnLit (k := .f64) (t := 4611688270227201589) (by kernel_rfl) (by kernel_rfl)) (Bool.eq_false_iff.2 hk284))) ?_
                        refine s_y (v := .bool false) rfl (y_pick_f rfl rfl) ?_
                        refine s_y (v := .bool false) rfl (y_move rfl) ?_
                        refine s_y (v := .float .f32 r76) rfl (y_move rfl) ?_
                        refine s_n rfl (n_wide T4.und_34 T4.flt_53_f64 rfl) ?_
                        rintro _ w287 e288 ⟨r285, rfl, hr286⟩
                        replace B := B.ext0 e288
                        clear e288
                        have hc289 := wideC hr286 hr77
                        have hk290 : ¬ (flt .f64 (widen (wavT v8 v9 v10 (twT v14) (szT v15) v13 (u37 + k))) 13835060307081977397 = true) := (not_over (wav_gq (by omega) (by omega) (by omega) (by omega))).2
                        refine s_y (v := .bool false) rfl (y_flss rfl rfl (fltC hc289 (cnLit (k := .f64) (t := 13835060307081977397) (by kernel_rfl) (by kernel_rfl)) (Bool.eq_false_iff.2 hk290))) ?_
                        refine s_y (v := .bool false) rfl (y_pick_f rfl rfl) ?_
                        refine s_nil ?_
                        refine W_if_f (by decide) rfl ?_
                        refine W_skip ?_
                        refine W_region (by kernel_rfl) ?_
                        refine s_y (v := .int .i64 k) rfl (y_move rfl) ?_
                        refine s_y (v := .int .i64 (k + 1)) rfl (y_add rfl rfl rfl (by omega)) ?_
                        refine s_y (v := .int .i64 (k + 1)) rfl (y_assign rfl) ?_
                        refine s_nil ?_
                        refine ⟨⟨_, k + 1, Fits.eq ⟨rfl, rfl, rfl, rfl, rfl, rfl, trivial⟩, B, (by omega), (by omega)⟩, ?_⟩
                        show (8 - (k + 1)).toNat < (8 - k).toNat
                        omega
                    · refine s_y (v := .bool false) rfl (y_geq rfl rfl (decide_eq_false c265)) ?_
                      refine s_y (v := .bool false) rfl (y_move rfl) ?_
                      refine s_skip rfl ?_
                      refine s_skip rfl ?_
                      refine s_skip rfl ?_
                      refine s_y (v := .bool false) rfl (y_pick_f rfl rfl) ?_
                      refine s_y (v := .bool false) rfl (y_move rfl) ?_
                      refine s_skip rfl ?_
                      refine s_skip rfl ?_
                      refine s_skip rfl ?_
                      refine s_skip rfl ?_
                      refine s_y (v := .bool false) rfl (y_pick_f rfl rfl) ?_
                      refine s_y (v := .bool false) rfl (y_pick_f rfl rfl) ?_
                      refine s_y (v := .bool false) rfl (y_move rfl) ?_
                      refine s_y (v := .float .f32 r76) rfl (y_move rfl) ?_
                      refine s_n rfl (n_wide T4.und_34 T4.flt_53_f64 rfl) ?_
                      rintro _ w293 e294 ⟨r291, rfl, hr292⟩
                      replace B := B.ext0 e294
                      clear e294
                      have hc295 := wideC hr292 hr77
                      have hk296 : ¬ (fgt .f64 (widen (wavT v8 v9 v10 (twT v14) (szT v15) v13 (u37 + k))) 4611688270227201589 = true) := (not_over (wav_gq (by omega) (by omega) (by omega) (by omega))).1
                      refine s_y (v := .bool false) rfl (y_fgtr rfl rfl (fgtC hc295 (cnLit (k := .f64) (t := 4611688270227201589) (by kernel_rfl) (by kernel_rfl)) (Bool.eq_false_iff.2 hk296))) ?_
                      refine s_y (v := .bool false) rfl (y_pick_f rfl rfl) ?_
                      refine s_y (v := .bool false) rfl (y_move rfl) ?_
                      refine s_y (v := .float .f32 r76) rfl (y_move rfl) ?_
                      refine s_n rfl (n_wide T4.und_34 T4.flt_53_f64 rfl) ?_
                      rintro _ w299 e300 ⟨r297, rfl, hr298⟩
                      replace B := B.ext0 e300
                      clear e300
                      have hc301 := wideC hr298 hr77
                      have hk302 : ¬ (flt .f64 (widen (wavT v8 v9 v10 (twT v14) (szT v15) v13 (u37 + k))) 13835060307081977397 = true) := (not_over (wav_gq (by omega) (by omega) (by omega) (by omega))).2
                      refine s_y (v := .bool false) rfl (y_flss rfl rfl (fltC hc301 (cnLit (k := .f64) (t := 13835060307081977397) (by kernel_rfl) (by kernel_rfl)) (Bool.eq_false_iff.2 hk302))) ?_
                      refine s_y (v := .bool false) rfl (y_pick_f rfl rfl) ?_
                      refine s_nil ?_
                      refine W_if_f (by decide) rfl ?_
                      refine W_skip ?_
                      refine W_region (by kernel_rfl) ?_
                      refine s_y (v := .int .i64 k) rfl (y_move rfl) ?_
                      refine s_y (v := .int .i64 (k + 1)) rfl (y_add rfl rfl rfl (by omega)) ?_
                      refine s_y (v := .int .i64 (k + 1)) rfl (y_assign rfl) ?_
                      refine s_nil ?_
                      refine ⟨⟨_, k + 1, Fits.eq ⟨rfl, rfl, rfl, rfl, rfl, rfl, trivial⟩, B, (by omega), (by omega)⟩, ?_⟩
                      show (8 - (k + 1)).toNat < (8 - k).toNat
                      omega
                  · refine s_y (v := .bool false) rfl (y_eql rfl rfl (decide_eq_false c263)) ?_
                    refine s_y (v := .bool false) rfl (y_pick_t rfl rfl) ?_
                    refine s_y (v := .bool false) rfl (y_move rfl) ?_
                    refine s_skip rfl ?_
                    refine s_skip rfl ?_
                    refine s_skip rfl ?_
                    refine s_skip rfl ?_
                    refine s_y (v := .bool false) rfl (y_pick_f rfl rfl) ?_
                    refine s_y (v := .bool false) rfl (y_move rfl) ?_
                    refine s_y (v := .int .i64 ((u37 + k) - v9)) rfl (y_move rfl) ?_
                    refine s_y (v := .pointer (some ⟨b30, 2, none⟩)) rfl (y_fld (o := 0) T4.fld_44_2_2 rfl) ?_
                    refine s_y (v := .int .i64 v10) rfl (y_load T4.one_2 rfl ((B.b 2 rfl).cell (j := 2) rfl)) ?_
                    by_cases c303 : v10 ≤ ((u37 + k) - v9)
                    · refine s_y (v := .bool true) rfl (y_geq rfl rfl (decide_eq_true c303)) ?_
                      refine s_y (v := .bool true) rfl (y_move rfl) ?_
                      refine s_y (v := .pointer (some ⟨b30, 0, none⟩)) rfl (y_fld (o := 0) T4.fld_44_0_0 rfl) ?_
                      refine s_y (v := .int .i64 v8) rfl (y_load T4.one_2 rfl ((B.b 2 rfl).cell (j := 0) rfl)) ?_
                      by_cases c304 : v8 = 3
                      · refine s_y (v := .bool true) rfl (y_eql rfl rfl (decide_eq_true c304)) ?_
                        refine s_y (v := .bool true) rfl (y_pick_t rfl rfl) ?_
                        refine s_y (v := .bool true) rfl (y_move rfl) ?_
                        refine s_y (v := .float .f32 r76) rfl (y_move rfl) ?_
                        refine s_y (v := .pointer (some ⟨b30, 4, none⟩)) rfl (y_fld (o := 0) T4.fld_44_4_4 rfl) ?_
                        refine s_y (v := .float .f32 c12) rfl (y_load T4.one_34 rfl ((B.b 2 rfl).cell (j := 4) rfl)) ?_
                        have hk305 : ¬ (fne .f32 (wavT v8 v9 v10 (twT v14) (szT v15) v13 (u37 + k)) (szT v15) = true) := (by first | (rw [wav_pulse (by omega) (by omega) (by omega)]; exact fne_fin (sz_gq (by omega) (by omega)).1) | (rw [wav_ramp (by omega) (by omega) (by omega)]; exact fne_fin (sz_gq (by omega) (by omega)).1))
                        refine s_y (v := .bool false) rfl (y_fneq rfl rfl (fneC hr77 hp29 (Bool.eq_false_iff.2 hk305))) ?_
                        refine s_y (v := .bool false) rfl (y_pick_t rfl rfl) ?_
                        refine s_y (v := .bool false) rfl (y_pick_f rfl rfl) ?_
                        refine s_y (v := .bool false) rfl (y_move rfl) ?_
                        refine s_y (v := .float .f32 r76) rfl (y_move rfl) ?_
                        refine s_n rfl (n_wide T4.und_34 T4.flt_53_f64 rfl) ?_
                        rintro _ w308 e309 ⟨r306, rfl, hr307⟩
                        replace B := B.ext0 e309
                        clear e309
                        have hc310 := wideC hr307 hr77
                        have hk311 : ¬ (fgt .f64 (widen (wavT v8 v9 v10 (twT v14) (szT v15) v13 (u37 + k))) 4611688270227201589 = true) := (not_over (wav_gq (by omega) (by omega) (by omega) (by omega))).1
                        refine s_y (v := .bool false) rfl (y_fgtr rfl rfl (fgtC hc310 (cnLit (k := .f64) (t := 4611688270227201589) (by kernel_rfl) (by kernel_rfl)) (Bool.eq_false_iff.2 hk311))) ?_
                        refine s_y (v := .bool false) rfl (y_pick_f rfl rfl) ?_
                        refine s_y (v := .bool false) rfl (y_move rfl) ?_
                        refine s_y (v := .float .f32 r76) rfl (y_move rfl) ?_
                        refine s_n rfl (n_wide T4.und_34 T4.flt_53_f64 rfl) ?_
                        rintro _ w314 e315 ⟨r312, rfl, hr313⟩
                        replace B := B.ext0 e315
                        clear e315
                        have hc316 := wideC hr313 hr77
                        have hk317 : ¬ (flt .f64 (widen (wavT v8 v9 v10 (twT v14) (szT v15) v13 (u37 + k))) 13835060307081977397 = true) := (not_over (wav_gq (by omega) (by omega) (by omega) (by omega))).2
                        refine s_y (v := .bool false) rfl (y_flss rfl rfl (fltC hc316 (cnLit (k := .f64) (t := 13835060307081977397) (by kernel_rfl) (by kernel_rfl)) (Bool.eq_false_iff.2 hk317))) ?_
                        refine s_y (v := .bool false) rfl (y_pick_f rfl rfl) ?_
                        refine s_nil ?_
                        refine W_if_f (by decide) rfl ?_
                        refine W_skip ?_
                        refine W_region (by kernel_rfl) ?_
                        refine s_y (v := .int .i64 k) rfl (y_move rfl) ?_
                        refine s_y (v := .int .i64 (k + 1)) rfl (y_add rfl rfl rfl (by omega)) ?_
                        refine s_y (v := .int .i64 (k + 1)) rfl (y_assign rfl) ?_
                        refine s_nil ?_
                        refine ⟨⟨_, k + 1, Fits.eq ⟨rfl, rfl, rfl, rfl, rfl, rfl, trivial⟩, B, (by omega), (by omega)⟩, ?_⟩
                        show (8 - (k + 1)).toNat < (8 - k).toNat
                        omega
                      · refine s_y (v := .bool false) rfl (y_eql rfl rfl (decide_eq_false c304)) ?_
                        refine s_y (v := .bool false) rfl (y_pick_t rfl rfl) ?_
                        refine s_y (v := .bool false) rfl (y_move rfl) ?_
                        refine s_skip rfl ?_
                        refine s_skip rfl ?_
                        refine s_skip rfl ?_
                        refine s_skip rfl ?_
                        refine s_y (v := .bool false) rfl (y_pick_f rfl rfl) ?_
                        refine s_y (v := .bool false) rfl (y_pick_f rfl rfl) ?_
                        refine s_y (v := .bool false) rfl (y_move rfl) ?_
                        refine s_y (v := .float .f32 r76) rfl (y_move rfl) ?_
                        refine s_n rfl (n_wide T4.und_34 T4.flt_53_f64 rfl) ?_
                        rintro _ w320 e321 ⟨r318, rfl, hr319⟩
                        replace B := B.ext0 e321
                        clear e321
                        have hc322 := wideC hr319 hr77
                        have hk323 : ¬ (fgt .f64 (widen (wavT v8 v9 v10 (twT v14) (szT v15) v13 (u37 + k))) 4611688270227201589 = true) := (not_over (wav_gq (by omega) (by omega) (by omega) (by omega))).1
                        refine s_y (v := .bool false) rfl (y_fgtr rfl rfl (fgtC hc322 (cnLit (k := .f64) (t := 4611688270227201589) (by kernel_rfl) (by kernel_rfl)) (Bool.eq_false_iff.2 hk323))) ?_
                        refine s_y (v := .bool false) rfl (y_pick_f rfl rfl) ?_
                        refine s_y (v := .bool false) rfl (y_move rfl) ?_
                        refine s_y (v := .float .f32 r76) rfl (y_move rfl) ?_
                        refine s_n rfl (n_wide T4.und_34 T4.flt_53_f64 rfl) ?_
                        rintro _ w326 e327 ⟨r324, rfl, hr325⟩
                        replace B := B.ext0 e327
                        clear e327
                        have hc328 := wideC hr325 hr77
                        have hk329 : ¬ (flt .f64 (widen (wavT v8 v9 v10 (twT v14) (szT v15) v13 (u37 + k))) 13835060307081977397 = true) := (not_over (wav_gq (by omega) (by omega) (by omega) (by omega))).2
                        refine s_y (v := .bool false) rfl (y_flss rfl rfl (fltC hc328 (cnLit (k := .f64) (t := 13835060307081977397) (by kernel_rfl) (by kernel_rfl)) (Bool.eq_false_iff.2 hk329))) ?_
                        refine s_y (v := .bool false) rfl (y_pick_f rfl rfl) ?_
                        refine s_nil ?_
                        refine W_if_f (by decide) rfl ?_
                        refine W_skip ?_
                        refine W_region (by kernel_rfl) ?_
                        refine s_y (v := .int .i64 k) rfl (y_move rfl) ?_
                        refine s_y (v := .int .i64 (k + 1)) rfl (y_add rfl rfl rfl (by omega)) ?_
                        refine s_y (v := .int .i64 (k + 1)) rfl (y_assign rfl) ?_
                        refine s_nil ?_
                        refine ⟨⟨_, k + 1, Fits.eq ⟨rfl, rfl, rfl, rfl, rfl, rfl, trivial⟩, B, (by omega), (by omega)⟩, ?_⟩
                        show (8 - (k + 1)).toNat < (8 - k).toNat
                        omega
                    · refine s_y (v := .bool false) rfl (y_geq rfl rfl (decide_eq_false c303)) ?_
                      refine s_y (v := .bool false) rfl (y_move rfl) ?_
                      refine s_skip rfl ?_
                      refine s_skip rfl ?_
                      refine s_skip rfl ?_
                      refine s_y (v := .bool false) rfl (y_pick_f rfl rfl) ?_
                      refine s_y (v := .bool false) rfl (y_move rfl) ?_
                      refine s_skip rfl ?_
                      refine s_skip rfl ?_
                      refine s_skip rfl ?_
                      refine s_skip rfl ?_
                      refine s_y (v := .bool false) rfl (y_pick_f rfl rfl) ?_
                      refine s_y (v := .bool false) rfl (y_pick_f rfl rfl) ?_
                      refine s_y (v := .bool false) rfl (y_move rfl) ?_
                      refine s_y (v := .float .f32 r76) rfl (y_move rfl) ?_
                      refine s_n rfl (n_wide T4.und_34 T4.flt_53_f64 rfl) ?_
                      rintro _ w332 e333 ⟨r330, rfl, hr331⟩
                      replace B := B.ext0 e333
                      clear e333
                      have hc334 := wideC hr331 hr77
                      have hk335 : ¬ (fgt .f64 (widen (wavT v8 v9 v10 (twT v14) (szT v15) v13 (u37 + k))) 4611688270227201589 = true) := (not_over (wav_gq (by omega) (by omega) (by omega) (by omega))).1
                      refine s_y (v := .bool false) rfl (y_fgtr rfl rfl (fgtC hc334 (cnLit (k := .f64) (t := 4611688270227201589) (by kernel_rfl) (by kernel_rfl)) (Bool.eq_false_iff.2 hk335))) ?_
                      refine s_y (v := .bool false) rfl (y_pick_f rfl rfl) ?_
                      refine s_y (v := .bool false) rfl (y_move rfl) ?_
                      refine s_y (v := .float .f32 r76) rfl (y_move rfl) ?_
                      refine s_n rfl (n_wide T4.und_34 T4.flt_53_f64 rfl) ?_
                      rintro _ w338 e339 ⟨r336, rfl, hr337⟩
                      replace B := B.ext0 e339
                      clear e339
                      have hc340 := wideC hr337 hr77
                      have hk341 : ¬ (flt .f64 (widen (wavT v8 v9 v10 (twT v14) (szT v15) v13 (u37 + k))) 13835060307081977397 = true) := (not_over (wav_gq (by omega) (by omega) (by omega) (by omega))).2
                      refine s_y (v := .bool false) rfl (y_flss rfl rfl (fltC hc340 (cnLit (k := .f64) (t := 13835060307081977397) (by kernel_rfl) (by kernel_rfl)) (Bool.eq_false_iff.2 hk341))) ?_
                      refine s_y (v := .bool false) rfl (y_pick_f rfl rfl) ?_
                      refine s_nil ?_
                      refine W_if_f (by decide) rfl ?_
                      refine W_skip ?_
                      refine W_region (by kernel_rfl) ?_
                      refine s_y (v := .int .i64 k) rfl (y_move rfl) ?_
                      refine s_y (v := .int .i64 (k + 1)) rfl (y_add rfl rfl rfl (by omega)) ?_
                      refine s_y (v := .int .i64 (k + 1)) rfl (y_assign rfl) ?_
                      refine s_nil ?_
                      refine ⟨⟨_, k + 1, Fits.eq ⟨rfl, rfl, rfl, rfl, rfl, rfl, trivial⟩, B, (by omega), (by omega)⟩, ?_⟩
                      show (8 - (k + 1)).toNat < (8 - k).toNat
                      omega
                · refine s_y (v := .bool false) rfl (y_lss rfl rfl (decide_eq_false c262)) ?_
                  refine s_y (v := .bool false) rfl (y_pick_t rfl rfl) ?_
                  refine s_y (v := .bool false) rfl (y_move rfl) ?_
                  refine s_skip rfl ?_
                  refine s_skip rfl ?_
                  refine s_skip rfl ?_
                  refine s_y (v := .bool false) rfl (y_pick_f rfl rfl) ?_
                  refine s_y (v := .bool false) rfl (y_move rfl) ?_
                  refine s_skip rfl ?_
                  refine s_skip rfl ?_
                  refine s_skip rfl ?_
                  refine s_skip rfl ?_
                  refine s_y (v := .bool false) rfl (y_pick_f rfl rfl) ?_
                  refine s_y (v := .bool false) rfl (y_move rfl) ?_
                  refine s_y (v := .int .i64 ((u37 + k) - v9)) rfl (y_move rfl) ?_
                  refine s_y (v := .pointer (some ⟨b30, 2, none⟩)) rfl (y_fld (o := 0) T4.fld_44_2_2 rfl) ?_
                  refine s_y (v := .int .i64 v10) rfl (y_load T4.one_2 rfl ((B.b 2 rfl).cell (j := 2) rfl)) ?_
                  by_cases c342 : v10 ≤ ((u37 + k) - v9)
                  · refine s_y (v := .bool true) rfl (y_geq rfl rfl (decide_eq_true c342)) ?_
                    refine s_y (v := .bool true) rfl (y_move rfl) ?_
                    refine s_y (v := .pointer (some ⟨b30, 0, none⟩)) rfl (y_fld (o := 0) T4.fld_44_0_0 rfl) ?_
                    refine s_y (v := .int .i64 v8) rfl (y_load T4.one_2 rfl ((B.b 2 rfl).cell (j := 0) rfl)) ?_
                    by_cases c343 : v8 = 3
                    · refine s_y (v := .bool true) rfl (y_eql rfl rfl (decide_eq_true c343)) ?_
                      refine s_y (v := .bool true) rfl (y_pick_t rfl rfl) ?_
                      refine s_y (v := .bool true) rfl (y_move rfl) ?_
                      refine s_y (v := .float .f32 r76) rfl (y_move rfl) ?_
                      refine s_y (v := .pointer (some ⟨b30, 4, none⟩)) rfl (y_fld (o := 0) T4.fld_44_4_4 rfl) ?_
                      refine s_y (v := .float .f32 c12) rfl (y_load T4.one_34 rfl ((B.b 2 rfl).cell (j := 4) rfl)) ?_
                      have hk344 : ¬ (fne .f32 (wavT v8 v9 v10 (twT v14) (szT v15) v13 (u37 + k)) (szT v15) = true) := (by first | (rw [wav_pulse (by omega) (by omega) (by omega)]; exact fne_fin (sz_gq (by omega) (by omega)).1) | (rw [wav_ramp (by omega) (by omega) (by omega)]; exact fne_fin (sz_gq (by omega) (by omega)).1))
                      refine s_y (v := .bool false) rfl (y_fneq rfl rfl (fneC hr77 hp29 (Bool.eq_false_iff.2 hk344))) ?_
                      refine s_y (v := .bool false) rfl (y_pick_t rfl rfl) ?_
                      refine s_y (v := .bool false) rfl (y_pick_f rfl rfl) ?_
                      refine s_y (v := .bool false) rfl (y_move rfl) ?_
                      refine s_y (v := .float .f32 r76) rfl (y_move rfl) ?_
                      refine s_n rfl (n_wide T4.und_34 T4.flt_53_f64 rfl) ?_
                      rintro _ w347 e348 ⟨r345, rfl, hr346⟩
                      replace B := B.ext0 e348
                      clear e348
                      have hc349 := wideC hr346 hr77
                      have hk350 : ¬ (fgt .f64 (widen (wavT v8 v9 v10 (twT v14) (szT v15) v13 (u37 + k))) 4611688270227201589 = true) := (not_over (wav_gq (by omega) (by omega) (by omega) (by omega))).1
                      refine s_y (v := .bool false) rfl (y_fgtr rfl rfl (fgtC hc349 (cnLit (k := .f64) (t := 4611688270227201589) (by kernel_rfl) (by kernel_rfl)) (Bool.eq_false_iff.2 hk350))) ?_
                      refine s_y (v := .bool false) rfl (y_pick_f rfl rfl) ?_
                      refine s_y (v := .bool false) rfl (y_move rfl) ?_
                      refine s_y (v := .float .f32 r76) rfl (y_move rfl) ?_
                      refine s_n rfl (n_wide T4.und_34 T4.flt_53_f64 rfl) ?_
                      rintro _ w353 e354 ⟨r351, rfl, hr352⟩
                      replace B := B.ext0 e354
                      clear e354
                      have hc355 := wideC hr352 hr77
                      have hk356 : ¬ (flt .f64 (widen (wavT v8 v9 v10 (twT v14) (szT v15) v13 (u37 + k))) 13835060307081977397 = true) := (not_over (wav_gq (by omega) (by omega) (by omega) (by omega))).2
                      refine s_y (v := .bool false) rfl (y_flss rfl rfl (fltC hc355 (cnLit (k := .f64) (t := 13835060307081977397) (by kernel_rfl) (by kernel_rfl)) (Bool.eq_false_iff.2 hk356))) ?_
                      refine s_y (v := .bool false) rfl (y_pick_f rfl rfl) ?_
                      refine s_nil ?_
                      refine W_if_f (by decide) rfl ?_
                      refine W_skip ?_
                      refine W_region (by kernel_rfl) ?_
                      refine s_y (v := .int .i64 k) rfl (y_move rfl) ?_
                      refine s_y (v := .int .i64 (k + 1)) rfl (y_add rfl rfl rfl (by omega)) ?_
                      refine s_y (v := .int .i64 (k + 1)) rfl (y_assign rfl) ?_
                      refine s_nil ?_
                      refine ⟨⟨_, k + 1, Fits.eq ⟨rfl, rfl, rfl, rfl, rfl, rfl, trivial⟩, B, (by omega), (by omega)⟩, ?_⟩
                      show (8 - (k + 1)).toNat < (8 - k).toNat
                      omega
                    · refine s_y (v := .bool false) rfl (y_eql rfl rfl (decide_eq_false c343)) ?_
                      refine s_y (v := .bool false) rfl (y_pick_t rfl rfl) ?_
                      refine s_y (v := .bool false) rfl (y_move rfl) ?_
                      refine s_skip rfl ?_
                      refine s_skip rfl ?_
                      refine s_skip rfl ?_
                      refine s_skip rfl ?_
                      refine s_y (v := .bool false) rfl (y_pick_f rfl rfl) ?_
                      refine s_y (v := .bool false) rfl (y_pick_f rfl rfl) ?_
                      refine s_y (v := .bool false) rfl (y_move rfl) ?_
                      refine s_y (v := .float .f32 r76) rfl (y_move rfl) ?_
                      refine s_n rfl (n_wide T4.und_34 T4.flt_53_f64 rfl) ?_
                      rintro _ w359 e360 ⟨r357, rfl, hr358⟩
                      replace B := B.ext0 e360
                      clear e360
                      have hc361 := wideC hr358 hr77
                      have hk362 : ¬ (fgt .f64 (widen (wavT v8 v9 v10 (twT v14) (szT v15) v13 (u37 + k))) 4611688270227201589 = true) := (not_over (wav_gq (by omega) (by omega) (by omega) (by omega))).1
                      refine s_y (v := .bool false) rfl (y_fgtr rfl rfl (fgtC hc361 (cnLit (k := .f64) (t := 4611688270227201589) (by kernel_rfl) (by kernel_rfl)) (Bool.eq_false_iff.2 hk362))) ?_
                      refine s_y (v := .bool false) rfl (y_pick_f rfl rfl) ?_
                      refine s_y (v := .bool false) rfl (y_move rfl) ?_
                      refine s_y (v := .float .f32 r76) rfl (y_move rfl) ?_
                      refine s_n rfl (n_wide T4.und_34 T4.flt_53_f64 rfl) ?_
                      rintro _ w365 e366 ⟨r363, rfl, hr364⟩
                      replace B := B.ext0 e366
                      clear e366
                      have hc367 := wideC hr364 hr77
                      have hk368 : ¬ (flt .f64 (widen (wavT v8 v9 v10 (twT v14) (szT v15) v13 (u37 + k))) 13835060307081977397 = true) := (not_over (wav_gq (by omega) (by omega) (by omega) (by omega))).2
                      refine s_y (v := .bool false) rfl (y_flss rfl rfl (fltC hc367 (cnLit (k := .f64) (t := 13835060307081977397) (by kernel_rfl) (by kernel_rfl)) (Bool.eq_false_iff.2 hk368))) ?_
                      refine s_y (v := .bool false) rfl (y_pick_f rfl rfl) ?_
                      refine s_nil ?_
                      refine W_if_f (by decide) rfl ?_
                      refine W_skip ?_
                      refine W_region (by kernel_rfl) ?_
                      refine s_y (v := .int .i64 k) rfl (y_move rfl) ?_
                      refine s_y (v := .int .i64 (k + 1)) rfl (y_add rfl rfl rfl (by omega)) ?_
                      refine s_y (v := .int .i64 (k + 1)) rfl (y_assign rfl) ?_
                      refine s_nil ?_
                      refine ⟨⟨_, k + 1, Fits.eq ⟨rfl, rfl, rfl, rfl, rfl, rfl, trivial⟩, B, (by omega), (by omega)⟩, ?_⟩
                      show (8 - (k + 1)).toNat < (8 - k).toNat
                      omega
                  · refine s_y (v := .bool false) rfl (y_geq rfl rfl (decide_eq_false c342)) ?_
                    refine s_y (v := .bool false) rfl (y_move rfl) ?_
                    refine s_skip rfl ?_
                    refine s_skip rfl ?_
                    refine s_skip rfl ?_
                    refine s_y (v := .bool false) rfl (y_pick_f rfl rfl) ?_
                    refine s_y (v := .bool false) rfl (y_move rfl) ?_
                    refine s_skip rfl ?_
                    refine s_skip rfl ?_
                    refine s_skip rfl ?_
                    refine s_skip rfl ?_
                    refine s_y (v := .bool false) rfl (y_pick_f rfl rfl) ?_
                    refine s_y (v := .bool false) rfl (y_pick_f rfl rfl) ?_
                    refine s_y (v := .bool false) rfl (y_move rfl) ?_
                    refine s_y (v := .float .f32 r76) rfl (y_move rfl) ?_
                    refine s_n rfl (n_wide T4.und_34 T4.flt_53_f64 rfl) ?_
                    rintro _ w371 e372 ⟨r369, rfl, hr370⟩
                    replace B := B.ext0 e372
                    clear e372
                    have hc373 := wideC hr370 hr77
                    have hk374 : ¬ (fgt .f64 (widen (wavT v8 v9 v10 (twT v14) (szT v15) v13 (u37 + k))) 4611688270227201589 = true) := (not_over (wav_gq (by omega) (by omega) (by omega) (by omega))).1
                    refine s_y (v := .bool false) rfl (y_fgtr rfl rfl (fgtC hc373 (cnLit (k := .f64) (t := 4611688270227201589) (by kernel_rfl) (by kernel_rfl)) (Bool.eq_false_iff.2 hk374))) ?_
                    refine s_y (v := .bool false) rfl (y_pick_f rfl rfl) ?_
                    refine s_y (v := .bool false) rfl (y_move rfl) ?_
                    refine s_y (v := .float .f32 r76) rfl (y_move rfl) ?_
                    refine s_n rfl (n_wide T4.und_34 T4.flt_53_f64 rfl) ?_
                    rintro _ w377 e378 ⟨r375, rfl, hr376⟩
                    replace B := B.ext0 e378
                    clear e378
                    have hc379 := wideC hr376 hr77
                    have hk380 : ¬ (flt .f64 (widen (wavT v8 v9 v10 (twT v14) (szT v15) v13 (u37 + k))) 13835060307081977397 = true) := (not_over (wav_gq (by omega) (by omega) (by omega) (by omega))).2
                    refine s_y (v := .bool false) rfl (y_flss rfl rfl (fltC hc379 (cnLit (k := .f64) (t := 13835060307081977397) (by kernel_rfl) (by kernel_rfl)) (Bool.eq_false_iff.2 hk380))) ?_
                    refine s_y (v := .bool false) rfl (y_pick_f rfl rfl) ?_
                    refine s_nil ?_
                    refine W_if_f (by decide) rfl ?_
                    refine W_skip ?_
                    refine W_region (by kernel_rfl) ?_
                    refine s_y (v := .int .i64 k) rfl (y_move rfl) ?_
                    refine s_y (v := .int .i64 (k + 1)) rfl (y_add rfl rfl rfl (by omega)) ?_
                    refine s_y (v := .int .i64 (k + 1)) rfl (y_assign rfl) ?_
                    refine s_nil ?_
                    refine ⟨⟨_, k + 1, Fits.eq ⟨rfl, rfl, rfl, rfl, rfl, rfl, trivial⟩, B, (by omega), (by omega)⟩, ?_⟩
                    show (8 - (k + 1)).toNat < (8 - k).toNat
                    omega
              · refine s_y (v := .bool false) rfl (y_geq rfl rfl (decide_eq_false c261)) ?_
                refine s_y (v := .bool false) rfl (y_move rfl) ?_
                refine s_skip rfl ?_
                refine s_skip rfl ?_
                refine s_skip rfl ?_
                refine s_skip rfl ?_
                refine s_y (v := .bool false) rfl (y_pick_f rfl rfl) ?_
                refine s_y (v := .bool false) rfl (y_move rfl) ?_
                refine s_skip rfl ?_
                refine s_skip rfl ?_
                refine s_skip rfl ?_
                refine s_y (v := .bool false) rfl (y_pick_f rfl rfl) ?_
                refine s_y (v := .bool false) rfl (y_move rfl) ?_
                refine s_skip rfl ?_
                refine s_skip rfl ?_
                refine s_skip rfl ?_
                refine s_skip rfl ?_
                refine s_y (v := .bool false) rfl (y_pick_f rfl rfl) ?_
                refine s_y (v := .bool false) rfl (y_move rfl) ?_
                refine s_y (v := .int .i64 ((u37 + k) - v9)) rfl (y_move rfl) ?_
                refine s_y (v := .pointer (some ⟨b30, 2, none⟩)) rfl (y_fld (o := 0) T4.fld_44_2_2 rfl) ?_
                refine s_y (v := .int .i64 v10) rfl (y_load T4.one_2 rfl ((B.b 2 rfl).cell (j := 2) rfl)) ?_
                by_cases c381 : v10 ≤ ((u37 + k) - v9)
                · refine s_y (v := .bool true) rfl (y_geq rfl rfl (decide_eq_true c381)) ?_
                  refine s_y (v := .bool true) rfl (y_move rfl) ?_
                  refine s_y (v := .pointer (some ⟨b30, 0, none⟩)) rfl (y_fld (o := 0) T4.fld_44_0_0 rfl) ?_
                  refine s_y (v := .int .i64 v8) rfl (y_load T4.one_2 rfl ((B.b 2 rfl).cell (j := 0) rfl)) ?_
                  by_cases c382 : v8 = 3
                  · refine s_y (v := .bool true) rfl (y_eql rfl rfl (decide_eq_true c382)) ?_
                    refine s_y (v := .bool true) rfl (y_pick_t rfl rfl) ?_
                    refine s_y (v := .bool true) rfl (y_move rfl) ?_
                    refine s_y (v := .float .f32 r76) rfl (y_move rfl) ?_
                    refine s_y (v := .pointer (some ⟨b30, 4, none⟩)) rfl (y_fld (o := 0) T4.fld_44_4_4 rfl) ?_
                    refine s_y (v := .float .f32 c12) rfl (y_load T4.one_34 rfl ((B.b 2 rfl).cell (j := 4) rfl)) ?_
                    have hk383 : ¬ (fne .f32 (wavT v8 v9 v10 (twT v14) (szT v15) v13 (u37 + k)) (szT v15) = true) := (by first | (rw [wav_pulse (by omega) (by omega) (by omega)]; exact fne_fin (sz_gq (by omega) (by omega)).1) | (rw [wav_ramp (by omega) (by omega) (by omega)]; exact fne_fin (sz_gq (by omega) (by omega)).1))
                    refine s_y (v := .bool false) rfl (y_fneq rfl rfl (fneC hr77 hp29 (Bool.eq_false_iff.2 hk383))) ?_
                    refine s_y (v := .bool false) rfl (y_pick_t rfl rfl) ?_
                    refine s_y (v := .bool false) rfl (y_pick_f rfl rfl) ?_
                    refine s_y (v := .bool false) rfl (y_move rfl) ?_
                    refine s_y (v := .float .f32 r76) rfl (y_move rfl) ?_
                    refine s_n rfl (n_wide T4.und_34 T4.flt_53_f64 rfl) ?_
                    rintro _ w386 e387 ⟨r384, rfl, hr385⟩
                    replace B := B.ext0 e387
                    clear e387
                    have hc388 := wideC hr385 hr77
                    have hk389 : ¬ (fgt .f64 (widen (wavT v8 v9 v10 (twT v14) (szT v15) v13 (u37 + k))) 4611688270227201589 = true) := (not_over (wav_gq (by omega) (by omega) (by omega) (by omega))).1
                    refine s_y (v := .bool false) rfl (y_fgtr rfl rfl (fgtC hc388 (cnLit (k := .f64) (t := 4611688270227201589) (by kernel_rfl) (by kernel_rfl)) (Bool.eq_false_iff.2 hk389))) ?_
                    refine s_y (v := .bool false) rfl (y_pick_f rfl rfl) ?_
                    refine s_y (v := .bool false) rfl (y_move rfl) ?_
                    refine s_y (v := .float .f32 r76) rfl (y_move rfl) ?_
                    refine s_n rfl (n_wide T4.und_34 T4.flt_53_f64 rfl) ?_
                    rintro _ w392 e393 ⟨r390, rfl, hr391⟩
                    replace B := B.ext0 e393
                    clear e393
                    have hc394 := wideC hr391 hr77
                    have hk395 : ¬ (flt .f64 (widen (wavT v8 v9 v10 (twT v14) (szT v15) v13 (u37 + k))) 13835060307081977397 = true) := (not_over (wav_gq (by omega) (by omega) (by omega) (by omega))).2
                    refine s_y (v := .bool false) rfl (y_flss rfl rfl (fltC hc394 (cnLit (k := .f64) (t := 13835060307081977397) (by kernel_rfl) (by kernel_rfl)) (Bool.eq_false_iff.2 hk395))) ?_
                    refine s_y (v := .bool false) rfl (y_pick_f rfl rfl) ?_
                    refine s_nil ?_
                    refine W_if_f (by decide) rfl ?_
                    refine W_skip ?_
                    refine W_region (by kernel_rfl) ?_
                    refine s_y (v := .int .i64 k) rfl (y_move rfl) ?_
                    refine s_y (v := .int .i64 (k + 1)) rfl (y_add rfl rfl rfl (by omega)) ?_
                    refine s_y (v := .int .i64 (k + 1)) rfl (y_assign rfl) ?_
                    refine s_nil ?_
                    refine ⟨⟨_, k + 1, Fits.eq ⟨rfl, rfl, rfl, rfl, rfl, rfl, trivial⟩, B, (by omega), (by omega)⟩, ?_⟩
                    show (8 - (k + 1)).toNat < (8 - k).toNat
                    omega
                  · refine s_y (v := .bool false) rfl (y_eql rfl rfl (decide_eq_false c382)) ?_
                    refine s_y (v := .bool false) rfl (y_pick_t rfl rfl) ?_
                    refine s_y (v := .bool false) rfl (y_move rfl) ?_
                    refine s_skip rfl ?_
                    refine s_skip rfl ?_
                    refine s_skip rfl ?_
                    refine s_skip rfl ?_
                    refine s_y (v := .bool false) rfl (y_pick_f rfl rfl) ?_
                    refine s_y (v := .bool false) rfl (y_pick_f rfl rfl) ?_
                    refine s_y (v := .bool false) rfl (y_move rfl) ?_
                    refine s_y (v := .float .f32 r76) rfl (y_move rfl) ?_
                    refine s_n rfl (n_wide T4.und_34 T4.flt_53_f64 rfl) ?_
                    rintro _ w398 e399 ⟨r396, rfl, hr397⟩
                    replace B := B.ext0 e399
                    clear e399
                    have hc400 := wideC hr397 hr77
                    have hk401 : ¬ (fgt .f64 (widen (wavT v8 v9 v10 (twT v14) (szT v15) v13 (u37 + k))) 4611688270227201589 = true) := (not_over (wav_gq (by omega) (by omega) (by omega) (by omega))).1
                    refine s_y (v := .bool false) rfl (y_fgtr rfl rfl (fgtC hc400 (cnLit (k := .f64) (t := 4611688270227201589) (by kernel_rfl) (by kernel_rfl)) (Bool.eq_false_iff.2 hk401))) ?_
                    refine s_y (v := .bool false) rfl (y_pick_f rfl rfl) ?_
                    refine s_y (v := .bool false) rfl (y_move rfl) ?_
                    refine s_y (v := .float .f32 r76) rfl (y_move rfl) ?_
                    refine s_n rfl (n_wide T4.und_34 T4.flt_53_f64 rfl) ?_
                    rintro _ w404 e405 ⟨r402, rfl, hr403⟩
                    replace B := B.ext0 e405
                    clear e405
                    have hc406 := wideC hr403 hr77
                    have hk407 : ¬ (flt .f64 (widen (wavT v8 v9 v10 (twT v14) (szT v15) v13 (u37 + k))) 13835060307081977397 = true) := (not_over (wav_gq (by omega) (by omega) (by omega) (by omega))).2
                    refine s_y (v := .bool false) rfl (y_flss rfl rfl (fltC hc406 (cnLit (k := .f64) (t := 13835060307081977397) (by kernel_rfl) (by kernel_rfl)) (Bool.eq_false_iff.2 hk407))) ?_
                    refine s_y (v := .bool false) rfl (y_pick_f rfl rfl) ?_
                    refine s_nil ?_
                    refine W_if_f (by decide) rfl ?_
                    refine W_skip ?_
                    refine W_region (by kernel_rfl) ?_
                    refine s_y (v := .int .i64 k) rfl (y_move rfl) ?_
                    refine s_y (v := .int .i64 (k + 1)) rfl (y_add rfl rfl rfl (by omega)) ?_
                    refine s_y (v := .int .i64 (k + 1)) rfl (y_assign rfl) ?_
                    refine s_nil ?_
                    refine ⟨⟨_, k + 1, Fits.eq ⟨rfl, rfl, rfl, rfl, rfl, rfl, trivial⟩, B, (by omega), (by omega)⟩, ?_⟩
                    show (8 - (k + 1)).toNat < (8 - k).toNat
                    omega
                · refine s_y (v := .bool false) rfl (y_geq rfl rfl (decide_eq_false c381)) ?_
                  refine s_y (v := .bool false) rfl (y_move rfl) ?_
                  refine s_skip rfl ?_
                  refine s_skip rfl ?_
                  refine s_skip rfl ?_
                  refine s_y (v := .bool false) rfl (y_pick_f rfl rfl) ?_
                  refine s_y (v := .bool false) rfl (y_move rfl) ?_
                  refine s_skip rfl ?_
                  refine s_skip rfl ?_
                  refine s_skip rfl ?_
                  refine s_skip rfl ?_
                  refine s_y (v := .bool false) rfl (y_pick_f rfl rfl) ?_
                  refine s_y (v := .bool false) rfl (y_pick_f rfl rfl) ?_
                  refine s_y (v := .bool false) rfl (y_move rfl) ?_
                  refine s_y (v := .float .f32 r76) rfl (y_move rfl) ?_
                  refine s_n rfl (n_wide T4.und_34 T4.flt_53_f64 rfl) ?_
                  rintro _ w410 e411 ⟨r408, rfl, hr409⟩
                  replace B := B.ext0 e411
                  clear e411
                  have hc412 := wideC hr409 hr77
                  have hk413 : ¬ (fgt .f64 (widen (wavT v8 v9 v10 (twT v14) (szT v15) v13 (u37 + k))) 4611688270227201589 = true) := (not_over (wav_gq (by omega) (by omega) (by omega) (by omega))).1
                  refine s_y (v := .bool false) rfl (y_fgtr rfl rfl (fgtC hc412 (cnLit (k := .f64) (t := 4611688270227201589) (by kernel_rfl) (by kernel_rfl)) (Bool.eq_false_iff.2 hk413))) ?_
                  refine s_y (v := .bool false) rfl (y_pick_f rfl rfl) ?_
                  refine s_y (v := .bool false) rfl (y_move rfl) ?_
                  refine s_y (v := .float .f32 r76) rfl (y_move rfl) ?_
                  refine s_n rfl (n_wide T4.und_34 T4.flt_53_f64 rfl) ?_
                  rintro _ w416 e417 ⟨r414, rfl, hr415⟩
                  replace B := B.ext0 e417
                  clear e417
                  have hc418 := wideC hr415 hr77
                  have hk419 : ¬ (flt .f64 (widen (wavT v8 v9 v10 (twT v14) (szT v15) v13 (u37 + k))) 13835060307081977397 = true) := (not_over (wav_gq (by omega) (by omega) (by omega) (by omega))).2
                  refine s_y (v := .bool false) rfl (y_flss rfl rfl (fltC hc418 (cnLit (k := .f64) (t := 13835060307081977397) (by kernel_rfl) (by kernel_rfl)) (Bool.eq_false_iff.2 hk419))) ?_
                  refine s_y (v := .bool false) rfl (y_pick_f rfl rfl) ?_
                  refine s_nil ?_
                  refine W_if_f (by decide) rfl ?_
                  refine W_skip ?_
                  refine W_region (by kernel_rfl) ?_
                  refine s_y (v := .int .i64 k) rfl (y_move rfl) ?_
                  refine s_y (v := .int .i64 (k + 1)) rfl (y_add rfl rfl rfl (by omega)) ?_
                  refine s_y (v := .int .i64 (k + 1)) rfl (y_assign rfl) ?_
                  refine s_nil ?_
                  refine ⟨⟨_, k + 1, Fits.eq ⟨rfl, rfl, rfl, rfl, rfl, rfl, trivial⟩, B, (by omega), (by omega)⟩, ?_⟩
                  show (8 - (k + 1)).toNat < (8 - k).toNat
                  omega
          · refine s_y (v := .bool false) rfl (y_lss rfl rfl (decide_eq_false c94)) ?_
            refine s_y (v := .bool false) rfl (y_move rfl) ?_
            refine s_skip rfl ?_
            refine s_skip rfl ?_
            refine s_y (v := .bool false) rfl (y_pick_f rfl rfl) ?_
            refine s_y (v := .bool false) rfl (y_pick_f rfl rfl) ?_
            refine s_y (v := .bool false) rfl (y_move rfl) ?_
            refine s_y (v := .pointer (some ⟨b30, 0, none⟩)) rfl (y_fld (o := 0) T4.fld_44_0_0 rfl) ?_
            refine s_y (v := .int .i64 v8) rfl (y_load T4.one_2 rfl ((B.b 2 rfl).cell (j := 0) rfl)) ?_
            by_cases c420 : v8 ≠ 4
            · refine s_y (v := .bool true) rfl (y_neq rfl rfl (decide_eq_true c420)) ?_
              refine s_y (v := .bool true) rfl (y_move rfl) ?_
              refine s_y (v := .float .f32 r83) rfl (y_move rfl) ?_
              refine s_y (v := .float .f32 r76) rfl (y_move rfl) ?_
              refine s_k rfl (k_call T4.fn_29 (c_i_SameNumber hr84 hr77) rfl ?_)
              rintro v423 w421 ⟨hv424, e422⟩
              replace B := B.ext0 e422
              clear e422
              have hk425 : sameN (wavT v8 (v9 + u42) v10 (twT v14) (szT v15) v13 ((u37 + k) + u42)) (wavT v8 v9 v10 (twT v14) (szT v15) v13 (u37 + k)) = true := (wav_same (by omega) (by omega) (by omega))
              obtain rfl : v423 = .bool true := hv424.trans (congrArg Value.bool hk425)
              refine s_y (v := .bool false) rfl (y_not rfl rfl) ?_
              refine s_y (v := .bool false) rfl (y_pick_t rfl rfl) ?_
              refine s_y (v := .bool false) rfl (y_pick_f rfl rfl) ?_
              refine s_nil ?_
              refine W_if_f (by decide) rfl ?_
              refine W_skip ?_
              refine W_seq ?_
              refine W_region (by kernel_rfl) ?_
              refine s_y (v := .int .i64 ((u37 + k) - v9)) rfl (y_move rfl) ?_
              by_cases c426 : 0 ≤ ((u37 + k) - v9)
              · refine s_y (v := .bool true) rfl (y_geq rfl rfl (decide_eq_true c426)) ?_
                refine s_y (v := .bool true) rfl (y_move rfl) ?_
                refine s_y (v := .int .i64 ((u37 + k) - v9)) rfl (y_move rfl) ?_
                refine s_y (v := .pointer (some ⟨b30, 2, none⟩)) rfl (y_fld (o := 0) T4.fld_44_2_2 rfl) ?_
                refine s_y (v := .int .i64 v10) rfl (y_load T4.one_2 rfl ((B.b 2 rfl).cell (j := 2) rfl)) ?_
                by_cases c427 : ((u37 + k) - v9) < v10
                · refine s_y (v := .bool true) rfl (y_lss rfl rfl (decide_eq_true c427)) ?_
                  refine s_y (v := .bool true) rfl (y_pick_t rfl rfl) ?_
                  refine s_y (v := .bool true) rfl (y_move rfl) ?_
                  refine s_y (v := .pointer (some ⟨b30, 0, none⟩)) rfl (y_fld (o := 0) T4.fld_44_0_0 rfl) ?_
                  refine s_y (v := .int .i64 v8) rfl (y_load T4.one_2 rfl ((B.b 2 rfl).cell (j := 0) rfl)) ?_
                  by_cases c428 : v8 = 0
                  · refine s_y (v := .bool true) rfl (y_eql rfl rfl (decide_eq_true c428)) ?_
                    refine s_y (v := .bool true) rfl (y_pick_t rfl rfl) ?_
                    refine s_y (v := .bool true) rfl (y_move rfl) ?_
                    refine s_y (v := .float .f32 r76) rfl (y_move rfl) ?_
                    refine s_y (v := .pointer (some ⟨b30, 4, none⟩)) rfl (y_fld (o := 0) T4.fld_44_4_4 rfl) ?_
                    refine s_y (v := .float .f32 c12) rfl (y_load T4.one_34 rfl ((B.b 2 rfl).cell (j := 4) rfl)) ?_
                    have hk429 : ¬ (fne .f32 (wavT v8 v9 v10 (twT v14) (szT v15) v13 (u37 + k)) (szT v15) = true) := (by first | (rw [wav_pulse (by omega) (by omega) (by omega)]; exact fne_fin (sz_gq (by omega) (by omega)).1) | (rw [wav_ramp (by omega) (by omega) (by omega)]; exact fne_fin (sz_gq (by omega) (by omega)).1))
                    refine s_y (v := .bool false) rfl (y_fneq rfl rfl (fneC hr77 hp29 (Bool.eq_false_iff.2 hk429))) ?_
                    refine s_y (v := .bool false) rfl (y_pick_t rfl rfl) ?_
                    refine s_y (v := .bool false) rfl (y_move rfl) ?_
                    refine s_y (v := .int .i64 ((u37 + k) - v9)) rfl (y_move rfl) ?_
                    refine s_y (v := .pointer (some ⟨b30, 2, none⟩)) rfl (y_fld (o := 0) T4.fld_44_2_2 rfl) ?_
                    refine s_y (v := .int .i64 v10) rfl (y_load T4.one_2 rfl ((B.b 2 rfl).cell (j := 2) rfl)) ?_
                    by_cases c430 : v10 ≤ ((u37 + k) - v9)
                    · refine s_y (v := .bool true) rfl (y_geq rfl rfl (decide_eq_true c430)) ?_
                      refine s_y (v := .bool true) rfl (y_move rfl) ?_
                      refine s_y (v := .pointer (some ⟨b30, 0, none⟩)) rfl (y_fld (o := 0) T4.fld_44_0_0 rfl) ?_
                      refine s_y (v := .int .i64 v8) rfl (y_load T4.one_2 rfl ((B.b 2 rfl).cell (j := 0) rfl)) ?_
                      by_cases c431 : v8 = 3
                      · refine s_y (v := .bool true) rfl (y_eql rfl rfl (decide_eq_true c431)) ?_
                        refine s_y (v := .bool true) rfl (y_pick_t rfl rfl) ?_
                        refine s_y (v := .bool true) rfl (y_move rfl) ?_
                        refine s_y (v := .float .f32 r76) rfl (y_move rfl) ?_
                        refine s_y (v := .pointer (some ⟨b30, 4, none⟩)) rfl (y_fld (o := 0) T4.fld_44_4_4 rfl) ?_
                        refine s_y (v := .float .f32 c12) rfl (y_load T4.one_34 rfl ((B.b 2 rfl).cell (j := 4) rfl)) ?_
                        refine s_y (v := .bool false) rfl (y_fneq rfl rfl (fneC hr77 hp29 (Bool.eq_false_iff.2 hk429))) ?_
                        refine s_y (v := .bool false) rfl (y_pick_t rfl rfl) ?_
                        refine s_y (v := .bool false) rfl (y_pick_f rfl rfl) ?_
                        refine s_y (v := .bool false) rfl (y_move rfl) ?_
                        refine s_y (v := .float .f32 r76) rfl (y_move rfl) ?_
                        refine s_n rfl (n_wide T4.und_34 T4.flt_53_f64 rfl) ?_
                        rintro _ w434 e435 ⟨r432, rfl, hr433⟩
                        replace B := B.ext0 e435
                        clear e435
                        have hc436 := wideC hr433 hr77
                        have hk437 : ¬ (fgt .f64 (widen (wavT v8 v9 v10 (twT v14) (szT v15) v13 (u37 + k))) 4611688270227201589 = true) := (not_over (wav_gq (by omega) (by omega) (by omega) (by omega))).1
                        refine s_y (v := .bool false) rfl (y_fgtr rfl rfl (fgtC hc436 (cnLit (k := .f64) (t := 4611688270227201589) (by kernel_rfl) (by kernel_rfl)) (Bool.eq_false_iff.2 hk437))) ?_
                        refine s_y (v := .bool false) rfl (y_pick_f rfl rfl) ?_
                        refine s_y (v := .bool false) rfl (y_move rfl) ?_
                        refine s_y (v := .float .f32 r76) rfl (y_move rfl) ?_
                        refine s_n rfl (n_wide T4.und_34 T4.flt_53_f64 rfl) ?_
                        rintro _ w440 e441 ⟨r438, rfl, hr439⟩
                        replace B := B.ext0 e441
                        clear e441
                        have hc442 := wideC hr439 hr77
                        have hk443 : ¬ (flt .f64 (widen (wavT v8 v9 v10 (twT v14) (szT v15) v13 (u37 + k))) 13835060307081977397 = true) := (not_over (wav_gq (by omega) (by omega) (by omega) (by omega))).2
                        refine s_y (v := .bool false) rfl (y_flss rfl rfl (fltC hc442 (cnLit (k := .f64) (t := 13835060307081977397) (by kernel_rfl) (by kernel_rfl)) (Bool.eq_false_iff.2 hk443))) ?_
                        refine s_y (v := .bool false) rfl (y_pick_f rfl rfl) ?_
                        refine s_nil ?_
                        refine W_if_f (by decide) rfl ?_
                        refine W_skip ?_
                        refine W_region (by kernel_rfl) ?_
                        refine s_y (v := .int .i64 k) rfl (y_move rfl) ?_
                        refine s_y (v := .int .i64 (k + 1)) rfl (y_add rfl rfl rfl (by omega)) ?_
                        refine s_y (v := .int .i64 (k + 1)) rfl (y_assign rfl) ?_
                        refine s_nil ?_
                        refine ⟨⟨_, k + 1, Fits.eq ⟨rfl, rfl, rfl, rfl, rfl, rfl, trivial⟩, B, (by omega), (by omega)⟩, ?_⟩
                        show (8 - (k + 1)).toNat < (8 - k).toNat
                        omega
                      · refine s_y (v := .bool false) rfl (y_eql rfl rfl (decide_eq_false c431)) ?_
                        refine s_y (v := .bool false) rfl (y_pick_t rfl rfl) ?_
                        refine s_y (v := .bool false) rfl (y_move rfl) ?_
                        refine s_skip rfl ?_
                        refine s_skip rfl ?_
                        refine s_skip rfl ?_
                        refine s_skip rfl ?_
                        refine s_y (v := .bool false) rfl (y_pick_f rfl rfl) ?_
                        refine s_y (v := .bool false) rfl (y_pick_f rfl rfl) ?_
                        refine s_y (v := .bool false) rfl (y_move rfl) ?_
                        refine s_y (v := .float .f32 r76) rfl (y_move rfl) ?_
                        refine s_n rfl (n_wide T4.und_34 T4.flt_53_f64 rfl) ?_
                        rintro _ w446 e447 ⟨r444, rfl, hr445⟩
                        replace B := B.ext0 e447
                        clear e447
                        have hc448 := wideC hr445 hr77
                        have hk449 : ¬ (fgt .f64 (widen (wavT v8 v9 v10 (twT v14) (szT v15) v13 (u37 + k))) 4611688270227201589 = true) := (not_over (wav_gq (by omega) (by omega) (by omega) (by omega))).1
                        refine s_y (v := .bool false) rfl (y_fgtr rfl rfl (fgtC hc448 (cnLit (k := .f64) (t := 4611688270227201589) (by kernel_rfl) (by kernel_rfl)) (Bool.eq_false_iff.2 hk449))) ?_
                        refine s_y (v := .bool false) rfl (y_pick_f rfl rfl) ?_
                        refine s_y (v := .bool false) rfl (y_move rfl) ?_
                        refine s_y (v := .float .f32 r76) rfl (y_move rfl) ?_
                        refine s_n rfl (n_wide T4.und_34 T4.flt_53_f64 rfl) ?_
                        rintro _ w452 e453 ⟨r450, rfl, hr451⟩
                        replace B := B.ext0 e453
                        clear e453
                        have hc454 := wideC hr451 hr77
                        have hk455 : ¬ (flt .f64 (widen (wavT v8 v9 v10 (twT v14) (szT v15) v13 (u37 + k))) 13835060307081977397 = true) := (not_over (wav_gq (by omega) (by omega) (by omega) (by omega))).2
                        refine s_y (v := .bool false) rfl (y_flss rfl rfl (fltC hc454 (cnLit (k := .f64) (t := 13835060307081977397) (by kernel_rfl) (by kernel_rfl)) (Bool.eq_false_iff.2 hk455))) ?_
                        refine s_y (v := .bool false) rfl (y_pick_f rfl rfl) ?_
                        refine s_nil ?_
                        refine W_if_f (by decide) rfl ?_
                        refine W_skip ?_
                        refine W_region (by kernel_rfl) ?_
                        refine s_y (v := .int .i64 k) rfl (y_move rfl) ?_
                        refine s_y (v := .int .i64 (k + 1)) rfl (y_add rfl rfl rfl (by omega)) ?_
                        refine s_y (v := .int .i64 (k + 1)) rfl (y_assign rfl) ?_
                        refine s_nil ?_
                        refine ⟨⟨_, k + 1, Fits.eq ⟨rfl, rfl, rfl, rfl, rfl, rfl, trivial⟩, B, (by omega), (by omega)⟩, ?_⟩
                        show (8 - (k + 1)).toNat < (8 - k).toNat
                        omega
                    · refine s_y (v := .bool false) rfl (y_geq rfl rfl (decide_eq_false c430)) ?_
                      refine s_y (v := .bool false) rfl (y_move rfl) ?_
                      refine s_skip rfl ?_
                      refine s_skip rfl ?_
                      refine s_skip rfl ?_
                      refine s_y (v := .bool false) rfl (y_pick_f rfl rfl) ?_
                      refine s_y (v := .bool false) rfl (y_move rfl) ?_
                      refine s_skip rfl ?_
                      refine s_skip rfl ?_
                      refine s_skip rfl ?_
                      refine s_skip rfl ?_
                      refine s_y (v := .bool false) rfl (y_pick_f rfl rfl) ?_
                      refine s_y (v := .bool false) rfl (y_pick_f rfl rfl) ?_
                      refine s_y (v := .bool false) rfl (y_move rfl) ?_
                      refine s_y (v := .float .f32 r76) rfl (y_move rfl) ?_
                      refine s_n rfl (n_wide T4.und_34 T4.flt_53_f64 rfl) ?_
                      rintro _ w458 e459 ⟨r456, rfl, hr457⟩
                      replace B := B.ext0 e459
                      clear e459
                      have hc460 := wideC hr457 hr77
                      have hk461 : ¬ (fgt .f64 (widen (wavT v8 v9 v10 (twT v14) (szT v15) v13 (u37 + k))) 4611688270227201589 = true) := (not_over (wav_gq (by omega) (by omega) (by omega) (by omega))).1
                      refine s_y (v := .bool false) rfl (y_fgtr rfl rfl (fgtC hc460 (cnLit (k := .f64) (t := 4611688270227201589) (by kernel_rfl) (by kernel_rfl)) (Bool.eq_false_iff.2 hk461))) ?_
                      refine s_y (v := .bool false) rfl (y_pick_f rfl rfl) ?_
                      refine s_y (v := .bool false) rfl (y_move rfl) ?_
                      refine s_y (v := .float .f32 r76) rfl (y_move rfl) ?_
                      refine s_n rfl (n_wide T4.und_34 T4.flt_53_f64 rfl) ?_
                      rintro _ w464 e465 ⟨r462, rfl, hr463⟩
                      replace B := B.ext0 e465
                      clear e465
                      have hc466 := wideC hr463 hr77
                      have hk467 : ¬ (flt .f64 (widen (wavT v8 v9 v10 (twT v14) (szT v15) v13 (u37 + k))) 13835060307081977397 = true) := (not_over (wav_gq (by omega) (by omega) (by omega) (by omega))).2
                      refine s_y (v := .bool false) rfl (y_flss rfl rfl (fltC hc466 (cnLit (k := .f64) (t := 13835060307081977397) (by kernel_rfl) (by kernel_rfl)) (Bool.eq_false_iff.2 hk467))) ?_
                      refine s_y (v := .bool false) rfl (y_pick_f rfl rfl) ?_
                      refine s_nil ?_
                      refine W_if_f (by decide) rfl ?_
                      refine W_skip ?_
                      refine W_region (by kernel_rfl) ?_
                      refine s_y (v := .int .i64 k) rfl (y_move rfl) ?_
                      refine s_y (v := .int .i64 (k + 1)) rfl (y_add rfl rfl rfl (by omega)) ?_
                      refine s_y (v := .int .i64 (k + 1)) rfl (y_assign rfl) ?_
                      refine s_nil ?_
                      refine ⟨⟨_, k + 1, Fits.eq ⟨rfl, rfl, rfl, rfl, rfl, rfl, trivial⟩, B, (by omega), (by omega)⟩, ?_⟩
                      show (8 - (k + 1)).toNat < (8 - k).toNat
                      omega
                  · refine s_y (v := .bool false) rfl (y_eql rfl rfl (decide_eq_false c428)) ?_
                    refine s_y (v := .bool false) rfl (y_pick_t rfl rfl) ?_
                    refine s_y (v := .bool false) rfl (y_move rfl) ?_
                    refine s_skip rfl ?_
                    refine s_skip rfl ?_
                    refine s_skip rfl ?_
                    refine s_skip rfl ?_
                    refine s_y (v := .bool false) rfl (y_pick_f rfl rfl) ?_
                    refine s_y (v := .bool false) rfl (y_move rfl) ?_
                    refine s_y (v := .int .i64 ((u37 + k) - v9)) rfl (y_move rfl) ?_
                    refine s_y (v := .pointer (some ⟨b30, 2, none⟩)) rfl (y_fld (o := 0) T4.fld_44_2_2 rfl) ?_
                    refine s_y (v := .int .i64 v10) rfl (y_load T4.one_2 rfl ((B.b 2 rfl).cell (j := 2) rfl)) ?_
                    by_cases c468 : v10 ≤ ((u37 + k) - v9)
                    · refine s_y (v := .bool true) rfl (y_geq rfl rfl (decide_eq_true c468)) ?_
                      refine s_y (v := .bool true) rfl (y_move rfl) ?_
                      refine s_y (v := .pointer (some ⟨b30, 0, none⟩)) rfl (y_fld (o := 0) T4.fld_44_0_0 rfl) ?_
                      refine s_y (v := .int .i64 v8) rfl (y_load T4.one_2 rfl ((B.b 2 rfl).cell (j := 0) rfl)) ?_
                      by_cases c469 : v8 = 3
                      · refine s_y (v := .bool true) rfl (y_eql rfl rfl (decide_eq_true c469)) ?_
                        refine s_y (v := .bool true) rfl (y_pick_t rfl rfl) ?_
                        refine s_y (v := .bool true) rfl (y_move rfl) ?_
                        refine s_y (v := .float .f32 r76) rfl (y_move rfl) ?_
                        refine s_y (v := .pointer (some ⟨b30, 4, none⟩)) rfl (y_fld (o := 0) T4.fld_44_4_4 rfl) ?_
                        refine s_y (v := .float .f32 c12) rfl (y_load T4.one_34 rfl ((B.b 2 rfl).cell (j := 4) rfl)) ?_
                        have hk470 : ¬ (fne .f32 (wavT v8 v9 v10 (twT v14) (szT v15) v13 (u37 + k)) (szT v15) = true) := (by first | (rw [wav_pulse (by omega) (by omega) (by omega)]; exact fne_fin (sz_gq (by omega) (by omega)).1) | (rw [wav_ramp (by omega) (by omega) (by omega)]; exact fne_fin (sz_gq (by omega) (by omega)).1))
                        refine s_y (v := .bool false) rfl (y_fneq rfl rfl (fneC hr77 hp29 (Bool.eq_false_iff.2 hk470))) ?_
                        refine s_y (v := .bool false) rfl (y_pick_t rfl rfl) ?_
                        refine s_y (v := .bool false) rfl (y_pick_f rfl rfl) ?_
                        refine s_y (v := .bool false) rfl (y_move rfl) ?_
                        refine s_y (v := .float .f32 r76) rfl (y_move rfl) ?_
                        refine s_n rfl (n_wide T4.und_34 T4.flt_53_f64 rfl) ?_
                        rintro _ w473 e474 ⟨r471, rfl, hr472⟩
                        replace B := B.ext0 e474
                        clear e474
                        have hc475 := wideC hr472 hr77
                        have hk476 : ¬ (fgt .f64 (widen (wavT v8 v9 v10 (twT v14) (szT v15) v13 (u37 + k))) 4611688270227201589 = true) := (not_over (wav_gq (by omega) (by omega) (by omega) (by omega))).1
                        refine s_y (v := .bool false) rfl (y_fgtr rfl rfl (fgtC hc475 (cnLit (k := .f64) (t := 4611688270227201589) (by kernel_rfl) (by kernel_rfl)) (Bool.eq_false_iff.2 hk476))) ?_
                        refine s_y (v := .bool false) rfl (y_pick_f rfl rfl) ?_
                        refine s_y (v := .bool false) rfl (y_move rfl) ?_
                        refine s_y (v := .float .f32 r76) rfl (y_move rfl) ?_
                        refine s_n rfl (n_wide T4.und_34 T4.flt_53_f64 rfl) ?_
                        rintro _ w479 e480 ⟨r477, rfl, hr478⟩
                        replace B := B.ext0 e480
                        clear e480
                        have hc481 := wideC hr478 hr77
                        have hk482 : ¬ (flt .f64 (widen (wavT v8 v9 v10 (twT v14) (szT v15) v13 (u37 + k))) 13835060307081977397 = true) := (not_over (wav_gq (by omega) (by omega) (by omega) (by omega))).2
                        refine s_y (v := .bool false) rfl (y_flss rfl rfl (fltC hc481 (cnLit (k := .f64) (t := 13835060307081977397) (by kernel_rfl) (by kernel_rfl)) (Bool.eq_false_iff.2 hk482))) ?_
                        refine s_y (v := .bool false) rfl (y_pick_f rfl rfl) ?_
                        refine s_nil ?_
                        refine W_if_f (by decide) rfl ?_
                        refine W_skip ?_
                        refine W_region (by kernel_rfl) ?_
                        refine s_y (v := .int .i64 k) rfl (y_move rfl) ?_
                        refine s_y (v := .int .i64 (k + 1)) rfl (y_add rfl rfl rfl (by omega)) ?_
                        refine s_y (v := .int .i64 (k + 1)) rfl (y_assign rfl) ?_
                        refine s_nil ?_
                        refine ⟨⟨_, k + 1, Fits.eq ⟨rfl, rfl, rfl, rfl, rfl, rfl, trivial⟩, B, (by omega), (by omega)⟩, ?_⟩
                        show (8 - (k + 1)).toNat < (8 - k).toNat
                        omega
                      · refine s_y (v := .bool false) rfl (y_eql rfl rfl (decide_eq_false c469)) ?_
                        refine s_y (v := .bool false) rfl (y_pick_t rfl rfl) ?_
                        refine s_y (v := .bool false) rfl (y_move rfl) ?_
                        refine s_skip rfl ?_
                        refine s_skip rfl ?_
                        refine s_skip rfl ?_
                        refine s_skip rfl ?_
                        refine s_y (v := .bool false) rfl (y_pick_f rfl rfl) ?_
                        refine s_y (v := .bool false) rfl (y_pick_f rfl rfl) ?_
                        refine s_y (v := .bool false) rfl (y_move rfl) ?_
                        refine s_y (v := .float .f32 r76) rfl (y_move rfl) ?_
                        refine s_n rfl (n_wide T4.und_34 T4.flt_53_f64 rfl) ?_
                        rintro _ w485 e486 ⟨r483, rfl, hr484⟩
                        replace B := B.ext0 e486
                        clear e486
                        have hc487 := wideC hr484 hr77
                        have hk488 : ¬ (fgt .f64 (widen (wavT v8 v9 v10 (twT v14) (szT v15) v13 (u37 + k))) 4611688270227201589 = true) := (not_over (wav_gq (by omega) (by omega) (by omega) (by omega))).1
                        refine s_y (v := .bool false) rfl (y_fgtr rfl rfl (fgtC hc487 (cnLit (k := .f64) (t := 4611688270227201589) (by kernel_rfl) (by kernel_rfl)) (Bool.eq_false_iff.2 hk488))) ?_
                        refine s_y (v := .bool false) rfl (y_pick_f rfl rfl) ?_
                        refine s_y (v := .bool false) rfl (y_move rfl) ?_
                        refine s_y (v := .float .f32 r76) rfl (y_move rfl) ?_
                        refine s_n rfl (n_wide T4.und_34 T4.flt_53_f64 rfl) ?_
                        rintro _ w491 e492 ⟨r489, rfl, hr490⟩
                        replace B := B.ext0 e492
                        clear e492
                        have hc493 := wideC hr490 hr77
                        have hk494 : ¬ (flt .f64 (widen (wavT v8 v9 v10 (twT v14) (szT v15) v13 (u37 + k))) 13835060307081977397 = true) := (not_over (wav_gq (by omega) (by omega) (by omega) (by omega))).2
                        refine s_y (v := .bool false) rfl (y_flss rfl rfl (fltC hc493 (cnLit (k := .f64) (t := 13835060307081977397) (by kernel_rfl) (by kernel_rfl)) (Bool.eq_false_iff.2 hk494))) ?_
                        refine s_y (v := .bool false) rfl (y_pick_f rfl rfl) ?_
                        refine s_nil ?_
                        refine W_if_f (by decide) rfl ?_
                        refine W_skip ?_
                        refine W_region (by kernel_rfl) ?_
                        refine s_y (v := .int .i64 k) rfl (y_move rfl) ?_
                        refine s_y (v := .int .i64 (k + 1)) rfl (y_add rfl rfl rfl (by omega)) ?_
                        refine s_y (v := .int .i64 (k + 1)) rfl (y_assign rfl) ?_
                        refine s_nil ?_
                        refine ⟨⟨_, k + 1, Fits.eq ⟨rfl, rfl, rfl, rfl, rfl, rfl, trivial⟩, B, (by omega), (by omega)⟩, ?_⟩
                        show (8 - (k + 1)).toNat < (8 - k).toNat
                        omega
                    · refine s_y (v := .bool false) rfl (y_geq rfl rfl (decide_eq_false c468)) ?_
                      refine s_y (v := .bool false) rfl (y_move rfl) ?_
                      refine s_skip rfl ?_
                      refine s_skip rfl ?_
                      refine s_skip rfl ?_
                      refine s_y (v := .bool false) rfl (y_pick_f rfl rfl) ?_
                      refine s_y (v := .bool false) rfl (y_move rfl) ?_
                      refine s_skip rfl ?_
                      refine s_skip rfl ?_
                      refine s_skip rfl ?_
                      refine s_skip rfl ?_
                      refine s_y (v := .bool false) rfl (y_pick_f rfl rfl) ?_
                      refine s_y (v := .bool false) rfl (y_pick_f rfl rfl) ?_
                      refine s_y (v := .bool false) rfl (y_move rfl) ?_
                      refine s_y (v := .float .f32 r76) rfl (y_move rfl) ?_
                      refine s_n rfl (n_wide T4.und_34 T4.flt_53_f64 rfl) ?_
                      rintro _ w497 e498 ⟨r495, rfl, hr496⟩
                      replace B := B.ext0 e498
                      clear e498
                      have hc499 := wideC hr496 hr77
                      have hk500 : ¬ (fgt .f64 (widen (wavT v8 v9 v10 (twT v14) (szT v15) v13 (u37 + k))) 4611688270227201589 = true) := (not_over (wav_gq (by omega) (by omega) (by omega) (by omega))).1
                      refine s_y (v := .bool false) rfl (y_fgtr rfl rfl (fgtC hc499 (cnLit (k := .f64) (t := 4611688270227201589) (by kernel_rfl) (by kernel_rfl)) (Bool.eq_false_iff.2 hk500))) ?_
                      refine s_y (v := .bool false) rfl (y_pick_f rfl rfl) ?_
                      refine s_y (v := .bool false) rfl (y_move rfl) ?_
                      refine s_y (v := .float .f32 r76) rfl (y_move rfl) ?_
                      refine s_n rfl (n_wide T4.und_34 T4.flt_53_f64 rfl) ?_
                      rintro _ w503 e504 ⟨r501, rfl, hr502⟩
                      replace B := B.ext0 e504
                      clear e504
                      have hc505 := wideC hr502 hr77
                      have hk506 : ¬ (flt .f64 (widen (wavT v8 v9 v10 (twT v14) (szT v15) v13 (u37 + k))) 13835060307081977397 = true) := (not_over (wav_gq (by omega) (by omega) (by omega) (by omega))).2
                      refine s_y (v := .bool false) rfl (y_flss rfl rfl (fltC hc505 (cnLit (k := .f64) (t := 13835060307081977397) (by kernel_rfl) (by kernel_rfl)) (Bool.eq_false_iff.2 hk506))) ?_
                      refine s_y (v := .bool false) rfl (y_pick_f rfl rfl) ?_
                      refine s_nil ?_
                      refine W_if_f (by decide) rfl ?_
                      refine W_skip ?_
                      refine W_region (by kernel_rfl) ?_
                      refine s_y (v := .int .i64 k) rfl (y_move rfl) ?_
                      refine s_y (v := .int .i64 (k + 1)) rfl (y_add rfl rfl rfl (by omega)) ?_
                      refine s_y (v := .int .i64 (k + 1)) rfl (y_assign rfl) ?_
                      refine s_nil ?_
                      refine ⟨⟨_, k + 1, Fits.eq ⟨rfl, rfl, rfl, rfl, rfl, rfl, trivial⟩, B, (by omega), (by omega)⟩, ?_⟩
                      show (8 - (k + 1)).toNat < (8 - k).toNat
                      omega
                · refine s_y (v := .bool false) rfl (y_lss rfl rfl (decide_eq_false c427)) ?_
                  refine s_y (v := .bool false) rfl (y_pick_t rfl rfl) ?_
                  refine s_y (v := .bool false) rfl (y_move rfl) ?_
                  refine s_skip rfl ?_
                  refine s_skip rfl ?_
                  refine s_skip rfl ?_
                  refine s_y (v := .bool false) rfl (y_pick_f rfl rfl) ?_
                  refine s_y (v := .bool false) rfl (y_move rfl) ?_
                  refine s_skip rfl ?_
                  refine s_skip rfl ?_
                  refine s_skip rfl ?_
                  refine s_skip rfl ?_
                  refine s_y (v := .bool false) rfl (y_pick_f rfl rfl) ?_
                  refine s_y (v := .bool false) rfl (y_move rfl) ?_
                  refine s_y (v := .int .i64 ((u37 + k) - v9)) rfl (y_move rfl) ?_
                  refine s_y (v := .pointer (some ⟨b30, 2, none⟩)) rfl (y_fld (o := 0) T4.fld_44_2_2 rfl) ?_
                  refine s_y (v := .int .i64 v10) rfl (y_load T4.one_2 rfl ((B.b 2 rfl).cell (j := 2) rfl)) ?_
                  by_cases c507 : v10 ≤ ((u37 + k) - v9)
                  · refine s_y (v := .bool true) rfl (y_geq rfl rfl (decide_eq_true c507)) ?_
                    refine s_y (v := .bool true) rfl (y_move rfl) ?_
                    refine s_y (v := .pointer (some ⟨b30, 0, none⟩)) rfl (y_fld (o := 0) T4.fld_44_0_0 rfl) ?_
                    refine s_y (v := .int .i64 v8) rfl (y_load T4.one_2 rfl ((B.b 2 rfl).cell (j := 0) rfl)) ?_
                    by_cases c508 : v8 = 3
                    · refine s_y (v := .bool true) rfl (y_eql rfl rfl (decide_eq_true c508)) ?_
                      refine s_y (v := .bool true) rfl (y_pick_t rfl rfl) ?_
                      refine s_y (v := .bool true) rfl (y_move rfl) ?_
                      refine s_y (v := .float .f32 r76) rfl (y_move rfl) ?_
                      refine s_y (v := .pointer (some ⟨b30, 4, none⟩)) rfl (y_fld (o := 0) T4.fld_44_4_4 rfl) ?_
                      refine s_y (v := .float .f32 c12) rfl (y_load T4.one_34 rfl ((B.b 2 rfl).cell (j := 4) rfl)) ?_
                      have hk509 : ¬ (fne .f32 (wavT v8 v9 v10 (twT v14) (szT v15) v13 (u37 + k)) (szT v15) = true) := (by first | (rw [wav_pulse (by omega) (by omega) (by omega)]; exact fne_fin (sz_gq (by omega) (by omega)).1) | (rw [wav_ramp (by omega) (by omega) (by omega)]; exact fne_fin (sz_gq (by omega) (by omega)).1))
                      refine s_y (v := .bool false) rfl (y_fneq rfl rfl (fneC hr77 hp29 (Bool.eq_false_iff.2 hk509))) ?_
                      refine s_y (v := .bool false) rfl (y_pick_t rfl rfl) ?_
                      refine s_y (v := .bool false) rfl (y_pick_f rfl rfl) ?_
                      refine s_y (v := .bool false) rfl (y_move rfl) ?_
                      refine s_y (v := .float .f32 r76) rfl (y_move rfl) ?_
                      refine s_n rfl (n_wide T4.und_34 T4.flt_53_f64 rfl) ?_
                      rintro _ w512 e513 ⟨r510, rfl, hr511⟩
                      replace B := B.ext0 e513
                      clear e513
                      have hc514 := wideC hr511 hr77
                      have hk515 : ¬ (fgt .f64 (widen (wavT v8 v9 v10 (twT v14) (szT v15) v13 (u37 + k))) 4611688270227201589 = true) := (not_over (wav_gq (by omega) (by omega) (by omega) (by omega))).1
                      refine s_y (v := .bool false) rfl (y_fgtr rfl rfl (fgtC hc514 (cnLit (k := .f64) (t := 4611688270227201589) (by kernel_rfl) (by kernel_rfl)) (Bool.eq_false_iff.2 hk515))) ?_
                      refine s_y (v := .bool false) rfl (y_pick_f rfl rfl) ?_
                      refine s_y (v := .bool false) rfl (y_move rfl) ?_
                      refine s_y (v := .float .f32 r76) rfl (y_move rfl) ?_
                      refine s_n rfl (n_wide T4.und_34 T4.flt_53_f64 rfl) ?_
                      rintro _ w518 e519 ⟨r516, rfl, hr517⟩
                      replace B := B.ext0 e519
                      clear e519
                      have hc520 := wideC hr517 hr77
                      have hk521 : ¬ (flt .f64 (widen (wavT v8 v9 v10 (twT v14) (szT v15) v13 (u37 + k))) 13835060307081977397 = true) := (not_over (wav_gq (by omega) (by omega) (by omega) (by omega))).2
                      refine s_y (v := .bool false) rfl (y_flss rfl rfl (fltC hc520 (cnLit (k := .f64) (t := 13835060307081977397) (by kernel_rfl) (by kernel_rfl)) (Bool.eq_false_iff.2 hk521))) ?_
                      refine s_y (v := .bool false) rfl (y_pick_f rfl rfl) ?_
                      refine s_nil ?_
                      refine W_if_f (by decide) rfl ?_
                      refine W_skip ?_
                      refine W_region (by kernel_rfl) ?_
                      refine s_y (v := .int .i64 k) rfl (y_move rfl) ?_
                      refine s_y (v := .int .i64 (k + 1)) rfl (y_add rfl rfl rfl (by omega)) ?_
                      refine s_y (v := .int .i64 (k + 1)) rfl (y_assign rfl) ?_
                      refine s_nil ?_
                      refine ⟨⟨_, k + 1, Fits.eq ⟨rfl, rfl, rfl, rfl, rfl, rfl, trivial⟩, B, (by omega), (by omega)⟩, ?_⟩
                      show (8 - (k + 1)).toNat < (8 - k).toNat
                      omega
                    · refine s_y (v := .bool false) rfl (y_eql rfl rfl (decide_eq_false c508)) ?_
                      refine s_y (v := .bool false) rfl (y_pick_t rfl rfl) ?_
                      refine s_y (v := .bool false) rfl (y_move rfl) ?_
                      refine s_skip rfl ?_
                      refine s_skip rfl ?_
                      refine s_skip rfl ?_
                      refine s_skip rfl ?_
                      refine s_y (v := .bool false) rfl (y_pick_f rfl rfl) ?_
                      refine s_y (v := .bool false) rfl (y_pick_f rfl rfl) ?_
                      refine s_y (v := .bool false) rfl (y_move rfl) ?_
                      refine s_y (v := .float .f32 r76) rfl (y_move rfl) ?_
                      refine s_n rfl (n_wide T4.und_34 T4.flt_53_f64 rfl) ?_
                      rintro _ w524 e525 ⟨r522, rfl, hr523⟩
                      replace B := B.ext0 e525
                      clear e525
                      have hc526 := wideC hr523 hr77
                      have hk527 : ¬ (fgt .f64 (widen (wavT v8 v9 v10 (twT v14) (szT v15) v13 (u37 + k))) 4611688270227201589 = true) := (not_over (wav_gq (by omega) (by omega) (by omega) (by omega))).1
                      refine s_y (v := .bool false) rfl (y_fgtr rfl rfl (fgtC hc526 (cnLit (k := .f64) (t := 4611688270227201589) (by kernel_rfl) (by kernel_rfl)) (Bool.eq_false_iff.2 hk527))) ?_
                      refine s_y (v := .bool false) rfl (y_pick_f rfl rfl) ?_
                      refine s_y (v := .bool false) rfl (y_move rfl) ?_
                      refine s_y (v := .float .f32 r76) rfl (y_move rfl) ?_
                      refine s_n rfl (n_wide T4.und_34 T4.flt_53_f64 rfl) ?_
                      rintro _ w530 e531 ⟨r528, rfl, hr529⟩
                      replace B := B.ext0 e531
                      clear e531
                      have hc532 := wideC hr529 hr77
                      have hk533 : ¬ (flt .f64 (widen (wavT v8 v9 v10 (twT v14) (szT v15) v13 (u37 + k))) 13835060307081977397 = true) := (not_over (wav_gq (by omega) (by omega) (by omega) (by omega))).2
                      refine s_y (v := .bool false) rfl (y_flss rfl rfl (fltC hc532 (cnLit (k := .f64) (t := 13835060307081977397) (by kernel_rfl) (by kernel_rfl)) (Bool.eq_false_iff.2 hk533))) ?_
                      refine s_y (v := .bool false) rfl (y_pick_f rfl rfl) ?_
                      refine s_nil ?_
                      refine W_if_f (by decide) rfl ?_
                      refine W_skip ?_
                      refine W_region (by kernel_rfl) ?_
                      refine s_y (v := .int .i64 k) rfl (y_move rfl) ?_
                      refine s_y (v := .int .i64 (k + 1)) rfl (y_add rfl rfl rfl (by omega)) ?_
                      refine s_y (v := .int .i64 (k + 1)) rfl (y_assign rfl) ?_
                      refine s_nil ?_
                      refine ⟨⟨_, k + 1, Fits.eq ⟨rfl, rfl, rfl, rfl, rfl, rfl, trivial⟩, B, (by omega), (by omega)⟩, ?_⟩
                      show (8 - (k + 1)).toNat < (8 - k).toNat
                      omega
                  · refine s_y (v := .bool false) rfl (y_geq rfl rfl (decide_eq_false c507)) ?_
                    refine s_y (v := .bool false) rfl (y_move rfl) ?_
                    refine s_skip rfl ?_
                    refine s_skip rfl ?_
                    refine s_skip rfl ?_
                    refine s_y (v := .bool false) rfl (y_pick_f rfl rfl) ?_
                    refine s_y (v := .bool false) rfl (y_move rfl) ?_
                    refine s_skip rfl ?_
                    refine s_skip rfl ?_
                    refine s_skip rfl ?_
                    refine s_skip rfl ?_
                    refine s_y (v := .bool false) rfl (y_pick_f rfl rfl) ?_
                    refine s_y (v := .bool false) rfl (y_pick_f rfl rfl) ?_
                    refine s_y (v := .bool false) rfl (y_move rfl) ?_
                    refine s_y (v := .float .f32 r76) rfl (y_move rfl) ?_
                    refine s_n rfl (n_wide T4.und_34 T4.flt_53_f64 rfl) ?_
                    rintro _ w536 e537 ⟨r534, rfl, hr535⟩
                    replace B := B.ext0 e537
                    clear e537
                    have hc538 := wideC hr535 hr77
                    have hk539 : ¬ (fgt .f64 (widen (wavT v8 v9 v10 (twT v14) (szT v15) v13 (u37 + k))) 4611688270227201589 = true) := (not_over (wav_gq (by omega) (by omega) (by omega) (by omega))).1
                    refine s_y (v := .bool false) rfl (y_fgtr rfl rfl (fgtC hc538 (cnLit (k := .f64) (t := 4611688270227201589) (by kernel_rfl) (by kernel_rfl)) (Bool.eq_false_iff.2 hk539))) ?_
                    refine s_y (v := .bool false) rfl (y_pick_f rfl rfl) ?_
                    refine s_y (v := .bool false) rfl (y_move rfl) ?_
                    refine s_y (v := .float .f32 r76) rfl (y_move rfl) ?_
                    refine s_n rfl (n_wide T4.und_34 T4.flt_53_f64 rfl) ?_
                    rintro _ w542 e543 ⟨r540, rfl, hr541⟩
                    replace B := B.ext0 e543
                    clear e543
                    have hc544 := wideC hr541 hr77
                    have hk545 : ¬ (flt .f64 (widen (wavT v8 v9 v10 (twT v14) (szT v15) v13 (u37 + k))) 13835060307081977397 = true) := (not_over (wav_gq (by omega) (by omega) (by omega) (by omega))).2
                    refine s_y (v := .bool false) rfl (y_flss rfl rfl (fltC hc544 (cnLit (k := .f64) (t := 13835060307081977397) (by kernel_rfl) (by kernel_rfl)) (Bool.eq_false_iff.2 hk545))) ?_
                    refine s_y (v := .bool false) rfl (y_pick_f rfl rfl) ?_
                    refine s_nil ?_
                    refine W_if_f (by decide) rfl ?_
                    refine W_skip ?_
                    refine W_region (by kernel_rfl) ?_
                    refine s_y (v := .int .i64 k) rfl (y_move rfl) ?_
                    refine s_y (v := .int .i64 (k + 1)) rfl (y_add rfl rfl rfl (by omega)) ?_
                    refine s_y (v := .int .i64 (k + 1)) rfl (y_assign rfl) ?_
                    refine s_nil ?_
                    refine ⟨⟨_, k + 1, Fits.eq ⟨rfl, rfl, rfl, rfl, rfl, rfl, trivial⟩, B, (by omega), (by omega)⟩, ?_⟩
                    show (8 - (k + 1)).toNat < (8 - k).toNat
                    omega
              · refine s_y (v := .bool false) rfl (y_geq rfl rfl (decide_eq_false c426)) ?_
                refine s_y (v := .bool false) rfl (y_move rfl) ?_
                refine s_skip rfl ?_
                refine s_skip rfl ?_
                refine s_skip rfl ?_
                refine s_skip rfl ?_
                refine s_y (v := .bool false) rfl (y_pick_f rfl rfl) ?_
                refine s_y (v := .bool false) rfl (y_move rfl) ?_
                refine s_skip rfl ?_
                refine s_skip rfl ?_
                refine s_skip rfl ?_
                refine s_y (v := .bool false) rfl (y_pick_f rfl rfl) ?_
                refine s_y (v := .bool false) rfl (y_move rfl) ?_
                refine s_skip rfl ?_
                refine s_skip rfl ?_
                refine s_skip rfl ?_
                refine s_skip rfl ?_
                refine s_y (v := .bool false) rfl (y_pick_f rfl rfl) ?_
                refine s_y (v := .bool false) rfl (y_move rfl) ?_
                refine s_y (v := .int .i64 ((u37 + k) - v9)) rfl (y_move rfl) ?_
                refine s_y (v := .pointer (some ⟨b30, 2, none⟩)) rfl (y_fld (o := 0) T4.fld_44_2_2 rfl) ?_
                refine s_y (v := .int .i64 v10) rfl (y_load T4.one_2 rfl ((B.b 2 rfl).cell (j := 2) rfl)) ?_
                by_cases c546 : v10 ≤ ((u37 + k) - v9)
                · refine s_y (v := .bool true) rfl (y_geq rfl rfl (decide_eq_true c546)) ?_
                  refine s_y (v := .bool true) rfl (y_move rfl) ?_
                  refine s_y (v := .pointer (some ⟨b30, 0, none⟩)) rfl (y_fld (o := 0) T4.fld_44_0_0 rfl) ?_
                  refine s_y (v := .int .i64 v8) rfl (y_load T4.one_2 rfl ((B.b 2 rfl).cell (j := 0) rfl)) ?_
                  by_cases c547 : v8 = 3
                  · refine s_y (v := .bool true) rfl (y_eql rfl rfl (decide_eq_true c547)) ?_
                    refine s_y (v := .bool true) rfl (y_pick_t rfl rfl) ?_
                    refine s_y (v := .bool true) rfl (y_move rfl) ?_
                    refine s_y (v := .float .f32 r76) rfl (y_move rfl) ?_
                    refine s_y (v := .pointer (some ⟨b30, 4, none⟩)) rfl (y_fld (o := 0) T4.fld_44_4_4 rfl) ?_
                    refine s_y (v := .float .f32 c12) rfl (y_load T4.one_34 rfl ((B.b 2 rfl).cell (j := 4) rfl)) ?_
                    have hk548 : ¬ (fne .f32 (wavT v8 v9 v10 (twT v14) (szT v15) v13 (u37 + k)) (szT v15) = true) := (by first | (rw [wav_pulse (by omega) (by omega) (by omega)]; exact fne_fin (sz_gq (by omega) (by omega)).1) | (rw [wav_ramp (by omega) (by omega) (by omega)]; exact fne_fin (sz_gq (by omega) (by omega)).1))
                    refine s_y (v := .bool false) rfl (y_fneq rfl rfl (fneC hr77 hp29 (Bool.eq_false_iff.2 hk548))) ?_
                    refine s_y (v := .bool false) rfl (y_pick_t rfl rfl) ?_
                    refine s_y (v := .bool false) rfl (y_pick_f rfl rfl) ?_
                    refine s_y (v := .bool false) rfl (y_move rfl) ?_
                    refine s_y (v := .float .f32 r76) rfl (y_move rfl) ?_
                    refine s_n rfl (n_wide T4.und_34 T4.flt_53_f64 rfl) ?_
                    rintro _ w551 e552 ⟨r549, rfl, hr550⟩
                    replace B := B.ext0 e552
                    clear e552
                    have hc553 := wideC hr550 hr77
                    have hk554 : ¬ (fgt .f64 (widen (wavT v8 v9 v10 (twT v14) (szT v15) v13 (u37 + k))) 4611688270227201589 = true) := (not_over (wav_gq (by omega) (by omega) (by omega) (by omega))).1
                    refine s_y (v := .bool false) rfl (y_fgtr rfl rfl (fgtC hc553 (cnLit (k := .f64) (t := 4611688270227201589) (by kernel_rfl) (by kernel_rfl)) (Bool.eq_false_iff.2 hk554))) ?_
                    refine s_y (v := .bool false) rfl (y_pick_f rfl rfl) ?_
                    refine s_y (v := .bool false) rfl (y_move rfl) ?_
                    refine s_y (v := .float .f32 r76) rfl (y_move rfl) ?_
                    refine s_n rfl (n_wide T4.und_34 T4.flt_53_f64 rfl) ?_
                    rintro _ w557 e558 ⟨r555, rfl, hr556⟩
                    replace B := B.ext0 e558
                    clear e558
                    have hc559 := wideC hr556 hr77
                    have hk560 : ¬ (flt .f64 (widen (wavT v8 v9 v10 (twT v14) (szT v15) v13 (u37 + k))) 13835060307081977397 = true) := (not_over (wav_gq (by omega) (by omega) (by omega) (by omega))).2
                    refine s_y (v := .bool false) rfl (y_flss rfl rfl (fltC hc559 (cnLit (k := .f64) (t := 13835060307081977397) (by kernel_rfl) (by kernel_rfl)) (Bool.eq_false_iff.2 hk560))) ?_
                    refine s_y (v := .bool false) rfl (y_pick_f rfl rfl) ?_
                    refine s_nil ?_
                    refine W_if_f (by decide) rfl ?_
                    refine W_skip ?_
                    refine W_region (by kernel_rfl) ?_
                    refine s_y (v := .int .i64 k) rfl (y_move rfl) ?_
                    refine s_y (v := .int .i64 (k + 1)) rfl (y_add rfl rfl rfl (by omega)) ?_
                    refine s_y (v := .int .i64 (k + 1)) rfl (y_assign rfl) ?_
                    refine s_nil ?_
                    refine ⟨⟨_, k + 1, Fits.eq ⟨rfl, rfl, rfl, rfl, rfl, rfl, trivial⟩, B, (by omega), (by omega)⟩, ?_⟩
                    show (8 - (k + 1)).toNat < (8 - k).toNat
                    omega
                  · refine s_y (v := .bool false) rfl (y_eql rfl rfl (decide_eq_false c547)) ?_
                    refine s_y (v := .bool false) rfl (y_pick_t rfl rfl) ?_
                    refine s_y (v := .bool false) rfl (y_move rfl) ?_
                    refine s_skip rfl ?_
                    refine s_skip rfl ?_
                    refine s_skip rfl ?_
                    refine s_skip rfl ?_
                    refine s_y (v := .bool false) rfl (y_pick_f rfl rfl) ?_
                    refine s_y (v := .bool false) rfl (y_pick_f rfl rfl) ?_
                    refine s_y (v := .bool false) rfl (y_move rfl) ?_
                    refine s_y (v := .float .f32 r76) rfl (y_move rfl) ?_
                    refine s_n rfl (n_wide T4.und_34 T4.flt_53_f64 rfl) ?_
                    rintro _ w563 e564 ⟨r561, rfl, hr562⟩
                    replace B := B.ext0 e564
                    clear e564
                    have hc565 := wideC hr562 hr77
                    have hk566 : ¬ (fgt .f64 (widen (wavT v8 v9 v10 (twT v14) (szT v15) v13 (u37 + k))) 4611688270227201589 = true) := (not_over (wav_gq (by omega) (by omega) (by omega) (by omega))).1
                    refine s_y (v := .bool false) rfl (y_fgtr rfl rfl (fgtC hc565 (cnLit (k := .f64) (t := 4611688270227201589) (by kernel_rfl) (by kernel_rfl)) (Bool.eq_false_iff.2 hk566))) ?_
                    refine s_y (v := .bool false) rfl (y_pick_f rfl rfl) ?_
                    refine s_y (v := .bool false) rfl (y_move rfl) ?_
                    refine s_y (v := .float .f32 r76) rfl (y_move rfl) ?_
                    refine s_n rfl (n_wide T4.und_34 T4.flt_53_f64 rfl) ?_
                    rintro _ w569 e570 ⟨r567, rfl, hr568⟩
                    replace B := B.ext0 e570
                    clear e570
                    have hc571 := wideC hr568 hr77
                    have hk572 : ¬ (flt .f64 (widen (wavT v8 v9 v10 (twT v14) (szT v15) v13 (u37 + k))) 13835060307081977397 = true) := (not_over (wav_gq (by omega) (by omega) (by omega) (by omega))).2
                    refine s_y (v := .bool false) rfl (y_flss rfl rfl (fltC hc571 (cnLit (k := .f64) (t := 13835060307081977397) (by kernel_rfl) (by kernel_rfl)) (Bool.eq_false_iff.2 hk572))) ?_
                    refine s_y (v := .bool false) rfl (y_pick_f rfl rfl) ?_
                    refine s_nil ?_
                    refine W_if_f (by decide) rfl ?_
                    refine W_skip ?_
                    refine W_region (by kernel_rfl) ?_
                    refine s_y (v := .int .i64 k) rfl (y_move rfl) ?_
                    refine s_y (v := .int .i64 (k + 1)) rfl (y_add rfl rfl rfl (by omega)) ?_
                    refine s_y (v := .int .i64 (k + 1)) rfl (y_assign rfl) ?_
                    refine s_nil ?_
                    refine ⟨⟨_, k + 1, Fits.eq ⟨rfl, rfl, rfl, rfl, rfl, rfl, trivial⟩, B, (by omega), (by omega)⟩, ?_⟩
                    show (8 - (k + 1)).toNat < (8 - k).toNat
                    omega
                · refine s_y (v := .bool false) rfl (y_geq rfl rfl (decide_eq_false c546)) ?_
                  refine s_y (v := .bool false) rfl (y_move rfl) ?_
                  refine s_skip rfl ?_
                  refine s_skip rfl ?_
                  refine s_skip rfl ?_
                  refine s_y (v := .bool false) rfl (y_pick_f rfl rfl) ?_
                  refine s_y (v := .bool false) rfl (y_move rfl) ?_
                  refine s_skip rfl ?_
                  refine s_skip rfl ?_
                  refine s_skip rfl ?_
                  refine s_skip rfl ?_
                  refine s_y (v := .bool false) rfl (y_pick_f rfl rfl) ?_
                  refine s_y (v := .bool false) rfl (y_pick_f rfl rfl) ?_
                  refine s_y (v := .bool false) rfl (y_move rfl) ?_
                  refine s_y (v := .float .f32 r76) rfl (y_move rfl) ?_
                  refine s_n rfl (n_wide T4.und_34 T4.flt_53_f64 rfl) ?_
                  rintro _ w575 e576 ⟨r573, rfl, hr574⟩
                  replace B := B.ext0 e576
                  clear e576
                  have hc577 := wideC hr574 hr77
                  have hk578 : ¬ (fgt .f64 (widen (wavT v8 v9 v10 (twT v14) (szT v15) v13 (u37 + k))) 4611688270227201589 = true) := (not_over (wav_gq (by omega) (by omega) (by omega) (by omega))).1
                  refine s_y (v := .bool false) rfl (y_fgtr rfl rfl (fgtC hc577 (cnLit (k := .f64) (t := 4611688270227201589) (by kernel_rfl) (by kernel_rfl)) (Bool.eq_false_iff.2 hk578))) ?_
                  refine s_y (v := .bool false) rfl (y_pick_f rfl rfl) ?_
                  refine s_y (v := .bool false) rfl (y_move rfl) ?_
                  refine s_y (v := .float .f32 r76) rfl (y_move rfl) ?_
                  refine s_n rfl (n_wide T4.und_34 T4.flt_53_f64 rfl) ?_
                  rintro _ w581 e582 ⟨r579, rfl, hr580⟩
                  replace B := B.ext0 e582
                  clear e582
                  have hc583 := wideC hr580 hr77
                  have hk584 : ¬ (flt .f64 (widen (wavT v8 v9 v10 (twT v14) (szT v15) v13 (u37 + k))) 13835060307081977397 = true) := (not_over (wav_gq (by omega) (by omega) (by omega) (by omega))).2
                  refine s_y (v := .bool false) rfl (y_flss rfl rfl (fltC hc583 (cnLit (k := .f64) (t := 13835060307081977397) (by kernel_rfl) (by kernel_rfl)) (Bool.eq_false_iff.2 hk584))) ?_
                  refine s_y (v := .bool false) rfl (y_pick_f rfl rfl) ?_
                  refine s_nil ?_
                  refine W_if_f (by decide) rfl ?_
                  refine W_skip ?_
                  refine W_region (by kernel_rfl) ?_
                  refine s_y (v := .int .i64 k) rfl (y_move rfl) ?_
                  refine s_y (v := .int .i64 (k + 1)) rfl (y_add rfl rfl rfl (by omega)) ?_
                  refine s_y (v := .int .i64 (k + 1)) rfl (y_assign rfl) ?_
                  refine s_nil ?_
                  refine ⟨⟨_, k + 1, Fits.eq ⟨rfl, rfl, rfl, rfl, rfl, rfl, trivial⟩, B, (by omega), (by omega)⟩, ?_⟩
                  show (8 - (k + 1)).toNat < (8 - k).toNat
                  omega
            · refine s_y (v := .bool false) rfl (y_neq rfl rfl (decide_eq_false c420)) ?_
              refine s_y (v := .bool false) rfl (y_move rfl) ?_
              refine s_skip rfl ?_
              refine s_skip rfl ?_
              refine s_skip rfl ?_
              refine s_skip rfl ?_
              refine s_y (v := .bool false) rfl (y_pick_f rfl rfl) ?_
              refine s_y (v := .bool false) rfl (y_pick_f rfl rfl) ?_
              refine s_nil ?_
              refine W_if_f (by decide) rfl ?_
              refine W_skip ?_
              refine W_seq ?_
              refine W_region (by kernel_rfl) ?_
              refine s_y (v := .int .i64 ((u37 + k) - v9)) rfl (y_move rfl) ?_
              by_cases c585 : 0 ≤ ((u37 + k) - v9)
              · refine s_y (v := .bool true) rfl (y_geq rfl rfl (decide_eq_true c585)) ?_
                refine s_y (v := .bool true) rfl (y_move rfl) ?_
                refine s_y (v := .int .i64 ((u37 + k) - v9)) rfl (y_move rfl) ?_
                refine s_y (v := .pointer (some ⟨b30, 2, none⟩)) rfl (y_fld (o := 0) T4.fld_44_2_2 rfl) ?_
                refine s_y (v := .int .i64 v10) rfl (y_load T4.one_2 rfl ((B.b 2 rfl).cell (j := 2) rfl)) ?_
                by_cases c586 : ((u37 + k) - v9) < v10
                · refine s_y (v := .bool true) rfl (y_lss rfl rfl (decide_eq_true c586)) ?_
                  refine s_y (v := .bool true) rfl (y_pick_t rfl rfl) ?_
                  refine s_y (v := .bool true) rfl (y_move rfl) ?_
                  refine s_y (v := .pointer (some ⟨b30, 0, none⟩)) rfl (y_fld (o := 0) T4.fld_44_0_0 rfl) ?_
                  refine s_y (v := .int .i64 v8) rfl (y_load T4.one_2 rfl ((B.b 2 rfl).cell (j := 0) rfl)) ?_
                  by_cases c587 : v8 = 0
                  · refine s_y (v := .bool true) rfl (y_eql rfl rfl (decide_eq_true c587)) ?_
                    refine s_y (v := .bool true) rfl (y_pick_t rfl rfl) ?_
                    refine s_y (v := .bool true) rfl (y_move rfl) ?_
                    refine s_y (v := .float .f32 r76) rfl (y_move rfl) ?_
                    refine s_y (v := .pointer (some ⟨b30, 4, none⟩)) rfl (y_fld (o := 0) T4.fld_44_4_4 rfl) ?_
                    refine s_y (v := .float .f32 c12) rfl (y_load T4.one_34 rfl ((B.b 2 rfl).cell (j := 4) rfl)) ?_
                    have hk588 : ¬ (fne .f32 (wavT v8 v9 v10 (twT v14) (szT v15) v13 (u37 + k)) (szT v15) = true) := (by first | (rw [wav_pulse (by omega) (by omega) (by omega)]; exact fne_fin (sz_gq (by omega) (by omega)).1) | (rw [wav_ramp (by omega) (by omega) (by omega)]; exact fne_fin (sz_gq (by omega) (by omega)).1))
                    refine s_y (v := .bool false) rfl (y_fneq rfl rfl (fneC hr77 hp29 (Bool.eq_false_iff.2 hk588))) ?_
                    refine s_y (v := .bool false) rfl (y_pick_t rfl rfl) ?_
                    refine s_y (v := .bool false) rfl (y_move rfl) ?_
                    refine s_y (v := .int .i64 ((u37 + k) - v9)) rfl (y_move rfl) ?_
                    refine s_y (v := .pointer (some ⟨b30, 2, none⟩)) rfl (y_fld (o := 0) T4.fld_44_2_2 rfl) ?_
                    refine s_y (v := .int .i64 v10) rfl (y_load T4.one_2 rfl ((B.b 2 rfl).cell (j := 2) rfl)) ?_
                    by_cases c589 : v10 ≤ ((u37 + k) - v9)
                    · refine s_y (v := .bool true) rfl (y_geq rfl rfl (decide_eq_true c589)) ?_
                      refine s_y (v := .bool true) rfl (y_move rfl) ?_
                      refine s_y (v := .pointer (some ⟨b30, 0, none⟩)) rfl (y_fld (o := 0) T4.fld_44_0_0 rfl) ?_
                      refine s_y (v := .int .i64 v8) rfl (y_load T4.one_2 rfl ((B.b 2 rfl).cell (j := 0) rfl)) ?_
                      by_cases c590 : v8 = 3
                      · refine s_y (v := .bool true) rfl (y_eql rfl rfl (decide_eq_true c590)) ?_
                        refine s_y (v := .bool true) rfl (y_pick_t rfl rfl) ?_
                        refine s_y (v := .bool true) rfl (y_move rfl) ?_
                        refine s_y (v := .float .f32 r76) rfl (y_move rfl) ?_
                        refine s_y (v := .pointer (some ⟨b30, 4, none⟩)) rfl (y_fld (o := 0) T4.fld_44_4_4 rfl) ?_
                        refine s_y (v := .float .f32 c12) rfl (y_load T4.one_34 rfl ((B.b 2 rfl).cell (j := 4) rfl)) ?_
                        refine s_y (v := .bool false) rfl (y_fneq rfl rfl (fneC hr77 hp29 (Bool.eq_false_iff.2 hk588))) ?_
                        refine s_y (v := .bool false) rfl (y_pick_t rfl rfl) ?_
                        refine s_y (v := .bool false) rfl (y_pick_f rfl rfl) ?_
                        refine s_y (v := .bool false) rfl (y_move rfl) ?_
                        refine s_y (v := .float .f32 r76) rfl (y_move rfl) ?_
                        refine s_n rfl (n_wide T4.und_34 T4.flt_53_f64 rfl) ?_
                        rintro _ w593 e594 ⟨r591, rfl, hr592⟩
                        replace B := B.ext0 e594
                        clear e594
                        have hc595 := wideC hr592 hr77
                        have hk596 : ¬ (fgt .f64 (widen (wavT v8 v9 v10 (twT v14) (szT v15) v13 (u37 + k))) 4611688270227201589 = true) := (not_over (wav_gq (by omega) (by omega) (by omega) (by omega))).1
                        refine s_y (v := .bool false) rfl (y_fgtr rfl rfl (fgtC hc595 (cnLit (k := .f64) (t := 4611688270227201589) (by kernel_rfl) (by kernel_rfl)) (Bool.eq_false_iff.2 hk596))) ?_
                        refine s_y (v := .bool false) rfl (y_pick_f rfl rfl) ?_
                        refine s_y (v := .bool false) rfl (y_move rfl) ?_
                        refine s_y (v := .float .f32 r76) rfl (y_move rfl) ?_
                        refine s_n rfl (n_wide T4.und_34 T4.flt_53_f64 rfl) ?_
                        rintro _ w599 e600 ⟨r597, rfl, hr598⟩
                        replace B := B.ext0 e600
                        clear e600
                        have hc601 := wideC hr598 hr77
                        have hk602 : ¬ (flt .f64 (widen (wavT v8 v9 v10 (twT v14) (szT v15) v13 (u37 + k))) 13835060307081977397 = true) := (not_over (wav_gq (by omega) (by omega) (by omega) (by omega))).2
                        refine s_y (v := .bool false) rfl (y_flss rfl rfl (fltC hc601 (cnLit (k := .f64) (t := 13835060307081977397) (by kernel_rfl) (by kernel_rfl)) (Bool.eq_false_iff.2 hk602))) ?_
                        refine s_y (v := .bool false) rfl (y_pick_f rfl rfl) ?_
                        refine s_nil ?_
                        refine W_if_f (by decide) rfl ?_
                        refine W_skip ?_
                        refine W_region (by kernel_rfl) ?_
                        refine s_y (v := .int .i64 k) rfl (y_move rfl) ?_
                        refine s_y (v := .int .i64 (k + 1)) rfl (y_add rfl rfl rfl (by omega)) ?_
                        refine s_y (v := .int .i64 (k + 1)) rfl (y_assign rfl) ?_
                        refine s_nil ?_
                        refine ⟨⟨_, k + 1, Fits.eq ⟨rfl, rfl, rfl, rfl, rfl, rfl, trivial⟩, B, (by omega), (by omega)⟩, ?_⟩
                        show (8 - (k + 1)).toNat < (8 - k).toNat
                        omega
                      · refine s_y (v := .bool false) rfl (y_eql rfl rfl (decide_eq_false c590)) ?_
                        refine s_y (v := .bool false) rfl (y_pick_t rfl rfl) ?_
                        refine s_y (v := .bool false) rfl (y_move rfl) ?_
                        refine s_skip rfl ?_
                        refine s_skip rfl ?_
                        refine s_skip rfl ?_
                        refine s_skip rfl ?_
                        refine s_y (v := .bool false) rfl (y_pick_f rfl rfl) ?_
                        refine s_y (v := .bool false) rfl (y_pick_f rfl rfl) ?_
                        refine s_y (v := .bool false) rfl (y_move rfl) ?_
                        refine s_y (v := .float .f32 r76) rfl (y_move rfl) ?_
                        refine s_n rfl (n_wide T4.und_34 T4.flt_53_f64 rfl) ?_
                        rintro _ w605 e606 ⟨r603, rfl, hr604⟩
                        replace B := B.ext0 e606
                        clear e606
                        have hc607 := wideC hr604 hr77
                        have hk608 : ¬ (fgt .f64 (widen (wavT v8 v9 v10 (twT v14) (szT v15) v13 (u37 + k))) 4611688270227201589 = true) := (not_over (wav_gq (by omega) (by omega) (by omega) (by omega))).1
                        refine s_y (v := .bool false) rfl (y_fgtr rfl rfl (fgtC hc607 (cnLit (k := .f64) (t := 4611688270227201589) (by kernel_rfl) (by kernel_rfl)) (Bool.eq_false_iff.2 hk608))) ?_
                        refine s_y (v := .bool false) rfl (y_pick_f rfl rfl) ?_
                        refine s_y (v := .bool false) rfl (y_move rfl) ?_
                        refine s_y (v := .float .f32 r76) rfl (y_move rfl) ?_
                        refine s_n rfl (n_wide T4.und_34 T4.flt_53_f64 rfl) ?_
                        rintro _ w611 e612 ⟨r609, rfl, hr610⟩
                        replace B := B.ext0 e612
                        clear e612
                        have hc613 := wideC hr610 hr77
                        have hk614 : ¬ (flt .f64 (widen (wavT v8 v9 v10 (twT v14) (szT v15) v13 (u37 + k))) 13835060307081977397 = true) := (not_over (wav_gq (by omega) (by omega) (by omega) (by omega))).2
                        refine s_y (v := .bool false) rfl (y_flss rfl rfl (fltC hc613 (cnLit (k := .f64) (t := 13835060307081977397) (by kernel_rfl) (by kernel_rfl)) (Bool.eq_false_iff.2 hk614))) ?_
                        refine s_y (v := .bool false) rfl (y_pick_f rfl rfl) ?_
                        refine s_nil ?_
                        refine W_if_f (by decide) rfl ?_
                        refine W_skip ?_
                        refine W_region (by kernel_rfl) ?_
                        refine s_y (v := .int .i64 k) rfl (y_move rfl) ?_
                        refine s_y (v := .int .i64 (k + 1)) rfl (y_add rfl rfl rfl (by omega)) ?_
                        refine s_y (v := .int .i64 (k + 1)) rfl (y_assign rfl) ?_
                        refine s_nil ?_
                        refine ⟨⟨_, k + 1, Fits.eq ⟨rfl, rfl, rfl, rfl, rfl, rfl, trivial⟩, B, (by omega), (by omega)⟩, ?_⟩
                        show (8 - (k + 1)).toNat < (8 - k).toNat
                        omega
                    · refine s_y (v := .bool false) rfl (y_geq rfl rfl (decide_eq_false c589)) ?_
                      refine s_y (v := .bool false) rfl (y_move rfl) ?_
                      refine s_skip rfl ?_
                      refine s_skip rfl ?_
                      refine s_skip rfl ?_
                      refine s_y (v := .bool false) rfl (y_pick_f rfl rfl) ?_
                      refine s_y (v := .bool false) rfl (y_move rfl) ?_
                      refine s_skip rfl ?_
                      refine s_skip rfl ?_
                      refine s_skip rfl ?_
                      refine s_skip rfl ?_
                      refine s_y (v := .bool false) rfl (y_pick_f rfl rfl) ?_
                      refine s_y (v := .bool false) rfl (y_pick_f rfl rfl) ?_
                      refine s_y (v := .bool false) rfl (y_move rfl) ?_
                      refine s_y (v := .float .f32 r76) rfl (y_move rfl) ?_
                      refine s_n rfl (n_wide T4.und_34 T4.flt_53_f64 rfl) ?_
                      rintro _ w617 e618 ⟨r615, rfl, hr616⟩
                      replace B := B.ext0 e618
                      clear e618
                      have hc619 := wideC hr616 hr77
                      have hk620 : ¬ (fgt .f64 (widen (wavT v8 v9 v10 (twT v14) (szT v15) v13 (u37 + k))) 4611688270227201589 = true) := (not_over (wav_gq (by omega) (by omega) (by omega) (by omega))).1
                      refine s_y (v := .bool false) rfl (y_fgtr rfl rfl (fgtC hc619 (cnLit (k := .f64) (t := 4611688270227201589) (by kernel_rfl) (by kernel_rfl)) (Bool.eq_false_iff.2 hk620))) ?_
                      refine s_y (v := .bool false) rfl (y_pick_f rfl rfl) ?_
                      refine s_y (v := .bool false) rfl (y_move rfl) ?_
                      refine s_y (v := .float .f32 r76) rfl (y_move rfl) ?_
                      refine s_n rfl (n_wide T4.und_34 T4.flt_53_f64 rfl) ?_
                      rintro _ w623 e624 ⟨r621, rfl, hr622⟩
                      replace B := B.ext0 e624
                      clear e624
                      have hc625 := wideC hr622 hr77
                      have hk626 : ¬ (flt .f64 (widen (wavT v8 v9 v10 (twT v14) (szT v15) v13 (u37 + k))) 13835060307081977397 = true) := (not_over (wav_gq (by omega) (by omega) (by omega) (by omega))).2
                      refine s_y (v := .bool false) rfl (y_flss rfl rfl (fltC hc625 (cnLit (k := .f64) (t := 13835060307081977397) (by kernel_rfl) (by kernel_rfl)) (Bool.eq_false_iff.2 hk626))) ?_
                      refine s_y (v := .bool false) rfl (y_pick_f rfl rfl) ?_
                      refine s_nil ?_
                      refine W_if_f (by decide) rfl ?_
                      refine W_skip ?_
                      refine W_region (by kernel_rfl) ?_
                      refine s_y (v := .int .i64 k) rfl (y_move rfl) ?_
                      refine s_y (v := .int .i64 (k + 1)) rfl (y_add rfl rfl rfl (by omega)) ?_
                      refine s_y (v := .int .i64 (k + 1)) rfl (y_assign rfl) ?_
                      refine s_nil ?_
                      refine ⟨⟨_, k + 1, Fits.eq ⟨rfl, rfl, rfl, rfl, rfl, rfl, trivial⟩, B, (by omega), (by omega)⟩, ?_⟩
                      show (8 - (k + 1)).toNat < (8 - k).toNat
                      omega
                  · refine s_y (v := .bool false) rfl (y_eql rfl rfl (decide_eq_false c587)) ?_
                    refine s_y (v := .bool false) rfl (y_pick_t rfl rfl) ?_
                    refine s_y (v := .bool false) rfl (y_move rfl) ?_
                    refine s_skip rfl ?_
                    refine s_skip rfl ?_
                    refine s_skip rfl ?_
                    refine s_skip rfl ?_
                    refine s_y (v := .bool false) rfl (y_pick_f rfl rfl) ?_
                    refine s_y (v := .bool false) rfl (y_move rfl) ?_
                    refine s_y (v := .int .i64 ((u37 + k) - v9)) rfl (y_move rfl) ?_
                    refine s_y (v := .pointer (some ⟨b30, 2, none⟩)) rfl (y_fld (o := 0) T4.fld_44_2_2 rfl) ?_
                    refine s_y (v := .int .i64 v10) rfl (y_load T4.one_2 rfl ((B.b 2 rfl).cell (j := 2) rfl)) ?_
                    by_cases c627 : v10 ≤ ((u37 + k) - v9)
                    · refine s_y (v := .bool true) rfl (y_geq rfl rfl (decide_eq_true c627)) ?_
                      refine s_y (v := .bool true) rfl (y_move rfl) ?_
                      refine s_y (v := .pointer (some ⟨b30, 0, none⟩)) rfl (y_fld (o := 0) T4.fld_44_0_0 rfl) ?_
                      refine s_y (v := .int .i64 v8) rfl (y_load T4.one_2 rfl ((B.b 2 rfl).cell (j := 0) rfl)) ?_
                      by_cases c628 : v8 = 3
                      · refine s_y (v := .bool true) rfl (y_eql rfl rfl (decide_eq_true c628)) ?_
                        refine s_y (v := .bool true) rfl (y_pick_t rfl rfl) ?_
                        refine s_y (v := .bool true) rfl (y_move rfl) ?_
                        refine s_y (v := .float .f32 r76) rfl (y_move rfl) ?_
                        refine s_y (v := .pointer (some ⟨b30, 4, none⟩)) rfl (y_fld (o := 0) T4.fld_44_4_4 rfl) ?_
                        refine s_y (v := .float .f32 c12) rfl (y_load T4.one_34 rfl ((B.b 2 rfl).cell (j := 4) rfl)) ?_
                        have hk629 : ¬ (fne .f32 (wavT v8 v9 v10 (twT v14) (szT v15) v13 (u37 + k)) (szT v15) = true) := (by first | (rw [wav_pulse (by omega) (by omega) (by omega)]; exact fne_fin (sz_gq (by omega) (by omega)).1) | (rw [wav_ramp (by omega) (by omega) (by omega)]; exact fne_fin (sz_gq (by omega) (by omega)).1))
                        refine s_y (v := .bool false) rfl (y_fneq rfl rfl (fneC hr77 hp29 (Bool.eq_false_iff.2 hk629))) ?_
                        refine s_y (v := .bool false) rfl (y_pick_t rfl rfl) ?_
                        refine s_y (v := .bool false) rfl (y_pick_f rfl rfl) ?_
                        refine s_y (v := .bool false) rfl (y_move rfl) ?_
                        refine s_y (v := .float .f32 r76) rfl (y_move rfl) ?_
                        refine s_n rfl (n_wide T4.und_34 T4.flt_53_f64 rfl) ?_
                        rintro _ w632 e633 ⟨r630, rfl, hr631⟩
                        replace B := B.ext0 e633
                        clear e633
                        have hc634 := wideC hr631 hr77
                        have hk635 : ¬ (fgt .f64 (widen (wavT v8 v9 v10 (twT v14) (szT v15) v13 (u37 + k))) 4611688270227201589 = true) := (not_over (wav_gq (by omega) (by omega) (by omega) (by omega))).1
                        refine s_y (v := .bool false) rfl (y_fgtr rfl rfl (fgtC hc634 (cnLit (k := .f64) (t := 4611688270227201589) (by kernel_rfl) (by kernel_rfl)) (Bool.eq_false_iff.2 hk635))) ?_
                        refine s_y (v := .bool false) rfl (y_pick_f rfl rfl) ?_
                        refine s_y (v := .bool false) rfl (y_move rfl) ?_
                        refine s_y (v := .float .f32 r76) rfl (y_move rfl) ?_
                        refine s_n rfl (n_wide T4.und_34 T4.flt_53_f64 rfl) ?_
                        rintro _ w638 e639 ⟨r636, rfl, hr637⟩
                        replace B := B.ext0 e639
                        clear e639
                        have hc640 := wideC hr637 hr77
                        have hk641 : ¬ (flt .f64 (widen (wavT v8 v9 v10 (twT v14) (szT v15) v13 (u37 + k))) 13835060307081977397 = true) := (not_over (wav_gq (by omega) (by omega) (by omega) (by omega))).2
                        refine s_y (v := .bool false) rfl (y_flss rfl rfl (fltC hc640 (cnLit (k := .f64) (t := 13835060307081977397) (by kernel_rfl) (by kernel_rfl)) (Bool.eq_false_iff.2 hk641))) ?_
                        refine s_y (v := .bool false) rfl (y_pick_f rfl rfl) ?_
                        refine s_nil ?_
                        refine W_if_f (by decide) rfl ?_
                        refine W_skip ?_
                        refine W_region (by kernel_rfl) ?_
                        refine s_y (v := .int .i64 k) rfl (y_move rfl) ?_
                        refine s_y (v := .int .i64 (k + 1)) rfl (y_add rfl rfl rfl (by omega)) ?_
                        refine s_y (v := .int .i64 (k + 1)) rfl (y_assign rfl) ?_
                        refine s_nil ?_
                        refine ⟨⟨_, k + 1, Fits.eq ⟨rfl, rfl, rfl, rfl, rfl, rfl, trivial⟩, B, (by omega), (by omega)⟩, ?_⟩
                        show (8 - (k + 1)).toNat < (8 - k).toNat
                        omega
                      · refine s_y (v := .bool false) rfl (y_eql rfl rfl (decide_eq_false c628)) ?_
                        refine s_y (v := .bool false) rfl (y_pick_t rfl rfl) ?_
                        refine s_y (v := .bool false) rfl (y_move rfl) ?_
                        refine s_skip rfl ?_
                        refine s_skip rfl ?_
                        refine s_skip rfl ?_
                        refine s_skip rfl ?_
                        refine s_y (v := .bool false) rfl (y_pick_f rfl rfl) ?_
                        refine s_y (v := .bool false) rfl (y_pick_f rfl rfl) ?_
                        refine s_y (v := .bool false) rfl (y_move rfl) ?_
                        refine s_y (v := .float .f32 r76) rfl (y_move rfl) ?_
                        refine s_n rfl (n_wide T4.und_34 T4.flt_53_f64 rfl) ?_
                        rintro _ w644 e645 ⟨r642, rfl, hr643⟩
                        replace B := B.ext0 e645
                        clear e645
                        have hc646 := wideC hr643 hr77
                        have hk647 : ¬ (fgt .f64 (widen (wavT v8 v9 v10 (twT v14) (szT v15) v13 (u37 + k))) 4611688270227201589 = true) := (not_over (wav_gq (by omega) (by omega) (by omega) (by omega))).1
                        refine s_y (v := .bool false) rfl (y_fgtr rfl rfl (fgtC hc646 (cnLit (k := .f64) (t := 4611688270227201589) (by kernel_rfl) (by kernel_rfl)) (Bool.eq_false_iff.2 hk647))) ?_
                        refine s_y (v := .bool false) rfl (y_pick_f rfl rfl) ?_
                        refine s_y (v := .bool false) rfl (y_move rfl) ?_
                        refine s_y (v := .float .f32 r76) rfl (y_move rfl) ?_
                        refine s_n rfl (n_wide T4.und_34 T4.flt_53_f64 rfl) ?_
                        rintro _ w650 e651 ⟨r648, rfl, hr649⟩
                        replace B := B.ext0 e651
                        clear e651
                        have hc652 := wideC hr649 hr77
                        have hk653 : ¬ (flt .f64 (widen (wavT v8 v9 v10 (twT v14) (szT v15) v13 (u37 + k))) 13835060307081977397 = true) := (not_over (wav_gq (by omega) (by omega) (by omega) (by omega))).2
                        refine s_y (v := .bool false) rfl (y_flss rfl rfl (fltC hc652 (cnLit (k := .f64) (t := 13835060307081977397) (by kernel_rfl) (by kernel_rfl)) (Bool.eq_false_iff.2 hk653))) ?_
                        refine s_y (v := .bool false) rfl (y_pick_f rfl rfl) ?_
                        refine s_nil ?_
                        refine W_if_f (by decide) rfl ?_
                        refine W_skip ?_
                        refine W_region (by kernel_rfl) ?_
                        refine s_y (v := .int .i64 k) rfl (y_move rfl) ?_
                        refine s_y (v := .int .i64 (k + 1)) rfl (y_add rfl rfl rfl (by omega)) ?_
                        refine s_y (v := .int .i64 (k + 1)) rfl (y_assign rfl) ?_
                        refine s_nil ?_
                        refine ⟨⟨_, k + 1, Fits.eq ⟨rfl, rfl, rfl, rfl, rfl, rfl, trivial⟩, B, (by omega), (by omega)⟩, ?_⟩
                        show (8 - (k + 1)).toNat < (8 - k).toNat
                        omega
                    · refine s_y (v := .bool false) rfl (y_geq rfl rfl (decide_eq_false c627)) ?_
                      refine s_y (v := .bool false) rfl (y_move rfl) ?_
                      refine s_skip rfl ?_
                      refine s_skip rfl ?_
                      refine s_skip rfl ?_
                      refine s_y (v := .bool false) rfl (y_pick_f rfl rfl) ?_
                      refine s_y (v := .bool false) rfl (y_move rfl) ?_
                      refine s_skip rfl ?_
                      refine s_skip rfl ?_
                      refine s_skip rfl ?_
                      refine s_skip rfl ?_
                      refine s_y (v := .bool false) rfl (y_pick_f rfl rfl) ?_
                      refine s_y (v := .bool false) rfl (y_pick_f rfl rfl) ?_
                      refine s_y (v := .bool false) rfl (y_move rfl) ?_
                      refine s_y (v := .float .f32 r76) rfl (y_move rfl) ?_
                      refine s_n rfl (n_wide T4.und_34 T4.flt_53_f64 rfl) ?_
                      rintro _ w656 e657 ⟨r654, rfl, hr655⟩
                      replace B := B.ext0 e657
                      clear e657
                      have hc658 := wideC hr655 hr77
                      have hk659 : ¬ (fgt .f64 (widen (wavT v8 v9 v10 (twT v14) (szT v15) v13 (u37 + k))) 4611688270227201589 = true) := (not_over (wav_gq (by omega) (by omega) (by omega) (by omega))).1
                      refine s_y (v := .bool false) rfl (y_fgtr rfl rfl (fgtC hc658 (cnLit (k := .f64) (t := 4611688270227201589) (by kernel_rfl) (by kernel_rfl)) (Bool.eq_false_iff.2 hk659))) ?_
                      refine s_y (v := .bool false) rfl (y_pick_f rfl rfl) ?_
                      refine s_y (v := .bool false) rfl (y_move rfl) ?_
                      refine s_y (v := .float .f32 r76) rfl (y_move rfl) ?_
                      refine s_n rfl (n_wide T4.und_34 T4.flt_53_f64 rfl) ?_
                      rintro _ w662 e663 ⟨r660, rfl, hr661⟩
                      replace B := B.ext0 e663
                      clear e663
                      have hc664 := wideC hr661 hr77
                      have hk665 : ¬ (flt .f64 (widen (wavT v8 v9 v10 (twT v14) (szT v15) v13 (u37 + k))) 13835060307081977397 = true) := (not_over (wav_gq (by omega) (by omega) (by omega) (by omega))).2
                      refine s_y (v := .bool false) rfl (y_flss rfl rfl (fltC hc664 (cnLit (k := .f64) (t := 13835060307081977397) (by kernel_rfl) (by kernel_rfl)) (Bool.eq_false_iff.2 hk665))) ?_
                      refine s_y (v := .bool false) rfl (y_pick_f rfl rfl) ?_
                      refine s_nil ?_
                      refine W_if_f (by decide) rfl ?_
                      refine W_skip ?_
                      refine W_region (by kernel_rfl) ?_
                      refine s_y (v := .int .i64 k) rfl (y_move rfl) ?_
                      refine s_y (v := .int .i64 (k + 1)) rfl (y_add rfl rfl rfl (by omega)) ?_
                      refine s_y (v := .int .i64 (k + 1)) rfl (y_assign rfl) ?_
                      refine s_nil ?_
                      refine ⟨⟨_, k + 1, Fits.eq ⟨rfl, rfl, rfl, rfl, rfl, rfl, trivial⟩, B, (by omega), (by omega)⟩, ?_⟩
                      show (8 - (k + 1)).toNat < (8 - k).toNat
                      omega
                · refine s_y (v := .bool false) rfl (y_lss rfl rfl (decide_eq_false c586)) ?_
                  refine s_y (v := .bool false) rfl (y_pick_t rfl rfl) ?_
                  refine s_y (v := .bool false) rfl (y_move rfl) ?_
                  refine s_skip rfl ?_
                  refine s_skip rfl ?_
                  refine s_skip rfl ?_
                  refine s_y (v := .bool false) rfl (y_pick_f rfl rfl) ?_
                  refine s_y (v := .bool false) rfl (y_move rfl) ?_
                  refine s_skip rfl ?_
                  refine s_skip rfl ?_
                  refine s_skip rfl ?_
                  refine s_skip rfl ?_
                  refine s_y (v := .bool false) rfl (y_pick_f rfl rfl) ?_
                  refine s_y (v := .bool false) rfl (y_move rfl) ?_
                  refine s_y (v := .int .i64 ((u37 + k) - v9)) rfl (y_move rfl) ?_
                  refine s_y (v := .pointer (some ⟨b30, 2, none⟩)) rfl (y_fld (o := 0) T4.fld_44_2_2 rfl) ?_
                  refine s_y (v := .int .i64 v10) rfl (y_load T4.one_2 rfl ((B.b 2 rfl).cell (j := 2) rfl)) ?_
                  by_cases c666 : v10 ≤ ((u37 + k) - v9)
                  · refine s_y (v := .bool true) rfl (y_geq rfl rfl (decide_eq_true c666)) ?_
                    refine s_y (v := .bool true) rfl (y_move rfl) ?_
                    refine s_y (v := .pointer (some ⟨b30, 0, none⟩)) rfl (y_fld (o := 0) T4.fld_44_0_0 rfl) ?_
                    refine s_y (v := .int .i64 v8) rfl (y_load T4.one_2 rfl ((B.b 2 rfl).cell (j := 0) rfl)) ?_
                    by_cases c667 : v8 = 3
                    · refine s_y (v := .bool true) rfl (y_eql rfl rfl (decide_eq_true c667)) ?_
                      refine s_y (v := .bool true) rfl (y_pick_t rfl rfl) ?_
                      refine s_y (v := .bool true) rfl (y_move rfl) ?_
                      refine s_y (v := .float .f32 r76) rfl (y_move rfl) ?_
                      refine s_y (v := .pointer (some ⟨b30, 4, none⟩)) rfl (y_fld (o := 0) T4.fld_44_4_4 rfl) ?_
                      refine s_y (v := .float .f32 c12) rfl (y_load T4.one_34 rfl ((B.b 2 rfl).cell (j := 4) rfl)) ?_
                      have hk668 : ¬ (fne .f32 (wavT v8 v9 v10 (twT v14) (szT v15) v13 (u37 + k)) (szT v15) = true) := (by first | (rw [wav_pulse (by omega) (by omega) (by omega)]; exact fne_fin (sz_gq (by omega) (by omega)).1) | (rw [wav_ramp (by omega) (by omega) (by omega)]; exact fne_fin (sz_gq (by omega) (by omega)).1))
                      refine s_y (v := .bool false) rfl (y_fneq rfl rfl (fneC hr77 hp29 (Bool.eq_false_iff.2 hk668))) ?_
                      refine s_y (v := .bool false) rfl (y_pick_t rfl rfl) ?_
                      refine s_y (v := .bool false) rfl (y_pick_f rfl rfl) ?_
                      refine s_y (v := .bool false) rfl (y_move rfl) ?_
                      refine s_y (v := .float .f32 r76) rfl (y_move rfl) ?_
                      refine s_n rfl (n_wide T4.und_34 T4.flt_53_f64 rfl) ?_
                      rintro _ w671 e672 ⟨r669, rfl, hr670⟩
                      replace B := B.ext0 e672
                      clear e672
                      have hc673 := wideC hr670 hr77
                      have hk674 : ¬ (fgt .f64 (widen (wavT v8 v9 v10 (twT v14) (szT v15) v13 (u37 + k))) 4611688270227201589 = true) := (not_over (wav_gq (by omega) (by omega) (by omega) (by omega))).1
                      refine s_y (v := .bool false) rfl (y_fgtr rfl rfl (fgtC hc673 (cnLit (k := .f64) (t := 4611688270227201589) (by kernel_rfl) (by kernel_rfl)) (Bool.eq_false_iff.2 hk674))) ?_
                      refine s_y (v := .bool false) rfl (y_pick_f rfl rfl) ?_
                      refine s_y (v := .bool false) rfl (y_move rfl) ?_
                      refine s_y (v := .float .f32 r76) rfl (y_move rfl) ?_
                      refine s_n rfl (n_wide T4.und_34 T4.flt_53_f64 rfl) ?_
                      rintro _ w677 e678 ⟨r675, rfl, hr676⟩
                      replace B := B.ext0 e678
                      clear e678
                      have hc679 := wideC hr676 hr77
                      have hk680 : ¬ (flt .f64 (widen (wavT v8 v9 v10 (twT v14) (szT v15) v13 (u37 + k))) 13835060307081977397 = true) := (not_over (wav_gq (by omega) (by omega) (by omega) (by omega))).2
                      refine s_y (v := .bool false) rfl (y_flss rfl rfl (fltC hc679 (cnLit (k := .f64) (t := 13835060307081977397) (by kernel_rfl) (by kernel_rfl)) (Bool.eq_false_iff.2 hk680))) ?_
                      refine s_y (v := .bool false) rfl (y_pick_f rfl rfl) ?_
                      refine s_nil ?_
                      refine W_if_f (by decide) rfl ?_
                      refine W_skip ?_
                      refine W_region (by kernel_rfl) ?_
                      refine s_y (v := .int .i64 k) rfl (y_move rfl) ?_
                      refine s_y (v := .int .i64 (k + 1)) rfl (y_add rfl rfl rfl (by omega)) ?_
                      refine s_y (v := .int .i64 (k + 1)) rfl (y_assign rfl) ?_
                      refine s_nil ?_
                      refine ⟨⟨_, k + 1, Fits.eq ⟨rfl, rfl, rfl, rfl, rfl, rfl, trivial⟩, B, (by omega), (by omega)⟩, ?_⟩
                      show (8 - (k + 1)).toNat < (8 - k).toNat
                      omega
                    · refine s_y (v := .bool false) rfl (y_eql rfl rfl (decide_eq_false c667)) ?_
                      refine s_y (v := .bool false) rfl (y_pick_t rfl rfl) ?_
                      refine s_y (v := .bool false) rfl (y_move rfl) ?_
                      refine s_skip rfl ?_
                      refine s_skip rfl ?_
                      refine s_skip rfl ?_
                      refine s_skip rfl ?_
                      refine s_y (v := .bool false) rfl (y_pick_f rfl rfl) ?_
                      refine s_y (v := .bool false) rfl (y_pick_f rfl rfl) ?_
                      refine s_y (v := .bool false) rfl (y_move rfl) ?_
                      refine s_y (v := .float .f32 r76) rfl (y_move rfl) ?_
                      refine s_n rfl (n_wide T4.und_34 T4.flt_53_f64 rfl) ?_
                      rintro _ w683 e684 ⟨r681, rfl, hr682⟩
                      replace B := B.ext0 e684
                      clear e684
                      have hc685 := wideC hr682 hr77
                      have hk686 : ¬ (fgt .f64 (widen (wavT v8 v9 v10 (twT v14) (szT v15) v13 (u37 + k))) 4611688270227201589 = true) := (not_over (wav_gq (by omega) (by omega) (by omega) (by omega))).1
                      refine s_y (v := .bool false) rfl (y_fgtr rfl rfl (fgtC hc685 (cnLit (k := .f64) (t := 4611688270227201589) (by kernel_rfl) (by kernel_rfl)) (Bool.eq_false_iff.2 hk686))) ?_
                      refine s_y (v := .bool false) rfl (y_pick_f rfl rfl) ?_
                      refine s_y (v := .bool false) rfl (y_move rfl) ?_
                      refine s_y (v := .float .f32 r76) rfl (y_move rfl) ?_
                      refine s_n rfl (n_wide T4.und_34 T4.flt_53_f64 rfl) ?_
                      rintro _ w689 e690 ⟨r687, rfl, hr688⟩
                      replace B := B.ext0 e690
                      clear e690
                      have hc691 := wideC hr688 hr77
                      have hk692 : ¬ (flt .f64 (widen (wavT v8 v9 v10 (twT v14) (szT v15) v13 (u37 + k))) 13835060307081977397 = true) := (not_over (wav_gq (by omega) (by omega) (by omega) (by omega))).2
                      refine s_y (v := .bool false) rfl (y_flss rfl rfl (fltC hc691 (cnLit (k := .f64) (t := 13835060307081977397) (by kernel_rfl) (by kernel_rfl)) (Bool.eq_false_iff.2 hk692))) ?_
                      refine s_y (v := .bool false) rfl (y_pick_f rfl rfl) ?_
                      refine s_nil ?_
                      refine W_if_f (by decide) rfl ?_
                      refine W_skip ?_
                      refine W_region (by kernel_rfl) ?_
                      refine s_y (v := .int .i64 k) rfl (y_move rfl) ?_
                      refine s_y (v := .int .i64 (k + 1)) rfl (y_add rfl rfl rfl (by omega)) ?_
                      refine s_y (v := .int .i64 (k + 1)) rfl (y_assign rfl) ?_
                      refine s_nil ?_
                      refine ⟨⟨_, k + 1, Fits.eq ⟨rfl, rfl, rfl, rfl, rfl, rfl, trivial⟩, B, (by omega), (by omega)⟩, ?_⟩
                      show (8 - (k + 1)).toNat < (8 - k).toNat
                      omega
                  · refine s_y (v := .bool false) rfl (y_geq rfl rfl (decide_eq_false c666)) ?_
                    refine s_y (v := .bool false) rfl (y_move rfl) ?_
                    refine s_skip rfl ?_
                    refine s_skip rfl ?_
                    refine s_skip rfl ?_
                    refine s_y (v := .bool false) rfl (y_pick_f rfl rfl) ?_
                    refine s_y (v := .bool false) rfl (y_move rfl) ?_
                    refine s_skip rfl ?_
                    refine s_skip rfl ?_
                    refine s_skip rfl ?_
                    refine s_skip rfl ?_
                    refine s_y (v := .bool false) rfl (y_pick_f rfl rfl) ?_
                    refine s_y (v := .bool false) rfl (y_pick_f rfl rfl) ?_
                    refine s_y (v := .bool false) rfl (y_move rfl) ?_
                    refine s_y (v := .float .f32 r76) rfl (y_move rfl) ?_
                    refine s_n rfl (n_wide T4.und_34 T4.flt_53_f64 rfl) ?_
                    rintro _ w695 e696 ⟨r693, rfl, hr694⟩
                    replace B := B.ext0 e696
                    clear e696
                    have hc697 := wideC hr694 hr77
                    have hk698 : ¬ (fgt .f64 (widen (wavT v8 v9 v10 (twT v14) (szT v15) v13 (u37 + k))) 4611688270227201589 = true) := (not_over (wav_gq (by omega) (by omega) (by omega) (by omega))).1
                    refine s_y (v := .bool false) rfl (y_fgtr rfl rfl (fgtC hc697 (cnLit (k := .f64) (t := 4611688270227201589) (by kernel_rfl) (by kernel_rfl)) (Bool.eq_false_iff.2 hk698))) ?_
                    refine s_y (v := .bool false) rfl (y_pick_f rfl rfl) ?_
                    refine s_y (v := .bool false) rfl (y_move rfl) ?_
                    refine s_y (v := .float .f32 r76) rfl (y_move rfl) ?_
                    refine s_n rfl (n_wide T4.und_34 T4.flt_53_f64 rfl) ?_
                    rintro _ w701 e702 ⟨r699, rfl, hr700⟩
                    replace B := B.ext0 e702
                    clear e702
                    have hc703 := wideC hr700 hr77
                    have hk704 : ¬ (flt .f64 (widen (wavT v8 v9 v10 (twT v14) (szT v15) v13 (u37 + k))) 13835060307081977397 = true) := (not_over (wav_gq (by omega) (by omega) (by omega) (by omega))).2
                    refine s_y (v := .bool false) rfl (y_flss rfl rfl (fltC hc703 (cnLit (k := .f64) (t := 13835060307081977397) (by kernel_rfl) (by kernel_rfl)) (Bool.eq_false_iff.2 hk704))) ?_
                    refine s_y (v := .bool false) rfl (y_pick_f rfl rfl) ?_
                    refine s_nil ?_
                    refine W_if_f (by decide) rfl ?_
                    refine W_skip ?_
                    refine W_region (by kernel_rfl) ?_
                    refine s_y (v := .int .i64 k) rfl (y_move rfl) ?_
                    refine s_y (v := .int .i64 (k + 1)) rfl (y_add rfl rfl rfl (by omega)) ?_
                    refine s_y (v := .int .i64 (k + 1)) rfl (y_assign rfl) ?_
                    refine s_nil ?_
                    refine ⟨⟨_, k + 1, Fits.eq ⟨rfl, rfl, rfl, rfl, rfl, rfl, trivial⟩, B, (by omega), (by omega)⟩, ?_⟩
                    show (8 - (k + 1)).toNat < (8 - k).toNat
                    omega
              · refine s_y (v := .bool false) rfl (y_geq rfl rfl (decide_eq_false c585)) ?_
                refine s_y (v := .bool false) rfl (y_move rfl) ?_
                refine s_skip rfl ?_
                refine s_skip rfl ?_
                refine s_skip rfl ?_
                refine s_skip rfl ?_
                refine s_y (v := .bool false) rfl (y_pick_f rfl rfl) ?_
                refine s_y (v := .bool false) rfl (y_move rfl) ?_
                refine s_skip rfl ?_
                refine s_skip rfl ?_
                refine s_skip rfl ?_
                refine s_y (v := .bool false) rfl (y_pick_f rfl rfl) ?_
                refine s_y (v := .bool false) rfl (y_move rfl) ?_
                refine s_skip rfl ?_
                refine s_skip rfl ?_
                refine s_skip rfl ?_
                refine s_skip rfl ?_
                refine s_y (v := .bool false) rfl (y_pick_f rfl rfl) ?_
                refine s_y (v := .bool false) rfl (y_move rfl) ?_
                refine s_y (v := .int .i64 ((u37 + k) - v9)) rfl (y_move rfl) ?_
                refine s_y (v := .pointer (some ⟨b30, 2, none⟩)) rfl (y_fld (o := 0) T4.fld_44_2_2 rfl) ?_
                refine s_y (v := .int .i64 v10) rfl (y_load T4.one_2 rfl ((B.b 2 rfl).cell (j := 2) rfl)) ?_
                by_cases c705 : v10 ≤ ((u37 + k) - v9)
                · refine s_y (v := .bool true) rfl (y_geq rfl rfl (decide_eq_true c705)) ?_
                  refine s_y (v := .bool true) rfl (y_move rfl) ?_
                  refine s_y (v := .pointer (some ⟨b30, 0, none⟩)) rfl (y_fld (o := 0) T4.fld_44_0_0 rfl) ?_
                  refine s_y (v := .int .i64 v8) rfl (y_load T4.one_2 rfl ((B.b 2 rfl).cell (j := 0) rfl)) ?_
                  by_cases c706 : v8 = 3
                  · refine s_y (v := .bool true) rfl (y_eql rfl rfl (decide_eq_true c706)) ?_
                    refine s_y (v := .bool true) rfl (y_pick_t rfl rfl) ?_
                    refine s_y (v := .bool true) rfl (y_move rfl) ?_
                    refine s_y (v := .float .f32 r76) rfl (y_move rfl) ?_
                    refine s_y (v := .pointer (some ⟨b30, 4, none⟩)) rfl (y_fld (o := 0) T4.fld_44_4_4 rfl) ?_
                    refine s_y (v := .float .f32 c12) rfl (y_load T4.one_34 rfl ((B.b 2 rfl).cell (j := 4) rfl)) ?_
                    have hk707 : ¬ (fne .f32 (wavT v8 v9 v10 (twT v14) (szT v15) v13 (u37 + k)) (szT v15) = true) := (by first | (rw [wav_pulse (by omega) (by omega) (by omega)]; exact fne_fin (sz_gq (by omega) (by omega)).1) | (rw [wav_ramp (by omega) (by omega) (by omega)]; exact fne_fin (sz_gq (by omega) (by omega)).1))
                    refine s_y (v := .bool false) rfl (y_fneq rfl rfl (fneC hr77 hp29 (Bool.eq_false_iff.2 hk707))) ?_
                    refine s_y (v := .bool false) rfl (y_pick_t rfl rfl) ?_
                    refine s_y (v := .bool false) rfl (y_pick_f rfl rfl) ?_
                    refine s_y (v := .bool false) rfl (y_move rfl) ?_
                    refine s_y (v := .float .f32 r76) rfl (y_move rfl) ?_
                    refine s_n rfl (n_wide T4.und_34 T4.flt_53_f64 rfl) ?_
                    rintro _ w710 e711 ⟨r708, rfl, hr709⟩
                    replace B := B.ext0 e711
                    clear e711
                    have hc712 := wideC hr709 hr77
                    have hk713 : ¬ (fgt .f64 (widen (wavT v8 v9 v10 (twT v14) (szT v15) v13 (u37 + k))) 4611688270227201589 = true) := (not_over (wav_gq (by omega) (by omega) (by omega) (by omega))).1
                    refine s_y (v := .bool false) rfl (y_fgtr rfl rfl (fgtC hc712 (cnLit (k := .f64) (t := 4611688270227201589) (by kernel_rfl) (by kernel_rfl)) (Bool.eq_false_iff.2 hk713))) ?_
                    refine s_y (v := .bool false) rfl (y_pick_f rfl rfl) ?_
                    refine s_y (v := .bool false) rfl (y_move rfl) ?_
                    refine s_y (v := .float .f32 r76) rfl (y_move rfl) ?_
                    refine s_n rfl (n_wide T4.und_34 T4.flt_53_f64 rfl) ?_
                    rintro _ w716 e717 ⟨r714, rfl, hr715⟩
                    replace B := B.ext0 e717
                    clear e717
                    have hc718 := wideC hr715 hr77
                    have hk719 : ¬ (flt .f64 (widen (wavT v8 v9 v10 (twT v14) (szT v15) v13 (u37 + k))) 13835060307081977397 = true) := (not_over (wav_gq (by omega) (by omega) (by omega) (by omega))).2
                    refine s_y (v := .bool false) rfl (y_flss rfl rfl (fltC hc718 (cnLit (k := .f64) (t := 13835060307081977397) (by kernel_rfl) (by kernel_rfl)) (Bool.eq_false_iff.2 hk719))) ?_
                    refine s_y (v := .bool false) rfl (y_pick_f rfl rfl) ?_
                    refine s_nil ?_
                    refine W_if_f (by decide) rfl ?_
                    refine W_skip ?_
                    refine W_region (by kernel_rfl) ?_
                    refine s_y (v := .int .i64 k) rfl (y_move rfl) ?_
                    refine s_y (v := .int .i64 (k + 1)) rfl (y_add rfl rfl rfl (by omega)) ?_
                    refine s_y (v := .int .i64 (k + 1)) rfl (y_assign rfl) ?_
                    refine s_nil ?_
                    refine ⟨⟨_, k + 1, Fits.eq ⟨rfl, rfl, rfl, rfl, rfl, rfl, trivial⟩, B, (by omega), (by omega)⟩, ?_⟩
                    show (8 - (k + 1)).toNat < (8 - k).toNat
                    omega
                  · refine s_y (v := .bool false) rfl (y_eql rfl rfl (decide_eq_false c706)) ?_
                    refine s_y (v := .bool false) rfl (y_pick_t rfl rfl) ?_
                    refine s_y (v := .bool false) rfl (y_move rfl) ?_
                    refine s_skip rfl ?_
                    refine s_skip rfl ?_
                    refine s_skip rfl ?_
                    refine s_skip rfl ?_
                    refine s_y (v := .bool false) rfl (y_pick_f rfl rfl) ?_
                    refine s_y (v := .bool false) rfl (y_pick_f rfl rfl) ?_
                    refine s_y (v := .bool false) rfl (y_move rfl) ?_
                    refine s_y (v := .float .f32 r76) rfl (y_move rfl) ?_
                    refine s_n rfl (n_wide T4.und_34 T4.flt_53_f64 rfl) ?_
                    rintro _ w722 e723 ⟨r720, rfl, hr721⟩
                    replace B := B.ext0 e723
                    clear e723
                    have hc724 := wideC hr721 hr77
                    have hk725 : ¬ (fgt .f64 (widen (wavT v8 v9 v10 (twT v14) (szT v15) v13 (u37 + k))) 4611688270227201589 = true) := (not_over (wav_gq (by omega) (by omega) (by omega) (by omega))).1
                    refine s_y (v := .bool false) rfl (y_fgtr rfl rfl (fgtC hc724 (cnLit (k := .f64) (t := 4611688270227201589) (by kernel_rfl) (by kernel_rfl)) (Bool.eq_false_iff.2 hk725))) ?_
                    refine s_y (v := .bool false) rfl (y_pick_f rfl rfl) ?_
                    refine s_y (v := .bool false) rfl (y_move rfl) ?_
                    refine s_y (v := .float .f32 r76) rfl (y_move rfl) ?_
                    refine s_n rfl (n_wide T4.und_34 T4.flt_53_f64 rfl) ?_
                    rintro _ w728 e729 ⟨r726, rfl, hr727⟩
                    replace B := B.ext0 e729
                    clear e729
                    have hc730 := wideC hr727 hr77
                    have hk731 : ¬ (flt .f64 (widen (wavT v8 v9 v10 (twT v14) (szT v15) v13 (u37 + k))) 13835060307081977397 = true) := (not_over (wav_gq (by omega) (by omega) (by omega) (by omega))).2
                    refine s_y (v := .bool false) rfl (y_flss rfl rfl (fltC hc730 (cnLit (k := .f64) (t := 13835060307081977397) (by kernel_rfl) (by kernel_rfl)) (Bool.eq_false_iff.2 hk731))) ?_
                    refine s_y (v := .bool false) rfl (y_pick_f rfl rfl) ?_
                    refine s_nil ?_
                    refine W_if_f (by decide) rfl ?_
                    refine W_skip ?_
                    refine W_region (by kernel_rfl) ?_
                    refine s_y (v := .int .i64 k) rfl (y_move rfl) ?_
                    refine s_y (v := .int .i64 (k + 1)) rfl (y_add rfl rfl rfl (by omega)) ?_
                    refine s_y (v := .int .i64 (k + 1)) rfl (y_assign rfl) ?_
                    refine s_nil ?_
                    refine ⟨⟨_, k + 1, Fits.eq ⟨rfl, rfl, rfl, rfl, rfl, rfl, trivial⟩, B, (by omega), (by omega)⟩, ?_⟩
                    show (8 - (k + 1)).toNat < (8 - k).toNat
                    omega
                · refine s_y (v := .bool false) rfl (y_geq rfl rfl (decide_eq_false c705)) ?_
                  refine s_y (v := .bool false) rfl (y_move rfl) ?_
                  refine s_skip rfl ?_
                  refine s_skip rfl ?_
                  refine s_skip rfl ?_
                  refine s_y (v := .bool false) rfl (y_pick_f rfl rfl) ?_
                  refine s_y (v := .bool false) rfl (y_move rfl) ?_
                  refine s_skip rfl ?_
                  refine s_skip rfl ?_
                  refine s_skip rfl ?_
                  refine s_skip rfl ?_
                  refine s_y (v := .bool false) rfl (y_pick_f rfl rfl) ?_
                  refine s_y (v := .bool false) rfl (y_pick_f rfl rfl) ?_
                  refine s_y (v := .bool false) rfl (y_move rfl) ?_
                  refine s_y (v := .float .f32 r76) rfl (y_move rfl) ?_
                  refine s_n rfl (n_wide T4.und_34 T4.flt_53_f64 rfl) ?_
                  rintro _ w734 e735 ⟨r732, rfl, hr733⟩
                  replace B := B.ext0 e735
                  clear e735
                  have hc736 := wideC hr733 hr77
                  have hk737 : ¬ (fgt .f64 (widen (wavT v8 v9 v10 (twT v14) (szT v15) v13 (u37 + k))) 4611688270227201589 = true) := (not_over (wav_gq (by omega) (by omega) (by omega) (by omega))).1
                  refine s_y (v := .bool false) rfl (y_fgtr rfl rfl (fgtC hc736 (cnLit (k := .f64) (t := 4611688270227201589) (by kernel_rfl) (by kernel_rfl)) (Bool.eq_false_iff.2 hk737))) ?_
                  refine s_y (v := .bool false) rfl (y_pick_f rfl rfl) ?_
                  refine s_y (v := .bool false) rfl (y_move rfl) ?_
                  refine s_y (v := .float .f32 r76) rfl (y_move rfl) ?_
                  refine s_n rfl (n_wide T4.und_34 T4.flt_53_f64 rfl) ?_
                  rintro _ w740 e741 ⟨r738, rfl, hr739⟩
                  replace B := B.ext0 e741
                  clear e741
                  have hc742 := wideC hr739 hr77
                  have hk743 : ¬ (flt .f64 (widen (wavT v8 v9 v10 (twT v14) (szT v15) v13 (u37 + k))) 13835060307081977397 = true) := (not_over (wav_gq (by omega) (by omega) (by omega) (by omega))).2
                  refine s_y (v := .bool false) rfl (y_flss rfl rfl (fltC hc742 (cnLit (k := .f64) (t := 13835060307081977397) (by kernel_rfl) (by kernel_rfl)) (Bool.eq_false_iff.2 hk743))) ?_
                  refine s_y (v := .bool false) rfl (y_pick_f rfl rfl) ?_
                  refine s_nil ?_
                  refine W_if_f (by decide) rfl ?_
                  refine W_skip ?_
                  refine W_region (by kernel_rfl) ?_
                  refine s_y (v := .int .i64 k) rfl (y_move rfl) ?_
                  refine s_y (v := .int .i64 (k + 1)) rfl (y_add rfl rfl rfl (by omega)) ?_
                  refine s_y (v := .int .i64 (k + 1)) rfl (y_assign rfl) ?_
                  refine s_nil ?_
                  refine ⟨⟨_, k + 1, Fits.eq ⟨rfl, rfl, rfl, rfl, rfl, rfl, trivial⟩, B, (by omega), (by omega)⟩, ?_⟩
                  show (8 - (k + 1)).toNat < (8 - k).toNat
                  omega
        · refine s_y (v := .bool false) rfl (y_lss rfl rfl (decide_eq_false c71)) ?_
          refine s_nil ?_
          refine W_if_f (by decide) rfl ?_
          refine W_exit ?_
          refine W_seq ?_
          refine W_region (by kernel_rfl) ?_
          refine s_y (v := .pointer (some ⟨b30, 5, none⟩)) rfl (y_fld (o := 0) T4.fld_44_5_5 rfl) ?_
          refine s_y (v := .int .i64 v13) rfl (y_load T4.one_2 rfl ((B.b 2 rfl).cell (j := 5) rfl)) ?_
          refine s_k rfl (k_call T4.fn_30 (c_i_NextSeed) rfl ?_)
          rintro v746 w744 hx745
          have hnsq := nextS_b v13
          have hk747 : isSeed v13 = true := (se_ok (by omega))
          have hb748 := isSeed_b hk747
          obtain ⟨rfl, e749⟩ := (hx745.resolve_right (fun hz => by rw [hk747] at hz; cases hz.1)).2
          clear hx745
          replace B := B.ext0 e749
          clear e749
          refine s_y (v := .tuple #[.int .i64 (nextS v13), .bool true]) rfl (y_move rfl) ?_
          refine s_y (v := .int .i64 (nextS v13)) rfl (y_extract rfl rfl) ?_
          refine s_y (v := .bool true) rfl (y_extract rfl rfl) ?_
          refine s_y (v := .int .i64 (nextS v13)) rfl (y_assign rfl) ?_
          refine s_y (v := .bool true) rfl (y_assign rfl) ?_
          refine s_nil ?_
          refine W_seq ?_
          refine W_region (by kernel_rfl) ?_
          refine s_y (v := .bool true) rfl (y_move rfl) ?_
          refine s_y (v := .bool true) rfl (y_move rfl) ?_
          refine s_y (v := .int .i64 (nextS v13)) rfl (y_move rfl) ?_
          by_cases c750 : 0 ≤ (nextS v13)
          · refine s_y (v := .bool true) rfl (y_geq rfl rfl (decide_eq_true c750)) ?_
            refine s_y (v := .bool true) rfl (y_pick_t rfl rfl) ?_
            refine s_y (v := .bool true) rfl (y_move rfl) ?_
            refine s_y (v := .int .i64 (nextS v13)) rfl (y_move rfl) ?_
            by_cases c751 : (nextS v13) < 2147483648
            · refine s_y (v := .bool true) rfl (y_lss rfl rfl (decide_eq_true c751)) ?_
              refine s_y (v := .bool true) rfl (y_pick_t rfl rfl) ?_
              refine s_y (v := .bool true) rfl (y_move rfl) ?_
              refine s_y (v := .int .i64 (nextS v13)) rfl (y_move rfl) ?_
              refine s_y (v := .pointer (some ⟨b30, 5, none⟩)) rfl (y_fld (o := 0) T4.fld_44_5_5 rfl) ?_
              refine s_y (v := .int .i64 v13) rfl (y_load T4.one_2 rfl ((B.b 2 rfl).cell (j := 5) rfl)) ?_
              refine s_y (v := .int .i64 (1103515245 * v13)) rfl (y_mul rfl rfl rfl (by omega)) ?_
              refine s_y (v := .int .i64 ((1103515245 * v13) + 12345)) rfl (y_add rfl rfl rfl (by omega)) ?_
              refine s_y (v := .int .i64 (((1103515245 * v13) + 12345) % 2147483648)) rfl (y_rem rfl rfl (by omega) (by omega) rfl) ?_
              have hk752 : (nextS v13) = (((1103515245 * v13) + 12345) % 2147483648) := rfl
              refine s_y (v := .bool true) rfl (y_eql rfl rfl (decide_eq_true hk752)) ?_
              refine s_y (v := .bool true) rfl (y_pick_t rfl rfl) ?_
              refine s_y (v := .bool true) rfl (y_assign rfl) ?_
              refine s_nil ?_
              refine W_ret ?_
              refine ret1 (v := .bool true) rfl rfl rfl ⟨_, rfl, ?_⟩
              exact ⟨rfl, B.ext⟩
            · refine s_y (v := .bool false) rfl (y_lss rfl rfl (decide_eq_false c751)) ?_
              refine s_y (v := .bool false) rfl (y_pick_t rfl rfl) ?_
              refine s_y (v := .bool false) rfl (y_move rfl) ?_
              refine s_skip rfl ?_
              refine s_skip rfl ?_
              refine s_skip rfl ?_
              refine s_skip rfl ?_
              refine s_skip rfl ?_
              refine s_skip rfl ?_
              refine s_skip rfl ?_
              refine s_y (v := .bool false) rfl (y_pick_f rfl rfl) ?_
              refine s_y (v := .bool false) rfl (y_assign rfl) ?_
              refine s_nil ?_
              refine W_ret ?_
              refine ret1 (v := .bool false) rfl rfl rfl ⟨_, rfl, ?_⟩
              exfalso; omega
          · refine s_y (v := .bool false) rfl (y_geq rfl rfl (decide_eq_false c750)) ?_
            refine s_y (v := .bool false) rfl (y_pick_t rfl rfl) ?_
            refine s_y (v := .bool false) rfl (y_move rfl) ?_
            refine s_skip rfl ?_
            refine s_skip rfl ?_
            refine s_y (v := .bool false) rfl (y_pick_f rfl rfl) ?_
            refine s_y (v := .bool false) rfl (y_move rfl) ?_
            refine s_skip rfl ?_
            refine s_skip rfl ?_
            refine s_skip rfl ?_
            refine s_skip rfl ?_
            refine s_skip rfl ?_
            refine s_skip rfl ?_
            refine s_skip rfl ?_
            refine s_y (v := .bool false) rfl (y_pick_f rfl rfl) ?_
            refine s_y (v := .bool false) rfl (y_assign rfl) ?_
            refine s_nil ?_
            refine W_ret ?_
            refine ret1 (v := .bool false) rfl rfl rfl ⟨_, rfl, ?_⟩
            exfalso; omega
end Go.Proofs.Ytgohmocjjmkepaa
