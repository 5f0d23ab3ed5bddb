/- Walks: what the functions under FnCones do (part 5). Printed by a program of this claim's author. -/
import Derived.Test.YtgohmocjjmkepaaConesW3
set_option linter.unusedSimpArgs false
set_option linter.unusedVariables false
open Go.Wv
namespace Go.Proofs.Ytgohmocjjmkepaa
open Go.Proofs
namespace T3
theorem mx : Try.prog.follows .mixedOrders = true := by kernel_rfl
theorem agg_26_5 : aggB Try.prog 26 5 = true := by kernel_rfl
theorem agg_30_3 : aggB Try.prog 30 3 = true := by kernel_rfl
theorem fld_26_0_0 : fldB Try.prog 26 0 0 = true := by kernel_rfl
theorem fld_26_1_1 : fldB Try.prog 26 1 1 = true := by kernel_rfl
theorem fld_26_2_2 : fldB Try.prog 26 2 2 = true := by kernel_rfl
theorem fld_30_0_0 : fldB Try.prog 30 0 0 = true := by kernel_rfl
theorem fld_30_1_1 : fldB Try.prog 30 1 1 = true := by kernel_rfl
theorem fld_30_2_2 : fldB Try.prog 30 2 2 = true := by kernel_rfl
theorem flt_34_f32 : Try.prog.underlying 34 = some (.float .f32) := by kernel_rfl
theorem fn_12 : fnB Try.prog 12 = true := by kernel_rfl
theorem fn_13 : fnB Try.prog 13 = true := by kernel_rfl
theorem fn_14 : fnB Try.prog 14 = true := by kernel_rfl
theorem fn_15 : fnB Try.prog 15 = true := by kernel_rfl
theorem fn_16 : fnB Try.prog 16 = true := by kernel_rfl
theorem fn_17 : fnB Try.prog 17 = true := by kernel_rfl
theorem fn_18 : fnB Try.prog 18 = true := by kernel_rfl
theorem fn_19 : fnB Try.prog 19 = true := by kernel_rfl
theorem fn_20 : fnB Try.prog 20 = true := by kernel_rfl
theorem fn_21 : fnB Try.prog 21 = true := by kernel_rfl
theorem one_2 : oneB Try.prog 2 = true := by kernel_rfl
theorem one_24 : oneB Try.prog 24 = true := by kernel_rfl
theorem one_34 : oneB Try.prog 34 = true := by kernel_rfl
theorem one_4 : oneB Try.prog 4 = true := by kernel_rfl
theorem sl_24_34_1 : slB Try.prog 24 34 1 = true := by kernel_rfl
theorem sl_36_2_1 : slB Try.prog 36 2 1 = true := by kernel_rfl
theorem sl_40_4_1 : slB Try.prog 40 4 1 = true := by kernel_rfl
theorem slt_40 : SlT Try.prog 40 4 1 1 (.bool false) := ⟨by kernel_rfl, by kernel_rfl, rfl, by decide⟩
theorem sz_26_5 : szB Try.prog 26 5 = true := by kernel_rfl
theorem sz_30_3 : szB Try.prog 30 3 = true := by kernel_rfl
theorem sz_4_1 : szB Try.prog 4 1 = true := by kernel_rfl
theorem und_2 : (Try.prog.underlying 2).isSome = true := by kernel_rfl
theorem zero_26 : zeroB Try.prog 26 (.agg #[.int .i64 0, .int .i64 0, .bool false, .slice none 0 0, .slice none 0 0]) := by unfold zeroB; kernel_rfl
theorem zero_30 : zeroB Try.prog 30 (.agg #[.slice none 0 0, .slice none 0 0, .slice none 0 0]) := by unfold zeroB; kernel_rfl
end T3
set_option maxRecDepth 100000 in
set_option maxHeartbeats 20000000 in
theorem c_FnCones {a0 : Option Addr} {n0 : Nat} {c0 : Nat} {X0 : List Nat} {a1 : Option Addr} {n1 : Nat} {c1 : Nat} {X1 : List Nat} {w : World} (q0 : Rd w kY a0 n0 X0) (q1 : Rd w kY a1 n1 X1) (g0 : n0 ≤ 9223372036854775807) (g1 : n1 ≤ 9223372036854775807) :
    Calls Try.prog 3 #[.slice a0 n0 c0, .slice a1 n1 c1] w (Rt fun v w' => v = .bool true ∧ Ext0 w w') := by
  have hl0 := q0.len
  have hl1 := q1.len
  have B : Bu w no w [.rd kY a0 n0 X0, .rd kY a1 n1 X1] := Bu.ro (All.cons q0 (All.cons q1 All.nil)) rfl
  refine calls_W (n := 276) Try.func3 rfl rfl (Nat.le_of_ble_eq_true rfl) ?_
  refine W_seq ?_
  refine W_region (by kernel_rfl) ?_
  refine s_y (v := .bool false) rfl (y_assign rfl) ?_
  refine s_nil ?_
  refine W_seq ?_
  refine W_seq ?_
  refine W_region (by kernel_rfl) ?_
  refine s_y (v := .slice a0 n0 c0) rfl (y_move rfl) ?_
  refine s_y (v := .slice a1 n1 c1) rfl (y_move rfl) ?_
  refine s_k rfl (k_call T3.fn_12 (c_l_b10Long (B.r 0 rfl) (B.r 1 rfl) (by first | exact lenle (by assumption) | exact lenle6 (by assumption) | omega) (by first | exact lenle (by assumption) | exact lenle6 (by assumption) | omega)) rfl ?_)
  rintro v3 w1 ⟨hv4, e2⟩
  replace B := B.ext0 e2
  clear e2
  by_cases c5 : (decide (1048576 < (n0 : Int)) || decide (1048576 < (n1 : Int))) = true
  · obtain rfl : v3 = .bool true := hv4.trans (congrArg Value.bool c5)
    refine s_nil ?_
    refine W_if_t (by decide) rfl ?_
    refine W_seq ?_
    refine W_region (by kernel_rfl) ?_
    refine s_y (v := .bool true) rfl (y_assign rfl) ?_
    refine s_nil ?_
    refine W_ret ?_
    refine ret1 (v := .bool true) rfl rfl rfl ⟨_, rfl, ?_⟩
    exact ⟨rfl, B.ext⟩
  · obtain rfl : v3 = .bool false := hv4.trans (congrArg Value.bool (Bool.eq_false_iff.2 c5))
    refine s_nil ?_
    refine W_if_f (by decide) rfl ?_
    refine W_skip ?_
    refine W_seq ?_
    refine W_region (by kernel_rfl) ?_
    refine s_y (v := .slice a0 n0 c0) rfl (y_move rfl) ?_
    refine s_k rfl (k_call T3.fn_13 (c_s_B10Sheet (B.r 0 rfl)) rfl ?_)
    rintro _ w6 ⟨v8, v9, vb10, a11, c12, c13, Z14, a15, c16, c17, Z18, rfl, hp19, hp20, hp21, hN7⟩
    replace B := B.new2 hN7
    clear hN7
    have hl22 := (B.o 0 rfl).len
    have hl23 := (B.o 1 rfl).len
    obtain ⟨⟨⟨⟨hv24, hv25⟩, hv26, hv27⟩, hv28, hv29⟩, hv30, hv31⟩ := validS_b hp21
    refine s_k rfl (k_allocN (z := (.agg #[.int .i64 0, .int .i64 0, .bool false, .slice none 0 0, .slice none 0 0])) (cs := [.int .i64 0, .int .i64 0, .bool false, .slice none 0 0, .slice none 0 0]) T3.zero_26 rfl (fun b32 w33 hN34 => ?_))
    replace B := B.new1 hN34
    clear hN34
    refine s_k0 rfl (k_stB (v := .agg #[.int .i64 v8, .int .i64 v9, .bool vb10, .slice a11 c12 c13, .slice a15 c16 c17]) (n := 5) (cs' := [.int .i64 v8, .int .i64 v9, .bool vb10, .slice a11 c12 c13, .slice a15 c16 c17]) T3.sz_26_5 rfl rfl rfl (B.b 0 rfl) (by simp [Value.cells, Value.oneCell']) (Nat.le_of_ble_eq_true rfl) rfl (fun w35 hU36 => ?_))
    replace B : Bu w no w35 [.blk b32 [.int .i64 v8, .int .i64 v9, .bool vb10, .slice a11 c12 c13, .slice a15 c16 c17] 26, .ow kF a11 c12 c13 34 Z14, .ow kF a15 c16 c17 34 Z18, .rd kY a0 n0 X0, .rd kY a1 n1 X1] := B.upd [0] rfl hU36
    clear hU36
    refine s_nil ?_
    refine W_seq ?_
    refine W_region (by kernel_rfl) ?_
    refine s_y (v := .slice a1 n1 c1) rfl (y_move rfl) ?_
    refine s_y (v := .pointer (some ⟨b32, 0, none⟩)) rfl (y_fld (o := 0) T3.fld_26_0_0 rfl) ?_
    refine s_y (v := .int .i64 v8) rfl (y_load T3.one_2 rfl ((B.b 0 rfl).cell (j := 0) rfl)) ?_
    refine s_y (v := .int .i64 (v8 - 2)) rfl (y_sub rfl rfl rfl (by omega)) ?_
    refine s_k rfl (k_call T3.fn_14 (c_l_b10At (B.r 4 rfl) (by omega) (by omega) (by omega) (by first | exact lenle (by assumption) | exact lenle6 (by assumption) | omega)) rfl ?_)
    rintro _ w37 ⟨u39, rfl, hp40, e38⟩
    replace B := B.ext0 e38
    clear e38
    have hb41 := b10A_b X1 (show 1 ≤ (v8 - 2) by omega) (show 0 ≤ 0 by omega)
    rw [← hp40] at hb41
    refine s_y (v := .int .i64 (1 + u39)) rfl (y_add rfl rfl rfl (by omega)) ?_
    refine s_y (v := .int .i64 (1 + u39)) rfl (y_assign rfl) ?_
    refine s_nil ?_
    refine W_seq ?_
    refine W_region (by kernel_rfl) ?_
    refine s_y (v := .slice a1 n1 c1) rfl (y_move rfl) ?_
    refine s_y (v := .pointer (some ⟨b32, 1, none⟩)) rfl (y_fld (o := 0) T3.fld_26_1_1 rfl) ?_
    refine s_y (v := .int .i64 v9) rfl (y_load T3.one_2 rfl ((B.b 0 rfl).cell (j := 1) rfl)) ?_
    refine s_y (v := .int .i64 (v9 - 2)) rfl (y_sub rfl rfl rfl (by omega)) ?_
    refine s_k rfl (k_call T3.fn_14 (c_l_b10At (B.r 4 rfl) (by omega) (by omega) (by omega) (by first | exact lenle (by assumption) | exact lenle6 (by assumption) | omega)) rfl ?_)
    rintro _ w42 ⟨u44, rfl, hp45, e43⟩
    replace B := B.ext0 e43
    clear e43
    have hb46 := b10A_b X1 (show 1 ≤ (v9 - 2) by omega) (show 0 ≤ 1 by omega)
    rw [← hp45] at hb46
    refine s_y (v := .int .i64 (1 + u44)) rfl (y_add rfl rfl rfl (by omega)) ?_
    refine s_y (v := .int .i64 (1 + u44)) rfl (y_assign rfl) ?_
    refine s_nil ?_
    refine W_seq ?_
    refine W_region (by kernel_rfl) ?_
    refine s_y (v := .slice a1 n1 c1) rfl (y_move rfl) ?_
    refine s_k rfl (k_call T3.fn_14 (c_l_b10At (B.r 4 rfl) (by omega) (by omega) (by omega) (by first | exact lenle (by assumption) | exact lenle6 (by assumption) | omega)) rfl ?_)
    rintro _ w47 ⟨u49, rfl, hp50, e48⟩
    replace B := B.ext0 e48
    clear e48
    have hb51 := b10A_b X1 (show 1 ≤ 5 by omega) (show 0 ≤ 2 by omega)
    rw [← hp50] at hb51
    refine s_y (v := .int .i64 u49) rfl (y_assign rfl) ?_
    refine s_nil ?_
    refine W_seq ?_
    refine W_region (by kernel_rfl) ?_
    refine s_y (v := .agg #[.int .i64 v8, .int .i64 v9, .bool vb10, .slice a11 c12 c13, .slice a15 c16 c17]) rfl (y_loadn (b := b32) (o := 0) (vs := [.int .i64 v8, .int .i64 v9, .bool vb10, .slice a11 c12 c13, .slice a15 c16 c17]) T3.agg_26_5 rfl rfl ((B.b 0 rfl).cells (o := 0) rfl)) ?_
    refine s_k rfl (k_call T3.fn_15 (c_i_ZeroField ((B.o 1 rfl).rd) ((B.o 2 rfl).rd) (by first | exact lenle (by assumption) | exact lenle6 (by assumption) | omega) (by first | exact lenle (by assumption) | exact lenle6 (by assumption) | omega)) rfl ?_)
    rintro v54 w52 hx53
    obtain ⟨a55, c56, a57, c58, a59, c60, rfl, hN61⟩ := (hx53.resolve_right (fun hz => by rw [hp21] at hz; cases hz.1)).2
    clear hx53
    replace B := B.new3 hN61
    clear hN61
    refine s_y (v := .tuple #[.agg #[.slice a55 (Int.toNat (v8 * v9)) c56, .slice a57 (Int.toNat (v8 * v9)) c58, .slice a59 (Int.toNat (v8 * v9)) c60], .bool true]) rfl (y_move rfl) ?_
    refine s_y (v := .agg #[.slice a55 (Int.toNat (v8 * v9)) c56, .slice a57 (Int.toNat (v8 * v9)) c58, .slice a59 (Int.toNat (v8 * v9)) c60]) rfl (y_extract rfl rfl) ?_
    refine s_y (v := .bool true) rfl (y_extract rfl rfl) ?_
    refine s_k rfl (k_allocN (z := (.agg #[.slice none 0 0, .slice none 0 0, .slice none 0 0])) (cs := [.slice none 0 0, .slice none 0 0, .slice none 0 0]) T3.zero_30 rfl (fun b62 w63 hN64 => ?_))
    replace B := B.new1 hN64
    clear hN64
    refine s_k0 rfl (k_stB (v := .agg #[.slice a55 (Int.toNat (v8 * v9)) c56, .slice a57 (Int.toNat (v8 * v9)) c58, .slice a59 (Int.toNat (v8 * v9)) c60]) (n := 3) (cs' := [.slice a55 (Int.toNat (v8 * v9)) c56, .slice a57 (Int.toNat (v8 * v9)) c58, .slice a59 (Int.toNat (v8 * v9)) c60]) T3.sz_30_3 rfl rfl rfl (B.b 0 rfl) (by simp [Value.cells, Value.oneCell']) (Nat.le_of_ble_eq_true rfl) rfl (fun w65 hU66 => ?_))
    replace B : Bu w no w65 [.blk b62 [.slice a55 (Int.toNat (v8 * v9)) c56, .slice a57 (Int.toNat (v8 * v9)) c58, .slice a59 (Int.toNat (v8 * v9)) c60] 30, .ow kF a55 (Int.toNat (v8 * v9)) c56 34 (List.replicate (Int.toNat (v8 * v9)) 0), .ow kF a57 (Int.toNat (v8 * v9)) c58 34 (List.replicate (Int.toNat (v8 * v9)) 0), .ow kF a59 (Int.toNat (v8 * v9)) c60 34 (List.replicate (Int.toNat (v8 * v9)) 0), .blk b32 [.int .i64 v8, .int .i64 v9, .bool vb10, .slice a11 c12 c13, .slice a15 c16 c17] 26, .ow kF a11 c12 c13 34 Z14, .ow kF a15 c16 c17 34 Z18, .rd kY a0 n0 X0, .rd kY a1 n1 X1] := B.upd [0] rfl hU66
    clear hU66
    refine s_y (v := .bool true) rfl (y_assign rfl) ?_
    refine s_nil ?_
    refine W_seq ?_
    have B0_69 := B
    refine W_drawI (no) (fun ρ' w' => (∃ (ρ1 : Env) (b104 : Nat) (a97 : Option Addr) (c98 : Nat) (a99 : Option Addr) (c100 : Nat) (a101 : Option Addr) (c102 : Nat) (u77 : Int), ρ' = updL ρ1 [(1, .slice a1 n1 c1), (4, .bool false), (5, .pointer (some ⟨b32, 0, none⟩)), (6, .int .i64 (1 + u39)), (7, .int .i64 (1 + u44)), (8, .int .i64 u49), (10, .bool true), (11, .pointer (some ⟨b104, 0, none⟩)), (12, .bool true)] ∧ Bu w no w' [.blk b104 [.slice a97 (Int.toNat (v8 * v9)) c98, .slice a99 (Int.toNat (v8 * v9)) c100, .slice a101 (Int.toNat (v8 * v9)) c102] 30, .ow kF a97 (Int.toNat (v8 * v9)) c98 34 (put (List.replicate (Int.toNat (v8 * v9)) 0) ((1 + u39) + v8 * (1 + u44)) (fop .quo .f32 (FloatKind.nearest .f32 (1 + u77)) 1082130432)), .ow kF a99 (Int.toNat (v8 * v9)) c100 34 (List.replicate (Int.toNat (v8 * v9)) 0), .ow kF a101 (Int.toNat (v8 * v9)) c102 34 (List.replicate (Int.toNat (v8 * v9)) 0), .blk b62 [.slice a55 (Int.toNat (v8 * v9)) c56, .slice a57 (Int.toNat (v8 * v9)) c58, .slice a59 (Int.toNat (v8 * v9)) c60] 30, .ow kF a55 (Int.toNat (v8 * v9)) c56 34 (List.replicate (Int.toNat (v8 * v9)) 0), .ow kF a57 (Int.toNat (v8 * v9)) c58 34 (List.replicate (Int.toNat (v8 * v9)) 0), .ow kF a59 (Int.toNat (v8 * v9)) c60 34 (List.replicate (Int.toNat (v8 * v9)) 0), .blk b32 [.int .i64 v8, .int .i64 v9, .bool vb10, .slice a11 c12 c13, .slice a15 c16 c17] 26, .ow kF a11 c12 c13 34 Z14, .ow kF a15 c16 c17 34 Z18, .rd kY a0 n0 X0, .rd kY a1 n1 X1] ∧ (putB v8 v9 vb10 Z14 Z18 (List.replicate (Int.toNat (v8 * v9)) 0) (List.replicate (Int.toNat (v8 * v9)) 0) (List.replicate (Int.toNat (v8 * v9)) 0) (1 + u39) (1 + u44) (fop .quo .f32 (FloatKind.nearest .f32 (1 + u77)) 1082130432) = true) ∧ u77 = b10A X1 3 9)) T3.mx (by kernel_rfl) (fun w67 e68 => ?_) ?_
    · have R70 := Ext.refl (no) w65
      replace R70 := R70.trans (Ext0.any e68)
      replace B := B.ext0 e68
      clear e68
      refine m_y (v := .agg #[.int .i64 v8, .int .i64 v9, .bool vb10, .slice a11 c12 c13, .slice a15 c16 c17]) 0 rfl (by kernel_rfl) rfl rfl (fun w' e' => y_loadn (b := b32) (o := 0) (vs := [.int .i64 v8, .int .i64 v9, .bool vb10, .slice a11 c12 c13, .slice a15 c16 c17]) T3.agg_26_5 rfl rfl (((B0_69.b 4 rfl).ext0 e').cells (o := 0) rfl)) ?_
      refine m_y (v := .agg #[.slice a55 (Int.toNat (v8 * v9)) c56, .slice a57 (Int.toNat (v8 * v9)) c58, .slice a59 (Int.toNat (v8 * v9)) c60]) 1 rfl (by kernel_rfl) rfl rfl (fun w' e' => y_loadn (b := b62) (o := 0) (vs := [.slice a55 (Int.toNat (v8 * v9)) c56, .slice a57 (Int.toNat (v8 * v9)) c58, .slice a59 (Int.toNat (v8 * v9)) c60]) T3.agg_30_3 rfl rfl (((B0_69.b 0 rfl).ext0 e').cells (o := 0) rfl)) ?_
      refine m_y (v := .int .i64 (1 + u39)) 2 rfl (by kernel_rfl) rfl rfl (fun w' e' => y_move rfl) ?_
      refine m_y (v := .int .i64 (1 + u44)) 3 rfl (by kernel_rfl) rfl rfl (fun w' e' => y_move rfl) ?_
      refine m_y (v := .slice a1 n1 c1) 4 rfl (by kernel_rfl) rfl rfl (fun w' e' => y_move rfl) ?_
      refine m_two 5 13 (by kernel_rfl) rfl rfl rfl rfl rfl rfl (fun w71 e72 => ?_) (fun w73 e74 => ?_)
      · replace R70 := R70.trans (Ext0.any e72)
        replace B := B.ext0 e72
        clear e72
        refine k_call T3.fn_14 (c_l_b10At (B.r 8 rfl) (by omega) (by first | assumption | omega) (by omega) (by first | exact lenle (by assumption) | exact lenle6 (by assumption) | omega)) rfl ?_
        rintro _ w75 ⟨u77, rfl, hp78, e76⟩
        replace R70 := R70.trans (Ext0.any e76)
        replace B := B.ext0 e76
        clear e76
        refine ⟨fun _ => R70, ?_⟩
        have hb79 := b10A_b X1 (show 1 ≤ 9 by omega) (show 0 ≤ 3 by omega)
        rw [← hp78] at hb79
        refine m_y (v := .int .i64 (1 + u77)) 6 rfl (by kernel_rfl) rfl rfl (fun w' e' => y_add rfl rfl rfl (by omega)) ?_
        refine m_y (v := .float .f32 (FloatKind.nearest .f32 (1 + u77))) 7 rfl (by kernel_rfl) rfl rfl (fun w' e' => y_if T3.und_2 T3.flt_34_f32 rfl) ?_
        refine m_ntwo 8 13 (by kernel_rfl) rfl rfl rfl rfl rfl rfl ?_ (fun w80 e81 => ?_)
        · refine ⟨_, fun w' e' => n_arith (by decide) rfl rfl, ?_⟩
          rintro _ ⟨r83, rfl, hr84⟩
          have hc87 := fopC hr84 (cn_nearest .f32 (1 + u77)) (cnLit (k := .f32) (t := 1082130432) (by kernel_rfl) (by kernel_rfl))
          refine m_two 9 13 (by kernel_rfl) rfl rfl rfl rfl rfl rfl (fun w88 e89 => ?_) (fun w90 e91 => ?_)
          · replace R70 := R70.trans (Ext0.any e89)
            replace B := B.ext0 e89
            clear e89
            refine k_call T3.fn_16 (c_i_PutValue ((B.o 5 rfl).rd) ((B.o 6 rfl).rd) ((B.o 1 rfl).rd) ((B.o 2 rfl).rd) ((B.o 3 rfl).rd) hc87 (by first | exact lenle (by assumption) | exact lenle6 (by assumption) | omega) (by first | exact lenle (by assumption) | exact lenle6 (by assumption) | omega) (by first | exact lenle (by assumption) | exact lenle6 (by assumption) | omega) (by first | exact lenle (by assumption) | exact lenle6 (by assumption) | omega) (by first | exact lenle (by assumption) | exact lenle6 (by assumption) | omega)) rfl ?_
            rintro v94 w92 hx93
            have hk95 : putB v8 v9 vb10 Z14 Z18 (List.replicate (Int.toNat (v8 * v9)) 0) (List.replicate (Int.toNat (v8 * v9)) 0) (List.replicate (Int.toNat (v8 * v9)) 0) (1 + u39) (1 + u44) (fop .quo .f32 (FloatKind.nearest .f32 (1 + u77)) 1082130432) = true := (put_ok (field_zero hp21 (by omega)) (by omega) (by omega))
            have hb96 := putB_b hk95
            obtain ⟨a97, c98, a99, c100, a101, c102, rfl, hN103⟩ := (hx93.resolve_right (fun hz => by rw [hk95] at hz; cases hz.1)).2
            clear hx93
            replace R70 := R70.trans (Ext0.any hN103.ext)
            replace B := B.new3 hN103
            clear hN103
            refine ⟨fun _ => R70, ?_⟩
            refine m_y (v := .tuple #[.agg #[.slice a97 (Int.toNat (v8 * v9)) c98, .slice a99 (Int.toNat (v8 * v9)) c100, .slice a101 (Int.toNat (v8 * v9)) c102], .bool true]) 10 rfl (by kernel_rfl) rfl rfl (fun w' e' => y_move rfl) ?_
            refine m_y (v := .agg #[.slice a97 (Int.toNat (v8 * v9)) c98, .slice a99 (Int.toNat (v8 * v9)) c100, .slice a101 (Int.toNat (v8 * v9)) c102]) 11 rfl (by kernel_rfl) rfl rfl (fun w' e' => y_extract rfl rfl) ?_
            refine m_y (v := .bool true) 12 rfl (by kernel_rfl) rfl rfl (fun w' e' => y_extract rfl rfl) ?_
            refine m_k 13 [14, 15] rfl (by kernel_rfl) rfl rfl (fun w107 e108 => ?_)
            replace R70 := R70.trans (Ext0.any e108)
            replace B := B.ext0 e108
            clear e108
            refine k_allocN (z := (.agg #[.slice none 0 0, .slice none 0 0, .slice none 0 0])) (cs := [.slice none 0 0, .slice none 0 0, .slice none 0 0]) T3.zero_30 rfl (fun b104 w105 hN106 => ?_)
            have nf109 : NotLt b104 _ := fun h => Nat.not_lt.2 (Nat.le_trans (Ext.size R70) hN106.ge) h
            replace R70 := R70.trans (Ext0.any hN106.ext)
            replace B := B.new1 hN106
            clear hN106
            refine ⟨fun _ => R70, ?_⟩
            refine m_k 14 [15] rfl (by kernel_rfl) rfl rfl (fun w113 e114 => ?_)
            replace R70 := R70.trans (Ext0.any e114)
            replace B := B.ext0 e114
            clear e114
            refine k_stB (v := .agg #[.slice a97 (Int.toNat (v8 * v9)) c98, .slice a99 (Int.toNat (v8 * v9)) c100, .slice a101 (Int.toNat (v8 * v9)) c102]) (n := 3) (cs' := [.slice a97 (Int.toNat (v8 * v9)) c98, .slice a99 (Int.toNat (v8 * v9)) c100, .slice a101 (Int.toNat (v8 * v9)) c102]) T3.sz_30_3 rfl rfl rfl (B.b 0 rfl) (by simp [Value.cells, Value.oneCell']) (Nat.le_of_ble_eq_true rfl) rfl (fun w111 hU112 => ?_)
            replace R70 := R70.fresh hU112.at1 (fun kx hs hl => (nf109 ((show kx = b104 from hs) ▸ hl)).elim)
            replace B : Bu w no w111 [.blk b104 [.slice a97 (Int.toNat (v8 * v9)) c98, .slice a99 (Int.toNat (v8 * v9)) c100, .slice a101 (Int.toNat (v8 * v9)) c102] 30, .ow kF a97 (Int.toNat (v8 * v9)) c98 34 (put (List.replicate (Int.toNat (v8 * v9)) 0) ((1 + u39) + v8 * (1 + u44)) (fop .quo .f32 (FloatKind.nearest .f32 (1 + u77)) 1082130432)), .ow kF a99 (Int.toNat (v8 * v9)) c100 34 (List.replicate (Int.toNat (v8 * v9)) 0), .ow kF a101 (Int.toNat (v8 * v9)) c102 34 (List.replicate (Int.toNat (v8 * v9)) 0), .blk b62 [.slice a55 (Int.toNat (v8 * v9)) c56, .slice a57 (Int.toNat (v8 * v9)) c58, .slice a59 (Int.toNat (v8 * v9)) c60] 30, .ow kF a55 (Int.toNat (v8 * v9)) c56 34 (List.replicate (Int.toNat (v8 * v9)) 0), .ow kF a57 (Int.toNat (v8 * v9)) c58 34 (List.replicate (Int.toNat (v8 * v9)) 0), .ow kF a59 (Int.toNat (v8 * v9)) c60 34 (List.replicate (Int.toNat (v8 * v9)) 0), .blk b32 [.int .i64 v8, .int .i64 v9, .bool vb10, .slice a11 c12 c13, .slice a15 c16 c17] 26, .ow kF a11 c12 c13 34 Z14, .ow kF a15 c16 c17 34 Z18, .rd kY a0 n0 X0, .rd kY a1 n1 X1] := B.upd [0] rfl hU112
            clear hU112
            refine ⟨fun _ => R70, ?_⟩
            refine m_y (v := .bool true) 15 rfl (by kernel_rfl) rfl rfl (fun w' e' => y_assign rfl) ?_
            refine m_done (by kernel_rfl) (fun w115 e116 => ?_)
            replace B := B.ext0 e116
            clear e116
            clear B0_69 R70
            exact ⟨_, b104, a97, c98, a99, c100, a101, c102, u77, Fits.eq ⟨rfl, rfl, rfl, rfl, rfl, rfl, rfl, rfl, rfl, trivial⟩, B, hk95, hp78⟩
          · replace R70 := R70.trans (Ext0.any e91)
            replace B := B.ext0 e91
            clear e91
            refine k_allocN (z := (.agg #[.slice none 0 0, .slice none 0 0, .slice none 0 0])) (cs := [.slice none 0 0, .slice none 0 0, .slice none 0 0]) T3.zero_30 rfl (fun b117 w118 hN119 => ?_)
            have nf120 : NotLt b117 _ := fun h => Nat.not_lt.2 (Nat.le_trans (Ext.size R70) hN119.ge) h
            replace R70 := R70.trans (Ext0.any hN119.ext)
            replace B := B.new1 hN119
            clear hN119
            refine ⟨fun _ => R70, ?_⟩
            refine m_k 9 [10, 11, 12, 14, 15] rfl (by kernel_rfl) rfl rfl (fun w122 e123 => ?_)
            replace R70 := R70.trans (Ext0.any e123)
            replace B := B.ext0 e123
            clear e123
            refine k_call T3.fn_16 (c_i_PutValue ((B.o 6 rfl).rd) ((B.o 7 rfl).rd) ((B.o 2 rfl).rd) ((B.o 3 rfl).rd) ((B.o 4 rfl).rd) hc87 (by first | exact lenle (by assumption) | exact lenle6 (by assumption) | omega) (by first | exact lenle (by assumption) | exact lenle6 (by assumption) | omega) (by first | exact lenle (by assumption) | exact lenle6 (by assumption) | omega) (by first | exact lenle (by assumption) | exact lenle6 (by assumption) | omega) (by first | exact lenle (by assumption) | exact lenle6 (by assumption) | omega)) rfl ?_
            rintro v126 w124 hx125
            have hk127 : putB v8 v9 vb10 Z14 Z18 (List.replicate (Int.toNat (v8 * v9)) 0) (List.replicate (Int.toNat (v8 * v9)) 0) (List.replicate (Int.toNat (v8 * v9)) 0) (1 + u39) (1 + u44) (fop .quo .f32 (FloatKind.nearest .f32 (1 + u77)) 1082130432) = true := (put_ok (field_zero hp21 (by omega)) (by omega) (by omega))
            have hb128 := putB_b hk127
            obtain ⟨a129, c130, a131, c132, a133, c134, rfl, hN135⟩ := (hx125.resolve_right (fun hz => by rw [hk127] at hz; cases hz.1)).2
            clear hx125
            replace R70 := R70.trans (Ext0.any hN135.ext)
            replace B := B.new3 hN135
            clear hN135
            refine ⟨fun _ => R70, ?_⟩
            refine m_y (v := .tuple #[.agg #[.slice a129 (Int.toNat (v8 * v9)) c130, .slice a131 (Int.toNat (v8 * v9)) c132, .slice a133 (Int.toNat (v8 * v9)) c134], .bool true]) 10 rfl (by kernel_rfl) rfl rfl (fun w' e' => y_move rfl) ?_
            refine m_y (v := .agg #[.slice a129 (Int.toNat (v8 * v9)) c130, .slice a131 (Int.toNat (v8 * v9)) c132, .slice a133 (Int.toNat (v8 * v9)) c134]) 11 rfl (by kernel_rfl) rfl rfl (fun w' e' => y_extract rfl rfl) ?_
            refine m_y (v := .bool true) 12 rfl (by kernel_rfl) rfl rfl (fun w' e' => y_extract rfl rfl) ?_
            refine m_k 14 [15] rfl (by kernel_rfl) rfl rfl (fun w138 e139 => ?_)
            replace R70 := R70.trans (Ext0.any e139)
            replace B := B.ext0 e139
            clear e139
            refine k_stB (v := .agg #[.slice a129 (Int.toNat (v8 * v9)) c130, .slice a131 (Int.toNat (v8 * v9)) c132, .slice a133 (Int.toNat (v8 * v9)) c134]) (n := 3) (cs' := [.slice a129 (Int.toNat (v8 * v9)) c130, .slice a131 (Int.toNat (v8 * v9)) c132, .slice a133 (Int.toNat (v8 * v9)) c134]) T3.sz_30_3 rfl rfl rfl (B.b 3 rfl) (by simp [Value.cells, Value.oneCell']) (Nat.le_of_ble_eq_true rfl) rfl (fun w136 hU137 => ?_)
            replace R70 := R70.fresh hU137.at1 (fun kx hs hl => (nf120 ((show kx = b117 from hs) ▸ hl)).elim)
            replace B : Bu w no w136 [.blk b117 [.slice a129 (Int.toNat (v8 * v9)) c130, .slice a131 (Int.toNat (v8 * v9)) c132, .slice a133 (Int.toNat (v8 * v9)) c134] 30, .ow kF a129 (Int.toNat (v8 * v9)) c130 34 (put (List.replicate (Int.toNat (v8 * v9)) 0) ((1 + u39) + v8 * (1 + u44)) (fop .quo .f32 (FloatKind.nearest .f32 (1 + u77)) 1082130432)), .ow kF a131 (Int.toNat (v8 * v9)) c132 34 (List.replicate (Int.toNat (v8 * v9)) 0), .ow kF a133 (Int.toNat (v8 * v9)) c134 34 (List.replicate (Int.toNat (v8 * v9)) 0), .blk b62 [.slice a55 (Int.toNat (v8 * v9)) c56, .slice a57 (Int.toNat (v8 * v9)) c58, .slice a59 (Int.toNat (v8 * v9)) c60] 30, .ow kF a55 (Int.toNat (v8 * v9)) c56 34 (List.replicate (Int.toNat (v8 * v9)) 0), .ow kF a57 (Int.toNat (v8 * v9)) c58 34 (List.replicate (Int.toNat (v8 * v9)) 0), .ow kF a59 (Int.toNat (v8 * v9)) c60 34 (List.replicate (Int.toNat (v8 * v9)) 0), .blk b32 [.int .i64 v8, .int .i64 v9, .bool vb10, .slice a11 c12 c13, .slice a15 c16 c17] 26, .ow kF a11 c12 c13 34 Z14, .ow kF a15 c16 c17 34 Z18, .rd kY a0 n0 X0, .rd kY a1 n1 X1] := B.upd [3] rfl hU137
            clear hU137
            refine ⟨fun _ => R70, ?_⟩
            refine m_y (v := .bool true) 15 rfl (by kernel_rfl) rfl rfl (fun w' e' => y_assign rfl) ?_
            refine m_done (by kernel_rfl) (fun w140 e141 => ?_)
            replace B := B.ext0 e141
            clear e141
            clear B0_69 R70
            exact ⟨_, b117, a129, c130, a131, c132, a133, c134, u77, Fits.eq ⟨rfl, rfl, rfl, rfl, rfl, rfl, rfl, rfl, rfl, trivial⟩, B, hk127, hp78⟩
        · replace R70 := R70.trans (Ext0.any e81)
          replace B := B.ext0 e81
          clear e81
          refine k_allocN (z := (.agg #[.slice none 0 0, .slice none 0 0, .slice none 0 0])) (cs := [.slice none 0 0, .slice none 0 0, .slice none 0 0]) T3.zero_30 rfl (fun b142 w143 hN144 => ?_)
          have nf145 : NotLt b142 _ := fun h => Nat.not_lt.2 (Nat.le_trans (Ext.size R70) hN144.ge) h
          replace R70 := R70.trans (Ext0.any hN144.ext)
          replace B := B.new1 hN144
          clear hN144
          refine ⟨fun _ => R70, ?_⟩
          refine m_n 8 [9, 10, 11, 12, 14, 15] rfl (by kernel_rfl) rfl rfl (fun w' e' => n_arith (by decide) rfl rfl) ?_
          rintro _ ⟨r148, rfl, hr149⟩
          have hc152 := fopC hr149 (cn_nearest .f32 (1 + u77)) (cnLit (k := .f32) (t := 1082130432) (by kernel_rfl) (by kernel_rfl))
          refine m_k 9 [10, 11, 12, 14, 15] rfl (by kernel_rfl) rfl rfl (fun w153 e154 => ?_)
          replace R70 := R70.trans (Ext0.any e154)
          replace B := B.ext0 e154
          clear e154
          refine k_call T3.fn_16 (c_i_PutValue ((B.o 6 rfl).rd) ((B.o 7 rfl).rd) ((B.o 2 rfl).rd) ((B.o 3 rfl).rd) ((B.o 4 rfl).rd) hc152 (by first | exact lenle (by assumption) | exact lenle6 (by assumption) | omega) (by first | exact lenle (by assumption) | exact lenle6 (by assumption) | omega) (by first | exact lenle (by assumption) | exact lenle6 (by assumption) | omega) (by first | exact lenle (by assumption) | exact lenle6 (by assumption) | omega) (by first | exact lenle (by assumption) | exact lenle6 (by assumption) | omega)) rfl ?_
          rintro v157 w155 hx156
          have hk158 : putB v8 v9 vb10 Z14 Z18 (List.replicate (Int.toNat (v8 * v9)) 0) (List.replicate (Int.toNat (v8 * v9)) 0) (List.replicate (Int.toNat (v8 * v9)) 0) (1 + u39) (1 + u44) (fop .quo .f32 (FloatKind.nearest .f32 (1 + u77)) 1082130432) = true := (put_ok (field_zero hp21 (by omega)) (by omega) (by omega))
          have hb159 := putB_b hk158
          obtain ⟨a160, c161, a162, c163, a164, c165, rfl, hN166⟩ := (hx156.resolve_right (fun hz => by rw [hk158] at hz; cases hz.1)).2
          clear hx156
          replace R70 := R70.trans (Ext0.any hN166.ext)
          replace B := B.new3 hN166
          clear hN166
          refine ⟨fun _ => R70, ?_⟩
          refine m_y (v := .tuple #[.agg #[.slice a160 (Int.toNat (v8 * v9)) c161, .slice a162 (Int.toNat (v8 * v9)) c163, .slice a164 (Int.toNat (v8 * v9)) c165], .bool true]) 10 rfl (by kernel_rfl) rfl rfl (fun w' e' => y_move rfl) ?_
          refine m_y (v := .agg #[.slice a160 (Int.toNat (v8 * v9)) c161, .slice a162 (Int.toNat (v8 * v9)) c163, .slice a164 (Int.toNat (v8 * v9)) c165]) 11 rfl (by kernel_rfl) rfl rfl (fun w' e' => y_extract rfl rfl) ?_
          refine m_y (v := .bool true) 12 rfl (by kernel_rfl) rfl rfl (fun w' e' => y_extract rfl rfl) ?_
          refine m_k 14 [15] rfl (by kernel_rfl) rfl rfl (fun w169 e170 => ?_)
          replace R70 := R70.trans (Ext0.any e170)
          replace B := B.ext0 e170
          clear e170
          refine k_stB (v := .agg #[.slice a160 (Int.toNat (v8 * v9)) c161, .slice a162 (Int.toNat (v8 * v9)) c163, .slice a164 (Int.toNat (v8 * v9)) c165]) (n := 3) (cs' := [.slice a160 (Int.toNat (v8 * v9)) c161, .slice a162 (Int.toNat (v8 * v9)) c163, .slice a164 (Int.toNat (v8 * v9)) c165]) T3.sz_30_3 rfl rfl rfl (B.b 3 rfl) (by simp [Value.cells, Value.oneCell']) (Nat.le_of_ble_eq_true rfl) rfl (fun w167 hU168 => ?_)
          replace R70 := R70.fresh hU168.at1 (fun kx hs hl => (nf145 ((show kx = b142 from hs) ▸ hl)).elim)
          replace B : Bu w no w167 [.blk b142 [.slice a160 (Int.toNat (v8 * v9)) c161, .slice a162 (Int.toNat (v8 * v9)) c163, .slice a164 (Int.toNat (v8 * v9)) c165] 30, .ow kF a160 (Int.toNat (v8 * v9)) c161 34 (put (List.replicate (Int.toNat (v8 * v9)) 0) ((1 + u39) + v8 * (1 + u44)) (fop .quo .f32 (FloatKind.nearest .f32 (1 + u77)) 1082130432)), .ow kF a162 (Int.toNat (v8 * v9)) c163 34 (List.replicate (Int.toNat (v8 * v9)) 0), .ow kF a164 (Int.toNat (v8 * v9)) c165 34 (List.replicate (Int.toNat (v8 * v9)) 0), .blk b62 [.slice a55 (Int.toNat (v8 * v9)) c56, .slice a57 (Int.toNat (v8 * v9)) c58, .slice a59 (Int.toNat (v8 * v9)) c60] 30, .ow kF a55 (Int.toNat (v8 * v9)) c56 34 (List.replicate (Int.toNat (v8 * v9)) 0), .ow kF a57 (Int.toNat (v8 * v9)) c58 34 (List.replicate (Int.toNat (v8 * v9)) 0), .ow kF a59 (Int.toNat (v8 * v9)) c60 34 (List.replicate (Int.toNat (v8 * v9)) 0), .blk b32 [.int .i64 v8, .int .i64 v9, .bool vb10, .slice a11 c12 c13, .slice a15 c16 c17] 26, .ow kF a11 c12 c13 34 Z14, .ow kF a15 c16 c17 34 Z18, .rd kY a0 n0 X0, .rd kY a1 n1 X1] := B.upd [3] rfl hU168
          clear hU168
          refine ⟨fun _ => R70, ?_⟩
          refine m_y (v := .bool true) 15 rfl (by kernel_rfl) rfl rfl (fun w' e' => y_assign rfl) ?_
          refine m_done (by kernel_rfl) (fun w171 e172 => ?_)
          replace B := B.ext0 e172
          clear e172
          clear B0_69 R70
          exact ⟨_, b142, a160, c161, a162, c163, a164, c165, u77, Fits.eq ⟨rfl, rfl, rfl, rfl, rfl, rfl, rfl, rfl, rfl, trivial⟩, B, hk158, hp78⟩
      · replace R70 := R70.trans (Ext0.any e74)
        replace B := B.ext0 e74
        clear e74
        refine k_allocN (z := (.agg #[.slice none 0 0, .slice none 0 0, .slice none 0 0])) (cs := [.slice none 0 0, .slice none 0 0, .slice none 0 0]) T3.zero_30 rfl (fun b173 w174 hN175 => ?_)
        have nf176 : NotLt b173 _ := fun h => Nat.not_lt.2 (Nat.le_trans (Ext.size R70) hN175.ge) h
        replace R70 := R70.trans (Ext0.any hN175.ext)
        replace B := B.new1 hN175
        clear hN175
        refine ⟨fun _ => R70, ?_⟩
        refine m_k 5 [6, 7, 8, 9, 10, 11, 12, 14, 15] rfl (by kernel_rfl) rfl rfl (fun w178 e179 => ?_)
        replace R70 := R70.trans (Ext0.any e179)
        replace B := B.ext0 e179
        clear e179
        refine k_call T3.fn_14 (c_l_b10At (B.r 9 rfl) (by omega) (by first | assumption | omega) (by omega) (by first | exact lenle (by assumption) | exact lenle6 (by assumption) | omega)) rfl ?_
        rintro _ w180 ⟨u182, rfl, hp183, e181⟩
        replace R70 := R70.trans (Ext0.any e181)
        replace B := B.ext0 e181
        clear e181
        refine ⟨fun _ => R70, ?_⟩
        have hb184 := b10A_b X1 (show 1 ≤ 9 by omega) (show 0 ≤ 3 by omega)
        rw [← hp183] at hb184
        refine m_y (v := .int .i64 (1 + u182)) 6 rfl (by kernel_rfl) rfl rfl (fun w' e' => y_add rfl rfl rfl (by omega)) ?_
        refine m_y (v := .float .f32 (FloatKind.nearest .f32 (1 + u182))) 7 rfl (by kernel_rfl) rfl rfl (fun w' e' => y_if T3.und_2 T3.flt_34_f32 rfl) ?_
        refine m_n 8 [9, 10, 11, 12, 14, 15] rfl (by kernel_rfl) rfl rfl (fun w' e' => n_arith (by decide) rfl rfl) ?_
        rintro _ ⟨r186, rfl, hr187⟩
        have hc190 := fopC hr187 (cn_nearest .f32 (1 + u182)) (cnLit (k := .f32) (t := 1082130432) (by kernel_rfl) (by kernel_rfl))
        refine m_k 9 [10, 11, 12, 14, 15] rfl (by kernel_rfl) rfl rfl (fun w191 e192 => ?_)
        replace R70 := R70.trans (Ext0.any e192)
        replace B := B.ext0 e192
        clear e192
        refine k_call T3.fn_16 (c_i_PutValue ((B.o 6 rfl).rd) ((B.o 7 rfl).rd) ((B.o 2 rfl).rd) ((B.o 3 rfl).rd) ((B.o 4 rfl).rd) hc190 (by first | exact lenle (by assumption) | exact lenle6 (by assumption) | omega) (by first | exact lenle (by assumption) | exact lenle6 (by assumption) | omega) (by first | exact lenle (by assumption) | exact lenle6 (by assumption) | omega) (by first | exact lenle (by assumption) | exact lenle6 (by assumption) | omega) (by first | exact lenle (by assumption) | exact lenle6 (by assumption) | omega)) rfl ?_
        rintro v195 w193 hx194
        have hk196 : putB v8 v9 vb10 Z14 Z18 (List.replicate (Int.toNat (v8 * v9)) 0) (List.replicate (Int.toNat (v8 * v9)) 0) (List.replicate (Int.toNat (v8 * v9)) 0) (1 + u39) (1 + u44) (fop .quo .f32 (FloatKind.nearest .f32 (1 + u182)) 1082130432) = true := (put_ok (field_zero hp21 (by omega)) (by omega) (by omega))
        have hb197 := putB_b hk196
        obtain ⟨a198, c199, a200, c201, a202, c203, rfl, hN204⟩ := (hx194.resolve_right (fun hz => by rw [hk196] at hz; cases hz.1)).2
        clear hx194
        replace R70 := R70.trans (Ext0.any hN204.ext)
        replace B := B.new3 hN204
        clear hN204
        refine ⟨fun _ => R70, ?_⟩
        refine m_y (v := .tuple #[.agg #[.slice a198 (Int.toNat (v8 * v9)) c199, .slice a200 (Int.toNat (v8 * v9)) c201, .slice a202 (Int.toNat (v8 * v9)) c203], .bool true]) 10 rfl (by kernel_rfl) rfl rfl (fun w' e' => y_move rfl) ?_
        refine m_y (v := .agg #[.slice a198 (Int.toNat (v8 * v9)) c199, .slice a200 (Int.toNat (v8 * v9)) c201, .slice a202 (Int.toNat (v8 * v9)) c203]) 11 rfl (by kernel_rfl) rfl rfl (fun w' e' => y_extract rfl rfl) ?_
        refine m_y (v := .bool true) 12 rfl (by kernel_rfl) rfl rfl (fun w' e' => y_extract rfl rfl) ?_
        refine m_k 14 [15] rfl (by kernel_rfl) rfl rfl (fun w207 e208 => ?_)
        replace R70 := R70.trans (Ext0.any e208)
        replace B := B.ext0 e208
        clear e208
        refine k_stB (v := .agg #[.slice a198 (Int.toNat (v8 * v9)) c199, .slice a200 (Int.toNat (v8 * v9)) c201, .slice a202 (Int.toNat (v8 * v9)) c203]) (n := 3) (cs' := [.slice a198 (Int.toNat (v8 * v9)) c199, .slice a200 (Int.toNat (v8 * v9)) c201, .slice a202 (Int.toNat (v8 * v9)) c203]) T3.sz_30_3 rfl rfl rfl (B.b 3 rfl) (by simp [Value.cells, Value.oneCell']) (Nat.le_of_ble_eq_true rfl) rfl (fun w205 hU206 => ?_)
        replace R70 := R70.fresh hU206.at1 (fun kx hs hl => (nf176 ((show kx = b173 from hs) ▸ hl)).elim)
        replace B : Bu w no w205 [.blk b173 [.slice a198 (Int.toNat (v8 * v9)) c199, .slice a200 (Int.toNat (v8 * v9)) c201, .slice a202 (Int.toNat (v8 * v9)) c203] 30, .ow kF a198 (Int.toNat (v8 * v9)) c199 34 (put (List.replicate (Int.toNat (v8 * v9)) 0) ((1 + u39) + v8 * (1 + u44)) (fop .quo .f32 (FloatKind.nearest .f32 (1 + u182)) 1082130432)), .ow kF a200 (Int.toNat (v8 * v9)) c201 34 (List.replicate (Int.toNat (v8 * v9)) 0), .ow kF a202 (Int.toNat (v8 * v9)) c203 34 (List.replicate (Int.toNat (v8 * v9)) 0), .blk b62 [.slice a55 (Int.toNat (v8 * v9)) c56, .slice a57 (Int.toNat (v8 * v9)) c58, .slice a59 (Int.toNat (v8 * v9)) c60] 30, .ow kF a55 (Int.toNat (v8 * v9)) c56 34 (List.replicate (Int.toNat (v8 * v9)) 0), .ow kF a57 (Int.toNat (v8 * v9)) c58 34 (List.replicate (Int.toNat (v8 * v9)) 0), .ow kF a59 (Int.toNat (v8 * v9)) c60 34 (List.replicate (Int.toNat (v8 * v9)) 0), .blk b32 [.int .i64 v8, .int .i64 v9, .bool vb10, .slice a11 c12 c13, .slice a15 c16 c17] 26, .ow kF a11 c12 c13 34 Z14, .ow kF a15 c16 c17 34 Z18, .rd kY a0 n0 X0, .rd kY a1 n1 X1] := B.upd [3] rfl hU206
        clear hU206
        refine ⟨fun _ => R70, ?_⟩
        refine m_y (v := .bool true) 15 rfl (by kernel_rfl) rfl rfl (fun w' e' => y_assign rfl) ?_
        refine m_done (by kernel_rfl) (fun w209 e210 => ?_)
        replace B := B.ext0 e210
        clear e210
        clear B0_69 R70
        exact ⟨_, b173, a198, c199, a200, c201, a202, c203, u182, Fits.eq ⟨rfl, rfl, rfl, rfl, rfl, rfl, rfl, rfl, rfl, trivial⟩, B, hk196, hp183⟩
    · clear B; rintro _ w211 (⟨ρ214, b104, a97, c98, a99, c100, a101, c102, u77, rfl, B, c212, hp213⟩)
      have hb215 := putB_b c212
      have hb216 := b10A_b X1 (show 1 ≤ 9 by omega) (show 0 ≤ 3 by omega)
      rw [← hp213] at hb216
      refine W_seq ?_
      refine W_region (by kernel_rfl) ?_
      refine s_y (v := .agg #[.int .i64 v8, .int .i64 v9, .bool vb10, .slice a11 c12 c13, .slice a15 c16 c17]) rfl (y_loadn (b := b32) (o := 0) (vs := [.int .i64 v8, .int .i64 v9, .bool vb10, .slice a11 c12 c13, .slice a15 c16 c17]) T3.agg_26_5 rfl rfl ((B.b 8 rfl).cells (o := 0) rfl)) ?_
      refine s_y (v := .agg #[.slice a97 (Int.toNat (v8 * v9)) c98, .slice a99 (Int.toNat (v8 * v9)) c100, .slice a101 (Int.toNat (v8 * v9)) c102]) rfl (y_loadn (b := b104) (o := 0) (vs := [.slice a97 (Int.toNat (v8 * v9)) c98, .slice a99 (Int.toNat (v8 * v9)) c100, .slice a101 (Int.toNat (v8 * v9)) c102]) T3.agg_30_3 rfl rfl ((B.b 0 rfl).cells (o := 0) rfl)) ?_
      refine s_y (v := .int .i64 u49) rfl (y_move rfl) ?_
      refine s_k rfl (k_call T3.fn_17 (c_i_RunField ((B.o 9 rfl).rd) ((B.o 10 rfl).rd) ((B.o 1 rfl).rd) ((B.o 2 rfl).rd) ((B.o 3 rfl).rd) (by first | exact lenle (by assumption) | exact lenle6 (by assumption) | omega) (by first | exact lenle (by assumption) | exact lenle6 (by assumption) | omega) (by first | exact lenle (by assumption) | exact lenle6 (by assumption) | omega) (by first | exact lenle (by assumption) | exact lenle6 (by assumption) | omega) (by first | exact lenle (by assumption) | exact lenle6 (by assumption) | omega)) rfl ?_)
      rintro v219 w217 hx218
      have hk220 : runB v8 v9 vb10 Z14 Z18 (put (List.replicate (Int.toNat (v8 * v9)) 0) ((1 + u39) + v8 * (1 + u44)) (fop .quo .f32 (FloatKind.nearest .f32 (1 + u77)) 1082130432)) (List.replicate (Int.toNat (v8 * v9)) 0) (List.replicate (Int.toNat (v8 * v9)) 0) u49 = true := (put_run c212 (by omega))
      have hb221 := runB_b hk220
      obtain ⟨a222, c223, a224, c225, a226, c227, rfl, hN228⟩ := (hx218.resolve_right (fun hz => by rw [hk220] at hz; cases hz.1)).2
      clear hx218
      replace B := B.new3 hN228
      clear hN228
      refine s_y (v := .tuple #[.agg #[.slice a222 (Int.toNat (v8 * v9)) c223, .slice a224 (Int.toNat (v8 * v9)) c225, .slice a226 (Int.toNat (v8 * v9)) c227], .bool true]) rfl (y_move rfl) ?_
      refine s_y (v := .agg #[.slice a222 (Int.toNat (v8 * v9)) c223, .slice a224 (Int.toNat (v8 * v9)) c225, .slice a226 (Int.toNat (v8 * v9)) c227]) rfl (y_extract rfl rfl) ?_
      refine s_y (v := .bool true) rfl (y_extract rfl rfl) ?_
      refine s_k rfl (k_allocN (z := (.agg #[.slice none 0 0, .slice none 0 0, .slice none 0 0])) (cs := [.slice none 0 0, .slice none 0 0, .slice none 0 0]) T3.zero_30 rfl (fun b229 w230 hN231 => ?_))
      replace B := B.new1 hN231
      clear hN231
      refine s_k0 rfl (k_stB (v := .agg #[.slice a222 (Int.toNat (v8 * v9)) c223, .slice a224 (Int.toNat (v8 * v9)) c225, .slice a226 (Int.toNat (v8 * v9)) c227]) (n := 3) (cs' := [.slice a222 (Int.toNat (v8 * v9)) c223, .slice a224 (Int.toNat (v8 * v9)) c225, .slice a226 (Int.toNat (v8 * v9)) c227]) T3.sz_30_3 rfl rfl rfl (B.b 0 rfl) (by simp [Value.cells, Value.oneCell']) (Nat.le_of_ble_eq_true rfl) rfl (fun w232 hU233 => ?_))
      replace B : Bu w no w232 [.blk b229 [.slice a222 (Int.toNat (v8 * v9)) c223, .slice a224 (Int.toNat (v8 * v9)) c225, .slice a226 (Int.toNat (v8 * v9)) c227] 30, .ow kF a222 (Int.toNat (v8 * v9)) c223 34 ((rnT v8 v9 vb10 Z14 Z18 ((put (List.replicate (Int.toNat (v8 * v9)) 0) ((1 + u39) + v8 * (1 + u44)) (fop .quo .f32 (FloatKind.nearest .f32 (1 + u77)) 1082130432)), (List.replicate (Int.toNat (v8 * v9)) 0), (List.replicate (Int.toNat (v8 * v9)) 0)) (Int.toNat u49)).1), .ow kF a224 (Int.toNat (v8 * v9)) c225 34 ((rnT v8 v9 vb10 Z14 Z18 ((put (List.replicate (Int.toNat (v8 * v9)) 0) ((1 + u39) + v8 * (1 + u44)) (fop .quo .f32 (FloatKind.nearest .f32 (1 + u77)) 1082130432)), (List.replicate (Int.toNat (v8 * v9)) 0), (List.replicate (Int.toNat (v8 * v9)) 0)) (Int.toNat u49)).2.1), .ow kF a226 (Int.toNat (v8 * v9)) c227 34 ((rnT v8 v9 vb10 Z14 Z18 ((put (List.replicate (Int.toNat (v8 * v9)) 0) ((1 + u39) + v8 * (1 + u44)) (fop .quo .f32 (FloatKind.nearest .f32 (1 + u77)) 1082130432)), (List.replicate (Int.toNat (v8 * v9)) 0), (List.replicate (Int.toNat (v8 * v9)) 0)) (Int.toNat u49)).2.2), .blk b104 [.slice a97 (Int.toNat (v8 * v9)) c98, .slice a99 (Int.toNat (v8 * v9)) c100, .slice a101 (Int.toNat (v8 * v9)) c102] 30, .ow kF a97 (Int.toNat (v8 * v9)) c98 34 (put (List.replicate (Int.toNat (v8 * v9)) 0) ((1 + u39) + v8 * (1 + u44)) (fop .quo .f32 (FloatKind.nearest .f32 (1 + u77)) 1082130432)), .ow kF a99 (Int.toNat (v8 * v9)) c100 34 (List.replicate (Int.toNat (v8 * v9)) 0), .ow kF a101 (Int.toNat (v8 * v9)) c102 34 (List.replicate (Int.toNat (v8 * v9)) 0), .blk b62 [.slice a55 (Int.toNat (v8 * v9)) c56, .slice a57 (Int.toNat (v8 * v9)) c58, .slice a59 (Int.toNat (v8 * v9)) c60] 30, .ow kF a55 (Int.toNat (v8 * v9)) c56 34 (List.replicate (Int.toNat (v8 * v9)) 0), .ow kF a57 (Int.toNat (v8 * v9)) c58 34 (List.replicate (Int.toNat (v8 * v9)) 0), .ow kF a59 (Int.toNat (v8 * v9)) c60 34 (List.replicate (Int.toNat (v8 * v9)) 0), .blk b32 [.int .i64 v8, .int .i64 v9, .bool vb10, .slice a11 c12 c13, .slice a15 c16 c17] 26, .ow kF a11 c12 c13 34 Z14, .ow kF a15 c16 c17 34 Z18, .rd kY a0 n0 X0, .rd kY a1 n1 X1] := B.upd [0] rfl hU233
      clear hU233
      refine s_y (v := .bool true) rfl (y_assign rfl) ?_
      refine s_nil ?_
      refine W_seq ?_
      refine W_region (by kernel_rfl) ?_
      refine s_y (v := .agg #[.int .i64 v8, .int .i64 v9, .bool vb10, .slice a11 c12 c13, .slice a15 c16 c17]) rfl (y_loadn (b := b32) (o := 0) (vs := [.int .i64 v8, .int .i64 v9, .bool vb10, .slice a11 c12 c13, .slice a15 c16 c17]) T3.agg_26_5 rfl rfl ((B.b 12 rfl).cells (o := 0) rfl)) ?_
      refine s_y (v := .int .i64 (1 + u39)) rfl (y_move rfl) ?_
      refine s_y (v := .int .i64 (1 + u44)) rfl (y_move rfl) ?_
      refine s_y (v := .int .i64 u49) rfl (y_move rfl) ?_
      refine s_k rfl (k_call T3.fn_18 (c_i_ReachOf ((B.o 13 rfl).rd) ((B.o 14 rfl).rd) (by first | exact lenle (by assumption) | exact lenle6 (by assumption) | omega) (by first | exact lenle (by assumption) | exact lenle6 (by assumption) | omega)) rfl ?_)
      rintro v236 w234 hx235
      have hk237 : reachB v8 v9 Z14 Z18 (1 + u39) (1 + u44) u49 = true := (reachB_yes hp21 (by omega) (by omega) (by omega))
      have hb238 := reachB_b hk237
      obtain ⟨a239, c240, rfl, hN241⟩ := (hx235.resolve_right (fun hz => by rw [hk237] at hz; cases hz.1)).2
      clear hx235
      replace B := B.new1 hN241
      clear hN241
      have hsl242 := sel_len (v8 * v9) (fun i => reachP v8 v9 vb10 (1 + u39) (1 + u44) u49 (i % v8) (i / v8))
      refine s_y (v := .tuple #[.slice a239 (List.length (sel (v8 * v9) (fun i => reachP v8 v9 vb10 (1 + u39) (1 + u44) u49 (i % v8) (i / v8)))) c240, .bool true]) rfl (y_move rfl) ?_
      refine s_y (v := .slice a239 (List.length (sel (v8 * v9) (fun i => reachP v8 v9 vb10 (1 + u39) (1 + u44) u49 (i % v8) (i / v8)))) c240) rfl (y_extract rfl rfl) ?_
      refine s_y (v := .bool true) rfl (y_extract rfl rfl) ?_
      refine s_y (v := .slice a239 (List.length (sel (v8 * v9) (fun i => reachP v8 v9 vb10 (1 + u39) (1 + u44) u49 (i % v8) (i / v8)))) c240) rfl (y_assign rfl) ?_
      refine s_y (v := .bool true) rfl (y_assign rfl) ?_
      refine s_nil ?_
      refine W_seq ?_
      refine W_region (by kernel_rfl) ?_
      refine s_y (v := .agg #[.int .i64 v8, .int .i64 v9, .bool vb10, .slice a11 c12 c13, .slice a15 c16 c17]) rfl (y_loadn (b := b32) (o := 0) (vs := [.int .i64 v8, .int .i64 v9, .bool vb10, .slice a11 c12 c13, .slice a15 c16 c17]) T3.agg_26_5 rfl rfl ((B.b 13 rfl).cells (o := 0) rfl)) ?_
      refine s_y (v := .agg #[.slice a222 (Int.toNat (v8 * v9)) c223, .slice a224 (Int.toNat (v8 * v9)) c225, .slice a226 (Int.toNat (v8 * v9)) c227]) rfl (y_loadn (b := b229) (o := 0) (vs := [.slice a222 (Int.toNat (v8 * v9)) c223, .slice a224 (Int.toNat (v8 * v9)) c225, .slice a226 (Int.toNat (v8 * v9)) c227]) T3.agg_30_3 rfl rfl ((B.b 1 rfl).cells (o := 0) rfl)) ?_
      refine s_k rfl (k_call T3.fn_19 (c_i_FarCells ((B.o 14 rfl).rd) ((B.o 15 rfl).rd) ((B.o 2 rfl).rd) ((B.o 3 rfl).rd) ((B.o 4 rfl).rd) (by first | exact lenle (by assumption) | exact lenle6 (by assumption) | omega) (by first | exact lenle (by assumption) | exact lenle6 (by assumption) | omega) (by first | exact lenle (by assumption) | exact lenle6 (by assumption) | omega) (by first | exact lenle (by assumption) | exact lenle6 (by assumption) | omega) (by first | exact lenle (by assumption) | exact lenle6 (by assumption) | omega)) rfl ?_)
      rintro v245 w243 hx244
      have hk246 : fieldB v8 v9 vb10 Z14 Z18 ((rnT v8 v9 vb10 Z14 Z18 ((put (List.replicate (Int.toNat (v8 * v9)) 0) ((1 + u39) + v8 * (1 + u44)) (fop .quo .f32 (FloatKind.nearest .f32 (1 + u77)) 1082130432)), (List.replicate (Int.toNat (v8 * v9)) 0), (List.replicate (Int.toNat (v8 * v9)) 0)) (Int.toNat u49)).1) ((rnT v8 v9 vb10 Z14 Z18 ((put (List.replicate (Int.toNat (v8 * v9)) 0) ((1 + u39) + v8 * (1 + u44)) (fop .quo .f32 (FloatKind.nearest .f32 (1 + u77)) 1082130432)), (List.replicate (Int.toNat (v8 * v9)) 0), (List.replicate (Int.toNat (v8 * v9)) 0)) (Int.toNat u49)).2.1) ((rnT v8 v9 vb10 Z14 Z18 ((put (List.replicate (Int.toNat (v8 * v9)) 0) ((1 + u39) + v8 * (1 + u44)) (fop .quo .f32 (FloatKind.nearest .f32 (1 + u77)) 1082130432)), (List.replicate (Int.toNat (v8 * v9)) 0), (List.replicate (Int.toNat (v8 * v9)) 0)) (Int.toNat u49)).2.2) = true := (run_field hk220)
      have hb247 := fieldB_b hk246
      obtain ⟨a248, c249, rfl, hN250⟩ := (hx244.resolve_right (fun hz => by rw [hk246] at hz; cases hz.1)).2
      clear hx244
      replace B := B.new1 hN250
      clear hN250
      have hsl251 := sel_len (v8 * v9) (farP ((rnT v8 v9 vb10 Z14 Z18 ((put (List.replicate (Int.toNat (v8 * v9)) 0) ((1 + u39) + v8 * (1 + u44)) (fop .quo .f32 (FloatKind.nearest .f32 (1 + u77)) 1082130432)), (List.replicate (Int.toNat (v8 * v9)) 0), (List.replicate (Int.toNat (v8 * v9)) 0)) (Int.toNat u49)).1) ((rnT v8 v9 vb10 Z14 Z18 ((put (List.replicate (Int.toNat (v8 * v9)) 0) ((1 + u39) + v8 * (1 + u44)) (fop .quo .f32 (FloatKind.nearest .f32 (1 + u77)) 1082130432)), (List.replicate (Int.toNat (v8 * v9)) 0), (List.replicate (Int.toNat (v8 * v9)) 0)) (Int.toNat u49)).2.1) ((rnT v8 v9 vb10 Z14 Z18 ((put (List.replicate (Int.toNat (v8 * v9)) 0) ((1 + u39) + v8 * (1 + u44)) (fop .quo .f32 (FloatKind.nearest .f32 (1 + u77)) 1082130432)), (List.replicate (Int.toNat (v8 * v9)) 0), (List.replicate (Int.toNat (v8 * v9)) 0)) (Int.toNat u49)).2.2))
      refine s_y (v := .tuple #[.slice a248 (List.length (sel (v8 * v9) (farP ((rnT v8 v9 vb10 Z14 Z18 ((put (List.replicate (Int.toNat (v8 * v9)) 0) ((1 + u39) + v8 * (1 + u44)) (fop .quo .f32 (FloatKind.nearest .f32 (1 + u77)) 1082130432)), (List.replicate (Int.toNat (v8 * v9)) 0), (List.replicate (Int.toNat (v8 * v9)) 0)) (Int.toNat u49)).1) ((rnT v8 v9 vb10 Z14 Z18 ((put (List.replicate (Int.toNat (v8 * v9)) 0) ((1 + u39) + v8 * (1 + u44)) (fop .quo .f32 (FloatKind.nearest .f32 (1 + u77)) 1082130432)), (List.replicate (Int.toNat (v8 * v9)) 0), (List.replicate (Int.toNat (v8 * v9)) 0)) (Int.toNat u49)).2.1) ((rnT v8 v9 vb10 Z14 Z18 ((put (List.replicate (Int.toNat (v8 * v9)) 0) ((1 + u39) + v8 * (1 + u44)) (fop .quo .f32 (FloatKind.nearest .f32 (1 + u77)) 1082130432)), (List.replicate (Int.toNat (v8 * v9)) 0), (List.replicate (Int.toNat (v8 * v9)) 0)) (Int.toNat u49)).2.2)))) c249, .bool true]) rfl (y_move rfl) ?_
      refine s_y (v := .slice a248 (List.length (sel (v8 * v9) (farP ((rnT v8 v9 vb10 Z14 Z18 ((put (List.replicate (Int.toNat (v8 * v9)) 0) ((1 + u39) + v8 * (1 + u44)) (fop .quo .f32 (FloatKind.nearest .f32 (1 + u77)) 1082130432)), (List.replicate (Int.toNat (v8 * v9)) 0), (List.replicate (Int.toNat (v8 * v9)) 0)) (Int.toNat u49)).1) ((rnT v8 v9 vb10 Z14 Z18 ((put (List.replicate (Int.toNat (v8 * v9)) 0) ((1 + u39) + v8 * (1 + u44)) (fop .quo .f32 (FloatKind.nearest .f32 (1 + u77)) 1082130432)), (List.replicate (Int.toNat (v8 * v9)) 0), (List.replicate (Int.toNat (v8 * v9)) 0)) (Int.toNat u49)).2.1) ((rnT v8 v9 vb10 Z14 Z18 ((put (List.replicate (Int.toNat (v8 * v9)) 0) ((1 + u39) + v8 * (1 + u44)) (fop .quo .f32 (FloatKind.nearest .f32 (1 + u77)) 1082130432)), (List.replicate (Int.toNat (v8 * v9)) 0), (List.replicate (Int.toNat (v8 * v9)) 0)) (Int.toNat u49)).2.2)))) c249) rfl (y_extract rfl rfl) ?_
      refine s_y (v := .bool true) rfl (y_extract rfl rfl) ?_
      refine s_y (v := .slice a248 (List.length (sel (v8 * v9) (farP ((rnT v8 v9 vb10 Z14 Z18 ((put (List.replicate (Int.toNat (v8 * v9)) 0) ((1 + u39) + v8 * (1 + u44)) (fop .quo .f32 (FloatKind.nearest .f32 (1 + u77)) 1082130432)), (List.replicate (Int.toNat (v8 * v9)) 0), (List.replicate (Int.toNat (v8 * v9)) 0)) (Int.toNat u49)).1) ((rnT v8 v9 vb10 Z14 Z18 ((put (List.replicate (Int.toNat (v8 * v9)) 0) ((1 + u39) + v8 * (1 + u44)) (fop .quo .f32 (FloatKind.nearest .f32 (1 + u77)) 1082130432)), (List.replicate (Int.toNat (v8 * v9)) 0), (List.replicate (Int.toNat (v8 * v9)) 0)) (Int.toNat u49)).2.1) ((rnT v8 v9 vb10 Z14 Z18 ((put (List.replicate (Int.toNat (v8 * v9)) 0) ((1 + u39) + v8 * (1 + u44)) (fop .quo .f32 (FloatKind.nearest .f32 (1 + u77)) 1082130432)), (List.replicate (Int.toNat (v8 * v9)) 0), (List.replicate (Int.toNat (v8 * v9)) 0)) (Int.toNat u49)).2.2)))) c249) rfl (y_assign rfl) ?_
      refine s_y (v := .bool true) rfl (y_assign rfl) ?_
      refine s_nil ?_
      refine W_seq ?_
      refine W_seq ?_
      refine W_region (by kernel_rfl) ?_
      refine s_y (v := .bool true) rfl (y_move rfl) ?_
      refine s_y (v := .bool false) rfl (y_not rfl rfl) ?_
      refine s_y (v := .bool false) rfl (y_move rfl) ?_
      refine s_y (v := .bool true) rfl (y_move rfl) ?_
      refine s_y (v := .bool false) rfl (y_not rfl rfl) ?_
      refine s_y (v := .bool false) rfl (y_pick_f rfl rfl) ?_
      refine s_y (v := .bool false) rfl (y_move rfl) ?_
      refine s_y (v := .bool true) rfl (y_move rfl) ?_
      refine s_y (v := .bool false) rfl (y_not rfl rfl) ?_
      refine s_y (v := .bool false) rfl (y_pick_f rfl rfl) ?_
      refine s_y (v := .bool false) rfl (y_move rfl) ?_
      refine s_y (v := .bool true) rfl (y_move rfl) ?_
      refine s_y (v := .bool false) rfl (y_not rfl rfl) ?_
      refine s_y (v := .bool false) rfl (y_pick_f rfl rfl) ?_
      refine s_y (v := .bool false) rfl (y_move rfl) ?_
      refine s_y (v := .bool true) rfl (y_move rfl) ?_
      refine s_y (v := .bool false) rfl (y_not rfl rfl) ?_
      refine s_y (v := .bool false) rfl (y_pick_f rfl rfl) ?_
      refine s_y (v := .bool false) rfl (y_move rfl) ?_
      refine s_y (v := .pointer (some ⟨b229, 0, none⟩)) rfl (y_fld (o := 0) T3.fld_30_0_0 rfl) ?_
      refine s_y (v := .slice a222 (Int.toNat (v8 * v9)) c223) rfl (y_load T3.one_24 rfl ((B.b 2 rfl).cell (j := 0) rfl)) ?_
      refine s_y (v := .int .i64 (((Int.toNat (v8 * v9)) : Nat) : Int)) rfl (y_len T3.sl_24_34_1 rfl rfl) ?_
      refine s_y (v := .pointer (some ⟨b104, 0, none⟩)) rfl (y_fld (o := 0) T3.fld_30_0_0 rfl) ?_
      refine s_y (v := .slice a97 (Int.toNat (v8 * v9)) c98) rfl (y_load T3.one_24 rfl ((B.b 6 rfl).cell (j := 0) rfl)) ?_
      refine s_y (v := .int .i64 (((Int.toNat (v8 * v9)) : Nat) : Int)) rfl (y_len T3.sl_24_34_1 rfl rfl) ?_
      refine s_y (v := .bool false) rfl (y_neq rfl rfl (decide_eq_false (fun hq => hq rfl))) ?_
      refine s_y (v := .bool false) rfl (y_pick_f rfl rfl) ?_
      refine s_nil ?_
      refine W_if_f (by decide) rfl ?_
      refine W_skip ?_
      refine W_seq ?_
      refine W_region (by kernel_rfl) ?_
      refine s_y (v := .pointer (some ⟨b104, 0, none⟩)) rfl (y_fld (o := 0) T3.fld_30_0_0 rfl) ?_
      refine s_y (v := .slice a97 (Int.toNat (v8 * v9)) c98) rfl (y_load T3.one_24 rfl ((B.b 6 rfl).cell (j := 0) rfl)) ?_
      refine s_y (v := .int .i64 (((Int.toNat (v8 * v9)) : Nat) : Int)) rfl (y_len T3.sl_24_34_1 rfl rfl) ?_
      refine s_k rfl (k_mkO (k := kB) (z0 := false) T3.slt_40 rfl rfl rfl (by omega) (by omega) (by omega) (fun b252 w253 hN254 => ?_))
      replace B := B.new1 hN254
      clear hN254
      refine s_y (v := .slice (some ⟨b252, 0, none⟩) (((((Int.toNat (v8 * v9)) : Nat) : Int)).toNat) (((((Int.toNat (v8 * v9)) : Nat) : Int)).toNat)) rfl (y_assign rfl) ?_
      refine s_nil ?_
      refine W_seq ?_
      refine W_seq ?_
      refine W_region (by kernel_rfl) ?_
      refine s_y (v := .slice a239 (List.length (sel (v8 * v9) (fun i => reachP v8 v9 vb10 (1 + u39) (1 + u44) u49 (i % v8) (i / v8)))) c240) rfl (y_move rfl) ?_
      refine s_y (v := .int .i64 ((List.length (sel (v8 * v9) (fun i => reachP v8 v9 vb10 (1 + u39) (1 + u44) u49 (i % v8) (i / v8))) : Nat) : Int)) rfl (y_len T3.sl_36_2_1 rfl rfl) ?_
      refine s_y (v := .int .i64 0) rfl (y_move rfl) ?_
      refine s_nil ?_
      refine W_block ?_
      refine W_loop (fun ρ' w' => ∃ (ρ1 : Env) (k : Int), ρ' = updL ρ1 [(1, .slice a1 n1 c1), (5, .pointer (some ⟨b32, 0, none⟩)), (6, .int .i64 (1 + u39)), (7, .int .i64 (1 + u44)), (8, .int .i64 u49), (13, .pointer (some ⟨b229, 0, none⟩)), (15, .slice a239 (List.length (sel (v8 * v9) (fun i => reachP v8 v9 vb10 (1 + u39) (1 + u44) u49 (i % v8) (i / v8)))) c240), (17, .slice a248 (List.length (sel (v8 * v9) (farP ((rnT v8 v9 vb10 Z14 Z18 ((put (List.replicate (Int.toNat (v8 * v9)) 0) ((1 + u39) + v8 * (1 + u44)) (fop .quo .f32 (FloatKind.nearest .f32 (1 + u77)) 1082130432)), (List.replicate (Int.toNat (v8 * v9)) 0), (List.replicate (Int.toNat (v8 * v9)) 0)) (Int.toNat u49)).1) ((rnT v8 v9 vb10 Z14 Z18 ((put (List.replicate (Int.toNat (v8 * v9)) 0) ((1 + u39) + v8 * (1 + u44)) (fop .quo .f32 (FloatKind.nearest .f32 (1 + u77)) 1082130432)), (List.replicate (Int.toNat (v8 * v9)) 0), (List.replicate (Int.toNat (v8 * v9)) 0)) (Int.toNat u49)).2.1) ((rnT v8 v9 vb10 Z14 Z18 ((put (List.replicate (Int.toNat (v8 * v9)) 0) ((1 + u39) + v8 * (1 + u44)) (fop .quo .f32 (FloatKind.nearest .f32 (1 + u77)) 1082130432)), (List.replicate (Int.toNat (v8 * v9)) 0), (List.replicate (Int.toNat (v8 * v9)) 0)) (Int.toNat u49)).2.2)))) c249), (19, .slice (some ⟨b252, 0, none⟩) (((((Int.toNat (v8 * v9)) : Nat) : Int)).toNat) (((((Int.toNat (v8 * v9)) : Nat) : Int)).toNat)), (120, .int .i64 ((List.length (sel (v8 * v9) (fun i => reachP v8 v9 vb10 (1 + u39) (1 + u44) u49 (i % v8) (i / v8))) : Nat) : Int)), (121, .int .i64 k)] ∧ Bu w no w' [.ow kB (some ⟨b252, 0, none⟩) (((((Int.toNat (v8 * v9)) : Nat) : Int)).toNat) (((((Int.toNat (v8 * v9)) : Nat) : Int)).toNat) 4 (seenT (v8 * v9) (sel (v8 * v9) (fun i => reachP v8 v9 vb10 (1 + u39) (1 + u44) u49 (i % v8) (i / v8))) k), .ow kI a248 (List.length (sel (v8 * v9) (farP ((rnT v8 v9 vb10 Z14 Z18 ((put (List.replicate (Int.toNat (v8 * v9)) 0) ((1 + u39) + v8 * (1 + u44)) (fop .quo .f32 (FloatKind.nearest .f32 (1 + u77)) 1082130432)), (List.replicate (Int.toNat (v8 * v9)) 0), (List.replicate (Int.toNat (v8 * v9)) 0)) (Int.toNat u49)).1) ((rnT v8 v9 vb10 Z14 Z18 ((put (List.replicate (Int.toNat (v8 * v9)) 0) ((1 + u39) + v8 * (1 + u44)) (fop .quo .f32 (FloatKind.nearest .f32 (1 + u77)) 1082130432)), (List.replicate (Int.toNat (v8 * v9)) 0), (List.replicate (Int.toNat (v8 * v9)) 0)) (Int.toNat u49)).2.1) ((rnT v8 v9 vb10 Z14 Z18 ((put (List.replicate (Int.toNat (v8 * v9)) 0) ((1 + u39) + v8 * (1 + u44)) (fop .quo .f32 (FloatKind.nearest .f32 (1 + u77)) 1082130432)), (List.replicate (Int.toNat (v8 * v9)) 0), (List.replicate (Int.toNat (v8 * v9)) 0)) (Int.toNat u49)).2.2)))) c249 2 (sel (v8 * v9) (farP ((rnT v8 v9 vb10 Z14 Z18 ((put (List.replicate (Int.toNat (v8 * v9)) 0) ((1 + u39) + v8 * (1 + u44)) (fop .quo .f32 (FloatKind.nearest .f32 (1 + u77)) 1082130432)), (List.replicate (Int.toNat (v8 * v9)) 0), (List.replicate (Int.toNat (v8 * v9)) 0)) (Int.toNat u49)).1) ((rnT v8 v9 vb10 Z14 Z18 ((put (List.replicate (Int.toNat (v8 * v9)) 0) ((1 + u39) + v8 * (1 + u44)) (fop .quo .f32 (FloatKind.nearest .f32 (1 + u77)) 1082130432)), (List.replicate (Int.toNat (v8 * v9)) 0), (List.replicate (Int.toNat (v8 * v9)) 0)) (Int.toNat u49)).2.1) ((rnT v8 v9 vb10 Z14 Z18 ((put (List.replicate (Int.toNat (v8 * v9)) 0) ((1 + u39) + v8 * (1 + u44)) (fop .quo .f32 (FloatKind.nearest .f32 (1 + u77)) 1082130432)), (List.replicate (Int.toNat (v8 * v9)) 0), (List.replicate (Int.toNat (v8 * v9)) 0)) (Int.toNat u49)).2.2))), .ow kI a239 (List.length (sel (v8 * v9) (fun i => reachP v8 v9 vb10 (1 + u39) (1 + u44) u49 (i % v8) (i / v8)))) c240 2 (sel (v8 * v9) (fun i => reachP v8 v9 vb10 (1 + u39) (1 + u44) u49 (i % v8) (i / v8))), .blk b229 [.slice a222 (Int.toNat (v8 * v9)) c223, .slice a224 (Int.toNat (v8 * v9)) c225, .slice a226 (Int.toNat (v8 * v9)) c227] 30, .ow kF a222 (Int.toNat (v8 * v9)) c223 34 ((rnT v8 v9 vb10 Z14 Z18 ((put (List.replicate (Int.toNat (v8 * v9)) 0) ((1 + u39) + v8 * (1 + u44)) (fop .quo .f32 (FloatKind.nearest .f32 (1 + u77)) 1082130432)), (List.replicate (Int.toNat (v8 * v9)) 0), (List.replicate (Int.toNat (v8 * v9)) 0)) (Int.toNat u49)).1), .ow kF a224 (Int.toNat (v8 * v9)) c225 34 ((rnT v8 v9 vb10 Z14 Z18 ((put (List.replicate (Int.toNat (v8 * v9)) 0) ((1 + u39) + v8 * (1 + u44)) (fop .quo .f32 (FloatKind.nearest .f32 (1 + u77)) 1082130432)), (List.replicate (Int.toNat (v8 * v9)) 0), (List.replicate (Int.toNat (v8 * v9)) 0)) (Int.toNat u49)).2.1), .ow kF a226 (Int.toNat (v8 * v9)) c227 34 ((rnT v8 v9 vb10 Z14 Z18 ((put (List.replicate (Int.toNat (v8 * v9)) 0) ((1 + u39) + v8 * (1 + u44)) (fop .quo .f32 (FloatKind.nearest .f32 (1 + u77)) 1082130432)), (List.replicate (Int.toNat (v8 * v9)) 0), (List.replicate (Int.toNat (v8 * v9)) 0)) (Int.toNat u49)).2.2), .blk b104 [.slice a97 (Int.toNat (v8 * v9)) c98, .slice a99 (Int.toNat (v8 * v9)) c100, .slice a101 (Int.toNat (v8 * v9)) c102] 30, .ow kF a97 (Int.toNat (v8 * v9)) c98 34 (put (List.replicate (Int.toNat (v8 * v9)) 0) ((1 + u39) + v8 * (1 + u44)) (fop .quo .f32 (FloatKind.nearest .f32 (1 + u77)) 1082130432)), .ow kF a99 (Int.toNat (v8 * v9)) c100 34 (List.replicate (Int.toNat (v8 * v9)) 0), .ow kF a101 (Int.toNat (v8 * v9)) c102 34 (List.replicate (Int.toNat (v8 * v9)) 0), .blk b62 [.slice a55 (Int.toNat (v8 * v9)) c56, .slice a57 (Int.toNat (v8 * v9)) c58, .slice a59 (Int.toNat (v8 * v9)) c60] 30, .ow kF a55 (Int.toNat (v8 * v9)) c56 34 (List.replicate (Int.toNat (v8 * v9)) 0), .ow kF a57 (Int.toNat (v8 * v9)) c58 34 (List.replicate (Int.toNat (v8 * v9)) 0), .ow kF a59 (Int.toNat (v8 * v9)) c60 34 (List.replicate (Int.toNat (v8 * v9)) 0), .blk b32 [.int .i64 v8, .int .i64 v9, .bool vb10, .slice a11 c12 c13, .slice a15 c16 c17] 26, .ow kF a11 c12 c13 34 Z14, .ow kF a15 c16 c17 34 Z18, .rd kY a0 n0 X0, .rd kY a1 n1 X1] ∧ (0 ≤ k) ∧ (k ≤ ((List.length (sel (v8 * v9) (fun i => reachP v8 v9 vb10 (1 + u39) (1 + u44) u49 (i % v8) (i / v8))) : Nat) : Int))) (fun ρ' _ => (((List.length (sel (v8 * v9) (fun i => reachP v8 v9 vb10 (1 + u39) (1 + u44) u49 (i % v8) (i / v8))) : Nat) : Int) - iv (ρ' 121)).toNat) ?_ ?_
      · replace B : Bu w no w253 [.ow kB (some ⟨b252, 0, none⟩) (((((Int.toNat (v8 * v9)) : Nat) : Int)).toNat) (((((Int.toNat (v8 * v9)) : Nat) : Int)).toNat) 4 (seenT (v8 * v9) (sel (v8 * v9) (fun i => reachP v8 v9 vb10 (1 + u39) (1 + u44) u49 (i % v8) (i / v8))) 0), .ow kI a248 (List.length (sel (v8 * v9) (farP ((rnT v8 v9 vb10 Z14 Z18 ((put (List.replicate (Int.toNat (v8 * v9)) 0) ((1 + u39) + v8 * (1 + u44)) (fop .quo .f32 (FloatKind.nearest .f32 (1 + u77)) 1082130432)), (List.replicate (Int.toNat (v8 * v9)) 0), (List.replicate (Int.toNat (v8 * v9)) 0)) (Int.toNat u49)).1) ((rnT v8 v9 vb10 Z14 Z18 ((put (List.replicate (Int.toNat (v8 * v9)) 0) ((1 + u39) + v8 * (1 + u44)) (fop .quo .f32 (FloatKind.nearest .f32 (1 + u77)) 1082130432)), (List.replicate (Int.toNat (v8 * v9)) 0), (List.replicate (Int.toNat (v8 * v9)) 0)) (Int.toNat u49)).2.1) ((rnT v8 v9 vb10 Z14 Z18 ((put (List.replicate (Int.toNat (v8 * v9)) 0) ((1 + u39) + v8 * (1 + u44)) (fop .quo .f32 (FloatKind.nearest .f32 (1 + u77)) 1082130432)), (List.replicate (Int.toNat (v8 * v9)) 0), (List.replicate (Int.toNat (v8 * v9)) 0)) (Int.toNat u49)).2.2)))) c249 2 (sel (v8 * v9) (farP ((rnT v8 v9 vb10 Z14 Z18 ((put (List.replicate (Int.toNat (v8 * v9)) 0) ((1 + u39) + v8 * (1 + u44)) (fop .quo .f32 (FloatKind.nearest .f32 (1 + u77)) 1082130432)), (List.replicate (Int.toNat (v8 * v9)) 0), (List.replicate (Int.toNat (v8 * v9)) 0)) (Int.toNat u49)).1) ((rnT v8 v9 vb10 Z14 Z18 ((put (List.replicate (Int.toNat (v8 * v9)) 0) ((1 + u39) + v8 * (1 + u44)) (fop .quo .f32 (FloatKind.nearest .f32 (1 + u77)) 1082130432)), (List.replicate (Int.toNat (v8 * v9)) 0), (List.replicate (Int.toNat (v8 * v9)) 0)) (Int.toNat u49)).2.1) ((rnT v8 v9 vb10 Z14 Z18 ((put (List.replicate (Int.toNat (v8 * v9)) 0) ((1 + u39) + v8 * (1 + u44)) (fop .quo .f32 (FloatKind.nearest .f32 (1 + u77)) 1082130432)), (List.replicate (Int.toNat (v8 * v9)) 0), (List.replicate (Int.toNat (v8 * v9)) 0)) (Int.toNat u49)).2.2))), .ow kI a239 (List.length (sel (v8 * v9) (fun i => reachP v8 v9 vb10 (1 + u39) (1 + u44) u49 (i % v8) (i / v8)))) c240 2 (sel (v8 * v9) (fun i => reachP v8 v9 vb10 (1 + u39) (1 + u44) u49 (i % v8) (i / v8))), .blk b229 [.slice a222 (Int.toNat (v8 * v9)) c223, .slice a224 (Int.toNat (v8 * v9)) c225, .slice a226 (Int.toNat (v8 * v9)) c227] 30, .ow kF a222 (Int.toNat (v8 * v9)) c223 34 ((rnT v8 v9 vb10 Z14 Z18 ((put (List.replicate (Int.toNat (v8 * v9)) 0) ((1 + u39) + v8 * (1 + u44)) (fop .quo .f32 (FloatKind.nearest .f32 (1 + u77)) 1082130432)), (List.replicate (Int.toNat (v8 * v9)) 0), (List.replicate (Int.toNat (v8 * v9)) 0)) (Int.toNat u49)).1), .ow kF a224 (Int.toNat (v8 * v9)) c225 34 ((rnT v8 v9 vb10 Z14 Z18 ((put (List.replicate (Int.toNat (v8 * v9)) 0) ((1 + u39) + v8 * (1 + u44)) (fop .quo .f32 (FloatKind.nearest .f32 (1 + u77)) 1082130432)), (List.replicate (Int.toNat (v8 * v9)) 0), (List.replicate (Int.toNat (v8 * v9)) 0)) (Int.toNat u49)).2.1), .ow kF a226 (Int.toNat (v8 * v9)) c227 34 ((rnT v8 v9 vb10 Z14 Z18 ((put (List.replicate (Int.toNat (v8 * v9)) 0) ((1 + u39) + v8 * (1 + u44)) (fop .quo .f32 (FloatKind.nearest .f32 (1 + u77)) 1082130432)), (List.replicate (Int.toNat (v8 * v9)) 0), (List.replicate (Int.toNat (v8 * v9)) 0)) (Int.toNat u49)).2.2), .blk b104 [.slice a97 (Int.toNat (v8 * v9)) c98, .slice a99 (Int.toNat (v8 * v9)) c100, .slice a101 (Int.toNat (v8 * v9)) c102] 30, .ow kF a97 (Int.toNat (v8 * v9)) c98 34 (put (List.replicate (Int.toNat (v8 * v9)) 0) ((1 + u39) + v8 * (1 + u44)) (fop .quo .f32 (FloatKind.nearest .f32 (1 + u77)) 1082130432)), .ow kF a99 (Int.toNat (v8 * v9)) c100 34 (List.replicate (Int.toNat (v8 * v9)) 0), .ow kF a101 (Int.toNat (v8 * v9)) c102 34 (List.replicate (Int.toNat (v8 * v9)) 0), .blk b62 [.slice a55 (Int.toNat (v8 * v9)) c56, .slice a57 (Int.toNat (v8 * v9)) c58, .slice a59 (Int.toNat (v8 * v9)) c60] 30, .ow kF a55 (Int.toNat (v8 * v9)) c56 34 (List.replicate (Int.toNat (v8 * v9)) 0), .ow kF a57 (Int.toNat (v8 * v9)) c58 34 (List.replicate (Int.toNat (v8 * v9)) 0), .ow kF a59 (Int.toNat (v8 * v9)) c60 34 (List.replicate (Int.toNat (v8 * v9)) 0), .blk b32 [.int .i64 v8, .int .i64 v9, .bool vb10, .slice a11 c12 c13, .slice a15 c16 c17] 26, .ow kF a11 c12 c13 34 Z14, .ow kF a15 c16 c17 34 Z18, .rd kY a0 n0 X0, .rd kY a1 n1 X1] := B.castX 0 rfl rfl (seen_zero (by omega))
        exact ⟨_, 0, Fits.eq ⟨rfl, rfl, rfl, rfl, rfl, rfl, rfl, rfl, rfl, rfl, rfl, trivial⟩, B, (Int.le_refl _), (by omega)⟩
      · clear B; rintro _ w255 ⟨ρ256, k, rfl, B, h0k, h1k⟩
        have hgl := fun (hq : k < ((List.length (sel (v8 * v9) (fun i => reachP v8 v9 vb10 (1 + u39) (1 + u44) u49 (i % v8) (i / v8))) : Nat) : Int)) => sel_gl (n := (v8 * v9)) (p := (fun i => reachP v8 v9 vb10 (1 + u39) (1 + u44) u49 (i % v8) (i / v8))) h0k hq
        refine W_seq ?_
        refine W_region (by kernel_rfl) ?_
        by_cases c257 : k < ((List.length (sel (v8 * v9) (fun i => reachP v8 v9 vb10 (1 + u39) (1 + u44) u49 (i % v8) (i / v8))) : Nat) : Int)
        · refine s_y (v := .bool true) rfl (y_lss rfl rfl (decide_eq_true c257)) ?_
          refine s_nil ?_
          refine W_seq ?_
          refine W_if_t (by decide) rfl ?_
          refine W_skip ?_
          refine W_seq ?_
          refine W_block ?_
          refine W_seq ?_
          refine W_region (by kernel_rfl) ?_
          refine s_y (v := .int .i64 k) rfl (y_move rfl) ?_
          refine s_y (v := .int .i64 k) rfl (y_assign rfl) ?_
          refine s_nil ?_
          refine W_seq ?_
          refine W_seq ?_
          refine W_region (by kernel_rfl) ?_
          refine s_y (v := .slice a239 (List.length (sel (v8 * v9) (fun i => reachP v8 v9 vb10 (1 + u39) (1 + u44) u49 (i % v8) (i / v8)))) c240) rfl (y_move rfl) ?_
          refine s_y (v := .int .i64 k) rfl (y_move rfl) ?_
          refine s_y (v := .pointer (some (sat a239 ((k).toNat * 1)))) rfl (y_idx T3.sl_36_2_1 rfl rfl ((B.o 2 rfl).rd.addr (by omega)) (by omega) (by omega)) ?_
          have hR258 := Rd.atI (B.o 2 rfl).rd k (by omega) (by omega)
          refine s_y (v := .int .i64 (gl (sel (v8 * v9) (fun i => reachP v8 v9 vb10 (1 + u39) (1 + u44) u49 (i % v8) (i / v8))) k)) rfl (y_load T3.one_2 rfl (hR258.cell (i := 0) rfl)) ?_
          have hk259 : ¬ ((gl (sel (v8 * v9) (fun i => reachP v8 v9 vb10 (1 + u39) (1 + u44) u49 (i % v8) (i / v8))) k) < 0) := (by have hq := hgl (by omega); omega)
          refine s_y (v := .bool false) rfl (y_lss rfl rfl (decide_eq_false hk259)) ?_
          refine s_y (v := .bool false) rfl (y_move rfl) ?_
          refine s_y (v := .slice a239 (List.length (sel (v8 * v9) (fun i => reachP v8 v9 vb10 (1 + u39) (1 + u44) u49 (i % v8) (i / v8)))) c240) rfl (y_move rfl) ?_
          refine s_y (v := .int .i64 k) rfl (y_move rfl) ?_
          refine s_y (v := .pointer (some (sat a239 ((k).toNat * 1)))) rfl (y_idx T3.sl_36_2_1 rfl rfl ((B.o 2 rfl).rd.addr (by omega)) (by omega) (by omega)) ?_
          have hR260 := Rd.atI (B.o 2 rfl).rd k (by omega) (by omega)
          refine s_y (v := .int .i64 (gl (sel (v8 * v9) (fun i => reachP v8 v9 vb10 (1 + u39) (1 + u44) u49 (i % v8) (i / v8))) k)) rfl (y_load T3.one_2 rfl (hR260.cell (i := 0) rfl)) ?_
          refine s_y (v := .slice (some ⟨b252, 0, none⟩) (((((Int.toNat (v8 * v9)) : Nat) : Int)).toNat) (((((Int.toNat (v8 * v9)) : Nat) : Int)).toNat)) rfl (y_move rfl) ?_
          refine s_y (v := .int .i64 ((((((Int.toNat (v8 * v9)) : Nat) : Int)).toNat : Nat) : Int)) rfl (y_len T3.sl_40_4_1 rfl rfl) ?_
          by_cases c261 : ((((((Int.toNat (v8 * v9)) : Nat) : Int)).toNat : Nat) : Int) ≤ (gl (sel (v8 * v9) (fun i => reachP v8 v9 vb10 (1 + u39) (1 + u44) u49 (i % v8) (i / v8))) k)
          · refine s_y (v := .bool true) rfl (y_geq rfl rfl (decide_eq_true c261)) ?_
            refine s_y (v := .bool true) rfl (y_pick_f rfl rfl) ?_
            refine s_nil ?_
            refine W_if_t (by decide) rfl ?_
            refine W_seq ?_
            refine W_region (by kernel_rfl) ?_
            refine s_y (v := .bool false) rfl (y_assign rfl) ?_
            refine s_nil ?_
            refine W_ret ?_
            refine ret1 (v := .bool false) rfl rfl rfl ⟨_, rfl, ?_⟩
            exfalso; omega
          · refine s_y (v := .bool false) rfl (y_geq rfl rfl (decide_eq_false c261)) ?_
            refine s_y (v := .bool false) rfl (y_pick_f rfl rfl) ?_
            refine s_nil ?_
            refine W_if_f (by decide) rfl ?_
            refine W_skip ?_
            refine W_region (by kernel_rfl) ?_
            refine s_y (v := .slice (some ⟨b252, 0, none⟩) (((((Int.toNat (v8 * v9)) : Nat) : Int)).toNat) (((((Int.toNat (v8 * v9)) : Nat) : Int)).toNat)) rfl (y_move rfl) ?_
            refine s_y (v := .slice a239 (List.length (sel (v8 * v9) (fun i => reachP v8 v9 vb10 (1 + u39) (1 + u44) u49 (i % v8) (i / v8)))) c240) rfl (y_move rfl) ?_
            refine s_y (v := .int .i64 k) rfl (y_move rfl) ?_
            refine s_y (v := .pointer (some (sat a239 ((k).toNat * 1)))) rfl (y_idx T3.sl_36_2_1 rfl rfl ((B.o 2 rfl).rd.addr (by omega)) (by omega) (by omega)) ?_
            have hR262 := Rd.atI (B.o 2 rfl).rd k (by omega) (by omega)
            refine s_y (v := .int .i64 (gl (sel (v8 * v9) (fun i => reachP v8 v9 vb10 (1 + u39) (1 + u44) u49 (i % v8) (i / v8))) k)) rfl (y_load T3.one_2 rfl (hR262.cell (i := 0) rfl)) ?_
            refine s_y (v := .pointer (some (sat (some ⟨b252, 0, none⟩) ((gl (sel (v8 * v9) (fun i => reachP v8 v9 vb10 (1 + u39) (1 + u44) u49 (i % v8) (i / v8))) k).toNat * 1)))) rfl (y_idx T3.sl_40_4_1 rfl rfl ((B.o 0 rfl).rd.addr (by omega)) (by omega) (by omega)) ?_
            refine s_k0 rfl (k_stO (k := kB) (i := gl (sel (v8 * v9) (fun i => reachP v8 v9 vb10 (1 + u39) (1 + u44) u49 (i % v8) (i / v8))) k) (j := 0) (x' := true) (new := [.bool true]) T3.sz_4_1 rfl rfl rfl rfl rfl (by simp [Value.oneCell']) (by decide) (B.o 0 rfl) (by omega) (by omega) (by decide) (by rintro q rfl; rfl) (fun w263 hU264 => ?_))
            replace B : Bu w no w263 [.ow kB (some ⟨b252, 0, none⟩) (((((Int.toNat (v8 * v9)) : Nat) : Int)).toNat) (((((Int.toNat (v8 * v9)) : Nat) : Int)).toNat) 4 (pl (seenT (v8 * v9) (sel (v8 * v9) (fun i => reachP v8 v9 vb10 (1 + u39) (1 + u44) u49 (i % v8) (i / v8))) k) (gl (sel (v8 * v9) (fun i => reachP v8 v9 vb10 (1 + u39) (1 + u44) u49 (i % v8) (i / v8))) k) true), .ow kI a248 (List.length (sel (v8 * v9) (farP ((rnT v8 v9 vb10 Z14 Z18 ((put (List.replicate (Int.toNat (v8 * v9)) 0) ((1 + u39) + v8 * (1 + u44)) (fop .quo .f32 (FloatKind.nearest .f32 (1 + u77)) 1082130432)), (List.replicate (Int.toNat (v8 * v9)) 0), (List.replicate (Int.toNat (v8 * v9)) 0)) (Int.toNat u49)).1) ((rnT v8 v9 vb10 Z14 Z18 ((put (List.replicate (Int.toNat (v8 * v9)) 0) ((1 + u39) + v8 * (1 + u44)) (fop .quo .f32 (FloatKind.nearest .f32 (1 + u77)) 1082130432)), (List.replicate (Int.toNat (v8 * v9)) 0), (List.replicate (Int.toNat (v8 * v9)) 0)) (Int.toNat u49)).2.1) ((rnT v8 v9 vb10 Z14 Z18 ((put (List.replicate (Int.toNat (v8 * v9)) 0) ((1 + u39) + v8 * (1 + u44)) (fop .quo .f32 (FloatKind.nearest .f32 (1 + u77)) 1082130432)), (List.replicate (Int.toNat (v8 * v9)) 0), (List.replicate (Int.toNat (v8 * v9)) 0)) (Int.toNat u49)).2.2)))) c249 2 (sel (v8 * v9) (farP ((rnT v8 v9 vb10 Z14 Z18 ((put (List.replicate (Int.toNat (v8 * v9)) 0) ((1 + u39) + v8 * (1 + u44)) (fop .quo .f32 (FloatKind.nearest .f32 (1 + u77)) 1082130432)), (List.replicate (Int.toNat (v8 * v9)) 0), (List.replicate (Int.toNat (v8 * v9)) 0)) (Int.toNat u49)).1) ((rnT v8 v9 vb10 Z14 Z18 ((put (List.replicate (Int.toNat (v8 * v9)) 0) ((1 + u39) + v8 * (1 + u44)) (fop .quo .f32 (FloatKind.nearest .f32 (1 + u77)) 1082130432)), (List.replicate (Int.toNat (v8 * v9)) 0), (List.replicate (Int.toNat (v8 * v9)) 0)) (Int.toNat u49)).2.1) ((rnT v8 v9 vb10 Z14 Z18 ((put (List.replicate (Int.toNat (v8 * v9)) 0) ((1 + u39) + v8 * (1 + u44)) (fop .quo .f32 (FloatKind.nearest .f32 (1 + u77)) 1082130432)), (List.replicate (Int.toNat (v8 * v9)) 0), (List.replicate (Int.toNat (v8 * v9)) 0)) (Int.toNat u49)).2.2))), .ow kI a239 (List.length (sel (v8 * v9) (fun i => reachP v8 v9 vb10 (1 + u39) (1 + u44) u49 (i % v8) (i / v8)))) c240 2 (sel (v8 * v9) (fun i => reachP v8 v9 vb10 (1 + u39) (1 + u44) u49 (i % v8) (i / v8))), .blk b229 [.slice a222 (Int.toNat (v8 * v9)) c223, .slice a224 (Int.toNat (v8 * v9)) c225, .slice a226 (Int.toNat (v8 * v9)) c227] 30, .ow kF a222 (Int.toNat (v8 * v9)) c223 34 ((rnT v8 v9 vb10 Z14 Z18 ((put (List.replicate (Int.toNat (v8 * v9)) 0) ((1 + u39) + v8 * (1 + u44)) (fop .quo .f32 (FloatKind.nearest .f32 (1 + u77)) 1082130432)), (List.replicate (Int.toNat (v8 * v9)) 0), (List.replicate (Int.toNat (v8 * v9)) 0)) (Int.toNat u49)).1), .ow kF a224 (Int.toNat (v8 * v9)) c225 34 ((rnT v8 v9 vb10 Z14 Z18 ((put (List.replicate (Int.toNat (v8 * v9)) 0) ((1 + u39) + v8 * (1 + u44)) (fop .quo .f32 (FloatKind.nearest .f32 (1 + u77)) 1082130432)), (List.replicate (Int.toNat (v8 * v9)) 0), (List.replicate (Int.toNat (v8 * v9)) 0)) (Int.toNat u49)).2.1), .ow kF a226 (Int.toNat (v8 * v9)) c227 34 ((rnT v8 v9 vb10 Z14 Z18 ((put (List.replicate (Int.toNat (v8 * v9)) 0) ((1 + u39) + v8 * (1 + u44)) (fop .quo .f32 (FloatKind.nearest .f32 (1 + u77)) 1082130432)), (List.replicate (Int.toNat (v8 * v9)) 0), (List.replicate (Int.toNat (v8 * v9)) 0)) (Int.toNat u49)).2.2), .blk b104 [.slice a97 (Int.toNat (v8 * v9)) c98, .slice a99 (Int.toNat (v8 * v9)) c100, .slice a101 (Int.toNat (v8 * v9)) c102] 30, .ow kF a97 (Int.toNat (v8 * v9)) c98 34 (put (List.replicate (Int.toNat (v8 * v9)) 0) ((1 + u39) + v8 * (1 + u44)) (fop .quo .f32 (FloatKind.nearest .f32 (1 + u77)) 1082130432)), .ow kF a99 (Int.toNat (v8 * v9)) c100 34 (List.replicate (Int.toNat (v8 * v9)) 0), .ow kF a101 (Int.toNat (v8 * v9)) c102 34 (List.replicate (Int.toNat (v8 * v9)) 0), .blk b62 [.slice a55 (Int.toNat (v8 * v9)) c56, .slice a57 (Int.toNat (v8 * v9)) c58, .slice a59 (Int.toNat (v8 * v9)) c60] 30, .ow kF a55 (Int.toNat (v8 * v9)) c56 34 (List.replicate (Int.toNat (v8 * v9)) 0), .ow kF a57 (Int.toNat (v8 * v9)) c58 34 (List.replicate (Int.toNat (v8 * v9)) 0), .ow kF a59 (Int.toNat (v8 * v9)) c60 34 (List.replicate (Int.toNat (v8 * v9)) 0), .blk b32 [.int .i64 v8, .int .i64 v9, .bool vb10, .slice a11 c12 c13, .slice a15 c16 c17] 26, .ow kF a11 c12 c13 34 Z14, .ow kF a15 c16 c17 34 Z18, .rd kY a0 n0 X0, .rd kY a1 n1 X1] := B.upd [0] rfl hU264
            clear hU264
            refine s_nil ?_
            refine W_region (by kernel_rfl) ?_
            refine s_y (v := .int .i64 (k + 1)) rfl (y_add rfl rfl rfl (by omega)) ?_
            refine s_y (v := .int .i64 (k + 1)) rfl (y_move rfl) ?_
            refine s_nil ?_
            have hqg := hgl (by omega)
            replace B : Bu w no w263 [.ow kB (some ⟨b252, 0, none⟩) (((((Int.toNat (v8 * v9)) : Nat) : Int)).toNat) (((((Int.toNat (v8 * v9)) : Nat) : Int)).toNat) 4 (seenT (v8 * v9) (sel (v8 * v9) (fun i => reachP v8 v9 vb10 (1 + u39) (1 + u44) u49 (i % v8) (i / v8))) (k + 1)), .ow kI a248 (List.length (sel (v8 * v9) (farP ((rnT v8 v9 vb10 Z14 Z18 ((put (List.replicate (Int.toNat (v8 * v9)) 0) ((1 + u39) + v8 * (1 + u44)) (fop .quo .f32 (FloatKind.nearest .f32 (1 + u77)) 1082130432)), (List.replicate (Int.toNat (v8 * v9)) 0), (List.replicate (Int.toNat (v8 * v9)) 0)) (Int.toNat u49)).1) ((rnT v8 v9 vb10 Z14 Z18 ((put (List.replicate (Int.toNat (v8 * v9)) 0) ((1 + u39) + v8 * (1 + u44)) (fop .quo .f32 (FloatKind.nearest .f32 (1 + u77)) 1082130432)), (List.replicate (Int.toNat (v8 * v9)) 0), (List.replicate (Int.toNat (v8 * v9)) 0)) (Int.toNat u49)).2.1) ((rnT v8 v9 vb10 Z14 Z18 ((put (List.replicate (Int.toNat (v8 * v9)) 0) ((1 + u39) + v8 * (1 + u44)) (fop .quo .f32 (FloatKind.nearest .f32 (1 + u77)) 1082130432)), (List.replicate (Int.toNat (v8 * v9)) 0), (List.replicate (Int.toNat (v8 * v9)) 0)) (Int.toNat u49)).2.2)))) c249 2 (sel (v8 * v9) (farP ((rnT v8 v9 vb10 Z14 Z18 ((put (List.replicate (Int.toNat (v8 * v9)) 0) ((1 + u39) + v8 * (1 + u44)) (fop .quo .f32 (FloatKind.nearest .f32 (1 + u77)) 1082130432)), (List.replicate (Int.toNat (v8 * v9)) 0), (List.replicate (Int.toNat (v8 * v9)) 0)) (Int.toNat u49)).1) ((rnT v8 v9 vb10 Z14 Z18 ((put (List.replicate (Int.toNat (v8 * v9)) 0) ((1 + u39) + v8 * (1 + u44)) (fop .quo .f32 (FloatKind.nearest .f32 (1 + u77)) 1082130432)), (List.replicate (Int.toNat (v8 * v9)) 0), (List.replicate (Int.toNat (v8 * v9)) 0)) (Int.toNat u49)).2.1) ((rnT v8 v9 vb10 Z14 Z18 ((put (List.replicate (Int.toNat (v8 * v9)) 0) ((1 + u39) + v8 * (1 + u44)) (fop .quo .f32 (FloatKind.nearest .f32 (1 + u77)) 1082130432)), (List.replicate (Int.toNat (v8 * v9)) 0), (List.replicate (Int.toNat (v8 * v9)) 0)) (Int.toNat u49)).2.2))), .ow kI a239 (List.length (sel (v8 * v9) (fun i => reachP v8 v9 vb10 (1 + u39) (1 + u44) u49 (i % v8) (i / v8)))) c240 2 (sel (v8 * v9) (fun i => reachP v8 v9 vb10 (1 + u39) (1 + u44) u49 (i % v8) (i / v8))), .blk b229 [.slice a222 (Int.toNat (v8 * v9)) c223, .slice a224 (Int.toNat (v8 * v9)) c225, .slice a226 (Int.toNat (v8 * v9)) c227] 30, .ow kF a222 (Int.toNat (v8 * v9)) c223 34 ((rnT v8 v9 vb10 Z14 Z18 ((put (List.replicate (Int.toNat (v8 * v9)) 0) ((1 + u39) + v8 * (1 + u44)) (fop .quo .f32 (FloatKind.nearest .f32 (1 + u77)) 1082130432)), (List.replicate (Int.toNat (v8 * v9)) 0), (List.replicate (Int.toNat (v8 * v9)) 0)) (Int.toNat u49)).1), .ow kF a224 (Int.toNat (v8 * v9)) c225 34 ((rnT v8 v9 vb10 Z14 Z18 ((put (List.replicate (Int.toNat (v8 * v9)) 0) ((1 + u39) + v8 * (1 + u44)) (fop .quo .f32 (FloatKind.nearest .f32 (1 + u77)) 1082130432)), (List.replicate (Int.toNat (v8 * v9)) 0), (List.replicate (Int.toNat (v8 * v9)) 0)) (Int.toNat u49)).2.1), .ow kF a226 (Int.toNat (v8 * v9)) c227 34 ((rnT v8 v9 vb10 Z14 Z18 ((put (List.replicate (Int.toNat (v8 * v9)) 0) ((1 + u39) + v8 * (1 + u44)) (fop .quo .f32 (FloatKind.nearest .f32 (1 + u77)) 1082130432)), (List.replicate (Int.toNat (v8 * v9)) 0), (List.replicate (Int.toNat (v8 * v9)) 0)) (Int.toNat u49)).2.2), .blk b104 [.slice a97 (Int.toNat (v8 * v9)) c98, .slice a99 (Int.toNat (v8 * v9)) c100, .slice a101 (Int.toNat (v8 * v9)) c102] 30, .ow kF a97 (Int.toNat (v8 * v9)) c98 34 (put (List.replicate (Int.toNat (v8 * v9)) 0) ((1 + u39) + v8 * (1 + u44)) (fop .quo .f32 (FloatKind.nearest .f32 (1 + u77)) 1082130432)), .ow kF a99 (Int.toNat (v8 * v9)) c100 34 (List.replicate (Int.toNat (v8 * v9)) 0), .ow kF a101 (Int.toNat (v8 * v9)) c102 34 (List.replicate (Int.toNat (v8 * v9)) 0), .blk b62 [.slice a55 (Int.toNat (v8 * v9)) c56, .slice a57 (Int.toNat (v8 * v9)) c58, .slice a59 (Int.toNat (v8 * v9)) c60] 30, .ow kF a55 (Int.toNat (v8 * v9)) c56 34 (List.replicate (Int.toNat (v8 * v9)) 0), .ow kF a57 (Int.toNat (v8 * v9)) c58 34 (List.replicate (Int.toNat (v8 * v9)) 0), .ow kF a59 (Int.toNat (v8 * v9)) c60 34 (List.replicate (Int.toNat (v8 * v9)) 0), .blk b32 [.int .i64 v8, .int .i64 v9, .bool vb10, .slice a11 c12 c13, .slice a15 c16 c17] 26, .ow kF a11 c12 c13 34 Z14, .ow kF a15 c16 c17 34 Z18, .rd kY a0 n0 X0, .rd kY a1 n1 X1] := B.castX 0 rfl rfl (seen_next h0k (by omega) (by omega) (by omega))
            refine ⟨⟨_, k + 1, Fits.eq ⟨rfl, rfl, rfl, rfl, rfl, rfl, rfl, rfl, rfl, rfl, rfl, trivial⟩, B, (by omega), (by omega)⟩, ?_⟩
            show (((List.length (sel (v8 * v9) (fun i => reachP v8 v9 vb10 (1 + u39) (1 + u44) u49 (i % v8) (i / v8))) : Nat) : Int) - (k + 1)).toNat < (((List.length (sel (v8 * v9) (fun i => reachP v8 v9 vb10 (1 + u39) (1 + u44) u49 (i % v8) (i / v8))) : Nat) : Int) - k).toNat
            omega
        · refine s_y (v := .bool false) rfl (y_lss rfl rfl (decide_eq_false c257)) ?_
          refine s_nil ?_
          refine W_seq ?_
          refine W_if_f (by decide) rfl ?_
          refine W_exit ?_
          replace B : Bu w no w255 [.ow kB (some ⟨b252, 0, none⟩) (((((Int.toNat (v8 * v9)) : Nat) : Int)).toNat) (((((Int.toNat (v8 * v9)) : Nat) : Int)).toNat) 4 (gtab (v8 * v9) (fun i => reachP v8 v9 vb10 (1 + u39) (1 + u44) u49 (i % v8) (i / v8))), .ow kI a248 (List.length (sel (v8 * v9) (farP ((rnT v8 v9 vb10 Z14 Z18 ((put (List.replicate (Int.toNat (v8 * v9)) 0) ((1 + u39) + v8 * (1 + u44)) (fop .quo .f32 (FloatKind.nearest .f32 (1 + u77)) 1082130432)), (List.replicate (Int.toNat (v8 * v9)) 0), (List.replicate (Int.toNat (v8 * v9)) 0)) (Int.toNat u49)).1) ((rnT v8 v9 vb10 Z14 Z18 ((put (List.replicate (Int.toNat (v8 * v9)) 0) ((1 + u39) + v8 * (1 + u44)) (fop .quo .f32 (FloatKind.nearest .f32 (1 + u77)) 1082130432)), (List.replicate (Int.toNat (v8 * v9)) 0), (List.replicate (Int.toNat (v8 * v9)) 0)) (Int.toNat u49)).2.1) ((rnT v8 v9 vb10 Z14 Z18 ((put (List.replicate (Int.toNat (v8 * v9)) 0) ((1 + u39) + v8 * (1 + u44)) (fop .quo .f32 (FloatKind.nearest .f32 (1 + u77)) 1082130432)), (List.replicate (Int.toNat (v8 * v9)) 0), (List.replicate (Int.toNat (v8 * v9)) 0)) (Int.toNat u49)).2.2)))) c249 2 (sel (v8 * v9) (farP ((rnT v8 v9 vb10 Z14 Z18 ((put (List.replicate (Int.toNat (v8 * v9)) 0) ((1 + u39) + v8 * (1 + u44)) (fop .quo .f32 (FloatKind.nearest .f32 (1 + u77)) 1082130432)), (List.replicate (Int.toNat (v8 * v9)) 0), (List.replicate (Int.toNat (v8 * v9)) 0)) (Int.toNat u49)).1) ((rnT v8 v9 vb10 Z14 Z18 ((put (List.replicate (Int.toNat (v8 * v9)) 0) ((1 + u39) + v8 * (1 + u44)) (fop .quo .f32 (FloatKind.nearest .f32 (1 + u77)) 1082130432)), (List.replicate (Int.toNat (v8 * v9)) 0), (List.replicate (Int.toNat (v8 * v9)) 0)) (Int.toNat u49)).2.1) ((rnT v8 v9 vb10 Z14 Z18 ((put (List.replicate (Int.toNat (v8 * v9)) 0) ((1 + u39) + v8 * (1 + u44)) (fop .quo .f32 (FloatKind.nearest .f32 (1 + u77)) 1082130432)), (List.replicate (Int.toNat (v8 * v9)) 0), (List.replicate (Int.toNat (v8 * v9)) 0)) (Int.toNat u49)).2.2))), .ow kI a239 (List.length (sel (v8 * v9) (fun i => reachP v8 v9 vb10 (1 + u39) (1 + u44) u49 (i % v8) (i / v8)))) c240 2 (sel (v8 * v9) (fun i => reachP v8 v9 vb10 (1 + u39) (1 + u44) u49 (i % v8) (i / v8))), .blk b229 [.slice a222 (Int.toNat (v8 * v9)) c223, .slice a224 (Int.toNat (v8 * v9)) c225, .slice a226 (Int.toNat (v8 * v9)) c227] 30, .ow kF a222 (Int.toNat (v8 * v9)) c223 34 ((rnT v8 v9 vb10 Z14 Z18 ((put (List.replicate (Int.toNat (v8 * v9)) 0) ((1 + u39) + v8 * (1 + u44)) (fop .quo .f32 (FloatKind.nearest .f32 (1 + u77)) 1082130432)), (List.replicate (Int.toNat (v8 * v9)) 0), (List.replicate (Int.toNat (v8 * v9)) 0)) (Int.toNat u49)).1), .ow kF a224 (Int.toNat (v8 * v9)) c225 34 ((rnT v8 v9 vb10 Z14 Z18 ((put (List.replicate (Int.toNat (v8 * v9)) 0) ((1 + u39) + v8 * (1 + u44)) (fop .quo .f32 (FloatKind.nearest .f32 (1 + u77)) 1082130432)), (List.replicate (Int.toNat (v8 * v9)) 0), (List.replicate (Int.toNat (v8 * v9)) 0)) (Int.toNat u49)).2.1), .ow kF a226 (Int.toNat (v8 * v9)) c227 34 ((rnT v8 v9 vb10 Z14 Z18 ((put (List.replicate (Int.toNat (v8 * v9)) 0) ((1 + u39) + v8 * (1 + u44)) (fop .quo .f32 (FloatKind.nearest .f32 (1 + u77)) 1082130432)), (List.replicate (Int.toNat (v8 * v9)) 0), (List.replicate (Int.toNat (v8 * v9)) 0)) (Int.toNat u49)).2.2), .blk b104 [.slice a97 (Int.toNat (v8 * v9)) c98, .slice a99 (Int.toNat (v8 * v9)) c100, .slice a101 (Int.toNat (v8 * v9)) c102] 30, .ow kF a97 (Int.toNat (v8 * v9)) c98 34 (put (List.replicate (Int.toNat (v8 * v9)) 0) ((1 + u39) + v8 * (1 + u44)) (fop .quo .f32 (FloatKind.nearest .f32 (1 + u77)) 1082130432)), .ow kF a99 (Int.toNat (v8 * v9)) c100 34 (List.replicate (Int.toNat (v8 * v9)) 0), .ow kF a101 (Int.toNat (v8 * v9)) c102 34 (List.replicate (Int.toNat (v8 * v9)) 0), .blk b62 [.slice a55 (Int.toNat (v8 * v9)) c56, .slice a57 (Int.toNat (v8 * v9)) c58, .slice a59 (Int.toNat (v8 * v9)) c60] 30, .ow kF a55 (Int.toNat (v8 * v9)) c56 34 (List.replicate (Int.toNat (v8 * v9)) 0), .ow kF a57 (Int.toNat (v8 * v9)) c58 34 (List.replicate (Int.toNat (v8 * v9)) 0), .ow kF a59 (Int.toNat (v8 * v9)) c60 34 (List.replicate (Int.toNat (v8 * v9)) 0), .blk b32 [.int .i64 v8, .int .i64 v9, .bool vb10, .slice a11 c12 c13, .slice a15 c16 c17] 26, .ow kF a11 c12 c13 34 Z14, .ow kF a15 c16 c17 34 Z18, .rd kY a0 n0 X0, .rd kY a1 n1 X1] := B.castX 0 rfl rfl (seen_end (by omega))
          refine W_seq ?_
          refine W_region (by kernel_rfl) ?_
          refine s_y (v := .int .i64 0) rfl (y_assign rfl) ?_
          refine s_nil ?_
          refine W_seq ?_
          refine W_seq ?_
          refine W_region (by kernel_rfl) ?_
          refine s_y (v := .slice (some ⟨b252, 0, none⟩) (((((Int.toNat (v8 * v9)) : Nat) : Int)).toNat) (((((Int.toNat (v8 * v9)) : Nat) : Int)).toNat)) rfl (y_move rfl) ?_
          refine s_y (v := .int .i64 ((((((Int.toNat (v8 * v9)) : Nat) : Int)).toNat : Nat) : Int)) rfl (y_len T3.sl_40_4_1 rfl rfl) ?_
          refine s_y (v := .int .i64 0) rfl (y_move rfl) ?_
          refine s_nil ?_
          refine W_block ?_
          refine W_loop (fun ρ' w' => ∃ (ρ1 : Env) (ki : Int), ρ' = updL ρ1 [(1, .slice a1 n1 c1), (5, .pointer (some ⟨b32, 0, none⟩)), (6, .int .i64 (1 + u39)), (7, .int .i64 (1 + u44)), (8, .int .i64 u49), (13, .pointer (some ⟨b229, 0, none⟩)), (17, .slice a248 (List.length (sel (v8 * v9) (farP ((rnT v8 v9 vb10 Z14 Z18 ((put (List.replicate (Int.toNat (v8 * v9)) 0) ((1 + u39) + v8 * (1 + u44)) (fop .quo .f32 (FloatKind.nearest .f32 (1 + u77)) 1082130432)), (List.replicate (Int.toNat (v8 * v9)) 0), (List.replicate (Int.toNat (v8 * v9)) 0)) (Int.toNat u49)).1) ((rnT v8 v9 vb10 Z14 Z18 ((put (List.replicate (Int.toNat (v8 * v9)) 0) ((1 + u39) + v8 * (1 + u44)) (fop .quo .f32 (FloatKind.nearest .f32 (1 + u77)) 1082130432)), (List.replicate (Int.toNat (v8 * v9)) 0), (List.replicate (Int.toNat (v8 * v9)) 0)) (Int.toNat u49)).2.1) ((rnT v8 v9 vb10 Z14 Z18 ((put (List.replicate (Int.toNat (v8 * v9)) 0) ((1 + u39) + v8 * (1 + u44)) (fop .quo .f32 (FloatKind.nearest .f32 (1 + u77)) 1082130432)), (List.replicate (Int.toNat (v8 * v9)) 0), (List.replicate (Int.toNat (v8 * v9)) 0)) (Int.toNat u49)).2.2)))) c249), (19, .slice (some ⟨b252, 0, none⟩) (((((Int.toNat (v8 * v9)) : Nat) : Int)).toNat) (((((Int.toNat (v8 * v9)) : Nat) : Int)).toNat)), (21, .int .i64 ((List.length (sel ki (farP ((rnT v8 v9 vb10 Z14 Z18 ((put (List.replicate (Int.toNat (v8 * v9)) 0) ((1 + u39) + v8 * (1 + u44)) (fop .quo .f32 (FloatKind.nearest .f32 (1 + u77)) 1082130432)), (List.replicate (Int.toNat (v8 * v9)) 0), (List.replicate (Int.toNat (v8 * v9)) 0)) (Int.toNat u49)).1) ((rnT v8 v9 vb10 Z14 Z18 ((put (List.replicate (Int.toNat (v8 * v9)) 0) ((1 + u39) + v8 * (1 + u44)) (fop .quo .f32 (FloatKind.nearest .f32 (1 + u77)) 1082130432)), (List.replicate (Int.toNat (v8 * v9)) 0), (List.replicate (Int.toNat (v8 * v9)) 0)) (Int.toNat u49)).2.1) ((rnT v8 v9 vb10 Z14 Z18 ((put (List.replicate (Int.toNat (v8 * v9)) 0) ((1 + u39) + v8 * (1 + u44)) (fop .quo .f32 (FloatKind.nearest .f32 (1 + u77)) 1082130432)), (List.replicate (Int.toNat (v8 * v9)) 0), (List.replicate (Int.toNat (v8 * v9)) 0)) (Int.toNat u49)).2.2))) : Nat) : Int)), (146, .int .i64 ((((((Int.toNat (v8 * v9)) : Nat) : Int)).toNat : Nat) : Int)), (147, .int .i64 ki)] ∧ Bu w no w' [.ow kB (some ⟨b252, 0, none⟩) (((((Int.toNat (v8 * v9)) : Nat) : Int)).toNat) (((((Int.toNat (v8 * v9)) : Nat) : Int)).toNat) 4 (gtab (v8 * v9) (fun i => reachP v8 v9 vb10 (1 + u39) (1 + u44) u49 (i % v8) (i / v8))), .ow kI a248 (List.length (sel (v8 * v9) (farP ((rnT v8 v9 vb10 Z14 Z18 ((put (List.replicate (Int.toNat (v8 * v9)) 0) ((1 + u39) + v8 * (1 + u44)) (fop .quo .f32 (FloatKind.nearest .f32 (1 + u77)) 1082130432)), (List.replicate (Int.toNat (v8 * v9)) 0), (List.replicate (Int.toNat (v8 * v9)) 0)) (Int.toNat u49)).1) ((rnT v8 v9 vb10 Z14 Z18 ((put (List.replicate (Int.toNat (v8 * v9)) 0) ((1 + u39) + v8 * (1 + u44)) (fop .quo .f32 (FloatKind.nearest .f32 (1 + u77)) 1082130432)), (List.replicate (Int.toNat (v8 * v9)) 0), (List.replicate (Int.toNat (v8 * v9)) 0)) (Int.toNat u49)).2.1) ((rnT v8 v9 vb10 Z14 Z18 ((put (List.replicate (Int.toNat (v8 * v9)) 0) ((1 + u39) + v8 * (1 + u44)) (fop .quo .f32 (FloatKind.nearest .f32 (1 + u77)) 1082130432)), (List.replicate (Int.toNat (v8 * v9)) 0), (List.replicate (Int.toNat (v8 * v9)) 0)) (Int.toNat u49)).2.2)))) c249 2 (sel (v8 * v9) (farP ((rnT v8 v9 vb10 Z14 Z18 ((put (List.replicate (Int.toNat (v8 * v9)) 0) ((1 + u39) + v8 * (1 + u44)) (fop .quo .f32 (FloatKind.nearest .f32 (1 + u77)) 1082130432)), (List.replicate (Int.toNat (v8 * v9)) 0), (List.replicate (Int.toNat (v8 * v9)) 0)) (Int.toNat u49)).1) ((rnT v8 v9 vb10 Z14 Z18 ((put (List.replicate (Int.toNat (v8 * v9)) 0) ((1 + u39) + v8 * (1 + u44)) (fop .quo .f32 (FloatKind.nearest .f32 (1 + u77)) 1082130432)), (List.replicate (Int.toNat (v8 * v9)) 0), (List.replicate (Int.toNat (v8 * v9)) 0)) (Int.toNat u49)).2.1) ((rnT v8 v9 vb10 Z14 Z18 ((put (List.replicate (Int.toNat (v8 * v9)) 0) ((1 + u39) + v8 * (1 + u44)) (fop .quo .f32 (FloatKind.nearest .f32 (1 + u77)) 1082130432)), (List.replicate (Int.toNat (v8 * v9)) 0), (List.replicate (Int.toNat (v8 * v9)) 0)) (Int.toNat u49)).2.2))), .ow kI a239 (List.length (sel (v8 * v9) (fun i => reachP v8 v9 vb10 (1 + u39) (1 + u44) u49 (i % v8) (i / v8)))) c240 2 (sel (v8 * v9) (fun i => reachP v8 v9 vb10 (1 + u39) (1 + u44) u49 (i % v8) (i / v8))), .blk b229 [.slice a222 (Int.toNat (v8 * v9)) c223, .slice a224 (Int.toNat (v8 * v9)) c225, .slice a226 (Int.toNat (v8 * v9)) c227] 30, .ow kF a222 (Int.toNat (v8 * v9)) c223 34 ((rnT v8 v9 vb10 Z14 Z18 ((put (List.replicate (Int.toNat (v8 * v9)) 0) ((1 + u39) + v8 * (1 + u44)) (fop .quo .f32 (FloatKind.nearest .f32 (1 + u77)) 1082130432)), (List.replicate (Int.toNat (v8 * v9)) 0), (List.replicate (Int.toNat (v8 * v9)) 0)) (Int.toNat u49)).1), .ow kF a224 (Int.toNat (v8 * v9)) c225 34 ((rnT v8 v9 vb10 Z14 Z18 ((put (List.replicate (Int.toNat (v8 * v9)) 0) ((1 + u39) + v8 * (1 + u44)) (fop .quo .f32 (FloatKind.nearest .f32 (1 + u77)) 1082130432)), (List.replicate (Int.toNat (v8 * v9)) 0), (List.replicate (Int.toNat (v8 * v9)) 0)) (Int.toNat u49)).2.1), .ow kF a226 (Int.toNat (v8 * v9)) c227 34 ((rnT v8 v9 vb10 Z14 Z18 ((put (List.replicate (Int.toNat (v8 * v9)) 0) ((1 + u39) + v8 * (1 + u44)) (fop .quo .f32 (FloatKind.nearest .f32 (1 + u77)) 1082130432)), (List.replicate (Int.toNat (v8 * v9)) 0), (List.replicate (Int.toNat (v8 * v9)) 0)) (Int.toNat u49)).2.2), .blk b104 [.slice a97 (Int.toNat (v8 * v9)) c98, .slice a99 (Int.toNat (v8 * v9)) c100, .slice a101 (Int.toNat (v8 * v9)) c102] 30, .ow kF a97 (Int.toNat (v8 * v9)) c98 34 (put (List.replicate (Int.toNat (v8 * v9)) 0) ((1 + u39) + v8 * (1 + u44)) (fop .quo .f32 (FloatKind.nearest .f32 (1 + u77)) 1082130432)), .ow kF a99 (Int.toNat (v8 * v9)) c100 34 (List.replicate (Int.toNat (v8 * v9)) 0), .ow kF a101 (Int.toNat (v8 * v9)) c102 34 (List.replicate (Int.toNat (v8 * v9)) 0), .blk b62 [.slice a55 (Int.toNat (v8 * v9)) c56, .slice a57 (Int.toNat (v8 * v9)) c58, .slice a59 (Int.toNat (v8 * v9)) c60] 30, .ow kF a55 (Int.toNat (v8 * v9)) c56 34 (List.replicate (Int.toNat (v8 * v9)) 0), .ow kF a57 (Int.toNat (v8 * v9)) c58 34 (List.replicate (Int.toNat (v8 * v9)) 0), .ow kF a59 (Int.toNat (v8 * v9)) c60 34 (List.replicate (Int.toNat (v8 * v9)) 0), .blk b32 [.int .i64 v8, .int .i64 v9, .bool vb10, .slice a11 c12 c13, .slice a15 c16 c17] 26, .ow kF a11 c12 c13 34 Z14, .ow kF a15 c16 c17 34 Z18, .rd kY a0 n0 X0, .rd kY a1 n1 X1] ∧ (0 ≤ ki) ∧ (ki ≤ ((((((Int.toNat (v8 * v9)) : Nat) : Int)).toNat : Nat) : Int))) (fun ρ' _ => (((((((Int.toNat (v8 * v9)) : Nat) : Int)).toNat : Nat) : Int) - iv (ρ' 147)).toNat) ?_ ?_
          · exact ⟨_, 0, Fits.eq ⟨rfl, rfl, rfl, rfl, rfl, rfl, rfl, rfl, (by first | rfl | exact congrArg (Value.int .i64) hcnt.symm), rfl, rfl, trivial⟩, B, (Int.le_refl _), (by omega)⟩
          · clear B; rintro _ w265 ⟨ρ266, ki, rfl, B, h0ki, h1ki⟩
            have hsB := sel_len ki (farP ((rnT v8 v9 vb10 Z14 Z18 ((put (List.replicate (Int.toNat (v8 * v9)) 0) ((1 + u39) + v8 * (1 + u44)) (fop .quo .f32 (FloatKind.nearest .f32 (1 + u77)) 1082130432)), (List.replicate (Int.toNat (v8 * v9)) 0), (List.replicate (Int.toNat (v8 * v9)) 0)) (Int.toNat u49)).1) ((rnT v8 v9 vb10 Z14 Z18 ((put (List.replicate (Int.toNat (v8 * v9)) 0) ((1 + u39) + v8 * (1 + u44)) (fop .quo .f32 (FloatKind.nearest .f32 (1 + u77)) 1082130432)), (List.replicate (Int.toNat (v8 * v9)) 0), (List.replicate (Int.toNat (v8 * v9)) 0)) (Int.toNat u49)).2.1) ((rnT v8 v9 vb10 Z14 Z18 ((put (List.replicate (Int.toNat (v8 * v9)) 0) ((1 + u39) + v8 * (1 + u44)) (fop .quo .f32 (FloatKind.nearest .f32 (1 + u77)) 1082130432)), (List.replicate (Int.toNat (v8 * v9)) 0), (List.replicate (Int.toNat (v8 * v9)) 0)) (Int.toNat u49)).2.2))
            refine W_seq ?_
            refine W_region (by kernel_rfl) ?_
            by_cases c267 : ki < ((((((Int.toNat (v8 * v9)) : Nat) : Int)).toNat : Nat) : Int)
            · refine s_y (v := .bool true) rfl (y_lss rfl rfl (decide_eq_true c267)) ?_
              refine s_nil ?_
              refine W_seq ?_
              refine W_if_t (by decide) rfl ?_
              refine W_skip ?_
              refine W_seq ?_
              refine W_block ?_
              refine W_seq ?_
              refine W_region (by kernel_rfl) ?_
              refine s_y (v := .int .i64 ki) rfl (y_move rfl) ?_
              refine s_y (v := .int .i64 ki) rfl (y_assign rfl) ?_
              refine s_nil ?_
              refine W_seq ?_
              refine W_region (by kernel_rfl) ?_
              refine s_y (v := .pointer (some ⟨b229, 0, none⟩)) rfl (y_fld (o := 0) T3.fld_30_0_0 rfl) ?_
              refine s_y (v := .slice a222 (Int.toNat (v8 * v9)) c223) rfl (y_load T3.one_24 rfl ((B.b 3 rfl).cell (j := 0) rfl)) ?_
              refine s_y (v := .int .i64 ki) rfl (y_move rfl) ?_
              refine s_y (v := .pointer (some (sat a222 ((ki).toNat * 1)))) rfl (y_idx T3.sl_24_34_1 rfl rfl ((B.o 4 rfl).rd.addr (by omega)) (by omega) (by omega)) ?_
              obtain ⟨r269, hr270, hR268⟩ := Rd.atF (B.o 4 rfl).rd ki (by omega) (by omega)
              refine s_y (v := .float .f32 r269) rfl (y_load T3.one_34 rfl (hR268.cell (i := 0) rfl)) ?_
              by_cases c271 : feq .f32 (el ((rnT v8 v9 vb10 Z14 Z18 ((put (List.replicate (Int.toNat (v8 * v9)) 0) ((1 + u39) + v8 * (1 + u44)) (fop .quo .f32 (FloatKind.nearest .f32 (1 + u77)) 1082130432)), (List.replicate (Int.toNat (v8 * v9)) 0), (List.replicate (Int.toNat (v8 * v9)) 0)) (Int.toNat u49)).1) ki) 0 = true
              · refine s_y (v := .bool true) rfl (y_feql rfl rfl (feqC hr270 (cnLit (k := .f32) (t := 0) (by kernel_rfl) (by kernel_rfl)) c271)) ?_
                refine s_y (v := .bool true) rfl (y_move rfl) ?_
                refine s_y (v := .pointer (some ⟨b229, 1, none⟩)) rfl (y_fld (o := 0) T3.fld_30_1_1 rfl) ?_
                refine s_y (v := .slice a224 (Int.toNat (v8 * v9)) c225) rfl (y_load T3.one_24 rfl ((B.b 3 rfl).cell (j := 1) rfl)) ?_
                refine s_y (v := .int .i64 ki) rfl (y_move rfl) ?_
                refine s_y (v := .pointer (some (sat a224 ((ki).toNat * 1)))) rfl (y_idx T3.sl_24_34_1 rfl rfl ((B.o 5 rfl).rd.addr (by omega)) (by omega) (by omega)) ?_
                obtain ⟨r273, hr274, hR272⟩ := Rd.atF (B.o 5 rfl).rd ki (by omega) (by omega)
                refine s_y (v := .float .f32 r273) rfl (y_load T3.one_34 rfl (hR272.cell (i := 0) rfl)) ?_
                by_cases c275 : feq .f32 (el ((rnT v8 v9 vb10 Z14 Z18 ((put (List.replicate (Int.toNat (v8 * v9)) 0) ((1 + u39) + v8 * (1 + u44)) (fop .quo .f32 (FloatKind.nearest .f32 (1 + u77)) 1082130432)), (List.replicate (Int.toNat (v8 * v9)) 0), (List.replicate (Int.toNat (v8 * v9)) 0)) (Int.toNat u49)).2.1) ki) 0 = true
                · refine s_y (v := .bool true) rfl (y_feql rfl rfl (feqC hr274 (cnLit (k := .f32) (t := 0) (by kernel_rfl) (by kernel_rfl)) c275)) ?_
                  refine s_y (v := .bool true) rfl (y_pick_t rfl rfl) ?_
                  refine s_y (v := .bool true) rfl (y_move rfl) ?_
                  refine s_y (v := .pointer (some ⟨b229, 2, none⟩)) rfl (y_fld (o := 0) T3.fld_30_2_2 rfl) ?_
                  refine s_y (v := .slice a226 (Int.toNat (v8 * v9)) c227) rfl (y_load T3.one_24 rfl ((B.b 3 rfl).cell (j := 2) rfl)) ?_
                  refine s_y (v := .int .i64 ki) rfl (y_move rfl) ?_
                  refine s_y (v := .pointer (some (sat a226 ((ki).toNat * 1)))) rfl (y_idx T3.sl_24_34_1 rfl rfl ((B.o 6 rfl).rd.addr (by omega)) (by omega) (by omega)) ?_
                  obtain ⟨r277, hr278, hR276⟩ := Rd.atF (B.o 6 rfl).rd ki (by omega) (by omega)
                  refine s_y (v := .float .f32 r277) rfl (y_load T3.one_34 rfl (hR276.cell (i := 0) rfl)) ?_
                  by_cases c279 : feq .f32 (el ((rnT v8 v9 vb10 Z14 Z18 ((put (List.replicate (Int.toNat (v8 * v9)) 0) ((1 + u39) + v8 * (1 + u44)) (fop .quo .f32 (FloatKind.nearest .f32 (1 + u77)) 1082130432)), (List.replicate (Int.toNat (v8 * v9)) 0), (List.replicate (Int.toNat (v8 * v9)) 0)) (Int.toNat u49)).2.2) ki) 0 = true
                  · refine s_y (v := .bool true) rfl (y_feql rfl rfl (feqC hr278 (cnLit (k := .f32) (t := 0) (by kernel_rfl) (by kernel_rfl)) c279)) ?_
                    refine s_y (v := .bool true) rfl (y_pick_t rfl rfl) ?_
                    refine s_y (v := .bool true) rfl (y_assign rfl) ?_
                    refine s_nil ?_
                    refine W_seq ?_
                    refine W_seq ?_
                    refine W_region (by kernel_rfl) ?_
                    refine s_y (v := .bool true) rfl (y_move rfl) ?_
                    refine s_nil ?_
                    refine W_if_t (by decide) rfl ?_
                    refine W_region (by kernel_rfl) ?_
                    refine s_y (v := .int .i64 ((List.length (sel ki (farP ((rnT v8 v9 vb10 Z14 Z18 ((put (List.replicate (Int.toNat (v8 * v9)) 0) ((1 + u39) + v8 * (1 + u44)) (fop .quo .f32 (FloatKind.nearest .f32 (1 + u77)) 1082130432)), (List.replicate (Int.toNat (v8 * v9)) 0), (List.replicate (Int.toNat (v8 * v9)) 0)) (Int.toNat u49)).1) ((rnT v8 v9 vb10 Z14 Z18 ((put (List.replicate (Int.toNat (v8 * v9)) 0) ((1 + u39) + v8 * (1 + u44)) (fop .quo .f32 (FloatKind.nearest .f32 (1 + u77)) 1082130432)), (List.replicate (Int.toNat (v8 * v9)) 0), (List.replicate (Int.toNat (v8 * v9)) 0)) (Int.toNat u49)).2.1) ((rnT v8 v9 vb10 Z14 Z18 ((put (List.replicate (Int.toNat (v8 * v9)) 0) ((1 + u39) + v8 * (1 + u44)) (fop .quo .f32 (FloatKind.nearest .f32 (1 + u77)) 1082130432)), (List.replicate (Int.toNat (v8 * v9)) 0), (List.replicate (Int.toNat (v8 * v9)) 0)) (Int.toNat u49)).2.2))) : Nat) : Int)) rfl (y_move rfl) ?_
                    refine s_y (v := .int .i64 (((List.length (sel ki (farP ((rnT v8 v9 vb10 Z14 Z18 ((put (List.replicate (Int.toNat (v8 * v9)) 0) ((1 + u39) + v8 * (1 + u44)) (fop .quo .f32 (FloatKind.nearest .f32 (1 + u77)) 1082130432)), (List.replicate (Int.toNat (v8 * v9)) 0), (List.replicate (Int.toNat (v8 * v9)) 0)) (Int.toNat u49)).1) ((rnT v8 v9 vb10 Z14 Z18 ((put (List.replicate (Int.toNat (v8 * v9)) 0) ((1 + u39) + v8 * (1 + u44)) (fop .quo .f32 (FloatKind.nearest .f32 (1 + u77)) 1082130432)), (List.replicate (Int.toNat (v8 * v9)) 0), (List.replicate (Int.toNat (v8 * v9)) 0)) (Int.toNat u49)).2.1) ((rnT v8 v9 vb10 Z14 Z18 ((put (List.replicate (Int.toNat (v8 * v9)) 0) ((1 + u39) + v8 * (1 + u44)) (fop .quo .f32 (FloatKind.nearest .f32 (1 + u77)) 1082130432)), (List.replicate (Int.toNat (v8 * v9)) 0), (List.replicate (Int.toNat (v8 * v9)) 0)) (Int.toNat u49)).2.2))) : Nat) : Int) + 1)) rfl (y_add rfl rfl rfl (by omega)) ?_
                    refine s_y (v := .int .i64 (((List.length (sel ki (farP ((rnT v8 v9 vb10 Z14 Z18 ((put (List.replicate (Int.toNat (v8 * v9)) 0) ((1 + u39) + v8 * (1 + u44)) (fop .quo .f32 (FloatKind.nearest .f32 (1 + u77)) 1082130432)), (List.replicate (Int.toNat (v8 * v9)) 0), (List.replicate (Int.toNat (v8 * v9)) 0)) (Int.toNat u49)).1) ((rnT v8 v9 vb10 Z14 Z18 ((put (List.replicate (Int.toNat (v8 * v9)) 0) ((1 + u39) + v8 * (1 + u44)) (fop .quo .f32 (FloatKind.nearest .f32 (1 + u77)) 1082130432)), (List.replicate (Int.toNat (v8 * v9)) 0), (List.replicate (Int.toNat (v8 * v9)) 0)) (Int.toNat u49)).2.1) ((rnT v8 v9 vb10 Z14 Z18 ((put (List.replicate (Int.toNat (v8 * v9)) 0) ((1 + u39) + v8 * (1 + u44)) (fop .quo .f32 (FloatKind.nearest .f32 (1 + u77)) 1082130432)), (List.replicate (Int.toNat (v8 * v9)) 0), (List.replicate (Int.toNat (v8 * v9)) 0)) (Int.toNat u49)).2.2))) : Nat) : Int) + 1)) rfl (y_assign rfl) ?_
                    refine s_nil ?_
                    refine W_seq ?_
                    refine W_region (by kernel_rfl) ?_
                    refine s_y (v := .slice (some ⟨b252, 0, none⟩) (((((Int.toNat (v8 * v9)) : Nat) : Int)).toNat) (((((Int.toNat (v8 * v9)) : Nat) : Int)).toNat)) rfl (y_move rfl) ?_
                    refine s_y (v := .int .i64 ki) rfl (y_move rfl) ?_
                    refine s_y (v := .pointer (some (sat (some ⟨b252, 0, none⟩) ((ki).toNat * 1)))) rfl (y_idx T3.sl_40_4_1 rfl rfl ((B.o 0 rfl).rd.addr (by omega)) (by omega) (by omega)) ?_
                    have hR280 := Rd.atB (B.o 0 rfl).rd ki (by omega) (by omega)
                    by_cases c281 : gl (gtab (v8 * v9) (fun i => reachP v8 v9 vb10 (1 + u39) (1 + u44) u49 (i % v8) (i / v8))) ki = true
                    · have hR282 := hR280; rw [c281] at hR282
                      refine s_y (v := .bool true) rfl (y_load T3.one_4 rfl (hR282.cell (i := 0) rfl)) ?_
                      refine s_y (v := .bool false) rfl (y_not rfl rfl) ?_
                      refine s_y (v := .bool false) rfl (y_move rfl) ?_
                      refine s_skip rfl ?_
                      refine s_skip rfl ?_
                      refine s_y (v := .bool false) rfl (y_pick_f rfl rfl) ?_
                      refine s_nil ?_
                      refine W_if_f (by decide) rfl ?_
                      refine W_skip ?_
                      refine W_region (by kernel_rfl) ?_
                      refine s_y (v := .int .i64 (ki + 1)) rfl (y_add rfl rfl rfl (by omega)) ?_
                      refine s_y (v := .int .i64 (ki + 1)) rfl (y_move rfl) ?_
                      refine s_nil ?_
                      have hcnt := sel_len_yes (p := (farP ((rnT v8 v9 vb10 Z14 Z18 ((put (List.replicate (Int.toNat (v8 * v9)) 0) ((1 + u39) + v8 * (1 + u44)) (fop .quo .f32 (FloatKind.nearest .f32 (1 + u77)) 1082130432)), (List.replicate (Int.toNat (v8 * v9)) 0), (List.replicate (Int.toNat (v8 * v9)) 0)) (Int.toNat u49)).1) ((rnT v8 v9 vb10 Z14 Z18 ((put (List.replicate (Int.toNat (v8 * v9)) 0) ((1 + u39) + v8 * (1 + u44)) (fop .quo .f32 (FloatKind.nearest .f32 (1 + u77)) 1082130432)), (List.replicate (Int.toNat (v8 * v9)) 0), (List.replicate (Int.toNat (v8 * v9)) 0)) (Int.toNat u49)).2.1) ((rnT v8 v9 vb10 Z14 Z18 ((put (List.replicate (Int.toNat (v8 * v9)) 0) ((1 + u39) + v8 * (1 + u44)) (fop .quo .f32 (FloatKind.nearest .f32 (1 + u77)) 1082130432)), (List.replicate (Int.toNat (v8 * v9)) 0), (List.replicate (Int.toNat (v8 * v9)) 0)) (Int.toNat u49)).2.2))) h0ki (by simp only [farP, c271, c275, c279, Bool.and_true])
                      refine ⟨⟨_, ki + 1, Fits.eq ⟨rfl, rfl, rfl, rfl, rfl, rfl, rfl, rfl, (by first | rfl | exact congrArg (Value.int .i64) hcnt.symm), rfl, rfl, trivial⟩, B, (by omega), (by omega)⟩, ?_⟩
                      show (((((((Int.toNat (v8 * v9)) : Nat) : Int)).toNat : Nat) : Int) - (ki + 1)).toNat < (((((((Int.toNat (v8 * v9)) : Nat) : Int)).toNat : Nat) : Int) - ki).toNat
                      omega
                    · have hR283 := hR280; rw [(Bool.eq_false_iff.2 c281)] at hR283
                      refine s_y (v := .bool false) rfl (y_load T3.one_4 rfl (hR283.cell (i := 0) rfl)) ?_
                      refine s_y (v := .bool true) rfl (y_not rfl rfl) ?_
                      refine s_y (v := .bool true) rfl (y_move rfl) ?_
                      refine s_y (v := .bool true) rfl (y_move rfl) ?_
                      refine s_y (v := .bool false) rfl (y_not rfl rfl) ?_
                      refine s_y (v := .bool false) rfl (y_pick_t rfl rfl) ?_
                      refine s_nil ?_
                      refine W_if_f (by decide) rfl ?_
                      refine W_skip ?_
                      refine W_region (by kernel_rfl) ?_
                      refine s_y (v := .int .i64 (ki + 1)) rfl (y_add rfl rfl rfl (by omega)) ?_
                      refine s_y (v := .int .i64 (ki + 1)) rfl (y_move rfl) ?_
                      refine s_nil ?_
                      have hcnt := sel_len_yes (p := (farP ((rnT v8 v9 vb10 Z14 Z18 ((put (List.replicate (Int.toNat (v8 * v9)) 0) ((1 + u39) + v8 * (1 + u44)) (fop .quo .f32 (FloatKind.nearest .f32 (1 + u77)) 1082130432)), (List.replicate (Int.toNat (v8 * v9)) 0), (List.replicate (Int.toNat (v8 * v9)) 0)) (Int.toNat u49)).1) ((rnT v8 v9 vb10 Z14 Z18 ((put (List.replicate (Int.toNat (v8 * v9)) 0) ((1 + u39) + v8 * (1 + u44)) (fop .quo .f32 (FloatKind.nearest .f32 (1 + u77)) 1082130432)), (List.replicate (Int.toNat (v8 * v9)) 0), (List.replicate (Int.toNat (v8 * v9)) 0)) (Int.toNat u49)).2.1) ((rnT v8 v9 vb10 Z14 Z18 ((put (List.replicate (Int.toNat (v8 * v9)) 0) ((1 + u39) + v8 * (1 + u44)) (fop .quo .f32 (FloatKind.nearest .f32 (1 + u77)) 1082130432)), (List.replicate (Int.toNat (v8 * v9)) 0), (List.replicate (Int.toNat (v8 * v9)) 0)) (Int.toNat u49)).2.2))) h0ki (by simp only [farP, c271, c275, c279, Bool.and_true])
                      refine ⟨⟨_, ki + 1, Fits.eq ⟨rfl, rfl, rfl, rfl, rfl, rfl, rfl, rfl, (by first | rfl | exact congrArg (Value.int .i64) hcnt.symm), rfl, rfl, trivial⟩, B, (by omega), (by omega)⟩, ?_⟩
                      show (((((((Int.toNat (v8 * v9)) : Nat) : Int)).toNat : Nat) : Int) - (ki + 1)).toNat < (((((((Int.toNat (v8 * v9)) : Nat) : Int)).toNat : Nat) : Int) - ki).toNat
                      omega
                  · refine s_y (v := .bool false) rfl (y_feql rfl rfl (feqC hr278 (cnLit (k := .f32) (t := 0) (by kernel_rfl) (by kernel_rfl)) (Bool.eq_false_iff.2 c279))) ?_
                    refine s_y (v := .bool false) rfl (y_pick_t rfl rfl) ?_
                    refine s_y (v := .bool false) rfl (y_assign rfl) ?_
                    refine s_nil ?_
                    refine W_seq ?_
                    refine W_seq ?_
                    refine W_region (by kernel_rfl) ?_
                    refine s_y (v := .bool false) rfl (y_move rfl) ?_
                    refine s_nil ?_
                    refine W_if_f (by decide) rfl ?_
                    refine W_skip ?_
                    refine W_seq ?_
                    refine W_region (by kernel_rfl) ?_
                    refine s_y (v := .slice (some ⟨b252, 0, none⟩) (((((Int.toNat (v8 * v9)) : Nat) : Int)).toNat) (((((Int.toNat (v8 * v9)) : Nat) : Int)).toNat)) rfl (y_move rfl) ?_
                    refine s_y (v := .int .i64 ki) rfl (y_move rfl) ?_
                    refine s_y (v := .pointer (some (sat (some ⟨b252, 0, none⟩) ((ki).toNat * 1)))) rfl (y_idx T3.sl_40_4_1 rfl rfl ((B.o 0 rfl).rd.addr (by omega)) (by omega) (by omega)) ?_
                    have hR284 := Rd.atB (B.o 0 rfl).rd ki (by omega) (by omega)
                    by_cases c285 : gl (gtab (v8 * v9) (fun i => reachP v8 v9 vb10 (1 + u39) (1 + u44) u49 (i % v8) (i / v8))) ki = true
                    · have hR286 := hR284; rw [c285] at hR286
                      refine s_y (v := .bool true) rfl (y_load T3.one_4 rfl (hR286.cell (i := 0) rfl)) ?_
                      refine s_y (v := .bool false) rfl (y_not rfl rfl) ?_
                      refine s_y (v := .bool false) rfl (y_move rfl) ?_
                      refine s_skip rfl ?_
                      refine s_skip rfl ?_
                      refine s_y (v := .bool false) rfl (y_pick_f rfl rfl) ?_
                      refine s_nil ?_
                      refine W_if_f (by decide) rfl ?_
                      refine W_skip ?_
                      refine W_region (by kernel_rfl) ?_
                      refine s_y (v := .int .i64 (ki + 1)) rfl (y_add rfl rfl rfl (by omega)) ?_
                      refine s_y (v := .int .i64 (ki + 1)) rfl (y_move rfl) ?_
                      refine s_nil ?_
                      have hcnt := sel_len_no (p := (farP ((rnT v8 v9 vb10 Z14 Z18 ((put (List.replicate (Int.toNat (v8 * v9)) 0) ((1 + u39) + v8 * (1 + u44)) (fop .quo .f32 (FloatKind.nearest .f32 (1 + u77)) 1082130432)), (List.replicate (Int.toNat (v8 * v9)) 0), (List.replicate (Int.toNat (v8 * v9)) 0)) (Int.toNat u49)).1) ((rnT v8 v9 vb10 Z14 Z18 ((put (List.replicate (Int.toNat (v8 * v9)) 0) ((1 + u39) + v8 * (1 + u44)) (fop .quo .f32 (FloatKind.nearest .f32 (1 + u77)) 1082130432)), (List.replicate (Int.toNat (v8 * v9)) 0), (List.replicate (Int.toNat (v8 * v9)) 0)) (Int.toNat u49)).2.1) ((rnT v8 v9 vb10 Z14 Z18 ((put (List.replicate (Int.toNat (v8 * v9)) 0) ((1 + u39) + v8 * (1 + u44)) (fop .quo .f32 (FloatKind.nearest .f32 (1 + u77)) 1082130432)), (List.replicate (Int.toNat (v8 * v9)) 0), (List.replicate (Int.toNat (v8 * v9)) 0)) (Int.toNat u49)).2.2))) h0ki (by simp only [farP, c271, c275, (Bool.eq_false_iff.2 c279)]; simp)
                      refine ⟨⟨_, ki + 1, Fits.eq ⟨rfl, rfl, rfl, rfl, rfl, rfl, rfl, rfl, (by first | rfl | exact congrArg (Value.int .i64) hcnt.symm), rfl, rfl, trivial⟩, B, (by omega), (by omega)⟩, ?_⟩
                      show (((((((Int.toNat (v8 * v9)) : Nat) : Int)).toNat : Nat) : Int) - (ki + 1)).toNat < (((((((Int.toNat (v8 * v9)) : Nat) : Int)).toNat : Nat) : Int) - ki).toNat
                      omega
                    · have hR287 := hR284; rw [(Bool.eq_false_iff.2 c285)] at hR287
                      refine s_y (v := .bool false) rfl (y_load T3.one_4 rfl (hR287.cell (i := 0) rfl)) ?_
                      refine s_y (v := .bool true) rfl (y_not rfl rfl) ?_
                      refine s_y (v := .bool true) rfl (y_move rfl) ?_
                      refine s_y (v := .bool false) rfl (y_move rfl) ?_
                      refine s_y (v := .bool true) rfl (y_not rfl rfl) ?_
                      refine s_y (v := .bool true) rfl (y_pick_t rfl rfl) ?_
                      refine s_nil ?_
                      refine W_if_t (by decide) rfl ?_
                      refine W_seq ?_
                      refine W_region (by kernel_rfl) ?_
                      refine s_y (v := .bool false) rfl (y_assign rfl) ?_
                      refine s_nil ?_
                      refine W_ret ?_
                      refine ret1 (v := .bool false) rfl rfl rfl ⟨_, rfl, ?_⟩
                      exfalso
                      have hz := far_of (wr := vb10) (V := (fop .quo .f32 (FloatKind.nearest .f32 (1 + u77)) 1082130432)) (m := Int.toNat (v8 * v9)) (x0 := (1 + u39)) (y0 := (1 + u44)) (n := u49) (i := ki) hp21 (by omega) (by omega) (by omega) (by omega) (by omega) (by omega) ((gl_gtab (g := (fun i => reachP v8 v9 vb10 (1 + u39) (1 + u44) u49 (i % v8) (i / v8))) (by omega) (by omega)).symm.trans (Bool.eq_false_iff.2 c285))
                      exact c279 hz.2.2
                · refine s_y (v := .bool false) rfl (y_feql rfl rfl (feqC hr274 (cnLit (k := .f32) (t := 0) (by kernel_rfl) (by kernel_rfl)) (Bool.eq_false_iff.2 c275))) ?_
                  refine s_y (v := .bool false) rfl (y_pick_t rfl rfl) ?_
                  refine s_y (v := .bool false) rfl (y_move rfl) ?_
                  refine s_skip rfl ?_
                  refine s_skip rfl ?_
                  refine s_skip rfl ?_
                  refine s_skip rfl ?_
                  refine s_skip rfl ?_
                  refine s_skip rfl ?_
                  refine s_y (v := .bool false) rfl (y_pick_f rfl rfl) ?_
                  refine s_y (v := .bool false) rfl (y_assign rfl) ?_
                  refine s_nil ?_
                  refine W_seq ?_
                  refine W_seq ?_
                  refine W_region (by kernel_rfl) ?_
                  refine s_y (v := .bool false) rfl (y_move rfl) ?_
                  refine s_nil ?_
                  refine W_if_f (by decide) rfl ?_
                  refine W_skip ?_
                  refine W_seq ?_
                  refine W_region (by kernel_rfl) ?_
                  refine s_y (v := .slice (some ⟨b252, 0, none⟩) (((((Int.toNat (v8 * v9)) : Nat) : Int)).toNat) (((((Int.toNat (v8 * v9)) : Nat) : Int)).toNat)) rfl (y_move rfl) ?_
                  refine s_y (v := .int .i64 ki) rfl (y_move rfl) ?_
                  refine s_y (v := .pointer (some (sat (some ⟨b252, 0, none⟩) ((ki).toNat * 1)))) rfl (y_idx T3.sl_40_4_1 rfl rfl ((B.o 0 rfl).rd.addr (by omega)) (by omega) (by omega)) ?_
                  have hR288 := Rd.atB (B.o 0 rfl).rd ki (by omega) (by omega)
                  by_cases c289 : gl (gtab (v8 * v9) (fun i => reachP v8 v9 vb10 (1 + u39) (1 + u44) u49 (i % v8) (i / v8))) ki = true
                  · have hR290 := hR288; rw [c289] at hR290
                    refine s_y (v := .bool true) rfl (y_load T3.one_4 rfl (hR290.cell (i := 0) rfl)) ?_
                    refine s_y (v := .bool false) rfl (y_not rfl rfl) ?_
                    refine s_y (v := .bool false) rfl (y_move rfl) ?_
                    refine s_skip rfl ?_
                    refine s_skip rfl ?_
                    refine s_y (v := .bool false) rfl (y_pick_f rfl rfl) ?_
                    refine s_nil ?_
                    refine W_if_f (by decide) rfl ?_
                    refine W_skip ?_
                    refine W_region (by kernel_rfl) ?_
                    refine s_y (v := .int .i64 (ki + 1)) rfl (y_add rfl rfl rfl (by omega)) ?_
                    refine s_y (v := .int .i64 (ki + 1)) rfl (y_move rfl) ?_
                    refine s_nil ?_
                    have hcnt := sel_len_no (p := (farP ((rnT v8 v9 vb10 Z14 Z18 ((put (List.replicate (Int.toNat (v8 * v9)) 0) ((1 + u39) + v8 * (1 + u44)) (fop .quo .f32 (FloatKind.nearest .f32 (1 + u77)) 1082130432)), (List.replicate (Int.toNat (v8 * v9)) 0), (List.replicate (Int.toNat (v8 * v9)) 0)) (Int.toNat u49)).1) ((rnT v8 v9 vb10 Z14 Z18 ((put (List.replicate (Int.toNat (v8 * v9)) 0) ((1 + u39) + v8 * (1 + u44)) (fop .quo .f32 (FloatKind.nearest .f32 (1 + u77)) 1082130432)), (List.replicate (Int.toNat (v8 * v9)) 0), (List.replicate (Int.toNat (v8 * v9)) 0)) (Int.toNat u49)).2.1) ((rnT v8 v9 vb10 Z14 Z18 ((put (List.replicate (Int.toNat (v8 * v9)) 0) ((1 + u39) + v8 * (1 + u44)) (fop .quo .f32 (FloatKind.nearest .f32 (1 + u77)) 1082130432)), (List.replicate (Int.toNat (v8 * v9)) 0), (List.replicate (Int.toNat (v8 * v9)) 0)) (Int.toNat u49)).2.2))) h0ki (by simp only [farP, c271, (Bool.eq_false_iff.2 c275)]; simp)
                    refine ⟨⟨_, ki + 1, Fits.eq ⟨rfl, rfl, rfl, rfl, rfl, rfl, rfl, rfl, (by first | rfl | exact congrArg (Value.int .i64) hcnt.symm), rfl, rfl, trivial⟩, B, (by omega), (by omega)⟩, ?_⟩
                    show (((((((Int.toNat (v8 * v9)) : Nat) : Int)).toNat : Nat) : Int) - (ki + 1)).toNat < (((((((Int.toNat (v8 * v9)) : Nat) : Int)).toNat : Nat) : Int) - ki).toNat
                    omega
                  · have hR291 := hR288; rw [(Bool.eq_false_iff.2 c289)] at hR291
                    refine s_y (v := .bool false) rfl (y_load T3.one_4 rfl (hR291.cell (i := 0) rfl)) ?_
                    refine s_y (v := .bool true) rfl (y_not rfl rfl) ?_
                    refine s_y (v := .bool true) rfl (y_move rfl) ?_
                    refine s_y (v := .bool false) rfl (y_move rfl) ?_
                    refine s_y (v := .bool true) rfl (y_not rfl rfl) ?_
                    refine s_y (v := .bool true) rfl (y_pick_t rfl rfl) ?_
                    refine s_nil ?_
                    refine W_if_t (by decide) rfl ?_
                    refine W_seq ?_
                    refine W_region (by kernel_rfl) ?_
                    refine s_y (v := .bool false) rfl (y_assign rfl) ?_
                    refine s_nil ?_
                    refine W_ret ?_
                    refine ret1 (v := .bool false) rfl rfl rfl ⟨_, rfl, ?_⟩
                    exfalso
                    have hz := far_of (wr := vb10) (V := (fop .quo .f32 (FloatKind.nearest .f32 (1 + u77)) 1082130432)) (m := Int.toNat (v8 * v9)) (x0 := (1 + u39)) (y0 := (1 + u44)) (n := u49) (i := ki) hp21 (by omega) (by omega) (by omega) (by omega) (by omega) (by omega) ((gl_gtab (g := (fun i => reachP v8 v9 vb10 (1 + u39) (1 + u44) u49 (i % v8) (i / v8))) (by omega) (by omega)).symm.trans (Bool.eq_false_iff.2 c289))
                    exact c275 hz.2.1
              · refine s_y (v := .bool false) rfl (y_feql rfl rfl (feqC hr270 (cnLit (k := .f32) (t := 0) (by kernel_rfl) (by kernel_rfl)) (Bool.eq_false_iff.2 c271))) ?_
                refine s_y (v := .bool false) rfl (y_move rfl) ?_
                refine s_skip rfl ?_
                refine s_skip rfl ?_
                refine s_skip rfl ?_
                refine s_skip rfl ?_
                refine s_skip rfl ?_
                refine s_skip rfl ?_
                refine s_y (v := .bool false) rfl (y_pick_f rfl rfl) ?_
                refine s_y (v := .bool false) rfl (y_move rfl) ?_
                refine s_skip rfl ?_
                refine s_skip rfl ?_
                refine s_skip rfl ?_
                refine s_skip rfl ?_
                refine s_skip rfl ?_
                refine s_skip rfl ?_
                refine s_y (v := .bool false) rfl (y_pick_f rfl rfl) ?_
                refine s_y (v := .bool false) rfl (y_assign rfl) ?_
                refine s_nil ?_
                refine W_seq ?_
                refine W_seq ?_
                refine W_region (by kernel_rfl) ?_
                refine s_y (v := .bool false) rfl (y_move rfl) ?_
                refine s_nil ?_
                refine W_if_f (by decide) rfl ?_
                refine W_skip ?_
                refine W_seq ?_
                refine W_region (by kernel_rfl) ?_
                refine s_y (v := .slice (some ⟨b252, 0, none⟩) (((((Int.toNat (v8 * v9)) : Nat) : Int)).toNat) (((((Int.toNat (v8 * v9)) : Nat) : Int)).toNat)) rfl (y_move rfl) ?_
                refine s_y (v := .int .i64 ki) rfl (y_move rfl) ?_
                refine s_y (v := .pointer (some (sat (some ⟨b252, 0, none⟩) ((ki).toNat * 1)))) rfl (y_idx T3.sl_40_4_1 rfl rfl ((B.o 0 rfl).rd.addr (by omega)) (by omega) (by omega)) ?_
                have hR292 := Rd.atB (B.o 0 rfl).rd ki (by omega) (by omega)
                by_cases c293 : gl (gtab (v8 * v9) (fun i => reachP v8 v9 vb10 (1 + u39) (1 + u44) u49 (i % v8) (i / v8))) ki = true
                · have hR294 := hR292; rw [c293] at hR294
                  refine s_y (v := .bool true) rfl (y_load T3.one_4 rfl (hR294.cell (i := 0) rfl)) ?_
                  refine s_y (v := .bool false) rfl (y_not rfl rfl) ?_
                  refine s_y (v := .bool false) rfl (y_move rfl) ?_
                  refine s_skip rfl ?_
                  refine s_skip rfl ?_
                  refine s_y (v := .bool false) rfl (y_pick_f rfl rfl) ?_
                  refine s_nil ?_
                  refine W_if_f (by decide) rfl ?_
                  refine W_skip ?_
                  refine W_region (by kernel_rfl) ?_
                  refine s_y (v := .int .i64 (ki + 1)) rfl (y_add rfl rfl rfl (by omega)) ?_
                  refine s_y (v := .int .i64 (ki + 1)) rfl (y_move rfl) ?_
                  refine s_nil ?_
                  have hcnt := sel_len_no (p := (farP ((rnT v8 v9 vb10 Z14 Z18 ((put (List.replicate (Int.toNat (v8 * v9)) 0) ((1 + u39) + v8 * (1 + u44)) (fop .quo .f32 (FloatKind.nearest .f32 (1 + u77)) 1082130432)), (List.replicate (Int.toNat (v8 * v9)) 0), (List.replicate (Int.toNat (v8 * v9)) 0)) (Int.toNat u49)).1) ((rnT v8 v9 vb10 Z14 Z18 ((put (List.replicate (Int.toNat (v8 * v9)) 0) ((1 + u39) + v8 * (1 + u44)) (fop .quo .f32 (FloatKind.nearest .f32 (1 + u77)) 1082130432)), (List.replicate (Int.toNat (v8 * v9)) 0), (List.replicate (Int.toNat (v8 * v9)) 0)) (Int.toNat u49)).2.1) ((rnT v8 v9 vb10 Z14 Z18 ((put (List.replicate (Int.toNat (v8 * v9)) 0) ((1 + u39) + v8 * (1 + u44)) (fop .quo .f32 (FloatKind.nearest .f32 (1 + u77)) 1082130432)), (List.replicate (Int.toNat (v8 * v9)) 0), (List.replicate (Int.toNat (v8 * v9)) 0)) (Int.toNat u49)).2.2))) h0ki (by simp only [farP, (Bool.eq_false_iff.2 c271)]; simp)
                  refine ⟨⟨_, ki + 1, Fits.eq ⟨rfl, rfl, rfl, rfl, rfl, rfl, rfl, rfl, (by first | rfl | exact congrArg (Value.int .i64) hcnt.symm), rfl, rfl, trivial⟩, B, (by omega), (by omega)⟩, ?_⟩
                  show (((((((Int.toNat (v8 * v9)) : Nat) : Int)).toNat : Nat) : Int) - (ki + 1)).toNat < (((((((Int.toNat (v8 * v9)) : Nat) : Int)).toNat : Nat) : Int) - ki).toNat
                  omega
                · have hR295 := hR292; rw [(Bool.eq_false_iff.2 c293)] at hR295
                  refine s_y (v := .bool false) rfl (y_load T3.one_4 rfl (hR295.cell (i := 0) rfl)) ?_
                  refine s_y (v := .bool true) rfl (y_not rfl rfl) ?_
                  refine s_y (v := .bool true) rfl (y_move rfl) ?_
                  refine s_y (v := .bool false) rfl (y_move rfl) ?_
                  refine s_y (v := .bool true) rfl (y_not rfl rfl) ?_
                  refine s_y (v := .bool true) rfl (y_pick_t rfl rfl) ?_
                  refine s_nil ?_
                  refine W_if_t (by decide) rfl ?_
                  refine W_seq ?_
                  refine W_region (by kernel_rfl) ?_
                  refine s_y (v := .bool false) rfl (y_assign rfl) ?_
                  refine s_nil ?_
                  refine W_ret ?_
                  refine ret1 (v := .bool false) rfl rfl rfl ⟨_, rfl, ?_⟩
                  exfalso
                  have hz := far_of (wr := vb10) (V := (fop .quo .f32 (FloatKind.nearest .f32 (1 + u77)) 1082130432)) (m := Int.toNat (v8 * v9)) (x0 := (1 + u39)) (y0 := (1 + u44)) (n := u49) (i := ki) hp21 (by omega) (by omega) (by omega) (by omega) (by omega) (by omega) ((gl_gtab (g := (fun i => reachP v8 v9 vb10 (1 + u39) (1 + u44) u49 (i % v8) (i / v8))) (by omega) (by omega)).symm.trans (Bool.eq_false_iff.2 c293))
                  exact c271 hz.1
            · refine s_y (v := .bool false) rfl (y_lss rfl rfl (decide_eq_false c267)) ?_
              refine s_nil ?_
              refine W_seq ?_
              refine W_if_f (by decide) rfl ?_
              refine W_exit ?_
              have hie : ki = (v8 * v9) := by omega
              subst hie
              refine W_seq ?_
              refine W_seq ?_
              refine W_region (by kernel_rfl) ?_
              refine s_y (v := .int .i64 ((List.length (sel (v8 * v9) (farP ((rnT v8 v9 vb10 Z14 Z18 ((put (List.replicate (Int.toNat (v8 * v9)) 0) ((1 + u39) + v8 * (1 + u44)) (fop .quo .f32 (FloatKind.nearest .f32 (1 + u77)) 1082130432)), (List.replicate (Int.toNat (v8 * v9)) 0), (List.replicate (Int.toNat (v8 * v9)) 0)) (Int.toNat u49)).1) ((rnT v8 v9 vb10 Z14 Z18 ((put (List.replicate (Int.toNat (v8 * v9)) 0) ((1 + u39) + v8 * (1 + u44)) (fop .quo .f32 (FloatKind.nearest .f32 (1 + u77)) 1082130432)), (List.replicate (Int.toNat (v8 * v9)) 0), (List.replicate (Int.toNat (v8 * v9)) 0)) (Int.toNat u49)).2.1) ((rnT v8 v9 vb10 Z14 Z18 ((put (List.replicate (Int.toNat (v8 * v9)) 0) ((1 + u39) + v8 * (1 + u44)) (fop .quo .f32 (FloatKind.nearest .f32 (1 + u77)) 1082130432)), (List.replicate (Int.toNat (v8 * v9)) 0), (List.replicate (Int.toNat (v8 * v9)) 0)) (Int.toNat u49)).2.2))) : Nat) : Int)) rfl (y_move rfl) ?_
              refine s_y (v := .slice a248 (List.length (sel (v8 * v9) (farP ((rnT v8 v9 vb10 Z14 Z18 ((put (List.replicate (Int.toNat (v8 * v9)) 0) ((1 + u39) + v8 * (1 + u44)) (fop .quo .f32 (FloatKind.nearest .f32 (1 + u77)) 1082130432)), (List.replicate (Int.toNat (v8 * v9)) 0), (List.replicate (Int.toNat (v8 * v9)) 0)) (Int.toNat u49)).1) ((rnT v8 v9 vb10 Z14 Z18 ((put (List.replicate (Int.toNat (v8 * v9)) 0) ((1 + u39) + v8 * (1 + u44)) (fop .quo .f32 (FloatKind.nearest .f32 (1 + u77)) 1082130432)), (List.replicate (Int.toNat (v8 * v9)) 0), (List.replicate (Int.toNat (v8 * v9)) 0)) (Int.toNat u49)).2.1) ((rnT v8 v9 vb10 Z14 Z18 ((put (List.replicate (Int.toNat (v8 * v9)) 0) ((1 + u39) + v8 * (1 + u44)) (fop .quo .f32 (FloatKind.nearest .f32 (1 + u77)) 1082130432)), (List.replicate (Int.toNat (v8 * v9)) 0), (List.replicate (Int.toNat (v8 * v9)) 0)) (Int.toNat u49)).2.2)))) c249) rfl (y_move rfl) ?_
              refine s_y (v := .int .i64 ((List.length (sel (v8 * v9) (farP ((rnT v8 v9 vb10 Z14 Z18 ((put (List.replicate (Int.toNat (v8 * v9)) 0) ((1 + u39) + v8 * (1 + u44)) (fop .quo .f32 (FloatKind.nearest .f32 (1 + u77)) 1082130432)), (List.replicate (Int.toNat (v8 * v9)) 0), (List.replicate (Int.toNat (v8 * v9)) 0)) (Int.toNat u49)).1) ((rnT v8 v9 vb10 Z14 Z18 ((put (List.replicate (Int.toNat (v8 * v9)) 0) ((1 + u39) + v8 * (1 + u44)) (fop .quo .f32 (FloatKind.nearest .f32 (1 + u77)) 1082130432)), (List.replicate (Int.toNat (v8 * v9)) 0), (List.replicate (Int.toNat (v8 * v9)) 0)) (Int.toNat u49)).2.1) ((rnT v8 v9 vb10 Z14 Z18 ((put (List.replicate (Int.toNat (v8 * v9)) 0) ((1 + u39) + v8 * (1 + u44)) (fop .quo .f32 (FloatKind.nearest .f32 (1 + u77)) 1082130432)), (List.replicate (Int.toNat (v8 * v9)) 0), (List.replicate (Int.toNat (v8 * v9)) 0)) (Int.toNat u49)).2.2))) : Nat) : Int)) rfl (y_len T3.sl_36_2_1 rfl rfl) ?_
              refine s_y (v := .bool false) rfl (y_neq rfl rfl (decide_eq_false (fun hq => hq rfl))) ?_
              refine s_y (v := .bool false) rfl (y_move rfl) ?_
              refine s_y (v := .slice (some ⟨b252, 0, none⟩) (((((Int.toNat (v8 * v9)) : Nat) : Int)).toNat) (((((Int.toNat (v8 * v9)) : Nat) : Int)).toNat)) rfl (y_move rfl) ?_
              refine s_y (v := .int .i64 (1 + u39)) rfl (y_move rfl) ?_
              refine s_y (v := .pointer (some ⟨b32, 0, none⟩)) rfl (y_fld (o := 0) T3.fld_26_0_0 rfl) ?_
              refine s_y (v := .int .i64 v8) rfl (y_load T3.one_2 rfl ((B.b 15 rfl).cell (j := 0) rfl)) ?_
              refine s_y (v := .int .i64 (1 + u44)) rfl (y_move rfl) ?_
              have hm296 := mulb (a := v8) (b := 1 + u44) (by omega) (by omega) (by omega) (by omega)
              refine s_y (v := .int .i64 (v8 * (1 + u44))) rfl (y_mul rfl rfl rfl (by omega)) ?_
              refine s_y (v := .int .i64 ((1 + u39) + (v8 * (1 + u44)))) rfl (y_add rfl rfl rfl (by omega)) ?_
              have hx297 := row_lt (wd := v8) (hi := v9) (a := (1 + u39)) (b := (1 + u44)) (by omega) (by omega) (by omega) (by omega)
              refine s_y (v := .pointer (some (sat (some ⟨b252, 0, none⟩) (((1 + u39) + (v8 * (1 + u44))).toNat * 1)))) rfl (y_idx T3.sl_40_4_1 rfl rfl ((B.o 0 rfl).rd.addr (by omega)) (by omega) (by omega)) ?_
              have hR298 := Rd.atB (B.o 0 rfl).rd ((1 + u39) + (v8 * (1 + u44))) (by omega) (by omega)
              have hk299 : gl (gtab (v8 * v9) (fun i => reachP v8 v9 vb10 (1 + u39) (1 + u44) u49 (i % v8) (i / v8))) ((1 + u39) + (v8 * (1 + u44))) = true := (reach_self (by omega) (by omega) (by omega))
              have hR300 := hR298; rw [hk299] at hR300
              refine s_y (v := .bool true) rfl (y_load T3.one_4 rfl (hR300.cell (i := 0) rfl)) ?_
              refine s_y (v := .bool false) rfl (y_not rfl rfl) ?_
              refine s_y (v := .bool false) rfl (y_pick_f rfl rfl) ?_
              refine s_nil ?_
              refine W_if_f (by decide) rfl ?_
              refine W_skip ?_
              refine W_seq ?_
              refine W_region (by kernel_rfl) ?_
              refine s_y (v := .slice a1 n1 c1) rfl (y_move rfl) ?_
              refine s_y (v := .agg #[.int .i64 v8, .int .i64 v9, .bool vb10, .slice a11 c12 c13, .slice a15 c16 c17]) rfl (y_loadn (b := b32) (o := 0) (vs := [.int .i64 v8, .int .i64 v9, .bool vb10, .slice a11 c12 c13, .slice a15 c16 c17]) T3.agg_26_5 rfl rfl ((B.b 15 rfl).cells (o := 0) rfl)) ?_
              refine s_k rfl (k_call T3.fn_20 (c_s_B10Field (B.r 19 rfl) ((B.o 16 rfl).rd) ((B.o 17 rfl).rd) (by first | assumption | omega) (by first | assumption | omega) (by first | assumption | omega) (by first | assumption | omega) (by omega) (by first | exact lenle (by assumption) | exact lenle6 (by assumption) | omega) (by first | exact lenle (by assumption) | exact lenle6 (by assumption) | omega)) rfl ?_)
              rintro _ w301 ⟨a303, c304, c305, Z306, a307, c308, c309, Z310, a311, c312, c313, Z314, rfl, hp315, hN302⟩
              replace B := B.new3 hN302
              clear hN302
              have hl316 := (B.o 0 rfl).len
              have hl317 := (B.o 1 rfl).len
              have hl318 := (B.o 2 rfl).len
              have hb319 := fieldB_b hp315
              refine s_k rfl (k_allocN (z := (.agg #[.slice none 0 0, .slice none 0 0, .slice none 0 0])) (cs := [.slice none 0 0, .slice none 0 0, .slice none 0 0]) T3.zero_30 rfl (fun b320 w321 hN322 => ?_))
              replace B := B.new1 hN322
              clear hN322
              refine s_k0 rfl (k_stB (v := .agg #[.slice a303 c304 c305, .slice a307 c308 c309, .slice a311 c312 c313]) (n := 3) (cs' := [.slice a303 c304 c305, .slice a307 c308 c309, .slice a311 c312 c313]) T3.sz_30_3 rfl rfl rfl (B.b 0 rfl) (by simp [Value.cells, Value.oneCell']) (Nat.le_of_ble_eq_true rfl) rfl (fun w323 hU324 => ?_))
              replace B : Bu w no w323 [.blk b320 [.slice a303 c304 c305, .slice a307 c308 c309, .slice a311 c312 c313] 30, .ow kF a303 c304 c305 34 Z306, .ow kF a307 c308 c309 34 Z310, .ow kF a311 c312 c313 34 Z314, .ow kB (some ⟨b252, 0, none⟩) (((((Int.toNat (v8 * v9)) : Nat) : Int)).toNat) (((((Int.toNat (v8 * v9)) : Nat) : Int)).toNat) 4 (gtab (v8 * v9) (fun i => reachP v8 v9 vb10 (1 + u39) (1 + u44) u49 (i % v8) (i / v8))), .ow kI a248 (List.length (sel (v8 * v9) (farP ((rnT v8 v9 vb10 Z14 Z18 ((put (List.replicate (Int.toNat (v8 * v9)) 0) ((1 + u39) + v8 * (1 + u44)) (fop .quo .f32 (FloatKind.nearest .f32 (1 + u77)) 1082130432)), (List.replicate (Int.toNat (v8 * v9)) 0), (List.replicate (Int.toNat (v8 * v9)) 0)) (Int.toNat u49)).1) ((rnT v8 v9 vb10 Z14 Z18 ((put (List.replicate (Int.toNat (v8 * v9)) 0) ((1 + u39) + v8 * (1 + u44)) (fop .quo .f32 (FloatKind.nearest .f32 (1 + u77)) 1082130432)), (List.replicate (Int.toNat (v8 * v9)) 0), (List.replicate (Int.toNat (v8 * v9)) 0)) (Int.toNat u49)).2.1) ((rnT v8 v9 vb10 Z14 Z18 ((put (List.replicate (Int.toNat (v8 * v9)) 0) ((1 + u39) + v8 * (1 + u44)) (fop .quo .f32 (FloatKind.nearest .f32 (1 + u77)) 1082130432)), (List.replicate (Int.toNat (v8 * v9)) 0), (List.replicate (Int.toNat (v8 * v9)) 0)) (Int.toNat u49)).2.2)))) c249 2 (sel (v8 * v9) (farP ((rnT v8 v9 vb10 Z14 Z18 ((put (List.replicate (Int.toNat (v8 * v9)) 0) ((1 + u39) + v8 * (1 + u44)) (fop .quo .f32 (FloatKind.nearest .f32 (1 + u77)) 1082130432)), (List.replicate (Int.toNat (v8 * v9)) 0), (List.replicate (Int.toNat (v8 * v9)) 0)) (Int.toNat u49)).1) ((rnT v8 v9 vb10 Z14 Z18 ((put (List.replicate (Int.toNat (v8 * v9)) 0) ((1 + u39) + v8 * (1 + u44)) (fop .quo .f32 (FloatKind.nearest .f32 (1 + u77)) 1082130432)), (List.replicate (Int.toNat (v8 * v9)) 0), (List.replicate (Int.toNat (v8 * v9)) 0)) (Int.toNat u49)).2.1) ((rnT v8 v9 vb10 Z14 Z18 ((put (List.replicate (Int.toNat (v8 * v9)) 0) ((1 + u39) + v8 * (1 + u44)) (fop .quo .f32 (FloatKind.nearest .f32 (1 + u77)) 1082130432)), (List.replicate (Int.toNat (v8 * v9)) 0), (List.replicate (Int.toNat (v8 * v9)) 0)) (Int.toNat u49)).2.2))), .ow kI a239 (List.length (sel (v8 * v9) (fun i => reachP v8 v9 vb10 (1 + u39) (1 + u44) u49 (i % v8) (i / v8)))) c240 2 (sel (v8 * v9) (fun i => reachP v8 v9 vb10 (1 + u39) (1 + u44) u49 (i % v8) (i / v8))), .blk b229 [.slice a222 (Int.toNat (v8 * v9)) c223, .slice a224 (Int.toNat (v8 * v9)) c225, .slice a226 (Int.toNat (v8 * v9)) c227] 30, .ow kF a222 (Int.toNat (v8 * v9)) c223 34 ((rnT v8 v9 vb10 Z14 Z18 ((put (List.replicate (Int.toNat (v8 * v9)) 0) ((1 + u39) + v8 * (1 + u44)) (fop .quo .f32 (FloatKind.nearest .f32 (1 + u77)) 1082130432)), (List.replicate (Int.toNat (v8 * v9)) 0), (List.replicate (Int.toNat (v8 * v9)) 0)) (Int.toNat u49)).1), .ow kF a224 (Int.toNat (v8 * v9)) c225 34 ((rnT v8 v9 vb10 Z14 Z18 ((put (List.replicate (Int.toNat (v8 * v9)) 0) ((1 + u39) + v8 * (1 + u44)) (fop .quo .f32 (FloatKind.nearest .f32 (1 + u77)) 1082130432)), (List.replicate (Int.toNat (v8 * v9)) 0), (List.replicate (Int.toNat (v8 * v9)) 0)) (Int.toNat u49)).2.1), .ow kF a226 (Int.toNat (v8 * v9)) c227 34 ((rnT v8 v9 vb10 Z14 Z18 ((put (List.replicate (Int.toNat (v8 * v9)) 0) ((1 + u39) + v8 * (1 + u44)) (fop .quo .f32 (FloatKind.nearest .f32 (1 + u77)) 1082130432)), (List.replicate (Int.toNat (v8 * v9)) 0), (List.replicate (Int.toNat (v8 * v9)) 0)) (Int.toNat u49)).2.2), .blk b104 [.slice a97 (Int.toNat (v8 * v9)) c98, .slice a99 (Int.toNat (v8 * v9)) c100, .slice a101 (Int.toNat (v8 * v9)) c102] 30, .ow kF a97 (Int.toNat (v8 * v9)) c98 34 (put (List.replicate (Int.toNat (v8 * v9)) 0) ((1 + u39) + v8 * (1 + u44)) (fop .quo .f32 (FloatKind.nearest .f32 (1 + u77)) 1082130432)), .ow kF a99 (Int.toNat (v8 * v9)) c100 34 (List.replicate (Int.toNat (v8 * v9)) 0), .ow kF a101 (Int.toNat (v8 * v9)) c102 34 (List.replicate (Int.toNat (v8 * v9)) 0), .blk b62 [.slice a55 (Int.toNat (v8 * v9)) c56, .slice a57 (Int.toNat (v8 * v9)) c58, .slice a59 (Int.toNat (v8 * v9)) c60] 30, .ow kF a55 (Int.toNat (v8 * v9)) c56 34 (List.replicate (Int.toNat (v8 * v9)) 0), .ow kF a57 (Int.toNat (v8 * v9)) c58 34 (List.replicate (Int.toNat (v8 * v9)) 0), .ow kF a59 (Int.toNat (v8 * v9)) c60 34 (List.replicate (Int.toNat (v8 * v9)) 0), .blk b32 [.int .i64 v8, .int .i64 v9, .bool vb10, .slice a11 c12 c13, .slice a15 c16 c17] 26, .ow kF a11 c12 c13 34 Z14, .ow kF a15 c16 c17 34 Z18, .rd kY a0 n0 X0, .rd kY a1 n1 X1] := B.upd [0] rfl hU324
              clear hU324
              refine s_nil ?_
              refine W_seq ?_
              refine W_region (by kernel_rfl) ?_
              refine s_y (v := .agg #[.int .i64 v8, .int .i64 v9, .bool vb10, .slice a11 c12 c13, .slice a15 c16 c17]) rfl (y_loadn (b := b32) (o := 0) (vs := [.int .i64 v8, .int .i64 v9, .bool vb10, .slice a11 c12 c13, .slice a15 c16 c17]) T3.agg_26_5 rfl rfl ((B.b 19 rfl).cells (o := 0) rfl)) ?_
              refine s_y (v := .agg #[.slice a303 c304 c305, .slice a307 c308 c309, .slice a311 c312 c313]) rfl (y_loadn (b := b320) (o := 0) (vs := [.slice a303 c304 c305, .slice a307 c308 c309, .slice a311 c312 c313]) T3.agg_30_3 rfl rfl ((B.b 0 rfl).cells (o := 0) rfl)) ?_
              refine s_y (v := .int .i64 u49) rfl (y_move rfl) ?_
              refine s_k rfl (k_call T3.fn_17 (c_i_RunField ((B.o 20 rfl).rd) ((B.o 21 rfl).rd) ((B.o 1 rfl).rd) ((B.o 2 rfl).rd) ((B.o 3 rfl).rd) (by first | exact lenle (by assumption) | exact lenle6 (by assumption) | omega) (by first | exact lenle (by assumption) | exact lenle6 (by assumption) | omega) (by first | exact lenle (by assumption) | exact lenle6 (by assumption) | omega) (by first | exact lenle (by assumption) | exact lenle6 (by assumption) | omega) (by first | exact lenle (by assumption) | exact lenle6 (by assumption) | omega)) rfl ?_)
              rintro v327 w325 hx326
              have hk328 : runB v8 v9 vb10 Z14 Z18 Z306 Z310 Z314 u49 = true := (runB_yes hp315 (by omega))
              have hb329 := runB_b hk328
              obtain ⟨a330, c331, a332, c333, a334, c335, rfl, hN336⟩ := (hx326.resolve_right (fun hz => by rw [hk328] at hz; cases hz.1)).2
              clear hx326
              replace B := B.new3 hN336
              clear hN336
              refine s_y (v := .tuple #[.agg #[.slice a330 c304 c331, .slice a332 c308 c333, .slice a334 c312 c335], .bool true]) rfl (y_move rfl) ?_
              refine s_y (v := .agg #[.slice a330 c304 c331, .slice a332 c308 c333, .slice a334 c312 c335]) rfl (y_extract rfl rfl) ?_
              refine s_y (v := .bool true) rfl (y_extract rfl rfl) ?_
              refine s_k rfl (k_allocN (z := (.agg #[.slice none 0 0, .slice none 0 0, .slice none 0 0])) (cs := [.slice none 0 0, .slice none 0 0, .slice none 0 0]) T3.zero_30 rfl (fun b337 w338 hN339 => ?_))
              replace B := B.new1 hN339
              clear hN339
              refine s_k0 rfl (k_stB (v := .agg #[.slice a330 c304 c331, .slice a332 c308 c333, .slice a334 c312 c335]) (n := 3) (cs' := [.slice a330 c304 c331, .slice a332 c308 c333, .slice a334 c312 c335]) T3.sz_30_3 rfl rfl rfl (B.b 0 rfl) (by simp [Value.cells, Value.oneCell']) (Nat.le_of_ble_eq_true rfl) rfl (fun w340 hU341 => ?_))
              replace B : Bu w no w340 [.blk b337 [.slice a330 c304 c331, .slice a332 c308 c333, .slice a334 c312 c335] 30, .ow kF a330 c304 c331 34 ((rnT v8 v9 vb10 Z14 Z18 (Z306, Z310, Z314) (Int.toNat u49)).1), .ow kF a332 c308 c333 34 ((rnT v8 v9 vb10 Z14 Z18 (Z306, Z310, Z314) (Int.toNat u49)).2.1), .ow kF a334 c312 c335 34 ((rnT v8 v9 vb10 Z14 Z18 (Z306, Z310, Z314) (Int.toNat u49)).2.2), .blk b320 [.slice a303 c304 c305, .slice a307 c308 c309, .slice a311 c312 c313] 30, .ow kF a303 c304 c305 34 Z306, .ow kF a307 c308 c309 34 Z310, .ow kF a311 c312 c313 34 Z314, .ow kB (some ⟨b252, 0, none⟩) (((((Int.toNat (v8 * v9)) : Nat) : Int)).toNat) (((((Int.toNat (v8 * v9)) : Nat) : Int)).toNat) 4 (gtab (v8 * v9) (fun i => reachP v8 v9 vb10 (1 + u39) (1 + u44) u49 (i % v8) (i / v8))), .ow kI a248 (List.length (sel (v8 * v9) (farP ((rnT v8 v9 vb10 Z14 Z18 ((put (List.replicate (Int.toNat (v8 * v9)) 0) ((1 + u39) + v8 * (1 + u44)) (fop .quo .f32 (FloatKind.nearest .f32 (1 + u77)) 1082130432)), (List.replicate (Int.toNat (v8 * v9)) 0), (List.replicate (Int.toNat (v8 * v9)) 0)) (Int.toNat u49)).1) ((rnT v8 v9 vb10 Z14 Z18 ((put (List.replicate (Int.toNat (v8 * v9)) 0) ((1 + u39) + v8 * (1 + u44)) (fop .quo .f32 (FloatKind.nearest .f32 (1 + u77)) 1082130432)), (List.replicate (Int.toNat (v8 * v9)) 0), (List.replicate (Int.toNat (v8 * v9)) 0)) (Int.toNat u49)).2.1) ((rnT v8 v9 vb10 Z14 Z18 ((put (List.replicate (Int.toNat (v8 * v9)) 0) ((1 + u39) + v8 * (1 + u44)) (fop .quo .f32 (FloatKind.nearest .f32 (1 + u77)) 1082130432)), (List.replicate (Int.toNat (v8 * v9)) 0), (List.replicate (Int.toNat (v8 * v9)) 0)) (Int.toNat u49)).2.2)))) c249 2 (sel (v8 * v9) (farP ((rnT v8 v9 vb10 Z14 Z18 ((put (List.replicate (Int.toNat (v8 * v9)) 0) ((1 + u39) + v8 * (1 + u44)) (fop .quo .f32 (FloatKind.nearest .f32 (1 + u77)) 1082130432)), (List.replicate (Int.toNat (v8 * v9)) 0), (List.replicate (Int.toNat (v8 * v9)) 0)) (Int.toNat u49)).1) ((rnT v8 v9 vb10 Z14 Z18 ((put (List.replicate (Int.toNat (v8 * v9)) 0) ((1 + u39) + v8 * (1 + u44)) (fop .quo .f32 (FloatKind.nearest .f32 (1 + u77)) 1082130432)), (List.replicate (Int.toNat (v8 * v9)) 0), (List.replicate (Int.toNat (v8 * v9)) 0)) (Int.toNat u49)).2.1) ((rnT v8 v9 vb10 Z14 Z18 ((put (List.replicate (Int.toNat (v8 * v9)) 0) ((1 + u39) + v8 * (1 + u44)) (fop .quo .f32 (FloatKind.nearest .f32 (1 + u77)) 1082130432)), (List.replicate (Int.toNat (v8 * v9)) 0), (List.replicate (Int.toNat (v8 * v9)) 0)) (Int.toNat u49)).2.2))), .ow kI a239 (List.length (sel (v8 * v9) (fun i => reachP v8 v9 vb10 (1 + u39) (1 + u44) u49 (i % v8) (i / v8)))) c240 2 (sel (v8 * v9) (fun i => reachP v8 v9 vb10 (1 + u39) (1 + u44) u49 (i % v8) (i / v8))), .blk b229 [.slice a222 (Int.toNat (v8 * v9)) c223, .slice a224 (Int.toNat (v8 * v9)) c225, .slice a226 (Int.toNat (v8 * v9)) c227] 30, .ow kF a222 (Int.toNat (v8 * v9)) c223 34 ((rnT v8 v9 vb10 Z14 Z18 ((put (List.replicate (Int.toNat (v8 * v9)) 0) ((1 + u39) + v8 * (1 + u44)) (fop .quo .f32 (FloatKind.nearest .f32 (1 + u77)) 1082130432)), (List.replicate (Int.toNat (v8 * v9)) 0), (List.replicate (Int.toNat (v8 * v9)) 0)) (Int.toNat u49)).1), .ow kF a224 (Int.toNat (v8 * v9)) c225 34 ((rnT v8 v9 vb10 Z14 Z18 ((put (List.replicate (Int.toNat (v8 * v9)) 0) ((1 + u39) + v8 * (1 + u44)) (fop .quo .f32 (FloatKind.nearest .f32 (1 + u77)) 1082130432)), (List.replicate (Int.toNat (v8 * v9)) 0), (List.replicate (Int.toNat (v8 * v9)) 0)) (Int.toNat u49)).2.1), .ow kF a226 (Int.toNat (v8 * v9)) c227 34 ((rnT v8 v9 vb10 Z14 Z18 ((put (List.replicate (Int.toNat (v8 * v9)) 0) ((1 + u39) + v8 * (1 + u44)) (fop .quo .f32 (FloatKind.nearest .f32 (1 + u77)) 1082130432)), (List.replicate (Int.toNat (v8 * v9)) 0), (List.replicate (Int.toNat (v8 * v9)) 0)) (Int.toNat u49)).2.2), .blk b104 [.slice a97 (Int.toNat (v8 * v9)) c98, .slice a99 (Int.toNat (v8 * v9)) c100, .slice a101 (Int.toNat (v8 * v9)) c102] 30, .ow kF a97 (Int.toNat (v8 * v9)) c98 34 (put (List.replicate (Int.toNat (v8 * v9)) 0) ((1 + u39) + v8 * (1 + u44)) (fop .quo .f32 (FloatKind.nearest .f32 (1 + u77)) 1082130432)), .ow kF a99 (Int.toNat (v8 * v9)) c100 34 (List.replicate (Int.toNat (v8 * v9)) 0), .ow kF a101 (Int.toNat (v8 * v9)) c102 34 (List.replicate (Int.toNat (v8 * v9)) 0), .blk b62 [.slice a55 (Int.toNat (v8 * v9)) c56, .slice a57 (Int.toNat (v8 * v9)) c58, .slice a59 (Int.toNat (v8 * v9)) c60] 30, .ow kF a55 (Int.toNat (v8 * v9)) c56 34 (List.replicate (Int.toNat (v8 * v9)) 0), .ow kF a57 (Int.toNat (v8 * v9)) c58 34 (List.replicate (Int.toNat (v8 * v9)) 0), .ow kF a59 (Int.toNat (v8 * v9)) c60 34 (List.replicate (Int.toNat (v8 * v9)) 0), .blk b32 [.int .i64 v8, .int .i64 v9, .bool vb10, .slice a11 c12 c13, .slice a15 c16 c17] 26, .ow kF a11 c12 c13 34 Z14, .ow kF a15 c16 c17 34 Z18, .rd kY a0 n0 X0, .rd kY a1 n1 X1] := B.upd [0] rfl hU341
              clear hU341
              refine s_y (v := .bool true) rfl (y_assign rfl) ?_
              refine s_nil ?_
              refine W_seq ?_
              refine W_seq ?_
              refine W_region (by kernel_rfl) ?_
              refine s_y (v := .bool true) rfl (y_move rfl) ?_
              refine s_y (v := .bool false) rfl (y_not rfl rfl) ?_
              refine s_y (v := .bool false) rfl (y_move rfl) ?_
              refine s_y (v := .pointer (some ⟨b337, 0, none⟩)) rfl (y_fld (o := 0) T3.fld_30_0_0 rfl) ?_
              refine s_y (v := .slice a330 c304 c331) rfl (y_load T3.one_24 rfl ((B.b 0 rfl).cell (j := 0) rfl)) ?_
              refine s_y (v := .int .i64 ((c304 : Nat) : Int)) rfl (y_len T3.sl_24_34_1 rfl rfl) ?_
              refine s_y (v := .pointer (some ⟨b320, 0, none⟩)) rfl (y_fld (o := 0) T3.fld_30_0_0 rfl) ?_
              refine s_y (v := .slice a303 c304 c305) rfl (y_load T3.one_24 rfl ((B.b 4 rfl).cell (j := 0) rfl)) ?_
              refine s_y (v := .int .i64 ((c304 : Nat) : Int)) rfl (y_len T3.sl_24_34_1 rfl rfl) ?_
              refine s_y (v := .bool false) rfl (y_neq rfl rfl (decide_eq_false (fun hq => hq rfl))) ?_
              refine s_y (v := .bool false) rfl (y_pick_f rfl rfl) ?_
              refine s_nil ?_
              refine W_if_f (by decide) rfl ?_
              refine W_skip ?_
              refine W_seq ?_
              refine W_seq ?_
              refine W_region (by kernel_rfl) ?_
              refine s_y (v := .pointer (some ⟨b320, 0, none⟩)) rfl (y_fld (o := 0) T3.fld_30_0_0 rfl) ?_
              refine s_y (v := .slice a303 c304 c305) rfl (y_load T3.one_24 rfl ((B.b 4 rfl).cell (j := 0) rfl)) ?_
              refine s_y (v := .int .i64 ((c304 : Nat) : Int)) rfl (y_len T3.sl_24_34_1 rfl rfl) ?_
              refine s_y (v := .int .i64 0) rfl (y_move rfl) ?_
              refine s_nil ?_
              refine W_block ?_
              refine W_loop (fun ρ' w' => ∃ (ρ1 : Env) (j : Int), ρ' = updL ρ1 [(5, .pointer (some ⟨b32, 0, none⟩)), (24, .pointer (some ⟨b320, 0, none⟩)), (25, .pointer (some ⟨b337, 0, none⟩)), (224, .int .i64 ((c304 : Nat) : Int)), (225, .int .i64 j)] ∧ Bu w no w' [.blk b337 [.slice a330 c304 c331, .slice a332 c308 c333, .slice a334 c312 c335] 30, .ow kF a330 c304 c331 34 ((rnT v8 v9 vb10 Z14 Z18 (Z306, Z310, Z314) (Int.toNat u49)).1), .ow kF a332 c308 c333 34 ((rnT v8 v9 vb10 Z14 Z18 (Z306, Z310, Z314) (Int.toNat u49)).2.1), .ow kF a334 c312 c335 34 ((rnT v8 v9 vb10 Z14 Z18 (Z306, Z310, Z314) (Int.toNat u49)).2.2), .blk b320 [.slice a303 c304 c305, .slice a307 c308 c309, .slice a311 c312 c313] 30, .ow kF a303 c304 c305 34 Z306, .ow kF a307 c308 c309 34 Z310, .ow kF a311 c312 c313 34 Z314, .ow kB (some ⟨b252, 0, none⟩) (((((Int.toNat (v8 * v9)) : Nat) : Int)).toNat) (((((Int.toNat (v8 * v9)) : Nat) : Int)).toNat) 4 (gtab (v8 * v9) (fun i => reachP v8 v9 vb10 (1 + u39) (1 + u44) u49 (i % v8) (i / v8))), .ow kI a248 (List.length (sel (v8 * v9) (farP ((rnT v8 v9 vb10 Z14 Z18 ((put (List.replicate (Int.toNat (v8 * v9)) 0) ((1 + u39) + v8 * (1 + u44)) (fop .quo .f32 (FloatKind.nearest .f32 (1 + u77)) 1082130432)), (List.replicate (Int.toNat (v8 * v9)) 0), (List.replicate (Int.toNat (v8 * v9)) 0)) (Int.toNat u49)).1) ((rnT v8 v9 vb10 Z14 Z18 ((put (List.replicate (Int.toNat (v8 * v9)) 0) ((1 + u39) + v8 * (1 + u44)) (fop .quo .f32 (FloatKind.nearest .f32 (1 + u77)) 1082130432)), (List.replicate (Int.toNat (v8 * v9)) 0), (List.replicate (Int.toNat (v8 * v9)) 0)) (Int.toNat u49)).2.1) ((rnT v8 v9 vb10 Z14 Z18 ((put (List.replicate (Int.toNat (v8 * v9)) 0) ((1 + u39) + v8 * (1 + u44)) (fop .quo .f32 (FloatKind.nearest .f32 (1 + u77)) 1082130432)), (List.replicate (Int.toNat (v8 * v9)) 0), (List.replicate (Int.toNat (v8 * v9)) 0)) (Int.toNat u49)).2.2)))) c249 2 (sel (v8 * v9) (farP ((rnT v8 v9 vb10 Z14 Z18 ((put (List.replicate (Int.toNat (v8 * v9)) 0) ((1 + u39) + v8 * (1 + u44)) (fop .quo .f32 (FloatKind.nearest .f32 (1 + u77)) 1082130432)), (List.replicate (Int.toNat (v8 * v9)) 0), (List.replicate (Int.toNat (v8 * v9)) 0)) (Int.toNat u49)).1) ((rnT v8 v9 vb10 Z14 Z18 ((put (List.replicate (Int.toNat (v8 * v9)) 0) ((1 + u39) + v8 * (1 + u44)) (fop .quo .f32 (FloatKind.nearest .f32 (1 + u77)) 1082130432)), (List.replicate (Int.toNat (v8 * v9)) 0), (List.replicate (Int.toNat (v8 * v9)) 0)) (Int.toNat u49)).2.1) ((rnT v8 v9 vb10 Z14 Z18 ((put (List.replicate (Int.toNat (v8 * v9)) 0) ((1 + u39) + v8 * (1 + u44)) (fop .quo .f32 (FloatKind.nearest .f32 (1 + u77)) 1082130432)), (List.replicate (Int.toNat (v8 * v9)) 0), (List.replicate (Int.toNat (v8 * v9)) 0)) (Int.toNat u49)).2.2))), .ow kI a239 (List.length (sel (v8 * v9) (fun i => reachP v8 v9 vb10 (1 + u39) (1 + u44) u49 (i % v8) (i / v8)))) c240 2 (sel (v8 * v9) (fun i => reachP v8 v9 vb10 (1 + u39) (1 + u44) u49 (i % v8) (i / v8))), .blk b229 [.slice a222 (Int.toNat (v8 * v9)) c223, .slice a224 (Int.toNat (v8 * v9)) c225, .slice a226 (Int.toNat (v8 * v9)) c227] 30, .ow kF a222 (Int.toNat (v8 * v9)) c223 34 ((rnT v8 v9 vb10 Z14 Z18 ((put (List.replicate (Int.toNat (v8 * v9)) 0) ((1 + u39) + v8 * (1 + u44)) (fop .quo .f32 (FloatKind.nearest .f32 (1 + u77)) 1082130432)), (List.replicate (Int.toNat (v8 * v9)) 0), (List.replicate (Int.toNat (v8 * v9)) 0)) (Int.toNat u49)).1), .ow kF a224 (Int.toNat (v8 * v9)) c225 34 ((rnT v8 v9 vb10 Z14 Z18 ((put (List.replicate (Int.toNat (v8 * v9)) 0) ((1 + u39) + v8 * (1 + u44)) (fop .quo .f32 (FloatKind.nearest .f32 (1 + u77)) 1082130432)), (List.replicate (Int.toNat (v8 * v9)) 0), (List.replicate (Int.toNat (v8 * v9)) 0)) (Int.toNat u49)).2.1), .ow kF a226 (Int.toNat (v8 * v9)) c227 34 ((rnT v8 v9 vb10 Z14 Z18 ((put (List.replicate (Int.toNat (v8 * v9)) 0) ((1 + u39) + v8 * (1 + u44)) (fop .quo .f32 (FloatKind.nearest .f32 (1 + u77)) 1082130432)), (List.replicate (Int.toNat (v8 * v9)) 0), (List.replicate (Int.toNat (v8 * v9)) 0)) (Int.toNat u49)).2.2), .blk b104 [.slice a97 (Int.toNat (v8 * v9)) c98, .slice a99 (Int.toNat (v8 * v9)) c100, .slice a101 (Int.toNat (v8 * v9)) c102] 30, .ow kF a97 (Int.toNat (v8 * v9)) c98 34 (put (List.replicate (Int.toNat (v8 * v9)) 0) ((1 + u39) + v8 * (1 + u44)) (fop .quo .f32 (FloatKind.nearest .f32 (1 + u77)) 1082130432)), .ow kF a99 (Int.toNat (v8 * v9)) c100 34 (List.replicate (Int.toNat (v8 * v9)) 0), .ow kF a101 (Int.toNat (v8 * v9)) c102 34 (List.replicate (Int.toNat (v8 * v9)) 0), .blk b62 [.slice a55 (Int.toNat (v8 * v9)) c56, .slice a57 (Int.toNat (v8 * v9)) c58, .slice a59 (Int.toNat (v8 * v9)) c60] 30, .ow kF a55 (Int.toNat (v8 * v9)) c56 34 (List.replicate (Int.toNat (v8 * v9)) 0), .ow kF a57 (Int.toNat (v8 * v9)) c58 34 (List.replicate (Int.toNat (v8 * v9)) 0), .ow kF a59 (Int.toNat (v8 * v9)) c60 34 (List.replicate (Int.toNat (v8 * v9)) 0), .blk b32 [.int .i64 v8, .int .i64 v9, .bool vb10, .slice a11 c12 c13, .slice a15 c16 c17] 26, .ow kF a11 c12 c13 34 Z14, .ow kF a15 c16 c17 34 Z18, .rd kY a0 n0 X0, .rd kY a1 n1 X1] ∧ (0 ≤ j) ∧ (j ≤ ((c304 : Nat) : Int))) (fun ρ' _ => (((c304 : Nat) : Int) - iv (ρ' 225)).toNat) ?_ ?_
              · exact ⟨_, 0, Fits.eq ⟨rfl, rfl, rfl, rfl, rfl, trivial⟩, B, (Int.le_refl _), (by omega)⟩
              · clear B; rintro _ w342 ⟨ρ343, j, rfl, B, h0j, h1j⟩
                refine W_seq ?_
                refine W_region (by kernel_rfl) ?_
                by_cases c344 : j < ((c304 : Nat) : Int)
                · refine s_y (v := .bool true) rfl (y_lss rfl rfl (decide_eq_true c344)) ?_
                  refine s_nil ?_
                  refine W_seq ?_
                  refine W_if_t (by decide) rfl ?_
                  refine W_skip ?_
                  refine W_seq ?_
                  refine W_block ?_
                  refine W_seq ?_
                  refine W_region (by kernel_rfl) ?_
                  refine s_y (v := .int .i64 j) rfl (y_move rfl) ?_
                  refine s_y (v := .int .i64 j) rfl (y_assign rfl) ?_
                  refine s_nil ?_
                  refine W_seq ?_
                  refine W_region (by kernel_rfl) ?_
                  refine s_y (v := .int .i64 j) rfl (y_move rfl) ?_
                  refine s_y (v := .pointer (some ⟨b32, 0, none⟩)) rfl (y_fld (o := 0) T3.fld_26_0_0 rfl) ?_
                  refine s_y (v := .int .i64 v8) rfl (y_load T3.one_2 rfl ((B.b 23 rfl).cell (j := 0) rfl)) ?_
                  have hm345 := rem_b (x := j) (m := v8) (by omega) (by omega)
                  refine s_y (v := .int .i64 (j % v8)) rfl (y_rem rfl rfl (by omega) (by omega) rfl) ?_
                  refine s_y (v := .int .i64 (j % v8)) rfl (y_assign rfl) ?_
                  refine s_nil ?_
                  refine W_seq ?_
                  refine W_region (by kernel_rfl) ?_
                  refine s_y (v := .int .i64 j) rfl (y_move rfl) ?_
                  refine s_y (v := .pointer (some ⟨b32, 0, none⟩)) rfl (y_fld (o := 0) T3.fld_26_0_0 rfl) ?_
                  refine s_y (v := .int .i64 v8) rfl (y_load T3.one_2 rfl ((B.b 23 rfl).cell (j := 0) rfl)) ?_
                  have hm346 := quo_b (x := j) (m := v8) (by omega) (by omega)
                  refine s_y (v := .int .i64 (j / v8)) rfl (y_quo rfl rfl (by omega) (by omega) (by omega) rfl) ?_
                  refine s_y (v := .int .i64 (j / v8)) rfl (y_assign rfl) ?_
                  refine s_nil ?_
                  refine W_seq ?_
                  have B0_351 := B
                  refine W_draw (no) T3.mx (by kernel_rfl) (fun w349 e350 => ?_)
                  have R352 := Ext.refl (no) w342
                  replace R352 := R352.trans (Ext0.any e350)
                  replace B := B.ext0 e350
                  clear e350
                  refine m_y (v := .pointer (some ⟨b32, 2, none⟩)) 0 rfl (by kernel_rfl) rfl rfl (fun w' e' => y_fld (o := 0) T3.fld_26_2_2 rfl) ?_
                  refine m_y (v := .bool vb10) 1 rfl (by kernel_rfl) rfl rfl (fun w' e' => y_load T3.one_4 rfl (((B0_351.b 23 rfl).ext0 e').cell (j := 2) rfl)) ?_
                  refine m_y (v := .bool (!vb10)) 2 rfl (by kernel_rfl) rfl rfl (fun w' e' => y_not rfl rfl) ?_
                  refine m_y (v := .bool (!vb10)) 3 rfl (by kernel_rfl) rfl rfl (fun w' e' => y_move rfl) ?_
                  cases vb10
                  · refine m_y (v := .int .i64 (j % v8)) 4 rfl (by kernel_rfl) rfl rfl (fun w' e' => y_move rfl) ?_
                    by_cases c353 : (j % v8) = 0
                    · refine m_y (v := .bool true) 5 rfl (by kernel_rfl) rfl rfl (fun w' e' => y_eql rfl rfl (decide_eq_true c353)) ?_
                      refine m_y (v := .bool true) 6 rfl (by kernel_rfl) rfl rfl (fun w' e' => y_move rfl) ?_
                      refine m_skip 7 rfl (by kernel_rfl) rfl ?_
                      refine m_skip 8 rfl (by kernel_rfl) rfl ?_
                      refine m_y (v := .bool true) 9 rfl (by kernel_rfl) rfl rfl (fun w' e' => y_pick_t rfl rfl) ?_
                      refine m_y (v := .bool true) 10 rfl (by kernel_rfl) rfl rfl (fun w' e' => y_move rfl) ?_
                      refine m_skip 11 rfl (by kernel_rfl) rfl ?_
                      refine m_skip 12 rfl (by kernel_rfl) rfl ?_
                      refine m_skip 13 rfl (by kernel_rfl) rfl ?_
                      refine m_skip 14 rfl (by kernel_rfl) rfl ?_
                      refine m_skip 15 rfl (by kernel_rfl) rfl ?_
                      refine m_y (v := .bool true) 16 rfl (by kernel_rfl) rfl rfl (fun w' e' => y_pick_t rfl rfl) ?_
                      refine m_y (v := .bool true) 17 rfl (by kernel_rfl) rfl rfl (fun w' e' => y_move rfl) ?_
                      refine m_skip 18 rfl (by kernel_rfl) rfl ?_
                      refine m_skip 19 rfl (by kernel_rfl) rfl ?_
                      refine m_skip 20 rfl (by kernel_rfl) rfl ?_
                      refine m_skip 21 rfl (by kernel_rfl) rfl ?_
                      refine m_skip 22 rfl (by kernel_rfl) rfl ?_
                      refine m_y (v := .bool true) 23 rfl (by kernel_rfl) rfl rfl (fun w' e' => y_pick_t rfl rfl) ?_
                      refine m_y (v := .bool true) 24 rfl (by kernel_rfl) rfl rfl (fun w' e' => y_pick_t rfl rfl) ?_
                      refine m_y (v := .bool true) 25 rfl (by kernel_rfl) rfl rfl (fun w' e' => y_move rfl) ?_
                      refine m_y (v := .pointer (some ⟨b337, 0, none⟩)) 26 rfl (by kernel_rfl) rfl rfl (fun w' e' => y_fld (o := 0) T3.fld_30_0_0 rfl) ?_
                      refine m_y (v := .slice a330 c304 c331) 27 rfl (by kernel_rfl) rfl rfl (fun w' e' => y_load T3.one_24 rfl (((B0_351.b 0 rfl).ext0 e').cell (j := 0) rfl)) ?_
                      refine m_y (v := .int .i64 j) 28 rfl (by kernel_rfl) rfl rfl (fun w' e' => y_move rfl) ?_
                      refine m_y (v := .pointer (some (sat a330 ((j).toNat * 1)))) 29 rfl (by kernel_rfl) rfl rfl (fun w' e' => y_idx T3.sl_24_34_1 rfl rfl ((B.o 1 rfl).rd.addr (by omega)) (by omega) (by omega)) ?_
                      obtain ⟨r355, hr356, hR354⟩ := Rd.atF (B0_351.o 1 rfl).rd j (by omega) (by omega)
                      refine m_y (v := .float .f32 r355) 30 rfl (by kernel_rfl) rfl rfl (fun w' e' => y_load T3.one_34 rfl ((hR354.ext0 e').cell (i := 0) rfl)) ?_
                      refine m_y (v := .pointer (some ⟨b320, 0, none⟩)) 31 rfl (by kernel_rfl) rfl rfl (fun w' e' => y_fld (o := 0) T3.fld_30_0_0 rfl) ?_
                      refine m_y (v := .slice a303 c304 c305) 32 rfl (by kernel_rfl) rfl rfl (fun w' e' => y_load T3.one_24 rfl (((B0_351.b 4 rfl).ext0 e').cell (j := 0) rfl)) ?_
                      refine m_y (v := .int .i64 j) 33 rfl (by kernel_rfl) rfl rfl (fun w' e' => y_move rfl) ?_
                      refine m_y (v := .pointer (some (sat a303 ((j).toNat * 1)))) 34 rfl (by kernel_rfl) rfl rfl (fun w' e' => y_idx T3.sl_24_34_1 rfl rfl ((B.o 5 rfl).rd.addr (by omega)) (by omega) (by omega)) ?_
                      obtain ⟨r358, hr359, hR357⟩ := Rd.atF (B0_351.o 5 rfl).rd j (by omega) (by omega)
                      refine m_y (v := .float .f32 r358) 35 rfl (by kernel_rfl) rfl rfl (fun w' e' => y_load T3.one_34 rfl ((hR357.ext0 e').cell (i := 0) rfl)) ?_
                      refine m_k 36 [37, 38] rfl (by kernel_rfl) rfl rfl (fun w360 e361 => ?_)
                      replace R352 := R352.trans (Ext0.any e361)
                      replace B := B.ext0 e361
                      clear e361
                      refine k_call T3.fn_21 (c_s_SameNumber hr356 hr359) rfl ?_
                      rintro v364 w362 ⟨hv365, e363⟩
                      replace R352 := R352.trans (Ext0.any e363)
                      replace B := B.ext0 e363
                      clear e363
                      refine ⟨fun _ => R352, ?_⟩
                      have hk366 : decide (bitN (el ((rnT v8 v9 false Z14 Z18 (Z306, Z310, Z314) (Int.toNat u49)).1) j) = bitN (el Z306 j)) = true := (decide_eq_true (congrArg bitN (wall_i (by omega) (by omega) (by omega) (by omega))))
                      obtain rfl : v364 = .bool true := hv365.trans (congrArg Value.bool hk366)
                      refine m_y (v := .bool false) 37 rfl (by kernel_rfl) rfl rfl (fun w' e' => y_not rfl rfl) ?_
                      refine m_y (v := .bool false) 38 rfl (by kernel_rfl) rfl rfl (fun w' e' => y_pick_t rfl rfl) ?_
                      refine m_done (by kernel_rfl) (fun w367 e368 => ?_)
                      replace B := B.ext0 e368
                      clear e368
                      clear B0_351 R352
                      refine W_if_f (by decide) rfl ?_
                      refine W_skip ?_
                      refine W_region (by kernel_rfl) ?_
                      refine s_y (v := .int .i64 (j + 1)) rfl (y_add rfl rfl rfl (by omega)) ?_
                      refine s_y (v := .int .i64 (j + 1)) rfl (y_move rfl) ?_
                      refine s_nil ?_
                      refine ⟨⟨_, j + 1, Fits.eq ⟨rfl, rfl, rfl, rfl, rfl, trivial⟩, B, (by omega), (by omega)⟩, ?_⟩
                      show (((c304 : Nat) : Int) - (j + 1)).toNat < (((c304 : Nat) : Int) - j).toNat
                      omega
                    · refine m_y (v := .bool false) 5 rfl (by kernel_rfl) rfl rfl (fun w' e' => y_eql rfl rfl (decide_eq_false c353)) ?_
                      refine m_y (v := .bool false) 6 rfl (by kernel_rfl) rfl rfl (fun w' e' => y_move rfl) ?_
                      refine m_y (v := .int .i64 (j / v8)) 7 rfl (by kernel_rfl) rfl rfl (fun w' e' => y_move rfl) ?_
                      by_cases c369 : (j / v8) = 0
                      · refine m_y (v := .bool true) 8 rfl (by kernel_rfl) rfl rfl (fun w' e' => y_eql rfl rfl (decide_eq_true c369)) ?_
                        refine m_y (v := .bool true) 9 rfl (by kernel_rfl) rfl rfl (fun w' e' => y_pick_f rfl rfl) ?_
                        refine m_y (v := .bool true) 10 rfl (by kernel_rfl) rfl rfl (fun w' e' => y_move rfl) ?_
                        refine m_skip 11 rfl (by kernel_rfl) rfl ?_
                        refine m_skip 12 rfl (by kernel_rfl) rfl ?_
                        refine m_skip 13 rfl (by kernel_rfl) rfl ?_
                        refine m_skip 14 rfl (by kernel_rfl) rfl ?_
                        refine m_skip 15 rfl (by kernel_rfl) rfl ?_
                        refine m_y (v := .bool true) 16 rfl (by kernel_rfl) rfl rfl (fun w' e' => y_pick_t rfl rfl) ?_
                        refine m_y (v := .bool true) 17 rfl (by kernel_rfl) rfl rfl (fun w' e' => y_move rfl) ?_
                        refine m_skip 18 rfl (by kernel_rfl) rfl ?_
                        refine m_skip 19 rfl (by kernel_rfl) rfl ?_
                        refine m_skip 20 rfl (by kernel_rfl) rfl ?_
                        refine m_skip 21 rfl (by kernel_rfl) rfl ?_
                        refine m_skip 22 rfl (by kernel_rfl) rfl ?_
                        refine m_y (v := .bool true) 23 rfl (by kernel_rfl) rfl rfl (fun w' e' => y_pick_t rfl rfl) ?_
                        refine m_y (v := .bool true) 24 rfl (by kernel_rfl) rfl rfl (fun w' e' => y_pick_t rfl rfl) ?_
                        refine m_y (v := .bool true) 25 rfl (by kernel_rfl) rfl rfl (fun w' e' => y_move rfl) ?_
                        refine m_y (v := .pointer (some ⟨b337, 0, none⟩)) 26 rfl (by kernel_rfl) rfl rfl (fun w' e' => y_fld (o := 0) T3.fld_30_0_0 rfl) ?_
                        refine m_y (v := .slice a330 c304 c331) 27 rfl (by kernel_rfl) rfl rfl (fun w' e' => y_load T3.one_24 rfl (((B0_351.b 0 rfl).ext0 e').cell (j := 0) rfl)) ?_
                        refine m_y (v := .int .i64 j) 28 rfl (by kernel_rfl) rfl rfl (fun w' e' => y_move rfl) ?_
                        refine m_y (v := .pointer (some (sat a330 ((j).toNat * 1)))) 29 rfl (by kernel_rfl) rfl rfl (fun w' e' => y_idx T3.sl_24_34_1 rfl rfl ((B.o 1 rfl).rd.addr (by omega)) (by omega) (by omega)) ?_
                        obtain ⟨r371, hr372, hR370⟩ := Rd.atF (B0_351.o 1 rfl).rd j (by omega) (by omega)
                        refine m_y (v := .float .f32 r371) 30 rfl (by kernel_rfl) rfl rfl (fun w' e' => y_load T3.one_34 rfl ((hR370.ext0 e').cell (i := 0) rfl)) ?_
                        refine m_y (v := .pointer (some ⟨b320, 0, none⟩)) 31 rfl (by kernel_rfl) rfl rfl (fun w' e' => y_fld (o := 0) T3.fld_30_0_0 rfl) ?_
                        refine m_y (v := .slice a303 c304 c305) 32 rfl (by kernel_rfl) rfl rfl (fun w' e' => y_load T3.one_24 rfl (((B0_351.b 4 rfl).ext0 e').cell (j := 0) rfl)) ?_
                        refine m_y (v := .int .i64 j) 33 rfl (by kernel_rfl) rfl rfl (fun w' e' => y_move rfl) ?_
                        refine m_y (v := .pointer (some (sat a303 ((j).toNat * 1)))) 34 rfl (by kernel_rfl) rfl rfl (fun w' e' => y_idx T3.sl_24_34_1 rfl rfl ((B.o 5 rfl).rd.addr (by omega)) (by omega) (by omega)) ?_
                        obtain ⟨r374, hr375, hR373⟩ := Rd.atF (B0_351.o 5 rfl).rd j (by omega) (by omega)
                        refine m_y (v := .float .f32 r374) 35 rfl (by kernel_rfl) rfl rfl (fun w' e' => y_load T3.one_34 rfl ((hR373.ext0 e').cell (i := 0) rfl)) ?_
                        refine m_k 36 [37, 38] rfl (by kernel_rfl) rfl rfl (fun w376 e377 => ?_)
                        replace R352 := R352.trans (Ext0.any e377)
                        replace B := B.ext0 e377
                        clear e377
                        refine k_call T3.fn_21 (c_s_SameNumber hr372 hr375) rfl ?_
                        rintro v380 w378 ⟨hv381, e379⟩
                        replace R352 := R352.trans (Ext0.any e379)
                        replace B := B.ext0 e379
                        clear e379
                        refine ⟨fun _ => R352, ?_⟩
                        have hk382 : decide (bitN (el ((rnT v8 v9 false Z14 Z18 (Z306, Z310, Z314) (Int.toNat u49)).1) j) = bitN (el Z306 j)) = true := (decide_eq_true (congrArg bitN (wall_i (by omega) (by omega) (by omega) (by omega))))
                        obtain rfl : v380 = .bool true := hv381.trans (congrArg Value.bool hk382)
                        refine m_y (v := .bool false) 37 rfl (by kernel_rfl) rfl rfl (fun w' e' => y_not rfl rfl) ?_
                        refine m_y (v := .bool false) 38 rfl (by kernel_rfl) rfl rfl (fun w' e' => y_pick_t rfl rfl) ?_
                        refine m_done (by kernel_rfl) (fun w383 e384 => ?_)
                        replace B := B.ext0 e384
                        clear e384
                        clear B0_351 R352
                        refine W_if_f (by decide) rfl ?_
                        refine W_skip ?_
                        refine W_region (by kernel_rfl) ?_
                        refine s_y (v := .int .i64 (j + 1)) rfl (y_add rfl rfl rfl (by omega)) ?_
                        refine s_y (v := .int .i64 (j + 1)) rfl (y_move rfl) ?_
                        refine s_nil ?_
                        refine ⟨⟨_, j + 1, Fits.eq ⟨rfl, rfl, rfl, rfl, rfl, trivial⟩, B, (by omega), (by omega)⟩, ?_⟩
                        show (((c304 : Nat) : Int) - (j + 1)).toNat < (((c304 : Nat) : Int) - j).toNat
                        omega
                      · refine m_y (v := .bool false) 8 rfl (by kernel_rfl) rfl rfl (fun w' e' => y_eql rfl rfl (decide_eq_false c369)) ?_
                        refine m_y (v := .bool false) 9 rfl (by kernel_rfl) rfl rfl (fun w' e' => y_pick_f rfl rfl) ?_
                        refine m_y (v := .bool false) 10 rfl (by kernel_rfl) rfl rfl (fun w' e' => y_move rfl) ?_
                        refine m_y (v := .int .i64 (j % v8)) 11 rfl (by kernel_rfl) rfl rfl (fun w' e' => y_move rfl) ?_
                        refine m_y (v := .pointer (some ⟨b32, 0, none⟩)) 12 rfl (by kernel_rfl) rfl rfl (fun w' e' => y_fld (o := 0) T3.fld_26_0_0 rfl) ?_
                        refine m_y (v := .int .i64 v8) 13 rfl (by kernel_rfl) rfl rfl (fun w' e' => y_load T3.one_2 rfl (((B0_351.b 23 rfl).ext0 e').cell (j := 0) rfl)) ?_
                        refine m_y (v := .int .i64 (v8 - 1)) 14 rfl (by kernel_rfl) rfl rfl (fun w' e' => y_sub rfl rfl rfl (by omega)) ?_
                        by_cases c385 : (j % v8) = (v8 - 1)
                        · refine m_y (v := .bool true) 15 rfl (by kernel_rfl) rfl rfl (fun w' e' => y_eql rfl rfl (decide_eq_true c385)) ?_
                          refine m_y (v := .bool true) 16 rfl (by kernel_rfl) rfl rfl (fun w' e' => y_pick_f rfl rfl) ?_
                          refine m_y (v := .bool true) 17 rfl (by kernel_rfl) rfl rfl (fun w' e' => y_move rfl) ?_
                          refine m_skip 18 rfl (by kernel_rfl) rfl ?_
                          refine m_skip 19 rfl (by kernel_rfl) rfl ?_
                          refine m_skip 20 rfl (by kernel_rfl) rfl ?_
                          refine m_skip 21 rfl (by kernel_rfl) rfl ?_
                          refine m_skip 22 rfl (by kernel_rfl) rfl ?_
                          refine m_y (v := .bool true) 23 rfl (by kernel_rfl) rfl rfl (fun w' e' => y_pick_t rfl rfl) ?_
                          refine m_y (v := .bool true) 24 rfl (by kernel_rfl) rfl rfl (fun w' e' => y_pick_t rfl rfl) ?_
                          refine m_y (v := .bool true) 25 rfl (by kernel_rfl) rfl rfl (fun w' e' => y_move rfl) ?_
                          refine m_y (v := .pointer (some ⟨b337, 0, none⟩)) 26 rfl (by kernel_rfl) rfl rfl (fun w' e' => y_fld (o := 0) T3.fld_30_0_0 rfl) ?_
                          refine m_y (v := .slice a330 c304 c331) 27 rfl (by kernel_rfl) rfl rfl (fun w' e' => y_load T3.one_24 rfl (((B0_351.b 0 rfl).ext0 e').cell (j := 0) rfl)) ?_
                          refine m_y (v := .int .i64 j) 28 rfl (by kernel_rfl) rfl rfl (fun w' e' => y_move rfl) ?_
                          refine m_y (v := .pointer (some (sat a330 ((j).toNat * 1)))) 29 rfl (by kernel_rfl) rfl rfl (fun w' e' => y_idx T3.sl_24_34_1 rfl rfl ((B.o 1 rfl).rd.addr (by omega)) (by omega) (by omega)) ?_
                          obtain ⟨r387, hr388, hR386⟩ := Rd.atF (B0_351.o 1 rfl).rd j (by omega) (by omega)
                          refine m_y (v := .float .f32 r387) 30 rfl (by kernel_rfl) rfl rfl (fun w' e' => y_load T3.one_34 rfl ((hR386.ext0 e').cell (i := 0) rfl)) ?_
                          refine m_y (v := .pointer (some ⟨b320, 0, none⟩)) 31 rfl (by kernel_rfl) rfl rfl (fun w' e' => y_fld (o := 0) T3.fld_30_0_0 rfl) ?_
                          refine m_y (v := .slice a303 c304 c305) 32 rfl (by kernel_rfl) rfl rfl (fun w' e' => y_load T3.one_24 rfl (((B0_351.b 4 rfl).ext0 e').cell (j := 0) rfl)) ?_
                          refine m_y (v := .int .i64 j) 33 rfl (by kernel_rfl) rfl rfl (fun w' e' => y_move rfl) ?_
                          refine m_y (v := .pointer (some (sat a303 ((j).toNat * 1)))) 34 rfl (by kernel_rfl) rfl rfl (fun w' e' => y_idx T3.sl_24_34_1 rfl rfl ((B.o 5 rfl).rd.addr (by omega)) (by omega) (by omega)) ?_
                          obtain ⟨r390, hr391, hR389⟩ := Rd.atF (B0_351.o 5 rfl).rd j (by omega) (by omega)
                          refine m_y (v := .float .f32 r390) 35 rfl (by kernel_rfl) rfl rfl (fun w' e' => y_load T3.one_34 rfl ((hR389.ext0 e').cell (i := 0) rfl)) ?_
                          refine m_k 36 [37, 38] rfl (by kernel_rfl) rfl rfl (fun w392 e393 => ?_)
                          replace R352 := R352.trans (Ext0.any e393)
                          replace B := B.ext0 e393
                          clear e393
                          refine k_call T3.fn_21 (c_s_SameNumber hr388 hr391) rfl ?_
                          rintro v396 w394 ⟨hv397, e395⟩
                          replace R352 := R352.trans (Ext0.any e395)
                          replace B := B.ext0 e395
                          clear e395
                          refine ⟨fun _ => R352, ?_⟩
                          have hk398 : decide (bitN (el ((rnT v8 v9 false Z14 Z18 (Z306, Z310, Z314) (Int.toNat u49)).1) j) = bitN (el Z306 j)) = true := (decide_eq_true (congrArg bitN (wall_i (by omega) (by omega) (by omega) (by omega))))
                          obtain rfl : v396 = .bool true := hv397.trans (congrArg Value.bool hk398)
                          refine m_y (v := .bool false) 37 rfl (by kernel_rfl) rfl rfl (fun w' e' => y_not rfl rfl) ?_
                          refine m_y (v := .bool false) 38 rfl (by kernel_rfl) rfl rfl (fun w' e' => y_pick_t rfl rfl) ?_
                          refine m_done (by kernel_rfl) (fun w399 e400 => ?_)
                          replace B := B.ext0 e400
                          clear e400
                          clear B0_351 R352
                          refine W_if_f (by decide) rfl ?_
                          refine W_skip ?_
                          refine W_region (by kernel_rfl) ?_
                          refine s_y (v := .int .i64 (j + 1)) rfl (y_add rfl rfl rfl (by omega)) ?_
                          refine s_y (v := .int .i64 (j + 1)) rfl (y_move rfl) ?_
                          refine s_nil ?_
                          refine ⟨⟨_, j + 1, Fits.eq ⟨rfl, rfl, rfl, rfl, rfl, trivial⟩, B, (by omega), (by omega)⟩, ?_⟩
                          show (((c304 : Nat) : Int) - (j + 1)).toNat < (((c304 : Nat) : Int) - j).toNat
                          omega
                        · refine m_y (v := .bool false) 15 rfl (by kernel_rfl) rfl rfl (fun w' e' => y_eql rfl rfl (decide_eq_false c385)) ?_
                          refine m_y (v := .bool false) 16 rfl (by kernel_rfl) rfl rfl (fun w' e' => y_pick_f rfl rfl) ?_
                          refine m_y (v := .bool false) 17 rfl (by kernel_rfl) rfl rfl (fun w' e' => y_move rfl) ?_
                          refine m_y (v := .int .i64 (j / v8)) 18 rfl (by kernel_rfl) rfl rfl (fun w' e' => y_move rfl) ?_
                          refine m_y (v := .pointer (some ⟨b32, 1, none⟩)) 19 rfl (by kernel_rfl) rfl rfl (fun w' e' => y_fld (o := 0) T3.fld_26_1_1 rfl) ?_
                          refine m_y (v := .int .i64 v9) 20 rfl (by kernel_rfl) rfl rfl (fun w' e' => y_load T3.one_2 rfl (((B0_351.b 23 rfl).ext0 e').cell (j := 1) rfl)) ?_
                          refine m_y (v := .int .i64 (v9 - 1)) 21 rfl (by kernel_rfl) rfl rfl (fun w' e' => y_sub rfl rfl rfl (by omega)) ?_
                          by_cases c401 : (j / v8) = (v9 - 1)
                          · refine m_y (v := .bool true) 22 rfl (by kernel_rfl) rfl rfl (fun w' e' => y_eql rfl rfl (decide_eq_true c401)) ?_
                            refine m_y (v := .bool true) 23 rfl (by kernel_rfl) rfl rfl (fun w' e' => y_pick_f rfl rfl) ?_
                            refine m_y (v := .bool true) 24 rfl (by kernel_rfl) rfl rfl (fun w' e' => y_pick_t rfl rfl) ?_
                            refine m_y (v := .bool true) 25 rfl (by kernel_rfl) rfl rfl (fun w' e' => y_move rfl) ?_
                            refine m_y (v := .pointer (some ⟨b337, 0, none⟩)) 26 rfl (by kernel_rfl) rfl rfl (fun w' e' => y_fld (o := 0) T3.fld_30_0_0 rfl) ?_
                            refine m_y (v := .slice a330 c304 c331) 27 rfl (by kernel_rfl) rfl rfl (fun w' e' => y_load T3.one_24 rfl (((B0_351.b 0 rfl).ext0 e').cell (j := 0) rfl)) ?_
                            refine m_y (v := .int .i64 j) 28 rfl (by kernel_rfl) rfl rfl (fun w' e' => y_move rfl) ?_
                            refine m_y (v := .pointer (some (sat a330 ((j).toNat * 1)))) 29 rfl (by kernel_rfl) rfl rfl (fun w' e' => y_idx T3.sl_24_34_1 rfl rfl ((B.o 1 rfl).rd.addr (by omega)) (by omega) (by omega)) ?_
                            obtain ⟨r403, hr404, hR402⟩ := Rd.atF (B0_351.o 1 rfl).rd j (by omega) (by omega)
                            refine m_y (v := .float .f32 r403) 30 rfl (by kernel_rfl) rfl rfl (fun w' e' => y_load T3.one_34 rfl ((hR402.ext0 e').cell (i := 0) rfl)) ?_
                            refine m_y (v := .pointer (some ⟨b320, 0, none⟩)) 31 rfl (by kernel_rfl) rfl rfl (fun w' e' => y_fld (o := 0) T3.fld_30_0_0 rfl) ?_
                            refine m_y (v := .slice a303 c304 c305) 32 rfl (by kernel_rfl) rfl rfl (fun w' e' => y_load T3.one_24 rfl (((B0_351.b 4 rfl).ext0 e').cell (j := 0) rfl)) ?_
                            refine m_y (v := .int .i64 j) 33 rfl (by kernel_rfl) rfl rfl (fun w' e' => y_move rfl) ?_
                            refine m_y (v := .pointer (some (sat a303 ((j).toNat * 1)))) 34 rfl (by kernel_rfl) rfl rfl (fun w' e' => y_idx T3.sl_24_34_1 rfl rfl ((B.o 5 rfl).rd.addr (by omega)) (by omega) (by omega)) ?_
                            obtain ⟨r406, hr407, hR405⟩ := Rd.atF (B0_351.o 5 rfl).rd j (by omega) (by omega)
                            refine m_y (v := .float .f32 r406) 35 rfl (by kernel_rfl) rfl rfl (fun w' e' => y_load T3.one_34 rfl ((hR405.ext0 e').cell (i := 0) rfl)) ?_
                            refine m_k 36 [37, 38] rfl (by kernel_rfl) rfl rfl (fun w408 e409 => ?_)
                            replace R352 := R352.trans (Ext0.any e409)
                            replace B := B.ext0 e409
                            clear e409
                            refine k_call T3.fn_21 (c_s_SameNumber hr404 hr407) rfl ?_
                            rintro v412 w410 ⟨hv413, e411⟩
                            replace R352 := R352.trans (Ext0.any e411)
                            replace B := B.ext0 e411
                            clear e411
                            refine ⟨fun _ => R352, ?_⟩
                            have hk414 : decide (bitN (el ((rnT v8 v9 false Z14 Z18 (Z306, Z310, Z314) (Int.toNat u49)).1) j) = bitN (el Z306 j)) = true := (decide_eq_true (congrArg bitN (wall_i (by omega) (by omega) (by omega) (by omega))))
                            obtain rfl : v412 = .bool true := hv413.trans (congrArg Value.bool hk414)
                            refine m_y (v := .bool false) 37 rfl (by kernel_rfl) rfl rfl (fun w' e' => y_not rfl rfl) ?_
                            refine m_y (v := .bool false) 38 rfl (by kernel_rfl) rfl rfl (fun w' e' => y_pick_t rfl rfl) ?_
                            refine m_done (by kernel_rfl) (fun w415 e416 => ?_)
                            replace B := B.ext0 e416
                            clear e416
                            clear B0_351 R352
                            refine W_if_f (by decide) rfl ?_
                            refine W_skip ?_
                            refine W_region (by kernel_rfl) ?_
                            refine s_y (v := .int .i64 (j + 1)) rfl (y_add rfl rfl rfl (by omega)) ?_
                            refine s_y (v := .int .i64 (j + 1)) rfl (y_move rfl) ?_
                            refine s_nil ?_
                            refine ⟨⟨_, j + 1, Fits.eq ⟨rfl, rfl, rfl, rfl, rfl, trivial⟩, B, (by omega), (by omega)⟩, ?_⟩
                            show (((c304 : Nat) : Int) - (j + 1)).toNat < (((c304 : Nat) : Int) - j).toNat
                            omega
                          · refine m_y (v := .bool false) 22 rfl (by kernel_rfl) rfl rfl (fun w' e' => y_eql rfl rfl (decide_eq_false c401)) ?_
                            refine m_y (v := .bool false) 23 rfl (by kernel_rfl) rfl rfl (fun w' e' => y_pick_f rfl rfl) ?_
                            refine m_y (v := .bool false) 24 rfl (by kernel_rfl) rfl rfl (fun w' e' => y_pick_t rfl rfl) ?_
                            refine m_y (v := .bool false) 25 rfl (by kernel_rfl) rfl rfl (fun w' e' => y_move rfl) ?_
                            refine m_skip 26 rfl (by kernel_rfl) rfl ?_
                            refine m_skip 27 rfl (by kernel_rfl) rfl ?_
                            refine m_skip 28 rfl (by kernel_rfl) rfl ?_
                            refine m_skip 29 rfl (by kernel_rfl) rfl ?_
                            refine m_skip 30 rfl (by kernel_rfl) rfl ?_
                            refine m_skip 31 rfl (by kernel_rfl) rfl ?_
                            refine m_skip 32 rfl (by kernel_rfl) rfl ?_
                            refine m_skip 33 rfl (by kernel_rfl) rfl ?_
                            refine m_skip 34 rfl (by kernel_rfl) rfl ?_
                            refine m_skip 35 rfl (by kernel_rfl) rfl ?_
                            refine m_skip 36 rfl (by kernel_rfl) rfl ?_
                            refine m_skip 37 rfl (by kernel_rfl) rfl ?_
                            refine m_y (v := .bool false) 38 rfl (by kernel_rfl) rfl rfl (fun w' e' => y_pick_f rfl rfl) ?_
                            refine m_done (by kernel_rfl) (fun w417 e418 => ?_)
                            replace B := B.ext0 e418
                            clear e418
                            clear B0_351 R352
                            refine W_if_f (by decide) rfl ?_
                            refine W_skip ?_
                            refine W_region (by kernel_rfl) ?_
                            refine s_y (v := .int .i64 (j + 1)) rfl (y_add rfl rfl rfl (by omega)) ?_
                            refine s_y (v := .int .i64 (j + 1)) rfl (y_move rfl) ?_
                            refine s_nil ?_
                            refine ⟨⟨_, j + 1, Fits.eq ⟨rfl, rfl, rfl, rfl, rfl, trivial⟩, B, (by omega), (by omega)⟩, ?_⟩
                            show (((c304 : Nat) : Int) - (j + 1)).toNat < (((c304 : Nat) : Int) - j).toNat
                            omega
                  · refine m_skip 4 rfl (by kernel_rfl) rfl ?_
                    refine m_skip 5 rfl (by kernel_rfl) rfl ?_
                    refine m_skip 6 rfl (by kernel_rfl) rfl ?_
                    refine m_skip 7 rfl (by kernel_rfl) rfl ?_
                    refine m_skip 8 rfl (by kernel_rfl) rfl ?_
                    refine m_skip 9 rfl (by kernel_rfl) rfl ?_
                    refine m_skip 10 rfl (by kernel_rfl) rfl ?_
                    refine m_skip 11 rfl (by kernel_rfl) rfl ?_
                    refine m_skip 12 rfl (by kernel_rfl) rfl ?_
                    refine m_skip 13 rfl (by kernel_rfl) rfl ?_
                    refine m_skip 14 rfl (by kernel_rfl) rfl ?_
                    refine m_skip 15 rfl (by kernel_rfl) rfl ?_
                    refine m_skip 16 rfl (by kernel_rfl) rfl ?_
                    refine m_skip 17 rfl (by kernel_rfl) rfl ?_
                    refine m_skip 18 rfl (by kernel_rfl) rfl ?_
                    refine m_skip 19 rfl (by kernel_rfl) rfl ?_
                    refine m_skip 20 rfl (by kernel_rfl) rfl ?_
                    refine m_skip 21 rfl (by kernel_rfl) rfl ?_
                    refine m_skip 22 rfl (by kernel_rfl) rfl ?_
                    refine m_skip 23 rfl (by kernel_rfl) rfl ?_
                    refine m_y (v := .bool false) 24 rfl (by kernel_rfl) rfl rfl (fun w' e' => y_pick_f rfl rfl) ?_
                    refine m_y (v := .bool false) 25 rfl (by kernel_rfl) rfl rfl (fun w' e' => y_move rfl) ?_
                    refine m_skip 26 rfl (by kernel_rfl) rfl ?_
                    refine m_skip 27 rfl (by kernel_rfl) rfl ?_
                    refine m_skip 28 rfl (by kernel_rfl) rfl ?_
                    refine m_skip 29 rfl (by kernel_rfl) rfl ?_
                    refine m_skip 30 rfl (by kernel_rfl) rfl ?_
                    refine m_skip 31 rfl (by kernel_rfl) rfl ?_
                    refine m_skip 32 rfl (by kernel_rfl) rfl ?_
                    refine m_skip 33 rfl (by kernel_rfl) rfl ?_
                    refine m_skip 34 rfl (by kernel_rfl) rfl ?_
                    refine m_skip 35 rfl (by kernel_rfl) rfl ?_
                    refine m_skip 36 rfl (by kernel_rfl) rfl ?_
                    refine m_skip 37 rfl (by kernel_rfl) rfl ?_
                    refine m_y (v := .bool false) 38 rfl (by kernel_rfl) rfl rfl (fun w' e' => y_pick_f rfl rfl) ?_
                    refine m_done (by kernel_rfl) (fun w419 e420 => ?_)
                    replace B := B.ext0 e420
                    clear e420
                    clear B0_351 R352
                    refine W_if_f (by decide) rfl ?_
                    refine W_skip ?_
                    refine W_region (by kernel_rfl) ?_
                    refine s_y (v := .int .i64 (j + 1)) rfl (y_add rfl rfl rfl (by omega)) ?_
                    refine s_y (v := .int .i64 (j + 1)) rfl (y_move rfl) ?_
                    refine s_nil ?_
                    refine ⟨⟨_, j + 1, Fits.eq ⟨rfl, rfl, rfl, rfl, rfl, trivial⟩, B, (by omega), (by omega)⟩, ?_⟩
                    show (((c304 : Nat) : Int) - (j + 1)).toNat < (((c304 : Nat) : Int) - j).toNat
                    omega
                · refine s_y (v := .bool false) rfl (y_lss rfl rfl (decide_eq_false c344)) ?_
                  refine s_nil ?_
                  refine W_seq ?_
                  refine W_if_f (by decide) rfl ?_
                  refine W_exit ?_
                  refine W_seq ?_
                  refine W_region (by kernel_rfl) ?_
                  refine s_y (v := .bool true) rfl (y_assign rfl) ?_
                  refine s_nil ?_
                  refine W_ret ?_
                  refine ret1 (v := .bool true) rfl rfl rfl ⟨_, rfl, ?_⟩
                  exact ⟨rfl, B.ext⟩
end Go.Proofs.Ytgohmocjjmkepaa
