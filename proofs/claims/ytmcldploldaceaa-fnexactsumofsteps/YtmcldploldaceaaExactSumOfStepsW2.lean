/- Walks: what the functions under FnExactSumOfSteps do (part 3). Printed by a program of this claim's author. -/
import Derived.Test.YtmcldploldaceaaExactSumOfStepsW1
set_option linter.unusedSimpArgs false
set_option linter.unusedVariables false
open Go.Wv
namespace Go.Proofs.Ytmcldploldaceaa
open Go.Proofs
namespace T10
theorem mx : Try.prog.follows .mixedOrders = true := by kernel_rfl
theorem agg_26_5 : aggB Try.prog 26 5 = true := by kernel_rfl
theorem agg_29_3 : aggB Try.prog 29 3 = true := by kernel_rfl
theorem agg_45_5 : aggB Try.prog 45 5 = true := by kernel_rfl
theorem agg_46_3 : aggB Try.prog 46 3 = true := by kernel_rfl
theorem bool_4 : Try.prog.underlying 4 = some .bool := by kernel_rfl
theorem fn_31 : fnB Try.prog 31 = true := by kernel_rfl
theorem fn_32 : fnB Try.prog 32 = true := by kernel_rfl
theorem fn_34 : fnB Try.prog 34 = true := by kernel_rfl
theorem fn_35 : fnB Try.prog 35 = true := by kernel_rfl
theorem fn_38 : fnB Try.prog 38 = true := by kernel_rfl
theorem fn_39 : fnB Try.prog 39 = true := by kernel_rfl
theorem fn_40 : fnB Try.prog 40 = true := by kernel_rfl
theorem fn_41 : fnB Try.prog 41 = true := by kernel_rfl
theorem fn_54 : fnB Try.prog 54 = true := by kernel_rfl
theorem fn_57 : fnB Try.prog 57 = true := by kernel_rfl
theorem fn_58 : fnB Try.prog 58 = true := by kernel_rfl
theorem fn_61 : fnB Try.prog 61 = true := by kernel_rfl
theorem fn_62 : fnB Try.prog 62 = true := by kernel_rfl
theorem sz_26_5 : szB Try.prog 26 5 = true := by kernel_rfl
theorem sz_29_3 : szB Try.prog 29 3 = true := by kernel_rfl
theorem zero_26 : zeroB Try.prog 26 (.agg #[.int .i64 0, .int .i64 0, .bool false, .slice none 0 0, .slice none 0 0]) := by unfold zeroB; kernel_rfl
theorem zero_29 : zeroB Try.prog 29 (.agg #[.slice none 0 0, .slice none 0 0, .slice none 0 0]) := by unfold zeroB; kernel_rfl
end T10
set_option maxRecDepth 100000 in
set_option maxHeartbeats 20000000 in
theorem c_FnExactSumOfSteps {wd0 : Int} {hi0 : Int} {wr0 : Bool} {asp0 : Option Addr} {nsp0 : Nat} {csp0 : Nat} {Xsp0 : List Nat} {als0 : Option Addr} {nls0 : Nat} {cls0 : Nat} {Xls0 : List Nat} {afe1 : Option Addr} {nfe1 : Nat} {cfe1 : Nat} {Xfe1 : List Nat} {afx1 : Option Addr} {nfx1 : Nat} {cfx1 : Nat} {Xfx1 : List Nat} {afy1 : Option Addr} {nfy1 : Nat} {cfy1 : Nat} {Xfy1 : List Nat} {i2 : Int} {w : World} (qsp0 : Rd w kF asp0 nsp0 Xsp0) (qls0 : Rd w kF als0 nls0 Xls0) (qfe1 : Rd w kF afe1 nfe1 Xfe1) (qfx1 : Rd w kF afx1 nfx1 Xfx1) (qfy1 : Rd w kF afy1 nfy1 Xfy1) (gsp0 : nsp0 ≤ 9223372036854775807) (gls0 : nls0 ≤ 9223372036854775807) (gfe1 : nfe1 ≤ 9223372036854775807) (gfx1 : nfx1 ≤ 9223372036854775807) (gfy1 : nfy1 ≤ 9223372036854775807) :
    Calls Try.prog 10 #[.agg #[.int .i64 wd0, .int .i64 hi0, .bool wr0, .slice asp0 nsp0 csp0, .slice als0 nls0 cls0], .agg #[.slice afe1 nfe1 cfe1, .slice afx1 nfx1 cfx1, .slice afy1 nfy1 cfy1], .int .i64 i2] w (Rt fun v w' => v = .bool true ∧ Ext0 w w') := by
  have hlsp0 := qsp0.len
  have hlls0 := qls0.len
  have hlfe1 := qfe1.len
  have hlfx1 := qfx1.len
  have hlfy1 := qfy1.len
  have B : Bu w no w [.rd kF asp0 nsp0 Xsp0, .rd kF als0 nls0 Xls0, .rd kF afe1 nfe1 Xfe1, .rd kF afx1 nfx1 Xfx1, .rd kF afy1 nfy1 Xfy1] := Bu.ro (All.cons qsp0 (All.cons qls0 (All.cons qfe1 (All.cons qfx1 (All.cons qfy1 All.nil))))) rfl
  refine calls_W (n := 124) Try.func10 rfl rfl (Nat.le_of_ble_eq_true rfl) ?_
  refine W_seq ?_
  refine W_region (by kernel_rfl) ?_
  refine s_k rfl (k_boxN (v := .agg #[.int .i64 wd0, .int .i64 hi0, .bool wr0, .slice asp0 nsp0 csp0, .slice als0 nls0 cls0]) (cs := [.int .i64 wd0, .int .i64 hi0, .bool wr0, .slice asp0 nsp0 csp0, .slice als0 nls0 cls0]) rfl rfl (fun b1 w2 hN3 => ?_))
  replace B := B.new1 hN3
  clear hN3
  refine s_k rfl (k_boxN (v := .agg #[.slice afe1 nfe1 cfe1, .slice afx1 nfx1 cfx1, .slice afy1 nfy1 cfy1]) (cs := [.slice afe1 nfe1 cfe1, .slice afx1 nfx1 cfx1, .slice afy1 nfy1 cfy1]) rfl rfl (fun b4 w5 hN6 => ?_))
  replace B := B.new1 hN6
  clear hN6
  refine s_y (v := .bool false) rfl (y_assign rfl) ?_
  refine s_nil ?_
  refine W_seq ?_
  refine W_region (by kernel_rfl) ?_
  refine s_y (v := .int .i64 1048576) rfl (y_assign rfl) ?_
  refine s_nil ?_
  refine W_seq ?_
  refine W_region (by kernel_rfl) ?_
  refine s_y (v := .agg #[.int .i64 wd0, .int .i64 hi0, .bool wr0, .slice asp0 nsp0 csp0, .slice als0 nls0 cls0]) rfl (y_loadn (b := b1) (o := 0) (vs := [.int .i64 wd0, .int .i64 hi0, .bool wr0, .slice asp0 nsp0 csp0, .slice als0 nls0 cls0]) T10.agg_45_5 rfl rfl ((B.b 1 rfl).cells (o := 0) rfl)) ?_
  refine s_y (v := .int .i64 1048576) rfl (y_move rfl) ?_
  refine s_k rfl (k_call T10.fn_31 (c_l_szSheet (by omega) (by omega) (by omega) (by omega)) rfl ?_)
  rintro v9 w7 ⟨hv10, e8⟩
  replace B := B.ext0 e8
  clear e8
  by_cases c11 : ((nsp0 : Nat) : Int) + ((nls0 : Nat) : Int) ≤ 1048576
  · obtain rfl : v9 = .int .i64 (1048576 - ((nsp0 : Nat) : Int) - ((nls0 : Nat) : Int)) := hv10.trans (congrArg _ (if_pos c11))
    have hk12 : ¬ (1048576 - ((nsp0 : Nat) : Int) - ((nls0 : Nat) : Int)) < 0 := by omega
    refine s_y (v := .int .i64 (1048576 - ((nsp0 : Nat) : Int) - ((nls0 : Nat) : Int))) rfl (y_assign rfl) ?_
    refine s_nil ?_
    refine W_seq ?_
    refine W_seq ?_
    refine W_region (by kernel_rfl) ?_
    refine s_y (v := .int .i64 (1048576 - ((nsp0 : Nat) : Int) - ((nls0 : Nat) : Int))) rfl (y_move rfl) ?_
    refine s_y (v := .bool false) rfl (y_lss rfl rfl (decide_eq_false hk12)) ?_
    refine s_nil ?_
    refine W_if_f (by decide) rfl ?_
    refine W_skip ?_
    refine W_seq ?_
    refine W_region (by kernel_rfl) ?_
    refine s_y (v := .agg #[.slice afe1 nfe1 cfe1, .slice afx1 nfx1 cfx1, .slice afy1 nfy1 cfy1]) rfl (y_loadn (b := b4) (o := 0) (vs := [.slice afe1 nfe1 cfe1, .slice afx1 nfx1 cfx1, .slice afy1 nfy1 cfy1]) T10.agg_46_3 rfl rfl ((B.b 0 rfl).cells (o := 0) rfl)) ?_
    refine s_y (v := .int .i64 (1048576 - ((nsp0 : Nat) : Int) - ((nls0 : Nat) : Int))) rfl (y_move rfl) ?_
    refine s_k rfl (k_call T10.fn_32 (c_l_szField (by omega) (by omega) (by omega) (by omega) (by omega)) rfl ?_)
    rintro v15 w13 ⟨hv16, e14⟩
    replace B := B.ext0 e14
    clear e14
    by_cases c17 : ((nfe1 : Nat) : Int) + ((nfx1 : Nat) : Int) + ((nfy1 : Nat) : Int) ≤ (1048576 - ((nsp0 : Nat) : Int) - ((nls0 : Nat) : Int))
    · obtain rfl : v15 = .int .i64 ((1048576 - ((nsp0 : Nat) : Int) - ((nls0 : Nat) : Int)) - ((nfe1 : Nat) : Int) - ((nfx1 : Nat) : Int) - ((nfy1 : Nat) : Int)) := hv16.trans (congrArg _ (if_pos c17))
      have hk18 : ¬ ((1048576 - ((nsp0 : Nat) : Int) - ((nls0 : Nat) : Int)) - ((nfe1 : Nat) : Int) - ((nfx1 : Nat) : Int) - ((nfy1 : Nat) : Int)) < 0 := by omega
      refine s_y (v := .int .i64 ((1048576 - ((nsp0 : Nat) : Int) - ((nls0 : Nat) : Int)) - ((nfe1 : Nat) : Int) - ((nfx1 : Nat) : Int) - ((nfy1 : Nat) : Int))) rfl (y_assign rfl) ?_
      refine s_nil ?_
      refine W_seq ?_
      refine W_seq ?_
      refine W_region (by kernel_rfl) ?_
      refine s_y (v := .int .i64 ((1048576 - ((nsp0 : Nat) : Int) - ((nls0 : Nat) : Int)) - ((nfe1 : Nat) : Int) - ((nfx1 : Nat) : Int) - ((nfy1 : Nat) : Int))) rfl (y_move rfl) ?_
      refine s_y (v := .bool false) rfl (y_lss rfl rfl (decide_eq_false hk18)) ?_
      refine s_nil ?_
      refine W_if_f (by decide) rfl ?_
      refine W_skip ?_
      refine W_seq ?_
      have B0_23 := B
      refine W_draw (no) T10.mx (by kernel_rfl) (fun w21 e22 => ?_)
      have R24 := Ext.refl (no) w13
      replace R24 := R24.trans (Ext0.any e22)
      replace B := B.ext0 e22
      clear e22
      refine m_y (v := .agg #[.int .i64 wd0, .int .i64 hi0, .bool wr0, .slice asp0 nsp0 csp0, .slice als0 nls0 cls0]) 0 rfl (by kernel_rfl) rfl rfl (fun w' e' => y_loadn (b := b1) (o := 0) (vs := [.int .i64 wd0, .int .i64 hi0, .bool wr0, .slice asp0 nsp0 csp0, .slice als0 nls0 cls0]) T10.agg_45_5 rfl rfl (((B0_23.b 1 rfl).ext0 e').cells (o := 0) rfl)) ?_
      refine m_y (v := .agg #[.slice afe1 nfe1 cfe1, .slice afx1 nfx1 cfx1, .slice afy1 nfy1 cfy1]) 2 rfl (by kernel_rfl) rfl rfl (fun w' e' => y_loadn (b := b4) (o := 0) (vs := [.slice afe1 nfe1 cfe1, .slice afx1 nfx1 cfx1, .slice afy1 nfy1 cfy1]) T10.agg_46_3 rfl rfl (((B0_23.b 0 rfl).ext0 e').cells (o := 0) rfl)) ?_
      refine m_y (v := .int .i64 i2) 4 rfl (by kernel_rfl) rfl rfl (fun w' e' => y_move rfl) ?_
      refine m_k 1 [3, 5, 6, 7, 8, 9, 10] rfl (by kernel_rfl) rfl rfl (fun w25 e26 => ?_)
      replace R24 := R24.trans (Ext0.any e26)
      replace B := B.ext0 e26
      clear e26
      refine k_call T10.fn_34 (c_l_toSheet (B.r 2 rfl) (B.r 3 rfl) (by omega) (by omega)) rfl ?_
      rintro _ w27 ⟨a28, c29, a30, c31, rfl, hN32⟩
      replace R24 := R24.trans (Ext0.any hN32.ext)
      replace B := B.new2 hN32
      clear hN32
      refine ⟨fun _ => R24, ?_⟩
      refine m_k 3 [5, 6, 7, 8, 9, 10] rfl (by kernel_rfl) rfl rfl (fun w33 e34 => ?_)
      replace R24 := R24.trans (Ext0.any e34)
      replace B := B.ext0 e34
      clear e34
      refine k_call T10.fn_35 (c_l_toField (B.r 6 rfl) (B.r 7 rfl) (B.r 8 rfl) (by omega) (by omega) (by omega)) rfl ?_
      rintro _ w35 ⟨a36, c37, a38, c39, a40, c41, rfl, hN42⟩
      replace R24 := R24.trans (Ext0.any hN42.ext)
      replace B := B.new3 hN42
      clear hN42
      refine ⟨fun _ => R24, ?_⟩
      refine m_k 5 [6, 7, 8, 9, 10] rfl (by kernel_rfl) rfl rfl (fun w43 e44 => ?_)
      replace R24 := R24.trans (Ext0.any e44)
      replace B := B.ext0 e44
      clear e44
      refine k_call T10.fn_61 (c_s_SumOfSteps ((B.o 3 rfl).rd) ((B.o 4 rfl).rd) ((B.o 0 rfl).rd) ((B.o 1 rfl).rd) ((B.o 2 rfl).rd) (by omega) (by omega) (by omega) (by omega) (by omega) (by omega)) rfl ?_
      rintro v47 w45 hx46
      by_cases c48 : runB wd0 hi0 wr0 Xsp0 Xls0 Xfe1 Xfx1 Xfy1 i2 = true
      · have hb49 := runB_b c48
        obtain ⟨a50, c51, rfl, hN52⟩ := (hx46.resolve_right (fun hz => by rw [c48] at hz; cases hz.1)).2
        clear hx46
        replace R24 := R24.trans (Ext0.any hN52.ext)
        replace B := B.new1 hN52
        clear hN52
        refine ⟨fun _ => R24, ?_⟩
        refine m_y (v := .tuple #[.slice a50 ((wd0 * hi0).toNat) c51, .bool true]) 6 rfl (by kernel_rfl) rfl rfl (fun w' e' => y_move rfl) ?_
        refine m_y (v := .slice a50 ((wd0 * hi0).toNat) c51) 7 rfl (by kernel_rfl) rfl rfl (fun w' e' => y_extract rfl rfl) ?_
        refine m_y (v := .bool true) 8 rfl (by kernel_rfl) rfl rfl (fun w' e' => y_extract rfl rfl) ?_
        refine m_y (v := .slice a50 ((wd0 * hi0).toNat) c51) 9 rfl (by kernel_rfl) rfl rfl (fun w' e' => y_assign rfl) ?_
        refine m_y (v := .bool true) 10 rfl (by kernel_rfl) rfl rfl (fun w' e' => y_assign rfl) ?_
        refine m_done (by kernel_rfl) (fun w53 e54 => ?_)
        replace B := B.ext0 e54
        clear e54
        clear B0_23 R24
        refine W_seq ?_
        refine W_region (by kernel_rfl) ?_
        refine s_y (v := .agg #[.int .i64 wd0, .int .i64 hi0, .bool wr0, .slice asp0 nsp0 csp0, .slice als0 nls0 cls0]) rfl (y_loadn (b := b1) (o := 0) (vs := [.int .i64 wd0, .int .i64 hi0, .bool wr0, .slice asp0 nsp0 csp0, .slice als0 nls0 cls0]) T10.agg_45_5 rfl rfl ((B.b 7 rfl).cells (o := 0) rfl)) ?_
        refine s_k rfl (k_call T10.fn_34 (c_l_toSheet (B.r 8 rfl) (B.r 9 rfl) (by omega) (by omega)) rfl ?_)
        rintro _ w55 ⟨a56, c57, a58, c59, rfl, hN60⟩
        replace B := B.new2 hN60
        clear hN60
        refine s_k rfl (k_allocN (z := (.agg #[.int .i64 0, .int .i64 0, .bool false, .slice none 0 0, .slice none 0 0])) (cs := [.int .i64 0, .int .i64 0, .bool false, .slice none 0 0, .slice none 0 0]) T10.zero_26 rfl (fun b61 w62 hN63 => ?_))
        replace B := B.new1 hN63
        clear hN63
        refine s_k0 rfl (k_stB (v := .agg #[.int .i64 wd0, .int .i64 hi0, .bool wr0, .slice a56 nsp0 c57, .slice a58 nls0 c59]) (n := 5) (cs' := [.int .i64 wd0, .int .i64 hi0, .bool wr0, .slice a56 nsp0 c57, .slice a58 nls0 c59]) T10.sz_26_5 rfl rfl rfl (B.b 0 rfl) (by simp [Value.cells, Value.oneCell']) (Nat.le_of_ble_eq_true rfl) rfl (fun w64 hU65 => ?_))
        replace B : Bu w no w64 [.blk b61 [.int .i64 wd0, .int .i64 hi0, .bool wr0, .slice a56 nsp0 c57, .slice a58 nls0 c59] 26, .ow kF a56 nsp0 c57 35 Xsp0, .ow kF a58 nls0 c59 35 Xls0, .ow kF a50 ((wd0 * hi0).toNat) c51 35 (smT wd0 hi0 wr0 Xsp0 Xls0 (Xfe1, Xfx1, Xfy1) (wd0 * hi0) (List.replicate (wd0 * hi0).toNat 0) (Int.toNat i2)), .ow kF a36 nfe1 c37 35 Xfe1, .ow kF a38 nfx1 c39 35 Xfx1, .ow kF a40 nfy1 c41 35 Xfy1, .ow kF a28 nsp0 c29 35 Xsp0, .ow kF a30 nls0 c31 35 Xls0, .blk b4 [.slice afe1 nfe1 cfe1, .slice afx1 nfx1 cfx1, .slice afy1 nfy1 cfy1] 46, .blk b1 [.int .i64 wd0, .int .i64 hi0, .bool wr0, .slice asp0 nsp0 csp0, .slice als0 nls0 cls0] 45, .rd kF asp0 nsp0 Xsp0, .rd kF als0 nls0 Xls0, .rd kF afe1 nfe1 Xfe1, .rd kF afx1 nfx1 Xfx1, .rd kF afy1 nfy1 Xfy1] := B.upd [0] rfl hU65
        clear hU65
        refine s_nil ?_
        refine W_seq ?_
        refine W_region (by kernel_rfl) ?_
        refine s_y (v := .agg #[.slice afe1 nfe1 cfe1, .slice afx1 nfx1 cfx1, .slice afy1 nfy1 cfy1]) rfl (y_loadn (b := b4) (o := 0) (vs := [.slice afe1 nfe1 cfe1, .slice afx1 nfx1 cfx1, .slice afy1 nfy1 cfy1]) T10.agg_46_3 rfl rfl ((B.b 9 rfl).cells (o := 0) rfl)) ?_
        refine s_k rfl (k_call T10.fn_35 (c_l_toField (B.r 13 rfl) (B.r 14 rfl) (B.r 15 rfl) (by omega) (by omega) (by omega)) rfl ?_)
        rintro _ w66 ⟨a67, c68, a69, c70, a71, c72, rfl, hN73⟩
        replace B := B.new3 hN73
        clear hN73
        refine s_k rfl (k_allocN (z := (.agg #[.slice none 0 0, .slice none 0 0, .slice none 0 0])) (cs := [.slice none 0 0, .slice none 0 0, .slice none 0 0]) T10.zero_29 rfl (fun b74 w75 hN76 => ?_))
        replace B := B.new1 hN76
        clear hN76
        refine s_k0 rfl (k_stB (v := .agg #[.slice a67 nfe1 c68, .slice a69 nfx1 c70, .slice a71 nfy1 c72]) (n := 3) (cs' := [.slice a67 nfe1 c68, .slice a69 nfx1 c70, .slice a71 nfy1 c72]) T10.sz_29_3 rfl rfl rfl (B.b 0 rfl) (by simp [Value.cells, Value.oneCell']) (Nat.le_of_ble_eq_true rfl) rfl (fun w77 hU78 => ?_))
        replace B : Bu w no w77 [.blk b74 [.slice a67 nfe1 c68, .slice a69 nfx1 c70, .slice a71 nfy1 c72] 29, .ow kF a67 nfe1 c68 35 Xfe1, .ow kF a69 nfx1 c70 35 Xfx1, .ow kF a71 nfy1 c72 35 Xfy1, .blk b61 [.int .i64 wd0, .int .i64 hi0, .bool wr0, .slice a56 nsp0 c57, .slice a58 nls0 c59] 26, .ow kF a56 nsp0 c57 35 Xsp0, .ow kF a58 nls0 c59 35 Xls0, .ow kF a50 ((wd0 * hi0).toNat) c51 35 (smT wd0 hi0 wr0 Xsp0 Xls0 (Xfe1, Xfx1, Xfy1) (wd0 * hi0) (List.replicate (wd0 * hi0).toNat 0) (Int.toNat i2)), .ow kF a36 nfe1 c37 35 Xfe1, .ow kF a38 nfx1 c39 35 Xfx1, .ow kF a40 nfy1 c41 35 Xfy1, .ow kF a28 nsp0 c29 35 Xsp0, .ow kF a30 nls0 c31 35 Xls0, .blk b4 [.slice afe1 nfe1 cfe1, .slice afx1 nfx1 cfx1, .slice afy1 nfy1 cfy1] 46, .blk b1 [.int .i64 wd0, .int .i64 hi0, .bool wr0, .slice asp0 nsp0 csp0, .slice als0 nls0 cls0] 45, .rd kF asp0 nsp0 Xsp0, .rd kF als0 nls0 Xls0, .rd kF afe1 nfe1 Xfe1, .rd kF afx1 nfx1 Xfx1, .rd kF afy1 nfy1 Xfy1] := B.upd [0] rfl hU78
        clear hU78
        refine s_nil ?_
        refine W_seq ?_
        refine W_region (by kernel_rfl) ?_
        refine s_y (v := .agg #[.int .i64 wd0, .int .i64 hi0, .bool wr0, .slice a56 nsp0 c57, .slice a58 nls0 c59]) rfl (y_loadn (b := b61) (o := 0) (vs := [.int .i64 wd0, .int .i64 hi0, .bool wr0, .slice a56 nsp0 c57, .slice a58 nls0 c59]) T10.agg_26_5 rfl rfl ((B.b 4 rfl).cells (o := 0) rfl)) ?_
        refine s_y (v := .agg #[.slice a67 nfe1 c68, .slice a69 nfx1 c70, .slice a71 nfy1 c72]) rfl (y_loadn (b := b74) (o := 0) (vs := [.slice a67 nfe1 c68, .slice a69 nfx1 c70, .slice a71 nfy1 c72]) T10.agg_29_3 rfl rfl ((B.b 0 rfl).cells (o := 0) rfl)) ?_
        refine s_y (v := .int .i64 i2) rfl (y_move rfl) ?_
        refine s_k rfl (k_call T10.fn_62 (c_i_SumOfSteps ((B.o 5 rfl).rd) ((B.o 6 rfl).rd) ((B.o 1 rfl).rd) ((B.o 2 rfl).rd) ((B.o 3 rfl).rd) (by omega) (by omega) (by omega) (by omega) (by omega) (by omega)) rfl ?_)
        rintro v81 w79 hx80
        obtain ⟨a82, c83, rfl, hN84⟩ := (hx80.resolve_right (fun hz => by rw [c48] at hz; cases hz.1)).2
        clear hx80
        replace B := B.new1 hN84
        clear hN84
        refine s_y (v := .tuple #[.slice a82 ((wd0 * hi0).toNat) c83, .bool true]) rfl (y_move rfl) ?_
        refine s_y (v := .slice a82 ((wd0 * hi0).toNat) c83) rfl (y_extract rfl rfl) ?_
        refine s_y (v := .bool true) rfl (y_extract rfl rfl) ?_
        refine s_y (v := .slice a82 ((wd0 * hi0).toNat) c83) rfl (y_assign rfl) ?_
        refine s_y (v := .bool true) rfl (y_assign rfl) ?_
        refine s_nil ?_
        refine W_seq ?_
        refine W_seq ?_
        refine W_region (by kernel_rfl) ?_
        refine s_y (v := .slice a82 ((wd0 * hi0).toNat) c83) rfl (y_move rfl) ?_
        refine s_y (v := .slice a50 ((wd0 * hi0).toNat) c51) rfl (y_move rfl) ?_
        refine s_k rfl (k_call T10.fn_54 (c_l_eqFloat32S ((B.o 0 rfl).rd) ((B.o 8 rfl).rd) (by omega)) rfl ?_)
        rintro _ w85 ⟨rfl, e86⟩
        replace B := B.ext0 e86
        clear e86
        refine s_y (v := .bool false) rfl (y_not rfl rfl) ?_
        refine s_y (v := .bool false) rfl (y_move rfl) ?_
        refine s_y (v := .bool true) rfl (y_move rfl) ?_
        refine s_y (v := .bool true) rfl (y_move rfl) ?_
        refine s_y (v := .bool false) rfl (y_bneq T10.bool_4 rfl rfl rfl) ?_
        refine s_y (v := .bool false) rfl (y_pick_f rfl rfl) ?_
        refine s_nil ?_
        refine W_if_f (by decide) rfl ?_
        refine W_skip ?_
        refine W_seq ?_
        refine W_seq ?_
        have B0_91 := B
        refine W_draw (no) T10.mx (by kernel_rfl) (fun w89 e90 => ?_)
        have R92 := Ext.refl (no) w85
        replace R92 := R92.trans (Ext0.any e90)
        replace B := B.ext0 e90
        clear e90
        refine m_y (v := .agg #[.int .i64 wd0, .int .i64 hi0, .bool wr0, .slice a56 nsp0 c57, .slice a58 nls0 c59]) 0 rfl (by kernel_rfl) rfl rfl (fun w' e' => y_loadn (b := b61) (o := 0) (vs := [.int .i64 wd0, .int .i64 hi0, .bool wr0, .slice a56 nsp0 c57, .slice a58 nls0 c59]) T10.agg_26_5 rfl rfl (((B0_91.b 5 rfl).ext0 e').cells (o := 0) rfl)) ?_
        refine m_y (v := .agg #[.int .i64 wd0, .int .i64 hi0, .bool wr0, .slice asp0 nsp0 csp0, .slice als0 nls0 cls0]) 1 rfl (by kernel_rfl) rfl rfl (fun w' e' => y_loadn (b := b1) (o := 0) (vs := [.int .i64 wd0, .int .i64 hi0, .bool wr0, .slice asp0 nsp0 csp0, .slice als0 nls0 cls0]) T10.agg_45_5 rfl rfl (((B0_91.b 15 rfl).ext0 e').cells (o := 0) rfl)) ?_
        refine m_k 2 [3, 4] rfl (by kernel_rfl) rfl rfl (fun w93 e94 => ?_)
        replace R92 := R92.trans (Ext0.any e94)
        replace B := B.ext0 e94
        clear e94
        refine k_call T10.fn_34 (c_l_toSheet (B.r 16 rfl) (B.r 17 rfl) (by omega) (by omega)) rfl ?_
        rintro _ w95 ⟨a96, c97, a98, c99, rfl, hN100⟩
        replace R92 := R92.trans (Ext0.any hN100.ext)
        replace B := B.new2 hN100
        clear hN100
        refine ⟨fun _ => R92, ?_⟩
        refine m_k 3 [4] rfl (by kernel_rfl) rfl rfl (fun w101 e102 => ?_)
        replace R92 := R92.trans (Ext0.any e102)
        replace B := B.ext0 e102
        clear e102
        refine k_call T10.fn_38 (c_l_eqSheet ((B.o 8 rfl).rd) ((B.o 9 rfl).rd) ((B.o 0 rfl).rd) ((B.o 1 rfl).rd) (by omega) (by omega)) rfl ?_
        rintro _ w103 ⟨rfl, e104⟩
        replace R92 := R92.trans (Ext0.any e104)
        replace B := B.ext0 e104
        clear e104
        refine ⟨fun _ => R92, ?_⟩
        refine m_y (v := .bool false) 4 rfl (by kernel_rfl) rfl rfl (fun w' e' => y_not rfl rfl) ?_
        refine m_done (by kernel_rfl) (fun w105 e106 => ?_)
        replace B := B.ext0 e106
        clear e106
        clear B0_91 R92
        refine W_if_f (by decide) rfl ?_
        refine W_skip ?_
        refine W_seq ?_
        refine W_seq ?_
        have B0_111 := B
        refine W_draw (no) T10.mx (by kernel_rfl) (fun w109 e110 => ?_)
        have R112 := Ext.refl (no) w105
        replace R112 := R112.trans (Ext0.any e110)
        replace B := B.ext0 e110
        clear e110
        refine m_y (v := .agg #[.slice a67 nfe1 c68, .slice a69 nfx1 c70, .slice a71 nfy1 c72]) 0 rfl (by kernel_rfl) rfl rfl (fun w' e' => y_loadn (b := b74) (o := 0) (vs := [.slice a67 nfe1 c68, .slice a69 nfx1 c70, .slice a71 nfy1 c72]) T10.agg_29_3 rfl rfl (((B0_111.b 3 rfl).ext0 e').cells (o := 0) rfl)) ?_
        refine m_y (v := .agg #[.slice afe1 nfe1 cfe1, .slice afx1 nfx1 cfx1, .slice afy1 nfy1 cfy1]) 1 rfl (by kernel_rfl) rfl rfl (fun w' e' => y_loadn (b := b4) (o := 0) (vs := [.slice afe1 nfe1 cfe1, .slice afx1 nfx1 cfx1, .slice afy1 nfy1 cfy1]) T10.agg_46_3 rfl rfl (((B0_111.b 16 rfl).ext0 e').cells (o := 0) rfl)) ?_
        refine m_k 2 [3, 4] rfl (by kernel_rfl) rfl rfl (fun w113 e114 => ?_)
        replace R112 := R112.trans (Ext0.any e114)
        replace B := B.ext0 e114
        clear e114
        refine k_call T10.fn_35 (c_l_toField (B.r 20 rfl) (B.r 21 rfl) (B.r 22 rfl) (by omega) (by omega) (by omega)) rfl ?_
        rintro _ w115 ⟨a116, c117, a118, c119, a120, c121, rfl, hN122⟩
        replace R112 := R112.trans (Ext0.any hN122.ext)
        replace B := B.new3 hN122
        clear hN122
        refine ⟨fun _ => R112, ?_⟩
        refine m_k 3 [4] rfl (by kernel_rfl) rfl rfl (fun w123 e124 => ?_)
        replace R112 := R112.trans (Ext0.any e124)
        replace B := B.ext0 e124
        clear e124
        refine k_call T10.fn_39 (c_l_eqField ((B.o 7 rfl).rd) ((B.o 8 rfl).rd) ((B.o 9 rfl).rd) ((B.o 0 rfl).rd) ((B.o 1 rfl).rd) ((B.o 2 rfl).rd) (by omega) (by omega) (by omega)) rfl ?_
        rintro _ w125 ⟨rfl, e126⟩
        replace R112 := R112.trans (Ext0.any e126)
        replace B := B.ext0 e126
        clear e126
        refine ⟨fun _ => R112, ?_⟩
        refine m_y (v := .bool false) 4 rfl (by kernel_rfl) rfl rfl (fun w' e' => y_not rfl rfl) ?_
        refine m_done (by kernel_rfl) (fun w127 e128 => ?_)
        replace B := B.ext0 e128
        clear e128
        clear B0_111 R112
        refine W_if_f (by decide) rfl ?_
        refine W_skip ?_
        refine W_seq ?_
        refine W_region (by kernel_rfl) ?_
        refine s_y (v := .int .i64 1) rfl (y_assign rfl) ?_
        refine s_nil ?_
        refine W_seq ?_
        refine W_region (by kernel_rfl) ?_
        refine s_y (v := .agg #[.int .i64 wd0, .int .i64 hi0, .bool wr0, .slice a56 nsp0 c57, .slice a58 nls0 c59]) rfl (y_loadn (b := b61) (o := 0) (vs := [.int .i64 wd0, .int .i64 hi0, .bool wr0, .slice a56 nsp0 c57, .slice a58 nls0 c59]) T10.agg_26_5 rfl rfl ((B.b 10 rfl).cells (o := 0) rfl)) ?_
        refine s_y (v := .int .i64 1) rfl (y_move rfl) ?_
        refine s_k rfl (k_call T10.fn_40 (c_l_markSheet (by omega) (by omega) (by omega) (by omega) (B.all.pick [11, 12] rfl) (B.pw.pick [11, 12] rfl rfl)) rfl ?_)
        rintro _ w129 ⟨rfl, hU130⟩
        replace B : Bu w no w129 [.ow kF a56 nsp0 c57 35 (marks 1 nsp0), .ow kF a58 nls0 c59 35 (marks (1 + ((nsp0 : Nat) : Int)) nls0), .ow kF a116 nfe1 c117 35 Xfe1, .ow kF a118 nfx1 c119 35 Xfx1, .ow kF a120 nfy1 c121 35 Xfy1, .ow kF a96 nsp0 c97 35 Xsp0, .ow kF a98 nls0 c99 35 Xls0, .ow kF a82 ((wd0 * hi0).toNat) c83 35 (smT wd0 hi0 wr0 Xsp0 Xls0 (Xfe1, Xfx1, Xfy1) (wd0 * hi0) (List.replicate (wd0 * hi0).toNat 0) (Int.toNat i2)), .blk b74 [.slice a67 nfe1 c68, .slice a69 nfx1 c70, .slice a71 nfy1 c72] 29, .ow kF a67 nfe1 c68 35 Xfe1, .ow kF a69 nfx1 c70 35 Xfx1, .ow kF a71 nfy1 c72 35 Xfy1, .blk b61 [.int .i64 wd0, .int .i64 hi0, .bool wr0, .slice a56 nsp0 c57, .slice a58 nls0 c59] 26, .ow kF a50 ((wd0 * hi0).toNat) c51 35 (smT wd0 hi0 wr0 Xsp0 Xls0 (Xfe1, Xfx1, Xfy1) (wd0 * hi0) (List.replicate (wd0 * hi0).toNat 0) (Int.toNat i2)), .ow kF a36 nfe1 c37 35 Xfe1, .ow kF a38 nfx1 c39 35 Xfx1, .ow kF a40 nfy1 c41 35 Xfy1, .ow kF a28 nsp0 c29 35 Xsp0, .ow kF a30 nls0 c31 35 Xls0, .blk b4 [.slice afe1 nfe1 cfe1, .slice afx1 nfx1 cfx1, .slice afy1 nfy1 cfy1] 46, .blk b1 [.int .i64 wd0, .int .i64 hi0, .bool wr0, .slice asp0 nsp0 csp0, .slice als0 nls0 cls0] 45, .rd kF asp0 nsp0 Xsp0, .rd kF als0 nls0 Xls0, .rd kF afe1 nfe1 Xfe1, .rd kF afx1 nfx1 Xfx1, .rd kF afy1 nfy1 Xfy1] := B.upd [11, 12] rfl hU130
        clear hU130
        refine s_y (v := .int .i64 (1 + ((nsp0 : Nat) : Int) + ((nls0 : Nat) : Int))) rfl (y_assign rfl) ?_
        refine s_nil ?_
        refine W_seq ?_
        refine W_region (by kernel_rfl) ?_
        refine s_y (v := .agg #[.slice a67 nfe1 c68, .slice a69 nfx1 c70, .slice a71 nfy1 c72]) rfl (y_loadn (b := b74) (o := 0) (vs := [.slice a67 nfe1 c68, .slice a69 nfx1 c70, .slice a71 nfy1 c72]) T10.agg_29_3 rfl rfl ((B.b 8 rfl).cells (o := 0) rfl)) ?_
        refine s_y (v := .int .i64 (1 + ((nsp0 : Nat) : Int) + ((nls0 : Nat) : Int))) rfl (y_move rfl) ?_
        refine s_k rfl (k_call T10.fn_41 (c_l_markField (by omega) (by omega) (by omega) (by omega) (by omega) (B.all.pick [9, 10, 11] rfl) (B.pw.pick [9, 10, 11] rfl rfl)) rfl ?_)
        rintro _ w131 ⟨rfl, hU132⟩
        replace B : Bu w no w131 [.ow kF a67 nfe1 c68 35 (marks (1 + ((nsp0 : Nat) : Int) + ((nls0 : Nat) : Int)) nfe1), .ow kF a69 nfx1 c70 35 (marks ((1 + ((nsp0 : Nat) : Int) + ((nls0 : Nat) : Int)) + ((nfe1 : Nat) : Int)) nfx1), .ow kF a71 nfy1 c72 35 (marks ((1 + ((nsp0 : Nat) : Int) + ((nls0 : Nat) : Int)) + ((nfe1 : Nat) : Int) + ((nfx1 : Nat) : Int)) nfy1), .ow kF a56 nsp0 c57 35 (marks 1 nsp0), .ow kF a58 nls0 c59 35 (marks (1 + ((nsp0 : Nat) : Int)) nls0), .ow kF a116 nfe1 c117 35 Xfe1, .ow kF a118 nfx1 c119 35 Xfx1, .ow kF a120 nfy1 c121 35 Xfy1, .ow kF a96 nsp0 c97 35 Xsp0, .ow kF a98 nls0 c99 35 Xls0, .ow kF a82 ((wd0 * hi0).toNat) c83 35 (smT wd0 hi0 wr0 Xsp0 Xls0 (Xfe1, Xfx1, Xfy1) (wd0 * hi0) (List.replicate (wd0 * hi0).toNat 0) (Int.toNat i2)), .blk b74 [.slice a67 nfe1 c68, .slice a69 nfx1 c70, .slice a71 nfy1 c72] 29, .blk b61 [.int .i64 wd0, .int .i64 hi0, .bool wr0, .slice a56 nsp0 c57, .slice a58 nls0 c59] 26, .ow kF a50 ((wd0 * hi0).toNat) c51 35 (smT wd0 hi0 wr0 Xsp0 Xls0 (Xfe1, Xfx1, Xfy1) (wd0 * hi0) (List.replicate (wd0 * hi0).toNat 0) (Int.toNat i2)), .ow kF a36 nfe1 c37 35 Xfe1, .ow kF a38 nfx1 c39 35 Xfx1, .ow kF a40 nfy1 c41 35 Xfy1, .ow kF a28 nsp0 c29 35 Xsp0, .ow kF a30 nls0 c31 35 Xls0, .blk b4 [.slice afe1 nfe1 cfe1, .slice afx1 nfx1 cfx1, .slice afy1 nfy1 cfy1] 46, .blk b1 [.int .i64 wd0, .int .i64 hi0, .bool wr0, .slice asp0 nsp0 csp0, .slice als0 nls0 cls0] 45, .rd kF asp0 nsp0 Xsp0, .rd kF als0 nls0 Xls0, .rd kF afe1 nfe1 Xfe1, .rd kF afx1 nfx1 Xfx1, .rd kF afy1 nfy1 Xfy1] := B.upd [9, 10, 11] rfl hU132
        clear hU132
        refine s_y (v := .int .i64 ((1 + ((nsp0 : Nat) : Int) + ((nls0 : Nat) : Int)) + ((nfe1 : Nat) : Int) + ((nfx1 : Nat) : Int) + ((nfy1 : Nat) : Int))) rfl (y_assign rfl) ?_
        refine s_nil ?_
        refine W_seq ?_
        refine W_seq ?_
        refine W_region (by kernel_rfl) ?_
        refine s_y (v := .int .i64 ((1 + ((nsp0 : Nat) : Int) + ((nls0 : Nat) : Int)) + ((nfe1 : Nat) : Int) + ((nfx1 : Nat) : Int) + ((nfy1 : Nat) : Int))) rfl (y_move rfl) ?_
        have hk133 : ¬ (((1 + ((nsp0 : Nat) : Int) + ((nls0 : Nat) : Int)) + ((nfe1 : Nat) : Int) + ((nfx1 : Nat) : Int) + ((nfy1 : Nat) : Int)) < 0) := (by omega)
        refine s_y (v := .bool false) rfl (y_lss rfl rfl (decide_eq_false hk133)) ?_
        refine s_y (v := .bool false) rfl (y_move rfl) ?_
        refine s_y (v := .slice a82 ((wd0 * hi0).toNat) c83) rfl (y_move rfl) ?_
        refine s_y (v := .slice a50 ((wd0 * hi0).toNat) c51) rfl (y_move rfl) ?_
        refine s_k rfl (k_call T10.fn_54 (c_l_eqFloat32S ((B.o 10 rfl).rd) ((B.o 13 rfl).rd) (by omega)) rfl ?_)
        rintro _ w134 ⟨rfl, e135⟩
        replace B := B.ext0 e135
        clear e135
        refine s_y (v := .bool false) rfl (y_not rfl rfl) ?_
        refine s_y (v := .bool false) rfl (y_pick_f rfl rfl) ?_
        refine s_y (v := .bool false) rfl (y_move rfl) ?_
        refine s_y (v := .bool true) rfl (y_move rfl) ?_
        refine s_y (v := .bool true) rfl (y_move rfl) ?_
        refine s_y (v := .bool false) rfl (y_bneq T10.bool_4 rfl rfl rfl) ?_
        refine s_y (v := .bool false) rfl (y_pick_f rfl rfl) ?_
        refine s_nil ?_
        refine W_if_f (by decide) rfl ?_
        refine W_skip ?_
        refine W_seq ?_
        refine W_region (by kernel_rfl) ?_
        refine s_y (v := .int .i64 1) rfl (y_assign rfl) ?_
        refine s_nil ?_
        refine W_seq ?_
        refine W_region (by kernel_rfl) ?_
        refine s_y (v := .slice a82 ((wd0 * hi0).toNat) c83) rfl (y_move rfl) ?_
        refine s_y (v := .int .i64 1) rfl (y_move rfl) ?_
        refine s_k rfl (k_call T10.fn_57 (c_l_markFloat32S (by omega) (by omega) (by omega) (B.all.pick [10] rfl) (B.pw.pick [10] rfl rfl)) rfl ?_)
        rintro _ w136 ⟨rfl, hU137⟩
        replace B : Bu w no w136 [.ow kF a82 ((wd0 * hi0).toNat) c83 35 (marks 1 ((wd0 * hi0).toNat)), .ow kF a67 nfe1 c68 35 (marks (1 + ((nsp0 : Nat) : Int) + ((nls0 : Nat) : Int)) nfe1), .ow kF a69 nfx1 c70 35 (marks ((1 + ((nsp0 : Nat) : Int) + ((nls0 : Nat) : Int)) + ((nfe1 : Nat) : Int)) nfx1), .ow kF a71 nfy1 c72 35 (marks ((1 + ((nsp0 : Nat) : Int) + ((nls0 : Nat) : Int)) + ((nfe1 : Nat) : Int) + ((nfx1 : Nat) : Int)) nfy1), .ow kF a56 nsp0 c57 35 (marks 1 nsp0), .ow kF a58 nls0 c59 35 (marks (1 + ((nsp0 : Nat) : Int)) nls0), .ow kF a116 nfe1 c117 35 Xfe1, .ow kF a118 nfx1 c119 35 Xfx1, .ow kF a120 nfy1 c121 35 Xfy1, .ow kF a96 nsp0 c97 35 Xsp0, .ow kF a98 nls0 c99 35 Xls0, .blk b74 [.slice a67 nfe1 c68, .slice a69 nfx1 c70, .slice a71 nfy1 c72] 29, .blk b61 [.int .i64 wd0, .int .i64 hi0, .bool wr0, .slice a56 nsp0 c57, .slice a58 nls0 c59] 26, .ow kF a50 ((wd0 * hi0).toNat) c51 35 (smT wd0 hi0 wr0 Xsp0 Xls0 (Xfe1, Xfx1, Xfy1) (wd0 * hi0) (List.replicate (wd0 * hi0).toNat 0) (Int.toNat i2)), .ow kF a36 nfe1 c37 35 Xfe1, .ow kF a38 nfx1 c39 35 Xfx1, .ow kF a40 nfy1 c41 35 Xfy1, .ow kF a28 nsp0 c29 35 Xsp0, .ow kF a30 nls0 c31 35 Xls0, .blk b4 [.slice afe1 nfe1 cfe1, .slice afx1 nfx1 cfx1, .slice afy1 nfy1 cfy1] 46, .blk b1 [.int .i64 wd0, .int .i64 hi0, .bool wr0, .slice asp0 nsp0 csp0, .slice als0 nls0 cls0] 45, .rd kF asp0 nsp0 Xsp0, .rd kF als0 nls0 Xls0, .rd kF afe1 nfe1 Xfe1, .rd kF afx1 nfx1 Xfx1, .rd kF afy1 nfy1 Xfy1] := B.upd [10] rfl hU137
        clear hU137
        refine s_y (v := .int .i64 (1 + (((wd0 * hi0).toNat : Nat) : Int))) rfl (y_assign rfl) ?_
        refine s_nil ?_
        refine W_seq ?_
        refine W_region (by kernel_rfl) ?_
        refine s_y (v := .int .i64 1) rfl (y_assign rfl) ?_
        refine s_nil ?_
        refine W_seq ?_
        refine W_region (by kernel_rfl) ?_
        refine s_y (v := .slice a82 ((wd0 * hi0).toNat) c83) rfl (y_move rfl) ?_
        refine s_y (v := .int .i64 1) rfl (y_move rfl) ?_
        refine s_k rfl (k_call T10.fn_58 (c_l_heldFloat32S ((B.o 0 rfl).rd) (by omega) (by omega) (by omega)) rfl ?_)
        rintro _ w138 ⟨rfl, e139⟩
        replace B := B.ext0 e139
        clear e139
        refine s_y (v := .int .i64 (1 + (((wd0 * hi0).toNat : Nat) : Int))) rfl (y_assign rfl) ?_
        refine s_nil ?_
        refine W_seq ?_
        refine W_seq ?_
        refine W_region (by kernel_rfl) ?_
        refine s_y (v := .int .i64 (1 + (((wd0 * hi0).toNat : Nat) : Int))) rfl (y_move rfl) ?_
        have hk140 : ¬ ((1 + (((wd0 * hi0).toNat : Nat) : Int)) < 0) := (by omega)
        refine s_y (v := .bool false) rfl (y_lss rfl rfl (decide_eq_false hk140)) ?_
        refine s_nil ?_
        refine W_if_f (by decide) rfl ?_
        refine W_skip ?_
        refine W_seq ?_
        refine W_seq ?_
        refine W_region (by kernel_rfl) ?_
        refine s_y (v := .int .i64 (1 + (((wd0 * hi0).toNat : Nat) : Int))) rfl (y_move rfl) ?_
        refine s_y (v := .int .i64 (1 + (((wd0 * hi0).toNat : Nat) : Int))) rfl (y_move rfl) ?_
        refine s_y (v := .bool false) rfl (y_neq rfl rfl (decide_eq_false (fun hq => hq rfl))) ?_
        refine s_nil ?_
        refine W_if_f (by decide) rfl ?_
        refine W_skip ?_
        refine W_seq ?_
        have B0_145 := B
        refine W_draw (no) T10.mx (by kernel_rfl) (fun w143 e144 => ?_)
        have R146 := Ext.refl (no) w138
        replace R146 := R146.trans (Ext0.any e144)
        replace B := B.ext0 e144
        clear e144
        refine m_y (v := .agg #[.int .i64 wd0, .int .i64 hi0, .bool wr0, .slice asp0 nsp0 csp0, .slice als0 nls0 cls0]) 0 rfl (by kernel_rfl) rfl rfl (fun w' e' => y_loadn (b := b1) (o := 0) (vs := [.int .i64 wd0, .int .i64 hi0, .bool wr0, .slice asp0 nsp0 csp0, .slice als0 nls0 cls0]) T10.agg_45_5 rfl rfl (((B0_145.b 20 rfl).ext0 e').cells (o := 0) rfl)) ?_
        refine m_y (v := .agg #[.slice afe1 nfe1 cfe1, .slice afx1 nfx1 cfx1, .slice afy1 nfy1 cfy1]) 2 rfl (by kernel_rfl) rfl rfl (fun w' e' => y_loadn (b := b4) (o := 0) (vs := [.slice afe1 nfe1 cfe1, .slice afx1 nfx1 cfx1, .slice afy1 nfy1 cfy1]) T10.agg_46_3 rfl rfl (((B0_145.b 19 rfl).ext0 e').cells (o := 0) rfl)) ?_
        refine m_y (v := .int .i64 i2) 4 rfl (by kernel_rfl) rfl rfl (fun w' e' => y_move rfl) ?_
        refine m_k 1 [3, 5, 6, 7, 8, 9, 10] rfl (by kernel_rfl) rfl rfl (fun w147 e148 => ?_)
        replace R146 := R146.trans (Ext0.any e148)
        replace B := B.ext0 e148
        clear e148
        refine k_call T10.fn_34 (c_l_toSheet (B.r 21 rfl) (B.r 22 rfl) (by omega) (by omega)) rfl ?_
        rintro _ w149 ⟨a150, c151, a152, c153, rfl, hN154⟩
        replace R146 := R146.trans (Ext0.any hN154.ext)
        replace B := B.new2 hN154
        clear hN154
        refine ⟨fun _ => R146, ?_⟩
        refine m_k 3 [5, 6, 7, 8, 9, 10] rfl (by kernel_rfl) rfl rfl (fun w155 e156 => ?_)
        replace R146 := R146.trans (Ext0.any e156)
        replace B := B.ext0 e156
        clear e156
        refine k_call T10.fn_35 (c_l_toField (B.r 25 rfl) (B.r 26 rfl) (B.r 27 rfl) (by omega) (by omega) (by omega)) rfl ?_
        rintro _ w157 ⟨a158, c159, a160, c161, a162, c163, rfl, hN164⟩
        replace R146 := R146.trans (Ext0.any hN164.ext)
        replace B := B.new3 hN164
        clear hN164
        refine ⟨fun _ => R146, ?_⟩
        refine m_k 5 [6, 7, 8, 9, 10] rfl (by kernel_rfl) rfl rfl (fun w165 e166 => ?_)
        replace R146 := R146.trans (Ext0.any e166)
        replace B := B.ext0 e166
        clear e166
        refine k_call T10.fn_62 (c_i_SumOfSteps ((B.o 3 rfl).rd) ((B.o 4 rfl).rd) ((B.o 0 rfl).rd) ((B.o 1 rfl).rd) ((B.o 2 rfl).rd) (by omega) (by omega) (by omega) (by omega) (by omega) (by omega)) rfl ?_
        rintro v169 w167 hx168
        obtain ⟨a170, c171, rfl, hN172⟩ := (hx168.resolve_right (fun hz => by rw [c48] at hz; cases hz.1)).2
        clear hx168
        replace R146 := R146.trans (Ext0.any hN172.ext)
        replace B := B.new1 hN172
        clear hN172
        refine ⟨fun _ => R146, ?_⟩
        refine m_y (v := .tuple #[.slice a170 ((wd0 * hi0).toNat) c171, .bool true]) 6 rfl (by kernel_rfl) rfl rfl (fun w' e' => y_move rfl) ?_
        refine m_y (v := .slice a170 ((wd0 * hi0).toNat) c171) 7 rfl (by kernel_rfl) rfl rfl (fun w' e' => y_extract rfl rfl) ?_
        refine m_y (v := .bool true) 8 rfl (by kernel_rfl) rfl rfl (fun w' e' => y_extract rfl rfl) ?_
        refine m_y (v := .slice a170 ((wd0 * hi0).toNat) c171) 9 rfl (by kernel_rfl) rfl rfl (fun w' e' => y_assign rfl) ?_
        refine m_y (v := .bool true) 10 rfl (by kernel_rfl) rfl rfl (fun w' e' => y_assign rfl) ?_
        refine m_done (by kernel_rfl) (fun w173 e174 => ?_)
        replace B := B.ext0 e174
        clear e174
        clear B0_145 R146
        refine W_seq ?_
        refine W_seq ?_
        refine W_region (by kernel_rfl) ?_
        refine s_y (v := .slice a170 ((wd0 * hi0).toNat) c171) rfl (y_move rfl) ?_
        refine s_y (v := .slice a50 ((wd0 * hi0).toNat) c51) rfl (y_move rfl) ?_
        refine s_k rfl (k_call T10.fn_54 (c_l_eqFloat32S ((B.o 0 rfl).rd) ((B.o 19 rfl).rd) (by omega)) rfl ?_)
        rintro _ w175 ⟨rfl, e176⟩
        replace B := B.ext0 e176
        clear e176
        refine s_y (v := .bool false) rfl (y_not rfl rfl) ?_
        refine s_y (v := .bool false) rfl (y_move rfl) ?_
        refine s_y (v := .bool true) rfl (y_move rfl) ?_
        refine s_y (v := .bool true) rfl (y_move rfl) ?_
        refine s_y (v := .bool false) rfl (y_bneq T10.bool_4 rfl rfl rfl) ?_
        refine s_y (v := .bool false) rfl (y_pick_f rfl rfl) ?_
        refine s_nil ?_
        refine W_if_f (by decide) rfl ?_
        refine W_skip ?_
        refine W_seq ?_
        refine W_region (by kernel_rfl) ?_
        refine s_y (v := .int .i64 1) rfl (y_assign rfl) ?_
        refine s_nil ?_
        refine W_seq ?_
        refine W_region (by kernel_rfl) ?_
        refine s_y (v := .slice a82 ((wd0 * hi0).toNat) c83) rfl (y_move rfl) ?_
        refine s_y (v := .int .i64 1) rfl (y_move rfl) ?_
        refine s_k rfl (k_call T10.fn_58 (c_l_heldFloat32S ((B.o 6 rfl).rd) (by omega) (by omega) (by omega)) rfl ?_)
        rintro _ w177 ⟨rfl, e178⟩
        replace B := B.ext0 e178
        clear e178
        refine s_y (v := .int .i64 (1 + (((wd0 * hi0).toNat : Nat) : Int))) rfl (y_assign rfl) ?_
        refine s_nil ?_
        refine W_seq ?_
        refine W_seq ?_
        refine W_region (by kernel_rfl) ?_
        refine s_y (v := .int .i64 (1 + (((wd0 * hi0).toNat : Nat) : Int))) rfl (y_move rfl) ?_
        refine s_y (v := .bool false) rfl (y_lss rfl rfl (decide_eq_false hk140)) ?_
        refine s_nil ?_
        refine W_if_f (by decide) rfl ?_
        refine W_skip ?_
        refine W_seq ?_
        refine W_seq ?_
        refine W_region (by kernel_rfl) ?_
        refine s_y (v := .int .i64 (1 + (((wd0 * hi0).toNat : Nat) : Int))) rfl (y_move rfl) ?_
        refine s_y (v := .int .i64 (1 + (((wd0 * hi0).toNat : Nat) : Int))) rfl (y_move rfl) ?_
        refine s_y (v := .bool false) rfl (y_neq rfl rfl (decide_eq_false (fun hq => hq rfl))) ?_
        refine s_nil ?_
        refine W_if_f (by decide) rfl ?_
        refine W_skip ?_
        refine W_seq ?_
        refine W_region (by kernel_rfl) ?_
        refine s_y (v := .bool true) rfl (y_assign rfl) ?_
        refine s_nil ?_
        refine W_ret ?_
        refine ret1 (v := .bool true) rfl rfl rfl ⟨_, rfl, ?_⟩
        exact ⟨rfl, B.ext⟩
      · obtain ⟨_, rfl, e179⟩ := hx46.resolve_left (fun hz => c48 hz.1)
        clear hx46
        replace R24 := R24.trans (Ext0.any e179)
        replace B := B.ext0 e179
        clear e179
        refine ⟨fun _ => R24, ?_⟩
        refine m_y (v := .tuple #[.slice none 0 0, .bool false]) 6 rfl (by kernel_rfl) rfl rfl (fun w' e' => y_move rfl) ?_
        refine m_y (v := .slice none 0 0) 7 rfl (by kernel_rfl) rfl rfl (fun w' e' => y_extract rfl rfl) ?_
        refine m_y (v := .bool false) 8 rfl (by kernel_rfl) rfl rfl (fun w' e' => y_extract rfl rfl) ?_
        refine m_y (v := .slice none 0 0) 9 rfl (by kernel_rfl) rfl rfl (fun w' e' => y_assign rfl) ?_
        refine m_y (v := .bool false) 10 rfl (by kernel_rfl) rfl rfl (fun w' e' => y_assign rfl) ?_
        refine m_done (by kernel_rfl) (fun w180 e181 => ?_)
        replace B := B.ext0 e181
        clear e181
        clear B0_23 R24
        refine W_seq ?_
        refine W_region (by kernel_rfl) ?_
        refine s_y (v := .agg #[.int .i64 wd0, .int .i64 hi0, .bool wr0, .slice asp0 nsp0 csp0, .slice als0 nls0 cls0]) rfl (y_loadn (b := b1) (o := 0) (vs := [.int .i64 wd0, .int .i64 hi0, .bool wr0, .slice asp0 nsp0 csp0, .slice als0 nls0 cls0]) T10.agg_45_5 rfl rfl ((B.b 6 rfl).cells (o := 0) rfl)) ?_
        refine s_k rfl (k_call T10.fn_34 (c_l_toSheet (B.r 7 rfl) (B.r 8 rfl) (by omega) (by omega)) rfl ?_)
        rintro _ w182 ⟨a183, c184, a185, c186, rfl, hN187⟩
        replace B := B.new2 hN187
        clear hN187
        refine s_k rfl (k_allocN (z := (.agg #[.int .i64 0, .int .i64 0, .bool false, .slice none 0 0, .slice none 0 0])) (cs := [.int .i64 0, .int .i64 0, .bool false, .slice none 0 0, .slice none 0 0]) T10.zero_26 rfl (fun b188 w189 hN190 => ?_))
        replace B := B.new1 hN190
        clear hN190
        refine s_k0 rfl (k_stB (v := .agg #[.int .i64 wd0, .int .i64 hi0, .bool wr0, .slice a183 nsp0 c184, .slice a185 nls0 c186]) (n := 5) (cs' := [.int .i64 wd0, .int .i64 hi0, .bool wr0, .slice a183 nsp0 c184, .slice a185 nls0 c186]) T10.sz_26_5 rfl rfl rfl (B.b 0 rfl) (by simp [Value.cells, Value.oneCell']) (Nat.le_of_ble_eq_true rfl) rfl (fun w191 hU192 => ?_))
        replace B : Bu w no w191 [.blk b188 [.int .i64 wd0, .int .i64 hi0, .bool wr0, .slice a183 nsp0 c184, .slice a185 nls0 c186] 26, .ow kF a183 nsp0 c184 35 Xsp0, .ow kF a185 nls0 c186 35 Xls0, .ow kF a36 nfe1 c37 35 Xfe1, .ow kF a38 nfx1 c39 35 Xfx1, .ow kF a40 nfy1 c41 35 Xfy1, .ow kF a28 nsp0 c29 35 Xsp0, .ow kF a30 nls0 c31 35 Xls0, .blk b4 [.slice afe1 nfe1 cfe1, .slice afx1 nfx1 cfx1, .slice afy1 nfy1 cfy1] 46, .blk b1 [.int .i64 wd0, .int .i64 hi0, .bool wr0, .slice asp0 nsp0 csp0, .slice als0 nls0 cls0] 45, .rd kF asp0 nsp0 Xsp0, .rd kF als0 nls0 Xls0, .rd kF afe1 nfe1 Xfe1, .rd kF afx1 nfx1 Xfx1, .rd kF afy1 nfy1 Xfy1] := B.upd [0] rfl hU192
        clear hU192
        refine s_nil ?_
        refine W_seq ?_
        refine W_region (by kernel_rfl) ?_
        refine s_y (v := .agg #[.slice afe1 nfe1 cfe1, .slice afx1 nfx1 cfx1, .slice afy1 nfy1 cfy1]) rfl (y_loadn (b := b4) (o := 0) (vs := [.slice afe1 nfe1 cfe1, .slice afx1 nfx1 cfx1, .slice afy1 nfy1 cfy1]) T10.agg_46_3 rfl rfl ((B.b 8 rfl).cells (o := 0) rfl)) ?_
        refine s_k rfl (k_call T10.fn_35 (c_l_toField (B.r 12 rfl) (B.r 13 rfl) (B.r 14 rfl) (by omega) (by omega) (by omega)) rfl ?_)
        rintro _ w193 ⟨a194, c195, a196, c197, a198, c199, rfl, hN200⟩
        replace B := B.new3 hN200
        clear hN200
        refine s_k rfl (k_allocN (z := (.agg #[.slice none 0 0, .slice none 0 0, .slice none 0 0])) (cs := [.slice none 0 0, .slice none 0 0, .slice none 0 0]) T10.zero_29 rfl (fun b201 w202 hN203 => ?_))
        replace B := B.new1 hN203
        clear hN203
        refine s_k0 rfl (k_stB (v := .agg #[.slice a194 nfe1 c195, .slice a196 nfx1 c197, .slice a198 nfy1 c199]) (n := 3) (cs' := [.slice a194 nfe1 c195, .slice a196 nfx1 c197, .slice a198 nfy1 c199]) T10.sz_29_3 rfl rfl rfl (B.b 0 rfl) (by simp [Value.cells, Value.oneCell']) (Nat.le_of_ble_eq_true rfl) rfl (fun w204 hU205 => ?_))
        replace B : Bu w no w204 [.blk b201 [.slice a194 nfe1 c195, .slice a196 nfx1 c197, .slice a198 nfy1 c199] 29, .ow kF a194 nfe1 c195 35 Xfe1, .ow kF a196 nfx1 c197 35 Xfx1, .ow kF a198 nfy1 c199 35 Xfy1, .blk b188 [.int .i64 wd0, .int .i64 hi0, .bool wr0, .slice a183 nsp0 c184, .slice a185 nls0 c186] 26, .ow kF a183 nsp0 c184 35 Xsp0, .ow kF a185 nls0 c186 35 Xls0, .ow kF a36 nfe1 c37 35 Xfe1, .ow kF a38 nfx1 c39 35 Xfx1, .ow kF a40 nfy1 c41 35 Xfy1, .ow kF a28 nsp0 c29 35 Xsp0, .ow kF a30 nls0 c31 35 Xls0, .blk b4 [.slice afe1 nfe1 cfe1, .slice afx1 nfx1 cfx1, .slice afy1 nfy1 cfy1] 46, .blk b1 [.int .i64 wd0, .int .i64 hi0, .bool wr0, .slice asp0 nsp0 csp0, .slice als0 nls0 cls0] 45, .rd kF asp0 nsp0 Xsp0, .rd kF als0 nls0 Xls0, .rd kF afe1 nfe1 Xfe1, .rd kF afx1 nfx1 Xfx1, .rd kF afy1 nfy1 Xfy1] := B.upd [0] rfl hU205
        clear hU205
        refine s_nil ?_
        refine W_seq ?_
        refine W_region (by kernel_rfl) ?_
        refine s_y (v := .agg #[.int .i64 wd0, .int .i64 hi0, .bool wr0, .slice a183 nsp0 c184, .slice a185 nls0 c186]) rfl (y_loadn (b := b188) (o := 0) (vs := [.int .i64 wd0, .int .i64 hi0, .bool wr0, .slice a183 nsp0 c184, .slice a185 nls0 c186]) T10.agg_26_5 rfl rfl ((B.b 4 rfl).cells (o := 0) rfl)) ?_
        refine s_y (v := .agg #[.slice a194 nfe1 c195, .slice a196 nfx1 c197, .slice a198 nfy1 c199]) rfl (y_loadn (b := b201) (o := 0) (vs := [.slice a194 nfe1 c195, .slice a196 nfx1 c197, .slice a198 nfy1 c199]) T10.agg_29_3 rfl rfl ((B.b 0 rfl).cells (o := 0) rfl)) ?_
        refine s_y (v := .int .i64 i2) rfl (y_move rfl) ?_
        refine s_k rfl (k_call T10.fn_62 (c_i_SumOfSteps ((B.o 5 rfl).rd) ((B.o 6 rfl).rd) ((B.o 1 rfl).rd) ((B.o 2 rfl).rd) ((B.o 3 rfl).rd) (by omega) (by omega) (by omega) (by omega) (by omega) (by omega)) rfl ?_)
        rintro v208 w206 hx207
        obtain ⟨_, rfl, e209⟩ := hx207.resolve_left (fun hz => c48 hz.1)
        clear hx207
        replace B := B.ext0 e209
        clear e209
        refine s_y (v := .tuple #[.slice none 0 0, .bool false]) rfl (y_move rfl) ?_
        refine s_y (v := .slice none 0 0) rfl (y_extract rfl rfl) ?_
        refine s_y (v := .bool false) rfl (y_extract rfl rfl) ?_
        refine s_y (v := .slice none 0 0) rfl (y_assign rfl) ?_
        refine s_y (v := .bool false) rfl (y_assign rfl) ?_
        refine s_nil ?_
        refine W_seq ?_
        refine W_seq ?_
        refine W_region (by kernel_rfl) ?_
        refine s_y (v := .slice none 0 0) rfl (y_move rfl) ?_
        refine s_y (v := .slice none 0 0) rfl (y_move rfl) ?_
        refine s_k rfl (k_call T10.fn_54 (c_l_eqFloat32S (Rd.nil _ kF none) (Rd.nil _ kF none) (by omega)) rfl ?_)
        rintro _ w210 ⟨rfl, e211⟩
        replace B := B.ext0 e211
        clear e211
        refine s_y (v := .bool false) rfl (y_not rfl rfl) ?_
        refine s_y (v := .bool false) rfl (y_move rfl) ?_
        refine s_y (v := .bool false) rfl (y_move rfl) ?_
        refine s_y (v := .bool false) rfl (y_move rfl) ?_
        refine s_y (v := .bool false) rfl (y_bneq T10.bool_4 rfl rfl rfl) ?_
        refine s_y (v := .bool false) rfl (y_pick_f rfl rfl) ?_
        refine s_nil ?_
        refine W_if_f (by decide) rfl ?_
        refine W_skip ?_
        refine W_seq ?_
        refine W_seq ?_
        have B0_216 := B
        refine W_draw (no) T10.mx (by kernel_rfl) (fun w214 e215 => ?_)
        have R217 := Ext.refl (no) w210
        replace R217 := R217.trans (Ext0.any e215)
        replace B := B.ext0 e215
        clear e215
        refine m_y (v := .agg #[.int .i64 wd0, .int .i64 hi0, .bool wr0, .slice a183 nsp0 c184, .slice a185 nls0 c186]) 0 rfl (by kernel_rfl) rfl rfl (fun w' e' => y_loadn (b := b188) (o := 0) (vs := [.int .i64 wd0, .int .i64 hi0, .bool wr0, .slice a183 nsp0 c184, .slice a185 nls0 c186]) T10.agg_26_5 rfl rfl (((B0_216.b 4 rfl).ext0 e').cells (o := 0) rfl)) ?_
        refine m_y (v := .agg #[.int .i64 wd0, .int .i64 hi0, .bool wr0, .slice asp0 nsp0 csp0, .slice als0 nls0 cls0]) 1 rfl (by kernel_rfl) rfl rfl (fun w' e' => y_loadn (b := b1) (o := 0) (vs := [.int .i64 wd0, .int .i64 hi0, .bool wr0, .slice asp0 nsp0 csp0, .slice als0 nls0 cls0]) T10.agg_45_5 rfl rfl (((B0_216.b 13 rfl).ext0 e').cells (o := 0) rfl)) ?_
        refine m_k 2 [3, 4] rfl (by kernel_rfl) rfl rfl (fun w218 e219 => ?_)
        replace R217 := R217.trans (Ext0.any e219)
        replace B := B.ext0 e219
        clear e219
        refine k_call T10.fn_34 (c_l_toSheet (B.r 14 rfl) (B.r 15 rfl) (by omega) (by omega)) rfl ?_
        rintro _ w220 ⟨a221, c222, a223, c224, rfl, hN225⟩
        replace R217 := R217.trans (Ext0.any hN225.ext)
        replace B := B.new2 hN225
        clear hN225
        refine ⟨fun _ => R217, ?_⟩
        refine m_k 3 [4] rfl (by kernel_rfl) rfl rfl (fun w226 e227 => ?_)
        replace R217 := R217.trans (Ext0.any e227)
        replace B := B.ext0 e227
        clear e227
        refine k_call T10.fn_38 (c_l_eqSheet ((B.o 7 rfl).rd) ((B.o 8 rfl).rd) ((B.o 0 rfl).rd) ((B.o 1 rfl).rd) (by omega) (by omega)) rfl ?_
        rintro _ w228 ⟨rfl, e229⟩
        replace R217 := R217.trans (Ext0.any e229)
        replace B := B.ext0 e229
        clear e229
        refine ⟨fun _ => R217, ?_⟩
        refine m_y (v := .bool false) 4 rfl (by kernel_rfl) rfl rfl (fun w' e' => y_not rfl rfl) ?_
        refine m_done (by kernel_rfl) (fun w230 e231 => ?_)
        replace B := B.ext0 e231
        clear e231
        clear B0_216 R217
        refine W_if_f (by decide) rfl ?_
        refine W_skip ?_
        refine W_seq ?_
        refine W_seq ?_
        have B0_236 := B
        refine W_draw (no) T10.mx (by kernel_rfl) (fun w234 e235 => ?_)
        have R237 := Ext.refl (no) w230
        replace R237 := R237.trans (Ext0.any e235)
        replace B := B.ext0 e235
        clear e235
        refine m_y (v := .agg #[.slice a194 nfe1 c195, .slice a196 nfx1 c197, .slice a198 nfy1 c199]) 0 rfl (by kernel_rfl) rfl rfl (fun w' e' => y_loadn (b := b201) (o := 0) (vs := [.slice a194 nfe1 c195, .slice a196 nfx1 c197, .slice a198 nfy1 c199]) T10.agg_29_3 rfl rfl (((B0_236.b 2 rfl).ext0 e').cells (o := 0) rfl)) ?_
        refine m_y (v := .agg #[.slice afe1 nfe1 cfe1, .slice afx1 nfx1 cfx1, .slice afy1 nfy1 cfy1]) 1 rfl (by kernel_rfl) rfl rfl (fun w' e' => y_loadn (b := b4) (o := 0) (vs := [.slice afe1 nfe1 cfe1, .slice afx1 nfx1 cfx1, .slice afy1 nfy1 cfy1]) T10.agg_46_3 rfl rfl (((B0_236.b 14 rfl).ext0 e').cells (o := 0) rfl)) ?_
        refine m_k 2 [3, 4] rfl (by kernel_rfl) rfl rfl (fun w238 e239 => ?_)
        replace R237 := R237.trans (Ext0.any e239)
        replace B := B.ext0 e239
        clear e239
        refine k_call T10.fn_35 (c_l_toField (B.r 18 rfl) (B.r 19 rfl) (B.r 20 rfl) (by omega) (by omega) (by omega)) rfl ?_
        rintro _ w240 ⟨a241, c242, a243, c244, a245, c246, rfl, hN247⟩
        replace R237 := R237.trans (Ext0.any hN247.ext)
        replace B := B.new3 hN247
        clear hN247
        refine ⟨fun _ => R237, ?_⟩
        refine m_k 3 [4] rfl (by kernel_rfl) rfl rfl (fun w248 e249 => ?_)
        replace R237 := R237.trans (Ext0.any e249)
        replace B := B.ext0 e249
        clear e249
        refine k_call T10.fn_39 (c_l_eqField ((B.o 6 rfl).rd) ((B.o 7 rfl).rd) ((B.o 8 rfl).rd) ((B.o 0 rfl).rd) ((B.o 1 rfl).rd) ((B.o 2 rfl).rd) (by omega) (by omega) (by omega)) rfl ?_
        rintro _ w250 ⟨rfl, e251⟩
        replace R237 := R237.trans (Ext0.any e251)
        replace B := B.ext0 e251
        clear e251
        refine ⟨fun _ => R237, ?_⟩
        refine m_y (v := .bool false) 4 rfl (by kernel_rfl) rfl rfl (fun w' e' => y_not rfl rfl) ?_
        refine m_done (by kernel_rfl) (fun w252 e253 => ?_)
        replace B := B.ext0 e253
        clear e253
        clear B0_236 R237
        refine W_if_f (by decide) rfl ?_
        refine W_skip ?_
        refine W_seq ?_
        refine W_region (by kernel_rfl) ?_
        refine s_y (v := .int .i64 1) rfl (y_assign rfl) ?_
        refine s_nil ?_
        refine W_seq ?_
        refine W_region (by kernel_rfl) ?_
        refine s_y (v := .agg #[.int .i64 wd0, .int .i64 hi0, .bool wr0, .slice a183 nsp0 c184, .slice a185 nls0 c186]) rfl (y_loadn (b := b188) (o := 0) (vs := [.int .i64 wd0, .int .i64 hi0, .bool wr0, .slice a183 nsp0 c184, .slice a185 nls0 c186]) T10.agg_26_5 rfl rfl ((B.b 9 rfl).cells (o := 0) rfl)) ?_
        refine s_y (v := .int .i64 1) rfl (y_move rfl) ?_
        refine s_k rfl (k_call T10.fn_40 (c_l_markSheet (by omega) (by omega) (by omega) (by omega) (B.all.pick [10, 11] rfl) (B.pw.pick [10, 11] rfl rfl)) rfl ?_)
        rintro _ w254 ⟨rfl, hU255⟩
        replace B : Bu w no w254 [.ow kF a183 nsp0 c184 35 (marks 1 nsp0), .ow kF a185 nls0 c186 35 (marks (1 + ((nsp0 : Nat) : Int)) nls0), .ow kF a241 nfe1 c242 35 Xfe1, .ow kF a243 nfx1 c244 35 Xfx1, .ow kF a245 nfy1 c246 35 Xfy1, .ow kF a221 nsp0 c222 35 Xsp0, .ow kF a223 nls0 c224 35 Xls0, .blk b201 [.slice a194 nfe1 c195, .slice a196 nfx1 c197, .slice a198 nfy1 c199] 29, .ow kF a194 nfe1 c195 35 Xfe1, .ow kF a196 nfx1 c197 35 Xfx1, .ow kF a198 nfy1 c199 35 Xfy1, .blk b188 [.int .i64 wd0, .int .i64 hi0, .bool wr0, .slice a183 nsp0 c184, .slice a185 nls0 c186] 26, .ow kF a36 nfe1 c37 35 Xfe1, .ow kF a38 nfx1 c39 35 Xfx1, .ow kF a40 nfy1 c41 35 Xfy1, .ow kF a28 nsp0 c29 35 Xsp0, .ow kF a30 nls0 c31 35 Xls0, .blk b4 [.slice afe1 nfe1 cfe1, .slice afx1 nfx1 cfx1, .slice afy1 nfy1 cfy1] 46, .blk b1 [.int .i64 wd0, .int .i64 hi0, .bool wr0, .slice asp0 nsp0 csp0, .slice als0 nls0 cls0] 45, .rd kF asp0 nsp0 Xsp0, .rd kF als0 nls0 Xls0, .rd kF afe1 nfe1 Xfe1, .rd kF afx1 nfx1 Xfx1, .rd kF afy1 nfy1 Xfy1] := B.upd [10, 11] rfl hU255
        clear hU255
        refine s_y (v := .int .i64 (1 + ((nsp0 : Nat) : Int) + ((nls0 : Nat) : Int))) rfl (y_assign rfl) ?_
        refine s_nil ?_
        refine W_seq ?_
        refine W_region (by kernel_rfl) ?_
        refine s_y (v := .agg #[.slice a194 nfe1 c195, .slice a196 nfx1 c197, .slice a198 nfy1 c199]) rfl (y_loadn (b := b201) (o := 0) (vs := [.slice a194 nfe1 c195, .slice a196 nfx1 c197, .slice a198 nfy1 c199]) T10.agg_29_3 rfl rfl ((B.b 7 rfl).cells (o := 0) rfl)) ?_
        refine s_y (v := .int .i64 (1 + ((nsp0 : Nat) : Int) + ((nls0 : Nat) : Int))) rfl (y_move rfl) ?_
        refine s_k rfl (k_call T10.fn_41 (c_l_markField (by omega) (by omega) (by omega) (by omega) (by omega) (B.all.pick [8, 9, 10] rfl) (B.pw.pick [8, 9, 10] rfl rfl)) rfl ?_)
        rintro _ w256 ⟨rfl, hU257⟩
        replace B : Bu w no w256 [.ow kF a194 nfe1 c195 35 (marks (1 + ((nsp0 : Nat) : Int) + ((nls0 : Nat) : Int)) nfe1), .ow kF a196 nfx1 c197 35 (marks ((1 + ((nsp0 : Nat) : Int) + ((nls0 : Nat) : Int)) + ((nfe1 : Nat) : Int)) nfx1), .ow kF a198 nfy1 c199 35 (marks ((1 + ((nsp0 : Nat) : Int) + ((nls0 : Nat) : Int)) + ((nfe1 : Nat) : Int) + ((nfx1 : Nat) : Int)) nfy1), .ow kF a183 nsp0 c184 35 (marks 1 nsp0), .ow kF a185 nls0 c186 35 (marks (1 + ((nsp0 : Nat) : Int)) nls0), .ow kF a241 nfe1 c242 35 Xfe1, .ow kF a243 nfx1 c244 35 Xfx1, .ow kF a245 nfy1 c246 35 Xfy1, .ow kF a221 nsp0 c222 35 Xsp0, .ow kF a223 nls0 c224 35 Xls0, .blk b201 [.slice a194 nfe1 c195, .slice a196 nfx1 c197, .slice a198 nfy1 c199] 29, .blk b188 [.int .i64 wd0, .int .i64 hi0, .bool wr0, .slice a183 nsp0 c184, .slice a185 nls0 c186] 26, .ow kF a36 nfe1 c37 35 Xfe1, .ow kF a38 nfx1 c39 35 Xfx1, .ow kF a40 nfy1 c41 35 Xfy1, .ow kF a28 nsp0 c29 35 Xsp0, .ow kF a30 nls0 c31 35 Xls0, .blk b4 [.slice afe1 nfe1 cfe1, .slice afx1 nfx1 cfx1, .slice afy1 nfy1 cfy1] 46, .blk b1 [.int .i64 wd0, .int .i64 hi0, .bool wr0, .slice asp0 nsp0 csp0, .slice als0 nls0 cls0] 45, .rd kF asp0 nsp0 Xsp0, .rd kF als0 nls0 Xls0, .rd kF afe1 nfe1 Xfe1, .rd kF afx1 nfx1 Xfx1, .rd kF afy1 nfy1 Xfy1] := B.upd [8, 9, 10] rfl hU257
        clear hU257
        refine s_y (v := .int .i64 ((1 + ((nsp0 : Nat) : Int) + ((nls0 : Nat) : Int)) + ((nfe1 : Nat) : Int) + ((nfx1 : Nat) : Int) + ((nfy1 : Nat) : Int))) rfl (y_assign rfl) ?_
        refine s_nil ?_
        refine W_seq ?_
        refine W_seq ?_
        refine W_region (by kernel_rfl) ?_
        refine s_y (v := .int .i64 ((1 + ((nsp0 : Nat) : Int) + ((nls0 : Nat) : Int)) + ((nfe1 : Nat) : Int) + ((nfx1 : Nat) : Int) + ((nfy1 : Nat) : Int))) rfl (y_move rfl) ?_
        have hk258 : ¬ (((1 + ((nsp0 : Nat) : Int) + ((nls0 : Nat) : Int)) + ((nfe1 : Nat) : Int) + ((nfx1 : Nat) : Int) + ((nfy1 : Nat) : Int)) < 0) := (by omega)
        refine s_y (v := .bool false) rfl (y_lss rfl rfl (decide_eq_false hk258)) ?_
        refine s_y (v := .bool false) rfl (y_move rfl) ?_
        refine s_y (v := .slice none 0 0) rfl (y_move rfl) ?_
        refine s_y (v := .slice none 0 0) rfl (y_move rfl) ?_
        refine s_k rfl (k_call T10.fn_54 (c_l_eqFloat32S (Rd.nil _ kF none) (Rd.nil _ kF none) (by omega)) rfl ?_)
        rintro _ w259 ⟨rfl, e260⟩
        replace B := B.ext0 e260
        clear e260
        refine s_y (v := .bool false) rfl (y_not rfl rfl) ?_
        refine s_y (v := .bool false) rfl (y_pick_f rfl rfl) ?_
        refine s_y (v := .bool false) rfl (y_move rfl) ?_
        refine s_y (v := .bool false) rfl (y_move rfl) ?_
        refine s_y (v := .bool false) rfl (y_move rfl) ?_
        refine s_y (v := .bool false) rfl (y_bneq T10.bool_4 rfl rfl rfl) ?_
        refine s_y (v := .bool false) rfl (y_pick_f rfl rfl) ?_
        refine s_nil ?_
        refine W_if_f (by decide) rfl ?_
        refine W_skip ?_
        refine W_seq ?_
        refine W_region (by kernel_rfl) ?_
        refine s_y (v := .int .i64 1) rfl (y_assign rfl) ?_
        refine s_nil ?_
        refine W_seq ?_
        refine W_region (by kernel_rfl) ?_
        refine s_y (v := .slice none 0 0) rfl (y_move rfl) ?_
        refine s_y (v := .int .i64 1) rfl (y_move rfl) ?_
        refine s_k rfl (k_call T10.fn_57 (c_l_markFloat32S (by decide) (by omega) (by omega) (All.cons (Ow.nil _ kF 35 : Fact.holds _ (.ow kF none 0 0 35 [])) <| All.nil) (Pw.nils (by intro f hf; simp only [List.mem_cons, List.not_mem_nil, or_false] at hf; rcases hf with rfl <;> exact no_none))) rfl ?_)
        rintro _ w261 ⟨rfl, hU262⟩
        replace hU262 := Upd.nils hU262 (by intro f hf; simp only [List.mem_cons, List.not_mem_nil, or_false] at hf; rcases hf with rfl <;> exact no_none)
        replace B := B.ext0 hU262
        clear hU262
        refine s_y (v := .int .i64 (1 + ((0 : Nat) : Int))) rfl (y_assign rfl) ?_
        refine s_nil ?_
        refine W_seq ?_
        refine W_region (by kernel_rfl) ?_
        refine s_y (v := .int .i64 1) rfl (y_assign rfl) ?_
        refine s_nil ?_
        refine W_seq ?_
        refine W_region (by kernel_rfl) ?_
        refine s_y (v := .slice none 0 0) rfl (y_move rfl) ?_
        refine s_y (v := .int .i64 1) rfl (y_move rfl) ?_
        refine s_k rfl (k_call T10.fn_58 (c_l_heldFloat32S (k := 1) (Rd.nil _ kF none : Rd _ kF none 0 (marks 1 0)) (by decide) (by omega) (by omega)) rfl ?_)
        rintro _ w263 ⟨rfl, e264⟩
        replace B := B.ext0 e264
        clear e264
        refine s_y (v := .int .i64 (1 + ((0 : Nat) : Int))) rfl (y_assign rfl) ?_
        refine s_nil ?_
        refine W_seq ?_
        refine W_seq ?_
        refine W_region (by kernel_rfl) ?_
        refine s_y (v := .int .i64 (1 + ((0 : Nat) : Int))) rfl (y_move rfl) ?_
        have hk265 : ¬ ((1 + ((0 : Nat) : Int)) < 0) := (by omega)
        refine s_y (v := .bool false) rfl (y_lss rfl rfl (decide_eq_false hk265)) ?_
        refine s_nil ?_
        refine W_if_f (by decide) rfl ?_
        refine W_skip ?_
        refine W_seq ?_
        refine W_seq ?_
        refine W_region (by kernel_rfl) ?_
        refine s_y (v := .int .i64 (1 + ((0 : Nat) : Int))) rfl (y_move rfl) ?_
        refine s_y (v := .int .i64 (1 + ((0 : Nat) : Int))) rfl (y_move rfl) ?_
        refine s_y (v := .bool false) rfl (y_neq rfl rfl (decide_eq_false (fun hq => hq rfl))) ?_
        refine s_nil ?_
        refine W_if_f (by decide) rfl ?_
        refine W_skip ?_
        refine W_seq ?_
        have B0_270 := B
        refine W_draw (no) T10.mx (by kernel_rfl) (fun w268 e269 => ?_)
        have R271 := Ext.refl (no) w263
        replace R271 := R271.trans (Ext0.any e269)
        replace B := B.ext0 e269
        clear e269
        refine m_y (v := .agg #[.int .i64 wd0, .int .i64 hi0, .bool wr0, .slice asp0 nsp0 csp0, .slice als0 nls0 cls0]) 0 rfl (by kernel_rfl) rfl rfl (fun w' e' => y_loadn (b := b1) (o := 0) (vs := [.int .i64 wd0, .int .i64 hi0, .bool wr0, .slice asp0 nsp0 csp0, .slice als0 nls0 cls0]) T10.agg_45_5 rfl rfl (((B0_270.b 18 rfl).ext0 e').cells (o := 0) rfl)) ?_
        refine m_y (v := .agg #[.slice afe1 nfe1 cfe1, .slice afx1 nfx1 cfx1, .slice afy1 nfy1 cfy1]) 2 rfl (by kernel_rfl) rfl rfl (fun w' e' => y_loadn (b := b4) (o := 0) (vs := [.slice afe1 nfe1 cfe1, .slice afx1 nfx1 cfx1, .slice afy1 nfy1 cfy1]) T10.agg_46_3 rfl rfl (((B0_270.b 17 rfl).ext0 e').cells (o := 0) rfl)) ?_
        refine m_y (v := .int .i64 i2) 4 rfl (by kernel_rfl) rfl rfl (fun w' e' => y_move rfl) ?_
        refine m_k 1 [3, 5, 6, 7, 8, 9, 10] rfl (by kernel_rfl) rfl rfl (fun w272 e273 => ?_)
        replace R271 := R271.trans (Ext0.any e273)
        replace B := B.ext0 e273
        clear e273
        refine k_call T10.fn_34 (c_l_toSheet (B.r 19 rfl) (B.r 20 rfl) (by omega) (by omega)) rfl ?_
        rintro _ w274 ⟨a275, c276, a277, c278, rfl, hN279⟩
        replace R271 := R271.trans (Ext0.any hN279.ext)
        replace B := B.new2 hN279
        clear hN279
        refine ⟨fun _ => R271, ?_⟩
        refine m_k 3 [5, 6, 7, 8, 9, 10] rfl (by kernel_rfl) rfl rfl (fun w280 e281 => ?_)
        replace R271 := R271.trans (Ext0.any e281)
        replace B := B.ext0 e281
        clear e281
        refine k_call T10.fn_35 (c_l_toField (B.r 23 rfl) (B.r 24 rfl) (B.r 25 rfl) (by omega) (by omega) (by omega)) rfl ?_
        rintro _ w282 ⟨a283, c284, a285, c286, a287, c288, rfl, hN289⟩
        replace R271 := R271.trans (Ext0.any hN289.ext)
        replace B := B.new3 hN289
        clear hN289
        refine ⟨fun _ => R271, ?_⟩
        refine m_k 5 [6, 7, 8, 9, 10] rfl (by kernel_rfl) rfl rfl (fun w290 e291 => ?_)
        replace R271 := R271.trans (Ext0.any e291)
        replace B := B.ext0 e291
        clear e291
        refine k_call T10.fn_62 (c_i_SumOfSteps ((B.o 3 rfl).rd) ((B.o 4 rfl).rd) ((B.o 0 rfl).rd) ((B.o 1 rfl).rd) ((B.o 2 rfl).rd) (by omega) (by omega) (by omega) (by omega) (by omega) (by omega)) rfl ?_
        rintro v294 w292 hx293
        obtain ⟨_, rfl, e295⟩ := hx293.resolve_left (fun hz => c48 hz.1)
        clear hx293
        replace R271 := R271.trans (Ext0.any e295)
        replace B := B.ext0 e295
        clear e295
        refine ⟨fun _ => R271, ?_⟩
        refine m_y (v := .tuple #[.slice none 0 0, .bool false]) 6 rfl (by kernel_rfl) rfl rfl (fun w' e' => y_move rfl) ?_
        refine m_y (v := .slice none 0 0) 7 rfl (by kernel_rfl) rfl rfl (fun w' e' => y_extract rfl rfl) ?_
        refine m_y (v := .bool false) 8 rfl (by kernel_rfl) rfl rfl (fun w' e' => y_extract rfl rfl) ?_
        refine m_y (v := .slice none 0 0) 9 rfl (by kernel_rfl) rfl rfl (fun w' e' => y_assign rfl) ?_
        refine m_y (v := .bool false) 10 rfl (by kernel_rfl) rfl rfl (fun w' e' => y_assign rfl) ?_
        refine m_done (by kernel_rfl) (fun w296 e297 => ?_)
        replace B := B.ext0 e297
        clear e297
        clear B0_270 R271
        refine W_seq ?_
        refine W_seq ?_
        refine W_region (by kernel_rfl) ?_
        refine s_y (v := .slice none 0 0) rfl (y_move rfl) ?_
        refine s_y (v := .slice none 0 0) rfl (y_move rfl) ?_
        refine s_k rfl (k_call T10.fn_54 (c_l_eqFloat32S (Rd.nil _ kF none) (Rd.nil _ kF none) (by omega)) rfl ?_)
        rintro _ w298 ⟨rfl, e299⟩
        replace B := B.ext0 e299
        clear e299
        refine s_y (v := .bool false) rfl (y_not rfl rfl) ?_
        refine s_y (v := .bool false) rfl (y_move rfl) ?_
        refine s_y (v := .bool false) rfl (y_move rfl) ?_
        refine s_y (v := .bool false) rfl (y_move rfl) ?_
        refine s_y (v := .bool false) rfl (y_bneq T10.bool_4 rfl rfl rfl) ?_
        refine s_y (v := .bool false) rfl (y_pick_f rfl rfl) ?_
        refine s_nil ?_
        refine W_if_f (by decide) rfl ?_
        refine W_skip ?_
        refine W_seq ?_
        refine W_region (by kernel_rfl) ?_
        refine s_y (v := .int .i64 1) rfl (y_assign rfl) ?_
        refine s_nil ?_
        refine W_seq ?_
        refine W_region (by kernel_rfl) ?_
        refine s_y (v := .slice none 0 0) rfl (y_move rfl) ?_
        refine s_y (v := .int .i64 1) rfl (y_move rfl) ?_
        refine s_k rfl (k_call T10.fn_58 (c_l_heldFloat32S (k := 1) (Rd.nil _ kF none : Rd _ kF none 0 (marks 1 0)) (by decide) (by omega) (by omega)) rfl ?_)
        rintro _ w300 ⟨rfl, e301⟩
        replace B := B.ext0 e301
        clear e301
        refine s_y (v := .int .i64 (1 + ((0 : Nat) : Int))) rfl (y_assign rfl) ?_
        refine s_nil ?_
        refine W_seq ?_
        refine W_seq ?_
        refine W_region (by kernel_rfl) ?_
        refine s_y (v := .int .i64 (1 + ((0 : Nat) : Int))) rfl (y_move rfl) ?_
        refine s_y (v := .bool false) rfl (y_lss rfl rfl (decide_eq_false hk265)) ?_
        refine s_nil ?_
        refine W_if_f (by decide) rfl ?_
        refine W_skip ?_
        refine W_seq ?_
        refine W_seq ?_
        refine W_region (by kernel_rfl) ?_
        refine s_y (v := .int .i64 (1 + ((0 : Nat) : Int))) rfl (y_move rfl) ?_
        refine s_y (v := .int .i64 (1 + ((0 : Nat) : Int))) rfl (y_move rfl) ?_
        refine s_y (v := .bool false) rfl (y_neq rfl rfl (decide_eq_false (fun hq => hq rfl))) ?_
        refine s_nil ?_
        refine W_if_f (by decide) rfl ?_
        refine W_skip ?_
        refine W_seq ?_
        refine W_region (by kernel_rfl) ?_
        refine s_y (v := .bool true) rfl (y_assign rfl) ?_
        refine s_nil ?_
        refine W_ret ?_
        refine ret1 (v := .bool true) rfl rfl rfl ⟨_, rfl, ?_⟩
        exact ⟨rfl, B.ext⟩
    · obtain rfl : v15 = .int .i64 (-1) := hv16.trans (congrArg _ (if_neg c17))
      refine s_y (v := .int .i64 (-1)) rfl (y_assign rfl) ?_
      refine s_nil ?_
      refine W_seq ?_
      refine W_seq ?_
      refine W_region (by kernel_rfl) ?_
      refine s_y (v := .int .i64 (-1)) rfl (y_move rfl) ?_
      have hk302 : (-1 : Int) < 0 := (by decide)
      refine s_y (v := .bool true) rfl (y_lss rfl rfl (decide_eq_true hk302)) ?_
      refine s_nil ?_
      refine W_if_t (by decide) rfl ?_
      refine W_seq ?_
      refine W_region (by kernel_rfl) ?_
      refine s_y (v := .bool true) rfl (y_assign rfl) ?_
      refine s_nil ?_
      refine W_ret ?_
      refine ret1 (v := .bool true) rfl rfl rfl ⟨_, rfl, ?_⟩
      exact ⟨rfl, B.ext⟩
  · obtain rfl : v9 = .int .i64 (-1) := hv10.trans (congrArg _ (if_neg c11))
    refine s_y (v := .int .i64 (-1)) rfl (y_assign rfl) ?_
    refine s_nil ?_
    refine W_seq ?_
    refine W_seq ?_
    refine W_region (by kernel_rfl) ?_
    refine s_y (v := .int .i64 (-1)) rfl (y_move rfl) ?_
    have hk303 : (-1 : Int) < 0 := (by decide)
    refine s_y (v := .bool true) rfl (y_lss rfl rfl (decide_eq_true hk303)) ?_
    refine s_nil ?_
    refine W_if_t (by decide) rfl ?_
    refine W_seq ?_
    refine W_region (by kernel_rfl) ?_
    refine s_y (v := .bool true) rfl (y_assign rfl) ?_
    refine s_nil ?_
    refine W_ret ?_
    refine ret1 (v := .bool true) rfl rfl rfl ⟨_, rfl, ?_⟩
    exact ⟨rfl, B.ext⟩
end Go.Proofs.Ytmcldploldaceaa
