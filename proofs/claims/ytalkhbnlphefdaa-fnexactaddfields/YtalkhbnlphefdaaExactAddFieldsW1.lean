/- Walks: what the functions under FnExactAddFields do (part 2). Printed by a program of this claim's author. -/
import Derived.Test.YtalkhbnlphefdaaExactAddFieldsW0
set_option linter.unusedSimpArgs false
set_option linter.unusedVariables false
open Go.Wv
namespace Go.Proofs.Ytalkhbnlphefdaa
open Go.Proofs
namespace T11
theorem mx : Try.prog.follows .mixedOrders = true := by kernel_rfl
theorem agg_26_5 : aggB Try.prog 26 5 = true := by kernel_rfl
theorem agg_36_5 : aggB Try.prog 36 5 = true := by kernel_rfl
theorem agg_45_3 : aggB Try.prog 45 3 = true := by kernel_rfl
theorem agg_49_3 : aggB Try.prog 49 3 = true := by kernel_rfl
theorem bool_4 : Try.prog.underlying 4 = some .bool := by kernel_rfl
theorem fn_21 : fnB Try.prog 21 = true := by kernel_rfl
theorem fn_23 : fnB Try.prog 23 = true := by kernel_rfl
theorem fn_25 : fnB Try.prog 25 = true := by kernel_rfl
theorem fn_26 : fnB Try.prog 26 = true := by kernel_rfl
theorem fn_29 : fnB Try.prog 29 = true := by kernel_rfl
theorem fn_31 : fnB Try.prog 31 = true := by kernel_rfl
theorem fn_34 : fnB Try.prog 34 = true := by kernel_rfl
theorem fn_35 : fnB Try.prog 35 = true := by kernel_rfl
theorem fn_50 : fnB Try.prog 50 = true := by kernel_rfl
theorem fn_53 : fnB Try.prog 53 = true := by kernel_rfl
theorem fn_54 : fnB Try.prog 54 = true := by kernel_rfl
theorem sz_26_5 : szB Try.prog 26 5 = true := by kernel_rfl
theorem sz_49_3 : szB Try.prog 49 3 = true := by kernel_rfl
theorem zero_26 : zeroB Try.prog 26 (.agg #[.int .i64 0, .int .i64 0, .bool false, .slice none 0 0, .slice none 0 0]) := by unfold zeroB; kernel_rfl
theorem zero_49 : zeroB Try.prog 49 (.agg #[.slice none 0 0, .slice none 0 0, .slice none 0 0]) := by unfold zeroB; kernel_rfl
end T11
set_option maxRecDepth 100000 in
set_option maxHeartbeats 20000000 in
theorem c_FnExactAddFields {wd0 : Int} {hi0 : Int} {wr0 : Bool} {asp0 : Option Addr} {nsp0 : Nat} {csp0 : Nat} {Xsp0 : List Nat} {als0 : Option Addr} {nls0 : Nat} {cls0 : Nat} {Xls0 : List Nat} {afe1 : Option Addr} {nfe1 : Nat} {cfe1 : Nat} {Xfe1 : List Nat} {afx1 : Option Addr} {nfx1 : Nat} {cfx1 : Nat} {Xfx1 : List Nat} {afy1 : Option Addr} {nfy1 : Nat} {cfy1 : Nat} {Xfy1 : List Nat} {afe2 : Option Addr} {nfe2 : Nat} {cfe2 : Nat} {Xfe2 : List Nat} {afx2 : Option Addr} {nfx2 : Nat} {cfx2 : Nat} {Xfx2 : List Nat} {afy2 : Option Addr} {nfy2 : Nat} {cfy2 : Nat} {Xfy2 : List Nat} {w : World} (qsp0 : Rd w kF asp0 nsp0 Xsp0) (qls0 : Rd w kF als0 nls0 Xls0) (qfe1 : Rd w kF afe1 nfe1 Xfe1) (qfx1 : Rd w kF afx1 nfx1 Xfx1) (qfy1 : Rd w kF afy1 nfy1 Xfy1) (qfe2 : Rd w kF afe2 nfe2 Xfe2) (qfx2 : Rd w kF afx2 nfx2 Xfx2) (qfy2 : Rd w kF afy2 nfy2 Xfy2) (gsp0 : nsp0 ≤ 9223372036854775807) (gls0 : nls0 ≤ 9223372036854775807) (gfe1 : nfe1 ≤ 9223372036854775807) (gfx1 : nfx1 ≤ 9223372036854775807) (gfy1 : nfy1 ≤ 9223372036854775807) (gfe2 : nfe2 ≤ 9223372036854775807) (gfx2 : nfx2 ≤ 9223372036854775807) (gfy2 : nfy2 ≤ 9223372036854775807) :
    Calls Try.prog 11 #[.agg #[.int .i64 wd0, .int .i64 hi0, .bool wr0, .slice asp0 nsp0 csp0, .slice als0 nls0 cls0], .agg #[.slice afe1 nfe1 cfe1, .slice afx1 nfx1 cfx1, .slice afy1 nfy1 cfy1], .agg #[.slice afe2 nfe2 cfe2, .slice afx2 nfx2 cfx2, .slice afy2 nfy2 cfy2]] w (Rt fun v w' => v = .bool true ∧ Ext0 w w') := by
  have hlsp0 := qsp0.len
  have hlls0 := qls0.len
  have hlfe1 := qfe1.len
  have hlfx1 := qfx1.len
  have hlfy1 := qfy1.len
  have hlfe2 := qfe2.len
  have hlfx2 := qfx2.len
  have hlfy2 := qfy2.len
  have B : Bu w no w [.rd kF asp0 nsp0 Xsp0, .rd kF als0 nls0 Xls0, .rd kF afe1 nfe1 Xfe1, .rd kF afx1 nfx1 Xfx1, .rd kF afy1 nfy1 Xfy1, .rd kF afe2 nfe2 Xfe2, .rd kF afx2 nfx2 Xfx2, .rd kF afy2 nfy2 Xfy2] := Bu.ro (All.cons qsp0 (All.cons qls0 (All.cons qfe1 (All.cons qfx1 (All.cons qfy1 (All.cons qfe2 (All.cons qfx2 (All.cons qfy2 All.nil)))))))) rfl
  refine calls_W (n := 142) Try.func11 rfl rfl (Nat.le_of_ble_eq_true rfl) ?_
  refine W_seq ?_
  refine W_region (by kernel_rfl) ?_
  refine s_k rfl (k_boxN (v := .agg #[.int .i64 wd0, .int .i64 hi0, .bool wr0, .slice asp0 nsp0 csp0, .slice als0 nls0 cls0]) (cs := [.int .i64 wd0, .int .i64 hi0, .bool wr0, .slice asp0 nsp0 csp0, .slice als0 nls0 cls0]) rfl rfl (fun b1 w2 hN3 => ?_))
  replace B := B.new1 hN3
  clear hN3
  refine s_k rfl (k_boxN (v := .agg #[.slice afe1 nfe1 cfe1, .slice afx1 nfx1 cfx1, .slice afy1 nfy1 cfy1]) (cs := [.slice afe1 nfe1 cfe1, .slice afx1 nfx1 cfx1, .slice afy1 nfy1 cfy1]) rfl rfl (fun b4 w5 hN6 => ?_))
  replace B := B.new1 hN6
  clear hN6
  refine s_k rfl (k_boxN (v := .agg #[.slice afe2 nfe2 cfe2, .slice afx2 nfx2 cfx2, .slice afy2 nfy2 cfy2]) (cs := [.slice afe2 nfe2 cfe2, .slice afx2 nfx2 cfx2, .slice afy2 nfy2 cfy2]) rfl rfl (fun b7 w8 hN9 => ?_))
  replace B := B.new1 hN9
  clear hN9
  refine s_y (v := .bool false) rfl (y_assign rfl) ?_
  refine s_nil ?_
  refine W_seq ?_
  refine W_region (by kernel_rfl) ?_
  refine s_y (v := .int .i64 1048576) rfl (y_assign rfl) ?_
  refine s_nil ?_
  refine W_seq ?_
  refine W_region (by kernel_rfl) ?_
  refine s_y (v := .agg #[.int .i64 wd0, .int .i64 hi0, .bool wr0, .slice asp0 nsp0 csp0, .slice als0 nls0 cls0]) rfl (y_loadn (b := b1) (o := 0) (vs := [.int .i64 wd0, .int .i64 hi0, .bool wr0, .slice asp0 nsp0 csp0, .slice als0 nls0 cls0]) T11.agg_36_5 rfl rfl ((B.b 2 rfl).cells (o := 0) rfl)) ?_
  refine s_y (v := .int .i64 1048576) rfl (y_move rfl) ?_
  refine s_k rfl (k_call T11.fn_21 (c_l_szSheet (by omega) (by omega) (by omega) (by omega)) rfl ?_)
  rintro v12 w10 ⟨hv13, e11⟩
  replace B := B.ext0 e11
  clear e11
  by_cases c14 : ((nsp0 : Nat) : Int) + ((nls0 : Nat) : Int) ≤ 1048576
  · obtain rfl : v12 = .int .i64 (1048576 - ((nsp0 : Nat) : Int) - ((nls0 : Nat) : Int)) := hv13.trans (congrArg _ (if_pos c14))
    have hk15 : ¬ (1048576 - ((nsp0 : Nat) : Int) - ((nls0 : Nat) : Int)) < 0 := by omega
    refine s_y (v := .int .i64 (1048576 - ((nsp0 : Nat) : Int) - ((nls0 : Nat) : Int))) rfl (y_assign rfl) ?_
    refine s_nil ?_
    refine W_seq ?_
    refine W_seq ?_
    refine W_region (by kernel_rfl) ?_
    refine s_y (v := .int .i64 (1048576 - ((nsp0 : Nat) : Int) - ((nls0 : Nat) : Int))) rfl (y_move rfl) ?_
    refine s_y (v := .bool false) rfl (y_lss rfl rfl (decide_eq_false hk15)) ?_
    refine s_nil ?_
    refine W_if_f (by decide) rfl ?_
    refine W_skip ?_
    refine W_seq ?_
    refine W_region (by kernel_rfl) ?_
    refine s_y (v := .agg #[.slice afe1 nfe1 cfe1, .slice afx1 nfx1 cfx1, .slice afy1 nfy1 cfy1]) rfl (y_loadn (b := b4) (o := 0) (vs := [.slice afe1 nfe1 cfe1, .slice afx1 nfx1 cfx1, .slice afy1 nfy1 cfy1]) T11.agg_45_3 rfl rfl ((B.b 1 rfl).cells (o := 0) rfl)) ?_
    refine s_y (v := .int .i64 (1048576 - ((nsp0 : Nat) : Int) - ((nls0 : Nat) : Int))) rfl (y_move rfl) ?_
    refine s_k rfl (k_call T11.fn_29 (c_l_szField (by omega) (by omega) (by omega) (by omega) (by omega)) rfl ?_)
    rintro v18 w16 ⟨hv19, e17⟩
    replace B := B.ext0 e17
    clear e17
    by_cases c20 : ((nfe1 : Nat) : Int) + ((nfx1 : Nat) : Int) + ((nfy1 : Nat) : Int) ≤ (1048576 - ((nsp0 : Nat) : Int) - ((nls0 : Nat) : Int))
    · obtain rfl : v18 = .int .i64 ((1048576 - ((nsp0 : Nat) : Int) - ((nls0 : Nat) : Int)) - ((nfe1 : Nat) : Int) - ((nfx1 : Nat) : Int) - ((nfy1 : Nat) : Int)) := hv19.trans (congrArg _ (if_pos c20))
      have hk21 : ¬ ((1048576 - ((nsp0 : Nat) : Int) - ((nls0 : Nat) : Int)) - ((nfe1 : Nat) : Int) - ((nfx1 : Nat) : Int) - ((nfy1 : Nat) : Int)) < 0 := by omega
      refine s_y (v := .int .i64 ((1048576 - ((nsp0 : Nat) : Int) - ((nls0 : Nat) : Int)) - ((nfe1 : Nat) : Int) - ((nfx1 : Nat) : Int) - ((nfy1 : Nat) : Int))) rfl (y_assign rfl) ?_
      refine s_nil ?_
      refine W_seq ?_
      refine W_seq ?_
      refine W_region (by kernel_rfl) ?_
      refine s_y (v := .int .i64 ((1048576 - ((nsp0 : Nat) : Int) - ((nls0 : Nat) : Int)) - ((nfe1 : Nat) : Int) - ((nfx1 : Nat) : Int) - ((nfy1 : Nat) : Int))) rfl (y_move rfl) ?_
      refine s_y (v := .bool false) rfl (y_lss rfl rfl (decide_eq_false hk21)) ?_
      refine s_nil ?_
      refine W_if_f (by decide) rfl ?_
      refine W_skip ?_
      refine W_seq ?_
      refine W_region (by kernel_rfl) ?_
      refine s_y (v := .agg #[.slice afe2 nfe2 cfe2, .slice afx2 nfx2 cfx2, .slice afy2 nfy2 cfy2]) rfl (y_loadn (b := b7) (o := 0) (vs := [.slice afe2 nfe2 cfe2, .slice afx2 nfx2 cfx2, .slice afy2 nfy2 cfy2]) T11.agg_45_3 rfl rfl ((B.b 0 rfl).cells (o := 0) rfl)) ?_
      refine s_y (v := .int .i64 ((1048576 - ((nsp0 : Nat) : Int) - ((nls0 : Nat) : Int)) - ((nfe1 : Nat) : Int) - ((nfx1 : Nat) : Int) - ((nfy1 : Nat) : Int))) rfl (y_move rfl) ?_
      refine s_k rfl (k_call T11.fn_29 (c_l_szField (by omega) (by omega) (by omega) (by omega) (by omega)) rfl ?_)
      rintro v24 w22 ⟨hv25, e23⟩
      replace B := B.ext0 e23
      clear e23
      by_cases c26 : ((nfe2 : Nat) : Int) + ((nfx2 : Nat) : Int) + ((nfy2 : Nat) : Int) ≤ ((1048576 - ((nsp0 : Nat) : Int) - ((nls0 : Nat) : Int)) - ((nfe1 : Nat) : Int) - ((nfx1 : Nat) : Int) - ((nfy1 : Nat) : Int))
      · obtain rfl : v24 = .int .i64 (((1048576 - ((nsp0 : Nat) : Int) - ((nls0 : Nat) : Int)) - ((nfe1 : Nat) : Int) - ((nfx1 : Nat) : Int) - ((nfy1 : Nat) : Int)) - ((nfe2 : Nat) : Int) - ((nfx2 : Nat) : Int) - ((nfy2 : Nat) : Int)) := hv25.trans (congrArg _ (if_pos c26))
        have hk27 : ¬ (((1048576 - ((nsp0 : Nat) : Int) - ((nls0 : Nat) : Int)) - ((nfe1 : Nat) : Int) - ((nfx1 : Nat) : Int) - ((nfy1 : Nat) : Int)) - ((nfe2 : Nat) : Int) - ((nfx2 : Nat) : Int) - ((nfy2 : Nat) : Int)) < 0 := by omega
        refine s_y (v := .int .i64 (((1048576 - ((nsp0 : Nat) : Int) - ((nls0 : Nat) : Int)) - ((nfe1 : Nat) : Int) - ((nfx1 : Nat) : Int) - ((nfy1 : Nat) : Int)) - ((nfe2 : Nat) : Int) - ((nfx2 : Nat) : Int) - ((nfy2 : Nat) : Int))) rfl (y_assign rfl) ?_
        refine s_nil ?_
        refine W_seq ?_
        refine W_seq ?_
        refine W_region (by kernel_rfl) ?_
        refine s_y (v := .int .i64 (((1048576 - ((nsp0 : Nat) : Int) - ((nls0 : Nat) : Int)) - ((nfe1 : Nat) : Int) - ((nfx1 : Nat) : Int) - ((nfy1 : Nat) : Int)) - ((nfe2 : Nat) : Int) - ((nfx2 : Nat) : Int) - ((nfy2 : Nat) : Int))) rfl (y_move rfl) ?_
        refine s_y (v := .bool false) rfl (y_lss rfl rfl (decide_eq_false hk27)) ?_
        refine s_nil ?_
        refine W_if_f (by decide) rfl ?_
        refine W_skip ?_
        refine W_seq ?_
        have B0_30 := B
        refine W_drawI (no) (fun ρ' w' => (∃ (ρ1 : Env) (b82 : Nat) (a75 : Option Addr) (c76 : Nat) (a77 : Option Addr) (c78 : Nat) (a79 : Option Addr) (c80 : Nat), ρ' = updL ρ1 [(3, .pointer (some ⟨b1, 0, none⟩)), (4, .pointer (some ⟨b4, 0, none⟩)), (5, .pointer (some ⟨b7, 0, none⟩)), (6, .bool false), (8, .pointer (some ⟨b82, 0, none⟩)), (9, .bool true)] ∧ Bu w no w' [.blk b82 [.slice a75 ((wd0 * hi0).toNat) c76, .slice a77 ((wd0 * hi0).toNat) c78, .slice a79 ((wd0 * hi0).toNat) c80] 49, .ow kF a75 ((wd0 * hi0).toNat) c76 56 (addL (wd0 * hi0) Xfe1 Xfe2), .ow kF a77 ((wd0 * hi0).toNat) c78 56 (addL (wd0 * hi0) Xfx1 Xfx2), .ow kF a79 ((wd0 * hi0).toNat) c80 56 (addL (wd0 * hi0) Xfy1 Xfy2), .blk b7 [.slice afe2 nfe2 cfe2, .slice afx2 nfx2 cfx2, .slice afy2 nfy2 cfy2] 45, .blk b4 [.slice afe1 nfe1 cfe1, .slice afx1 nfx1 cfx1, .slice afy1 nfy1 cfy1] 45, .blk b1 [.int .i64 wd0, .int .i64 hi0, .bool wr0, .slice asp0 nsp0 csp0, .slice als0 nls0 cls0] 36, .rd kF asp0 nsp0 Xsp0, .rd kF als0 nls0 Xls0, .rd kF afe1 nfe1 Xfe1, .rd kF afx1 nfx1 Xfx1, .rd kF afy1 nfy1 Xfy1, .rd kF afe2 nfe2 Xfe2, .rd kF afx2 nfx2 Xfx2, .rd kF afy2 nfy2 Xfy2] ∧ (addB wd0 hi0 wr0 Xsp0 Xls0 Xfe1 Xfx1 Xfy1 Xfe2 Xfx2 Xfy2 = true)) ∨ (∃ (ρ1 : Env) (b96 : Nat), ρ' = updL ρ1 [(3, .pointer (some ⟨b1, 0, none⟩)), (4, .pointer (some ⟨b4, 0, none⟩)), (5, .pointer (some ⟨b7, 0, none⟩)), (6, .bool false), (8, .pointer (some ⟨b96, 0, none⟩)), (9, .bool false)] ∧ Bu w no w' [.blk b96 [.slice none 0 0, .slice none 0 0, .slice none 0 0] 49, .blk b7 [.slice afe2 nfe2 cfe2, .slice afx2 nfx2 cfx2, .slice afy2 nfy2 cfy2] 45, .blk b4 [.slice afe1 nfe1 cfe1, .slice afx1 nfx1 cfx1, .slice afy1 nfy1 cfy1] 45, .blk b1 [.int .i64 wd0, .int .i64 hi0, .bool wr0, .slice asp0 nsp0 csp0, .slice als0 nls0 cls0] 36, .rd kF asp0 nsp0 Xsp0, .rd kF als0 nls0 Xls0, .rd kF afe1 nfe1 Xfe1, .rd kF afx1 nfx1 Xfx1, .rd kF afy1 nfy1 Xfy1, .rd kF afe2 nfe2 Xfe2, .rd kF afx2 nfx2 Xfx2, .rd kF afy2 nfy2 Xfy2] ∧ ¬ (addB wd0 hi0 wr0 Xsp0 Xls0 Xfe1 Xfx1 Xfy1 Xfe2 Xfx2 Xfy2 = true))) T11.mx (by kernel_rfl) (fun w28 e29 => ?_) ?_
        · have R31 := Ext.refl (no) w22
          replace R31 := R31.trans (Ext0.any e29)
          replace B := B.ext0 e29
          clear e29
          refine m_y (v := .agg #[.int .i64 wd0, .int .i64 hi0, .bool wr0, .slice asp0 nsp0 csp0, .slice als0 nls0 cls0]) 0 rfl (by kernel_rfl) rfl rfl (fun w' e' => y_loadn (b := b1) (o := 0) (vs := [.int .i64 wd0, .int .i64 hi0, .bool wr0, .slice asp0 nsp0 csp0, .slice als0 nls0 cls0]) T11.agg_36_5 rfl rfl (((B0_30.b 2 rfl).ext0 e').cells (o := 0) rfl)) ?_
          refine m_y (v := .agg #[.slice afe1 nfe1 cfe1, .slice afx1 nfx1 cfx1, .slice afy1 nfy1 cfy1]) 2 rfl (by kernel_rfl) rfl rfl (fun w' e' => y_loadn (b := b4) (o := 0) (vs := [.slice afe1 nfe1 cfe1, .slice afx1 nfx1 cfx1, .slice afy1 nfy1 cfy1]) T11.agg_45_3 rfl rfl (((B0_30.b 1 rfl).ext0 e').cells (o := 0) rfl)) ?_
          refine m_y (v := .agg #[.slice afe2 nfe2 cfe2, .slice afx2 nfx2 cfx2, .slice afy2 nfy2 cfy2]) 4 rfl (by kernel_rfl) rfl rfl (fun w' e' => y_loadn (b := b7) (o := 0) (vs := [.slice afe2 nfe2 cfe2, .slice afx2 nfx2 cfx2, .slice afy2 nfy2 cfy2]) T11.agg_45_3 rfl rfl (((B0_30.b 0 rfl).ext0 e').cells (o := 0) rfl)) ?_
          refine m_two 1 10 (by kernel_rfl) rfl rfl rfl rfl rfl rfl (fun w32 e33 => ?_) (fun w34 e35 => ?_)
          · replace R31 := R31.trans (Ext0.any e33)
            replace B := B.ext0 e33
            clear e33
            refine k_call T11.fn_23 (c_l_toSheet (B.r 3 rfl) (B.r 4 rfl) (by omega) (by omega)) rfl ?_
            rintro _ w36 ⟨a37, c38, a39, c40, rfl, hN41⟩
            replace R31 := R31.trans (Ext0.any hN41.ext)
            replace B := B.new2 hN41
            clear hN41
            refine ⟨fun _ => R31, ?_⟩
            refine m_two 3 10 (by kernel_rfl) rfl rfl rfl rfl rfl rfl (fun w42 e43 => ?_) (fun w44 e45 => ?_)
            · replace R31 := R31.trans (Ext0.any e43)
              replace B := B.ext0 e43
              clear e43
              refine k_call T11.fn_31 (c_l_toField (B.r 7 rfl) (B.r 8 rfl) (B.r 9 rfl) (by omega) (by omega) (by omega)) rfl ?_
              rintro _ w46 ⟨a47, c48, a49, c50, a51, c52, rfl, hN53⟩
              replace R31 := R31.trans (Ext0.any hN53.ext)
              replace B := B.new3 hN53
              clear hN53
              refine ⟨fun _ => R31, ?_⟩
              refine m_two 5 10 (by kernel_rfl) rfl rfl rfl rfl rfl rfl (fun w54 e55 => ?_) (fun w56 e57 => ?_)
              · replace R31 := R31.trans (Ext0.any e55)
                replace B := B.ext0 e55
                clear e55
                refine k_call T11.fn_31 (c_l_toField (B.r 13 rfl) (B.r 14 rfl) (B.r 15 rfl) (by omega) (by omega) (by omega)) rfl ?_
                rintro _ w58 ⟨a59, c60, a61, c62, a63, c64, rfl, hN65⟩
                replace R31 := R31.trans (Ext0.any hN65.ext)
                replace B := B.new3 hN65
                clear hN65
                refine ⟨fun _ => R31, ?_⟩
                refine m_two 6 10 (by kernel_rfl) rfl rfl rfl rfl rfl rfl (fun w66 e67 => ?_) (fun w68 e69 => ?_)
                · replace R31 := R31.trans (Ext0.any e67)
                  replace B := B.ext0 e67
                  clear e67
                  refine k_call T11.fn_53 (c_s_AddFields ((B.o 6 rfl).rd) ((B.o 7 rfl).rd) ((B.o 3 rfl).rd) ((B.o 4 rfl).rd) ((B.o 5 rfl).rd) ((B.o 0 rfl).rd) ((B.o 1 rfl).rd) ((B.o 2 rfl).rd) (by omega) (by omega) (by omega) (by omega) (by omega) (by omega) (by omega) (by omega)) rfl ?_
                  rintro v72 w70 hx71
                  by_cases c73 : addB wd0 hi0 wr0 Xsp0 Xls0 Xfe1 Xfx1 Xfy1 Xfe2 Xfx2 Xfy2 = true
                  · have hb74 := addB_b c73
                    obtain ⟨a75, c76, a77, c78, a79, c80, rfl, hN81⟩ := (hx71.resolve_right (fun hz => by rw [c73] at hz; cases hz.1)).2
                    clear hx71
                    replace R31 := R31.trans (Ext0.any hN81.ext)
                    replace B := B.new3 hN81
                    clear hN81
                    refine ⟨fun _ => R31, ?_⟩
                    refine m_y (v := .tuple #[.agg #[.slice a75 ((wd0 * hi0).toNat) c76, .slice a77 ((wd0 * hi0).toNat) c78, .slice a79 ((wd0 * hi0).toNat) c80], .bool true]) 7 rfl (by kernel_rfl) rfl rfl (fun w' e' => y_move rfl) ?_
                    refine m_y (v := .agg #[.slice a75 ((wd0 * hi0).toNat) c76, .slice a77 ((wd0 * hi0).toNat) c78, .slice a79 ((wd0 * hi0).toNat) c80]) 8 rfl (by kernel_rfl) rfl rfl (fun w' e' => y_extract rfl rfl) ?_
                    refine m_y (v := .bool true) 9 rfl (by kernel_rfl) rfl rfl (fun w' e' => y_extract rfl rfl) ?_
                    refine m_k 10 [11, 12] rfl (by kernel_rfl) rfl rfl (fun w85 e86 => ?_)
                    replace R31 := R31.trans (Ext0.any e86)
                    replace B := B.ext0 e86
                    clear e86
                    refine k_allocN (z := (.agg #[.slice none 0 0, .slice none 0 0, .slice none 0 0])) (cs := [.slice none 0 0, .slice none 0 0, .slice none 0 0]) T11.zero_49 rfl (fun b82 w83 hN84 => ?_)
                    have nf87 : NotLt b82 _ := fun h => Nat.not_lt.2 (Nat.le_trans (Ext.size R31) hN84.ge) h
                    replace R31 := R31.trans (Ext0.any hN84.ext)
                    replace B := B.new1 hN84
                    clear hN84
                    refine ⟨fun _ => R31, ?_⟩
                    refine m_k 11 [12] rfl (by kernel_rfl) rfl rfl (fun w91 e92 => ?_)
                    replace R31 := R31.trans (Ext0.any e92)
                    replace B := B.ext0 e92
                    clear e92
                    refine k_stB (v := .agg #[.slice a75 ((wd0 * hi0).toNat) c76, .slice a77 ((wd0 * hi0).toNat) c78, .slice a79 ((wd0 * hi0).toNat) c80]) (n := 3) (cs' := [.slice a75 ((wd0 * hi0).toNat) c76, .slice a77 ((wd0 * hi0).toNat) c78, .slice a79 ((wd0 * hi0).toNat) c80]) T11.sz_49_3 rfl rfl rfl (B.b 0 rfl) (by simp [Value.cells, Value.oneCell']) (Nat.le_of_ble_eq_true rfl) rfl (fun w89 hU90 => ?_)
                    replace R31 := R31.fresh hU90.at1 (fun kx hs hl => (nf87 ((show kx = b82 from hs) ▸ hl)).elim)
                    replace B : Bu w no w89 [.blk b82 [.slice a75 ((wd0 * hi0).toNat) c76, .slice a77 ((wd0 * hi0).toNat) c78, .slice a79 ((wd0 * hi0).toNat) c80] 49, .ow kF a75 ((wd0 * hi0).toNat) c76 56 (addL (wd0 * hi0) Xfe1 Xfe2), .ow kF a77 ((wd0 * hi0).toNat) c78 56 (addL (wd0 * hi0) Xfx1 Xfx2), .ow kF a79 ((wd0 * hi0).toNat) c80 56 (addL (wd0 * hi0) Xfy1 Xfy2), .ow kF a59 nfe2 c60 56 Xfe2, .ow kF a61 nfx2 c62 56 Xfx2, .ow kF a63 nfy2 c64 56 Xfy2, .ow kF a47 nfe1 c48 56 Xfe1, .ow kF a49 nfx1 c50 56 Xfx1, .ow kF a51 nfy1 c52 56 Xfy1, .ow kF a37 nsp0 c38 56 Xsp0, .ow kF a39 nls0 c40 56 Xls0, .blk b7 [.slice afe2 nfe2 cfe2, .slice afx2 nfx2 cfx2, .slice afy2 nfy2 cfy2] 45, .blk b4 [.slice afe1 nfe1 cfe1, .slice afx1 nfx1 cfx1, .slice afy1 nfy1 cfy1] 45, .blk b1 [.int .i64 wd0, .int .i64 hi0, .bool wr0, .slice asp0 nsp0 csp0, .slice als0 nls0 cls0] 36, .rd kF asp0 nsp0 Xsp0, .rd kF als0 nls0 Xls0, .rd kF afe1 nfe1 Xfe1, .rd kF afx1 nfx1 Xfx1, .rd kF afy1 nfy1 Xfy1, .rd kF afe2 nfe2 Xfe2, .rd kF afx2 nfx2 Xfx2, .rd kF afy2 nfy2 Xfy2] := B.upd [0] rfl hU90
                    clear hU90
                    refine ⟨fun _ => R31, ?_⟩
                    refine m_y (v := .bool true) 12 rfl (by kernel_rfl) rfl rfl (fun w' e' => y_assign rfl) ?_
                    refine m_done (by kernel_rfl) (fun w93 e94 => ?_)
                    replace B := B.ext0 e94
                    clear e94
                    clear B0_30 R31
                    exact .inl ⟨_, b82, a75, c76, a77, c78, a79, c80, Fits.eq ⟨rfl, rfl, rfl, rfl, rfl, rfl, trivial⟩, B.pick [0, 1, 2, 3, 12, 13, 14, 15, 16, 17, 18, 19, 20, 21, 22] rfl rfl, c73⟩
                  · obtain ⟨_, rfl, e95⟩ := hx71.resolve_left (fun hz => c73 hz.1)
                    clear hx71
                    replace R31 := R31.trans (Ext0.any e95)
                    replace B := B.ext0 e95
                    clear e95
                    refine ⟨fun _ => R31, ?_⟩
                    refine m_y (v := .tuple #[.agg #[.slice none 0 0, .slice none 0 0, .slice none 0 0], .bool false]) 7 rfl (by kernel_rfl) rfl rfl (fun w' e' => y_move rfl) ?_
                    refine m_y (v := .agg #[.slice none 0 0, .slice none 0 0, .slice none 0 0]) 8 rfl (by kernel_rfl) rfl rfl (fun w' e' => y_extract rfl rfl) ?_
                    refine m_y (v := .bool false) 9 rfl (by kernel_rfl) rfl rfl (fun w' e' => y_extract rfl rfl) ?_
                    refine m_k 10 [11, 12] rfl (by kernel_rfl) rfl rfl (fun w99 e100 => ?_)
                    replace R31 := R31.trans (Ext0.any e100)
                    replace B := B.ext0 e100
                    clear e100
                    refine k_allocN (z := (.agg #[.slice none 0 0, .slice none 0 0, .slice none 0 0])) (cs := [.slice none 0 0, .slice none 0 0, .slice none 0 0]) T11.zero_49 rfl (fun b96 w97 hN98 => ?_)
                    have nf101 : NotLt b96 _ := fun h => Nat.not_lt.2 (Nat.le_trans (Ext.size R31) hN98.ge) h
                    replace R31 := R31.trans (Ext0.any hN98.ext)
                    replace B := B.new1 hN98
                    clear hN98
                    refine ⟨fun _ => R31, ?_⟩
                    refine m_k 11 [12] rfl (by kernel_rfl) rfl rfl (fun w105 e106 => ?_)
                    replace R31 := R31.trans (Ext0.any e106)
                    replace B := B.ext0 e106
                    clear e106
                    refine k_stB (v := .agg #[.slice none 0 0, .slice none 0 0, .slice none 0 0]) (n := 3) (cs' := [.slice none 0 0, .slice none 0 0, .slice none 0 0]) T11.sz_49_3 rfl rfl rfl (B.b 0 rfl) (by simp [Value.cells, Value.oneCell']) (Nat.le_of_ble_eq_true rfl) rfl (fun w103 hU104 => ?_)
                    replace R31 := R31.fresh hU104.at1 (fun kx hs hl => (nf101 ((show kx = b96 from hs) ▸ hl)).elim)
                    replace B : Bu w no w103 [.blk b96 [.slice none 0 0, .slice none 0 0, .slice none 0 0] 49, .ow kF a59 nfe2 c60 56 Xfe2, .ow kF a61 nfx2 c62 56 Xfx2, .ow kF a63 nfy2 c64 56 Xfy2, .ow kF a47 nfe1 c48 56 Xfe1, .ow kF a49 nfx1 c50 56 Xfx1, .ow kF a51 nfy1 c52 56 Xfy1, .ow kF a37 nsp0 c38 56 Xsp0, .ow kF a39 nls0 c40 56 Xls0, .blk b7 [.slice afe2 nfe2 cfe2, .slice afx2 nfx2 cfx2, .slice afy2 nfy2 cfy2] 45, .blk b4 [.slice afe1 nfe1 cfe1, .slice afx1 nfx1 cfx1, .slice afy1 nfy1 cfy1] 45, .blk b1 [.int .i64 wd0, .int .i64 hi0, .bool wr0, .slice asp0 nsp0 csp0, .slice als0 nls0 cls0] 36, .rd kF asp0 nsp0 Xsp0, .rd kF als0 nls0 Xls0, .rd kF afe1 nfe1 Xfe1, .rd kF afx1 nfx1 Xfx1, .rd kF afy1 nfy1 Xfy1, .rd kF afe2 nfe2 Xfe2, .rd kF afx2 nfx2 Xfx2, .rd kF afy2 nfy2 Xfy2] := B.upd [0] rfl hU104
                    clear hU104
                    refine ⟨fun _ => R31, ?_⟩
                    refine m_y (v := .bool false) 12 rfl (by kernel_rfl) rfl rfl (fun w' e' => y_assign rfl) ?_
                    refine m_done (by kernel_rfl) (fun w107 e108 => ?_)
                    replace B := B.ext0 e108
                    clear e108
                    clear B0_30 R31
                    exact .inr (⟨_, b96, Fits.eq ⟨rfl, rfl, rfl, rfl, rfl, rfl, trivial⟩, B.pick [0, 9, 10, 11, 12, 13, 14, 15, 16, 17, 18, 19] rfl rfl, c73⟩)
                · replace R31 := R31.trans (Ext0.any e69)
                  replace B := B.ext0 e69
                  clear e69
                  refine k_allocN (z := (.agg #[.slice none 0 0, .slice none 0 0, .slice none 0 0])) (cs := [.slice none 0 0, .slice none 0 0, .slice none 0 0]) T11.zero_49 rfl (fun b109 w110 hN111 => ?_)
                  have nf112 : NotLt b109 _ := fun h => Nat.not_lt.2 (Nat.le_trans (Ext.size R31) hN111.ge) h
                  replace R31 := R31.trans (Ext0.any hN111.ext)
                  replace B := B.new1 hN111
                  clear hN111
                  refine ⟨fun _ => R31, ?_⟩
                  refine m_k 6 [7, 8, 9, 11, 12] rfl (by kernel_rfl) rfl rfl (fun w114 e115 => ?_)
                  replace R31 := R31.trans (Ext0.any e115)
                  replace B := B.ext0 e115
                  clear e115
                  refine k_call T11.fn_53 (c_s_AddFields ((B.o 7 rfl).rd) ((B.o 8 rfl).rd) ((B.o 4 rfl).rd) ((B.o 5 rfl).rd) ((B.o 6 rfl).rd) ((B.o 1 rfl).rd) ((B.o 2 rfl).rd) ((B.o 3 rfl).rd) (by omega) (by omega) (by omega) (by omega) (by omega) (by omega) (by omega) (by omega)) rfl ?_
                  rintro v118 w116 hx117
                  by_cases c119 : addB wd0 hi0 wr0 Xsp0 Xls0 Xfe1 Xfx1 Xfy1 Xfe2 Xfx2 Xfy2 = true
                  · have hb120 := addB_b c119
                    obtain ⟨a121, c122, a123, c124, a125, c126, rfl, hN127⟩ := (hx117.resolve_right (fun hz => by rw [c119] at hz; cases hz.1)).2
                    clear hx117
                    replace R31 := R31.trans (Ext0.any hN127.ext)
                    replace B := B.new3 hN127
                    clear hN127
                    refine ⟨fun _ => R31, ?_⟩
                    refine m_y (v := .tuple #[.agg #[.slice a121 ((wd0 * hi0).toNat) c122, .slice a123 ((wd0 * hi0).toNat) c124, .slice a125 ((wd0 * hi0).toNat) c126], .bool true]) 7 rfl (by kernel_rfl) rfl rfl (fun w' e' => y_move rfl) ?_
                    refine m_y (v := .agg #[.slice a121 ((wd0 * hi0).toNat) c122, .slice a123 ((wd0 * hi0).toNat) c124, .slice a125 ((wd0 * hi0).toNat) c126]) 8 rfl (by kernel_rfl) rfl rfl (fun w' e' => y_extract rfl rfl) ?_
                    refine m_y (v := .bool true) 9 rfl (by kernel_rfl) rfl rfl (fun w' e' => y_extract rfl rfl) ?_
                    refine m_k 11 [12] rfl (by kernel_rfl) rfl rfl (fun w130 e131 => ?_)
                    replace R31 := R31.trans (Ext0.any e131)
                    replace B := B.ext0 e131
                    clear e131
                    refine k_stB (v := .agg #[.slice a121 ((wd0 * hi0).toNat) c122, .slice a123 ((wd0 * hi0).toNat) c124, .slice a125 ((wd0 * hi0).toNat) c126]) (n := 3) (cs' := [.slice a121 ((wd0 * hi0).toNat) c122, .slice a123 ((wd0 * hi0).toNat) c124, .slice a125 ((wd0 * hi0).toNat) c126]) T11.sz_49_3 rfl rfl rfl (B.b 3 rfl) (by simp [Value.cells, Value.oneCell']) (Nat.le_of_ble_eq_true rfl) rfl (fun w128 hU129 => ?_)
                    replace R31 := R31.fresh hU129.at1 (fun kx hs hl => (nf112 ((show kx = b109 from hs) ▸ hl)).elim)
                    replace B : Bu w no w128 [.blk b109 [.slice a121 ((wd0 * hi0).toNat) c122, .slice a123 ((wd0 * hi0).toNat) c124, .slice a125 ((wd0 * hi0).toNat) c126] 49, .ow kF a121 ((wd0 * hi0).toNat) c122 56 (addL (wd0 * hi0) Xfe1 Xfe2), .ow kF a123 ((wd0 * hi0).toNat) c124 56 (addL (wd0 * hi0) Xfx1 Xfx2), .ow kF a125 ((wd0 * hi0).toNat) c126 56 (addL (wd0 * hi0) Xfy1 Xfy2), .ow kF a59 nfe2 c60 56 Xfe2, .ow kF a61 nfx2 c62 56 Xfx2, .ow kF a63 nfy2 c64 56 Xfy2, .ow kF a47 nfe1 c48 56 Xfe1, .ow kF a49 nfx1 c50 56 Xfx1, .ow kF a51 nfy1 c52 56 Xfy1, .ow kF a37 nsp0 c38 56 Xsp0, .ow kF a39 nls0 c40 56 Xls0, .blk b7 [.slice afe2 nfe2 cfe2, .slice afx2 nfx2 cfx2, .slice afy2 nfy2 cfy2] 45, .blk b4 [.slice afe1 nfe1 cfe1, .slice afx1 nfx1 cfx1, .slice afy1 nfy1 cfy1] 45, .blk b1 [.int .i64 wd0, .int .i64 hi0, .bool wr0, .slice asp0 nsp0 csp0, .slice als0 nls0 cls0] 36, .rd kF asp0 nsp0 Xsp0, .rd kF als0 nls0 Xls0, .rd kF afe1 nfe1 Xfe1, .rd kF afx1 nfx1 Xfx1, .rd kF afy1 nfy1 Xfy1, .rd kF afe2 nfe2 Xfe2, .rd kF afx2 nfx2 Xfx2, .rd kF afy2 nfy2 Xfy2] := B.upd [3] rfl hU129
                    clear hU129
                    refine ⟨fun _ => R31, ?_⟩
                    refine m_y (v := .bool true) 12 rfl (by kernel_rfl) rfl rfl (fun w' e' => y_assign rfl) ?_
                    refine m_done (by kernel_rfl) (fun w132 e133 => ?_)
                    replace B := B.ext0 e133
                    clear e133
                    clear B0_30 R31
                    exact .inl ⟨_, b109, a121, c122, a123, c124, a125, c126, Fits.eq ⟨rfl, rfl, rfl, rfl, rfl, rfl, trivial⟩, B.pick [0, 1, 2, 3, 12, 13, 14, 15, 16, 17, 18, 19, 20, 21, 22] rfl rfl, c119⟩
                  · obtain ⟨_, rfl, e134⟩ := hx117.resolve_left (fun hz => c119 hz.1)
                    clear hx117
                    replace R31 := R31.trans (Ext0.any e134)
                    replace B := B.ext0 e134
                    clear e134
                    refine ⟨fun _ => R31, ?_⟩
                    refine m_y (v := .tuple #[.agg #[.slice none 0 0, .slice none 0 0, .slice none 0 0], .bool false]) 7 rfl (by kernel_rfl) rfl rfl (fun w' e' => y_move rfl) ?_
                    refine m_y (v := .agg #[.slice none 0 0, .slice none 0 0, .slice none 0 0]) 8 rfl (by kernel_rfl) rfl rfl (fun w' e' => y_extract rfl rfl) ?_
                    refine m_y (v := .bool false) 9 rfl (by kernel_rfl) rfl rfl (fun w' e' => y_extract rfl rfl) ?_
                    refine m_k 11 [12] rfl (by kernel_rfl) rfl rfl (fun w137 e138 => ?_)
                    replace R31 := R31.trans (Ext0.any e138)
                    replace B := B.ext0 e138
                    clear e138
                    refine k_stB (v := .agg #[.slice none 0 0, .slice none 0 0, .slice none 0 0]) (n := 3) (cs' := [.slice none 0 0, .slice none 0 0, .slice none 0 0]) T11.sz_49_3 rfl rfl rfl (B.b 0 rfl) (by simp [Value.cells, Value.oneCell']) (Nat.le_of_ble_eq_true rfl) rfl (fun w135 hU136 => ?_)
                    replace R31 := R31.fresh hU136.at1 (fun kx hs hl => (nf112 ((show kx = b109 from hs) ▸ hl)).elim)
                    replace B : Bu w no w135 [.blk b109 [.slice none 0 0, .slice none 0 0, .slice none 0 0] 49, .ow kF a59 nfe2 c60 56 Xfe2, .ow kF a61 nfx2 c62 56 Xfx2, .ow kF a63 nfy2 c64 56 Xfy2, .ow kF a47 nfe1 c48 56 Xfe1, .ow kF a49 nfx1 c50 56 Xfx1, .ow kF a51 nfy1 c52 56 Xfy1, .ow kF a37 nsp0 c38 56 Xsp0, .ow kF a39 nls0 c40 56 Xls0, .blk b7 [.slice afe2 nfe2 cfe2, .slice afx2 nfx2 cfx2, .slice afy2 nfy2 cfy2] 45, .blk b4 [.slice afe1 nfe1 cfe1, .slice afx1 nfx1 cfx1, .slice afy1 nfy1 cfy1] 45, .blk b1 [.int .i64 wd0, .int .i64 hi0, .bool wr0, .slice asp0 nsp0 csp0, .slice als0 nls0 cls0] 36, .rd kF asp0 nsp0 Xsp0, .rd kF als0 nls0 Xls0, .rd kF afe1 nfe1 Xfe1, .rd kF afx1 nfx1 Xfx1, .rd kF afy1 nfy1 Xfy1, .rd kF afe2 nfe2 Xfe2, .rd kF afx2 nfx2 Xfx2, .rd kF afy2 nfy2 Xfy2] := B.upd [0] rfl hU136
                    clear hU136
                    refine ⟨fun _ => R31, ?_⟩
                    refine m_y (v := .bool false) 12 rfl (by kernel_rfl) rfl rfl (fun w' e' => y_assign rfl) ?_
                    refine m_done (by kernel_rfl) (fun w139 e140 => ?_)
                    replace B := B.ext0 e140
                    clear e140
                    clear B0_30 R31
                    exact .inr (⟨_, b109, Fits.eq ⟨rfl, rfl, rfl, rfl, rfl, rfl, trivial⟩, B.pick [0, 9, 10, 11, 12, 13, 14, 15, 16, 17, 18, 19] rfl rfl, c119⟩)
              · replace R31 := R31.trans (Ext0.any e57)
                replace B := B.ext0 e57
                clear e57
                refine k_allocN (z := (.agg #[.slice none 0 0, .slice none 0 0, .slice none 0 0])) (cs := [.slice none 0 0, .slice none 0 0, .slice none 0 0]) T11.zero_49 rfl (fun b141 w142 hN143 => ?_)
                have nf144 : NotLt b141 _ := fun h => Nat.not_lt.2 (Nat.le_trans (Ext.size R31) hN143.ge) h
                replace R31 := R31.trans (Ext0.any hN143.ext)
                replace B := B.new1 hN143
                clear hN143
                refine ⟨fun _ => R31, ?_⟩
                refine m_k 5 [6, 7, 8, 9, 11, 12] rfl (by kernel_rfl) rfl rfl (fun w146 e147 => ?_)
                replace R31 := R31.trans (Ext0.any e147)
                replace B := B.ext0 e147
                clear e147
                refine k_call T11.fn_31 (c_l_toField (B.r 14 rfl) (B.r 15 rfl) (B.r 16 rfl) (by omega) (by omega) (by omega)) rfl ?_
                rintro _ w148 ⟨a149, c150, a151, c152, a153, c154, rfl, hN155⟩
                replace R31 := R31.trans (Ext0.any hN155.ext)
                replace B := B.new3 hN155
                clear hN155
                refine ⟨fun _ => R31, ?_⟩
                refine m_k 6 [7, 8, 9, 11, 12] rfl (by kernel_rfl) rfl rfl (fun w156 e157 => ?_)
                replace R31 := R31.trans (Ext0.any e157)
                replace B := B.ext0 e157
                clear e157
                refine k_call T11.fn_53 (c_s_AddFields ((B.o 7 rfl).rd) ((B.o 8 rfl).rd) ((B.o 4 rfl).rd) ((B.o 5 rfl).rd) ((B.o 6 rfl).rd) ((B.o 0 rfl).rd) ((B.o 1 rfl).rd) ((B.o 2 rfl).rd) (by omega) (by omega) (by omega) (by omega) (by omega) (by omega) (by omega) (by omega)) rfl ?_
                rintro v160 w158 hx159
                by_cases c161 : addB wd0 hi0 wr0 Xsp0 Xls0 Xfe1 Xfx1 Xfy1 Xfe2 Xfx2 Xfy2 = true
                · have hb162 := addB_b c161
                  obtain ⟨a163, c164, a165, c166, a167, c168, rfl, hN169⟩ := (hx159.resolve_right (fun hz => by rw [c161] at hz; cases hz.1)).2
                  clear hx159
                  replace R31 := R31.trans (Ext0.any hN169.ext)
                  replace B := B.new3 hN169
                  clear hN169
                  refine ⟨fun _ => R31, ?_⟩
                  refine m_y (v := .tuple #[.agg #[.slice a163 ((wd0 * hi0).toNat) c164, .slice a165 ((wd0 * hi0).toNat) c166, .slice a167 ((wd0 * hi0).toNat) c168], .bool true]) 7 rfl (by kernel_rfl) rfl rfl (fun w' e' => y_move rfl) ?_
                  refine m_y (v := .agg #[.slice a163 ((wd0 * hi0).toNat) c164, .slice a165 ((wd0 * hi0).toNat) c166, .slice a167 ((wd0 * hi0).toNat) c168]) 8 rfl (by kernel_rfl) rfl rfl (fun w' e' => y_extract rfl rfl) ?_
                  refine m_y (v := .bool true) 9 rfl (by kernel_rfl) rfl rfl (fun w' e' => y_extract rfl rfl) ?_
                  refine m_k 11 [12] rfl (by kernel_rfl) rfl rfl (fun w172 e173 => ?_)
                  replace R31 := R31.trans (Ext0.any e173)
                  replace B := B.ext0 e173
                  clear e173
                  refine k_stB (v := .agg #[.slice a163 ((wd0 * hi0).toNat) c164, .slice a165 ((wd0 * hi0).toNat) c166, .slice a167 ((wd0 * hi0).toNat) c168]) (n := 3) (cs' := [.slice a163 ((wd0 * hi0).toNat) c164, .slice a165 ((wd0 * hi0).toNat) c166, .slice a167 ((wd0 * hi0).toNat) c168]) T11.sz_49_3 rfl rfl rfl (B.b 6 rfl) (by simp [Value.cells, Value.oneCell']) (Nat.le_of_ble_eq_true rfl) rfl (fun w170 hU171 => ?_)
                  replace R31 := R31.fresh hU171.at1 (fun kx hs hl => (nf144 ((show kx = b141 from hs) ▸ hl)).elim)
                  replace B : Bu w no w170 [.blk b141 [.slice a163 ((wd0 * hi0).toNat) c164, .slice a165 ((wd0 * hi0).toNat) c166, .slice a167 ((wd0 * hi0).toNat) c168] 49, .ow kF a163 ((wd0 * hi0).toNat) c164 56 (addL (wd0 * hi0) Xfe1 Xfe2), .ow kF a165 ((wd0 * hi0).toNat) c166 56 (addL (wd0 * hi0) Xfx1 Xfx2), .ow kF a167 ((wd0 * hi0).toNat) c168 56 (addL (wd0 * hi0) Xfy1 Xfy2), .ow kF a149 nfe2 c150 56 Xfe2, .ow kF a151 nfx2 c152 56 Xfx2, .ow kF a153 nfy2 c154 56 Xfy2, .ow kF a47 nfe1 c48 56 Xfe1, .ow kF a49 nfx1 c50 56 Xfx1, .ow kF a51 nfy1 c52 56 Xfy1, .ow kF a37 nsp0 c38 56 Xsp0, .ow kF a39 nls0 c40 56 Xls0, .blk b7 [.slice afe2 nfe2 cfe2, .slice afx2 nfx2 cfx2, .slice afy2 nfy2 cfy2] 45, .blk b4 [.slice afe1 nfe1 cfe1, .slice afx1 nfx1 cfx1, .slice afy1 nfy1 cfy1] 45, .blk b1 [.int .i64 wd0, .int .i64 hi0, .bool wr0, .slice asp0 nsp0 csp0, .slice als0 nls0 cls0] 36, .rd kF asp0 nsp0 Xsp0, .rd kF als0 nls0 Xls0, .rd kF afe1 nfe1 Xfe1, .rd kF afx1 nfx1 Xfx1, .rd kF afy1 nfy1 Xfy1, .rd kF afe2 nfe2 Xfe2, .rd kF afx2 nfx2 Xfx2, .rd kF afy2 nfy2 Xfy2] := B.upd [6] rfl hU171
                  clear hU171
                  refine ⟨fun _ => R31, ?_⟩
                  refine m_y (v := .bool true) 12 rfl (by kernel_rfl) rfl rfl (fun w' e' => y_assign rfl) ?_
                  refine m_done (by kernel_rfl) (fun w174 e175 => ?_)
                  replace B := B.ext0 e175
                  clear e175
                  clear B0_30 R31
                  exact .inl ⟨_, b141, a163, c164, a165, c166, a167, c168, Fits.eq ⟨rfl, rfl, rfl, rfl, rfl, rfl, trivial⟩, B.pick [0, 1, 2, 3, 12, 13, 14, 15, 16, 17, 18, 19, 20, 21, 22] rfl rfl, c161⟩
                · obtain ⟨_, rfl, e176⟩ := hx159.resolve_left (fun hz => c161 hz.1)
                  clear hx159
                  replace R31 := R31.trans (Ext0.any e176)
                  replace B := B.ext0 e176
                  clear e176
                  refine ⟨fun _ => R31, ?_⟩
                  refine m_y (v := .tuple #[.agg #[.slice none 0 0, .slice none 0 0, .slice none 0 0], .bool false]) 7 rfl (by kernel_rfl) rfl rfl (fun w' e' => y_move rfl) ?_
                  refine m_y (v := .agg #[.slice none 0 0, .slice none 0 0, .slice none 0 0]) 8 rfl (by kernel_rfl) rfl rfl (fun w' e' => y_extract rfl rfl) ?_
                  refine m_y (v := .bool false) 9 rfl (by kernel_rfl) rfl rfl (fun w' e' => y_extract rfl rfl) ?_
                  refine m_k 11 [12] rfl (by kernel_rfl) rfl rfl (fun w179 e180 => ?_)
                  replace R31 := R31.trans (Ext0.any e180)
                  replace B := B.ext0 e180
                  clear e180
                  refine k_stB (v := .agg #[.slice none 0 0, .slice none 0 0, .slice none 0 0]) (n := 3) (cs' := [.slice none 0 0, .slice none 0 0, .slice none 0 0]) T11.sz_49_3 rfl rfl rfl (B.b 3 rfl) (by simp [Value.cells, Value.oneCell']) (Nat.le_of_ble_eq_true rfl) rfl (fun w177 hU178 => ?_)
                  replace R31 := R31.fresh hU178.at1 (fun kx hs hl => (nf144 ((show kx = b141 from hs) ▸ hl)).elim)
                  replace B : Bu w no w177 [.blk b141 [.slice none 0 0, .slice none 0 0, .slice none 0 0] 49, .ow kF a149 nfe2 c150 56 Xfe2, .ow kF a151 nfx2 c152 56 Xfx2, .ow kF a153 nfy2 c154 56 Xfy2, .ow kF a47 nfe1 c48 56 Xfe1, .ow kF a49 nfx1 c50 56 Xfx1, .ow kF a51 nfy1 c52 56 Xfy1, .ow kF a37 nsp0 c38 56 Xsp0, .ow kF a39 nls0 c40 56 Xls0, .blk b7 [.slice afe2 nfe2 cfe2, .slice afx2 nfx2 cfx2, .slice afy2 nfy2 cfy2] 45, .blk b4 [.slice afe1 nfe1 cfe1, .slice afx1 nfx1 cfx1, .slice afy1 nfy1 cfy1] 45, .blk b1 [.int .i64 wd0, .int .i64 hi0, .bool wr0, .slice asp0 nsp0 csp0, .slice als0 nls0 cls0] 36, .rd kF asp0 nsp0 Xsp0, .rd kF als0 nls0 Xls0, .rd kF afe1 nfe1 Xfe1, .rd kF afx1 nfx1 Xfx1, .rd kF afy1 nfy1 Xfy1, .rd kF afe2 nfe2 Xfe2, .rd kF afx2 nfx2 Xfx2, .rd kF afy2 nfy2 Xfy2] := B.upd [3] rfl hU178
                  clear hU178
                  refine ⟨fun _ => R31, ?_⟩
                  refine m_y (v := .bool false) 12 rfl (by kernel_rfl) rfl rfl (fun w' e' => y_assign rfl) ?_
                  refine m_done (by kernel_rfl) (fun w181 e182 => ?_)
                  replace B := B.ext0 e182
                  clear e182
                  clear B0_30 R31
                  exact .inr (⟨_, b141, Fits.eq ⟨rfl, rfl, rfl, rfl, rfl, rfl, trivial⟩, B.pick [0, 9, 10, 11, 12, 13, 14, 15, 16, 17, 18, 19] rfl rfl, c161⟩)
            · replace R31 := R31.trans (Ext0.any e45)
              replace B := B.ext0 e45
              clear e45
              refine k_allocN (z := (.agg #[.slice none 0 0, .slice none 0 0, .slice none 0 0])) (cs := [.slice none 0 0, .slice none 0 0, .slice none 0 0]) T11.zero_49 rfl (fun b183 w184 hN185 => ?_)
              have nf186 : NotLt b183 _ := fun h => Nat.not_lt.2 (Nat.le_trans (Ext.size R31) hN185.ge) h
              replace R31 := R31.trans (Ext0.any hN185.ext)
              replace B := B.new1 hN185
              clear hN185
              refine ⟨fun _ => R31, ?_⟩
              refine m_k 3 [5, 6, 7, 8, 9, 11, 12] rfl (by kernel_rfl) rfl rfl (fun w188 e189 => ?_)
              replace R31 := R31.trans (Ext0.any e189)
              replace B := B.ext0 e189
              clear e189
              refine k_call T11.fn_31 (c_l_toField (B.r 8 rfl) (B.r 9 rfl) (B.r 10 rfl) (by omega) (by omega) (by omega)) rfl ?_
              rintro _ w190 ⟨a191, c192, a193, c194, a195, c196, rfl, hN197⟩
              replace R31 := R31.trans (Ext0.any hN197.ext)
              replace B := B.new3 hN197
              clear hN197
              refine ⟨fun _ => R31, ?_⟩
              refine m_k 5 [6, 7, 8, 9, 11, 12] rfl (by kernel_rfl) rfl rfl (fun w198 e199 => ?_)
              replace R31 := R31.trans (Ext0.any e199)
              replace B := B.ext0 e199
              clear e199
              refine k_call T11.fn_31 (c_l_toField (B.r 14 rfl) (B.r 15 rfl) (B.r 16 rfl) (by omega) (by omega) (by omega)) rfl ?_
              rintro _ w200 ⟨a201, c202, a203, c204, a205, c206, rfl, hN207⟩
              replace R31 := R31.trans (Ext0.any hN207.ext)
              replace B := B.new3 hN207
              clear hN207
              refine ⟨fun _ => R31, ?_⟩
              refine m_k 6 [7, 8, 9, 11, 12] rfl (by kernel_rfl) rfl rfl (fun w208 e209 => ?_)
              replace R31 := R31.trans (Ext0.any e209)
              replace B := B.ext0 e209
              clear e209
              refine k_call T11.fn_53 (c_s_AddFields ((B.o 7 rfl).rd) ((B.o 8 rfl).rd) ((B.o 3 rfl).rd) ((B.o 4 rfl).rd) ((B.o 5 rfl).rd) ((B.o 0 rfl).rd) ((B.o 1 rfl).rd) ((B.o 2 rfl).rd) (by omega) (by omega) (by omega) (by omega) (by omega) (by omega) (by omega) (by omega)) rfl ?_
              rintro v212 w210 hx211
              by_cases c213 : addB wd0 hi0 wr0 Xsp0 Xls0 Xfe1 Xfx1 Xfy1 Xfe2 Xfx2 Xfy2 = true
              · have hb214 := addB_b c213
                obtain ⟨a215, c216, a217, c218, a219, c220, rfl, hN221⟩ := (hx211.resolve_right (fun hz => by rw [c213] at hz; cases hz.1)).2
                clear hx211
                replace R31 := R31.trans (Ext0.any hN221.ext)
                replace B := B.new3 hN221
                clear hN221
                refine ⟨fun _ => R31, ?_⟩
                refine m_y (v := .tuple #[.agg #[.slice a215 ((wd0 * hi0).toNat) c216, .slice a217 ((wd0 * hi0).toNat) c218, .slice a219 ((wd0 * hi0).toNat) c220], .bool true]) 7 rfl (by kernel_rfl) rfl rfl (fun w' e' => y_move rfl) ?_
                refine m_y (v := .agg #[.slice a215 ((wd0 * hi0).toNat) c216, .slice a217 ((wd0 * hi0).toNat) c218, .slice a219 ((wd0 * hi0).toNat) c220]) 8 rfl (by kernel_rfl) rfl rfl (fun w' e' => y_extract rfl rfl) ?_
                refine m_y (v := .bool true) 9 rfl (by kernel_rfl) rfl rfl (fun w' e' => y_extract rfl rfl) ?_
                refine m_k 11 [12] rfl (by kernel_rfl) rfl rfl (fun w224 e225 => ?_)
                replace R31 := R31.trans (Ext0.any e225)
                replace B := B.ext0 e225
                clear e225
                refine k_stB (v := .agg #[.slice a215 ((wd0 * hi0).toNat) c216, .slice a217 ((wd0 * hi0).toNat) c218, .slice a219 ((wd0 * hi0).toNat) c220]) (n := 3) (cs' := [.slice a215 ((wd0 * hi0).toNat) c216, .slice a217 ((wd0 * hi0).toNat) c218, .slice a219 ((wd0 * hi0).toNat) c220]) T11.sz_49_3 rfl rfl rfl (B.b 9 rfl) (by simp [Value.cells, Value.oneCell']) (Nat.le_of_ble_eq_true rfl) rfl (fun w222 hU223 => ?_)
                replace R31 := R31.fresh hU223.at1 (fun kx hs hl => (nf186 ((show kx = b183 from hs) ▸ hl)).elim)
                replace B : Bu w no w222 [.blk b183 [.slice a215 ((wd0 * hi0).toNat) c216, .slice a217 ((wd0 * hi0).toNat) c218, .slice a219 ((wd0 * hi0).toNat) c220] 49, .ow kF a215 ((wd0 * hi0).toNat) c216 56 (addL (wd0 * hi0) Xfe1 Xfe2), .ow kF a217 ((wd0 * hi0).toNat) c218 56 (addL (wd0 * hi0) Xfx1 Xfx2), .ow kF a219 ((wd0 * hi0).toNat) c220 56 (addL (wd0 * hi0) Xfy1 Xfy2), .ow kF a201 nfe2 c202 56 Xfe2, .ow kF a203 nfx2 c204 56 Xfx2, .ow kF a205 nfy2 c206 56 Xfy2, .ow kF a191 nfe1 c192 56 Xfe1, .ow kF a193 nfx1 c194 56 Xfx1, .ow kF a195 nfy1 c196 56 Xfy1, .ow kF a37 nsp0 c38 56 Xsp0, .ow kF a39 nls0 c40 56 Xls0, .blk b7 [.slice afe2 nfe2 cfe2, .slice afx2 nfx2 cfx2, .slice afy2 nfy2 cfy2] 45, .blk b4 [.slice afe1 nfe1 cfe1, .slice afx1 nfx1 cfx1, .slice afy1 nfy1 cfy1] 45, .blk b1 [.int .i64 wd0, .int .i64 hi0, .bool wr0, .slice asp0 nsp0 csp0, .slice als0 nls0 cls0] 36, .rd kF asp0 nsp0 Xsp0, .rd kF als0 nls0 Xls0, .rd kF afe1 nfe1 Xfe1, .rd kF afx1 nfx1 Xfx1, .rd kF afy1 nfy1 Xfy1, .rd kF afe2 nfe2 Xfe2, .rd kF afx2 nfx2 Xfx2, .rd kF afy2 nfy2 Xfy2] := B.upd [9] rfl hU223
                clear hU223
                refine ⟨fun _ => R31, ?_⟩
                refine m_y (v := .bool true) 12 rfl (by kernel_rfl) rfl rfl (fun w' e' => y_assign rfl) ?_
                refine m_done (by kernel_rfl) (fun w226 e227 => ?_)
                replace B := B.ext0 e227
                clear e227
                clear B0_30 R31
                exact .inl ⟨_, b183, a215, c216, a217, c218, a219, c220, Fits.eq ⟨rfl, rfl, rfl, rfl, rfl, rfl, trivial⟩, B.pick [0, 1, 2, 3, 12, 13, 14, 15, 16, 17, 18, 19, 20, 21, 22] rfl rfl, c213⟩
              · obtain ⟨_, rfl, e228⟩ := hx211.resolve_left (fun hz => c213 hz.1)
                clear hx211
                replace R31 := R31.trans (Ext0.any e228)
                replace B := B.ext0 e228
                clear e228
                refine ⟨fun _ => R31, ?_⟩
                refine m_y (v := .tuple #[.agg #[.slice none 0 0, .slice none 0 0, .slice none 0 0], .bool false]) 7 rfl (by kernel_rfl) rfl rfl (fun w' e' => y_move rfl) ?_
                refine m_y (v := .agg #[.slice none 0 0, .slice none 0 0, .slice none 0 0]) 8 rfl (by kernel_rfl) rfl rfl (fun w' e' => y_extract rfl rfl) ?_
                refine m_y (v := .bool false) 9 rfl (by kernel_rfl) rfl rfl (fun w' e' => y_extract rfl rfl) ?_
                refine m_k 11 [12] rfl (by kernel_rfl) rfl rfl (fun w231 e232 => ?_)
                replace R31 := R31.trans (Ext0.any e232)
                replace B := B.ext0 e232
                clear e232
                refine k_stB (v := .agg #[.slice none 0 0, .slice none 0 0, .slice none 0 0]) (n := 3) (cs' := [.slice none 0 0, .slice none 0 0, .slice none 0 0]) T11.sz_49_3 rfl rfl rfl (B.b 6 rfl) (by simp [Value.cells, Value.oneCell']) (Nat.le_of_ble_eq_true rfl) rfl (fun w229 hU230 => ?_)
                replace R31 := R31.fresh hU230.at1 (fun kx hs hl => (nf186 ((show kx = b183 from hs) ▸ hl)).elim)
                replace B : Bu w no w229 [.blk b183 [.slice none 0 0, .slice none 0 0, .slice none 0 0] 49, .ow kF a201 nfe2 c202 56 Xfe2, .ow kF a203 nfx2 c204 56 Xfx2, .ow kF a205 nfy2 c206 56 Xfy2, .ow kF a191 nfe1 c192 56 Xfe1, .ow kF a193 nfx1 c194 56 Xfx1, .ow kF a195 nfy1 c196 56 Xfy1, .ow kF a37 nsp0 c38 56 Xsp0, .ow kF a39 nls0 c40 56 Xls0, .blk b7 [.slice afe2 nfe2 cfe2, .slice afx2 nfx2 cfx2, .slice afy2 nfy2 cfy2] 45, .blk b4 [.slice afe1 nfe1 cfe1, .slice afx1 nfx1 cfx1, .slice afy1 nfy1 cfy1] 45, .blk b1 [.int .i64 wd0, .int .i64 hi0, .bool wr0, .slice asp0 nsp0 csp0, .slice als0 nls0 cls0] 36, .rd kF asp0 nsp0 Xsp0, .rd kF als0 nls0 Xls0, .rd kF afe1 nfe1 Xfe1, .rd kF afx1 nfx1 Xfx1, .rd kF afy1 nfy1 Xfy1, .rd kF afe2 nfe2 Xfe2, .rd kF afx2 nfx2 Xfx2, .rd kF afy2 nfy2 Xfy2] := B.upd [6] rfl hU230
                clear hU230
                refine ⟨fun _ => R31, ?_⟩
                refine m_y (v := .bool false) 12 rfl (by kernel_rfl) rfl rfl (fun w' e' => y_assign rfl) ?_
                refine m_done (by kernel_rfl) (fun w233 e234 => ?_)
                replace B := B.ext0 e234
                clear e234
                clear B0_30 R31
                exact .inr (⟨_, b183, Fits.eq ⟨rfl, rfl, rfl, rfl, rfl, rfl, trivial⟩, B.pick [0, 9, 10, 11, 12, 13, 14, 15, 16, 17, 18, 19] rfl rfl, c213⟩)
          · replace R31 := R31.trans (Ext0.any e35)
            replace B := B.ext0 e35
            clear e35
            refine k_allocN (z := (.agg #[.slice none 0 0, .slice none 0 0, .slice none 0 0])) (cs := [.slice none 0 0, .slice none 0 0, .slice none 0 0]) T11.zero_49 rfl (fun b235 w236 hN237 => ?_)
            have nf238 : NotLt b235 _ := fun h => Nat.not_lt.2 (Nat.le_trans (Ext.size R31) hN237.ge) h
            replace R31 := R31.trans (Ext0.any hN237.ext)
            replace B := B.new1 hN237
            clear hN237
            refine ⟨fun _ => R31, ?_⟩
            refine m_k 1 [3, 5, 6, 7, 8, 9, 11, 12] rfl (by kernel_rfl) rfl rfl (fun w240 e241 => ?_)
            replace R31 := R31.trans (Ext0.any e241)
            replace B := B.ext0 e241
            clear e241
            refine k_call T11.fn_23 (c_l_toSheet (B.r 4 rfl) (B.r 5 rfl) (by omega) (by omega)) rfl ?_
            rintro _ w242 ⟨a243, c244, a245, c246, rfl, hN247⟩
            replace R31 := R31.trans (Ext0.any hN247.ext)
            replace B := B.new2 hN247
            clear hN247
            refine ⟨fun _ => R31, ?_⟩
            refine m_k 3 [5, 6, 7, 8, 9, 11, 12] rfl (by kernel_rfl) rfl rfl (fun w248 e249 => ?_)
            replace R31 := R31.trans (Ext0.any e249)
            replace B := B.ext0 e249
            clear e249
            refine k_call T11.fn_31 (c_l_toField (B.r 8 rfl) (B.r 9 rfl) (B.r 10 rfl) (by omega) (by omega) (by omega)) rfl ?_
            rintro _ w250 ⟨a251, c252, a253, c254, a255, c256, rfl, hN257⟩
            replace R31 := R31.trans (Ext0.any hN257.ext)
            replace B := B.new3 hN257
            clear hN257
            refine ⟨fun _ => R31, ?_⟩
            refine m_k 5 [6, 7, 8, 9, 11, 12] rfl (by kernel_rfl) rfl rfl (fun w258 e259 => ?_)
            replace R31 := R31.trans (Ext0.any e259)
            replace B := B.ext0 e259
            clear e259
            refine k_call T11.fn_31 (c_l_toField (B.r 14 rfl) (B.r 15 rfl) (B.r 16 rfl) (by omega) (by omega) (by omega)) rfl ?_
            rintro _ w260 ⟨a261, c262, a263, c264, a265, c266, rfl, hN267⟩
            replace R31 := R31.trans (Ext0.any hN267.ext)
            replace B := B.new3 hN267
            clear hN267
            refine ⟨fun _ => R31, ?_⟩
            refine m_k 6 [7, 8, 9, 11, 12] rfl (by kernel_rfl) rfl rfl (fun w268 e269 => ?_)
            replace R31 := R31.trans (Ext0.any e269)
            replace B := B.ext0 e269
            clear e269
            refine k_call T11.fn_53 (c_s_AddFields ((B.o 6 rfl).rd) ((B.o 7 rfl).rd) ((B.o 3 rfl).rd) ((B.o 4 rfl).rd) ((B.o 5 rfl).rd) ((B.o 0 rfl).rd) ((B.o 1 rfl).rd) ((B.o 2 rfl).rd) (by omega) (by omega) (by omega) (by omega) (by omega) (by omega) (by omega) (by omega)) rfl ?_
            rintro v272 w270 hx271
            by_cases c273 : addB wd0 hi0 wr0 Xsp0 Xls0 Xfe1 Xfx1 Xfy1 Xfe2 Xfx2 Xfy2 = true
            · have hb274 := addB_b c273
              obtain ⟨a275, c276, a277, c278, a279, c280, rfl, hN281⟩ := (hx271.resolve_right (fun hz => by rw [c273] at hz; cases hz.1)).2
              clear hx271
              replace R31 := R31.trans (Ext0.any hN281.ext)
              replace B := B.new3 hN281
              clear hN281
              refine ⟨fun _ => R31, ?_⟩
              refine m_y (v := .tuple #[.agg #[.slice a275 ((wd0 * hi0).toNat) c276, .slice a277 ((wd0 * hi0).toNat) c278, .slice a279 ((wd0 * hi0).toNat) c280], .bool true]) 7 rfl (by kernel_rfl) rfl rfl (fun w' e' => y_move rfl) ?_
              refine m_y (v := .agg #[.slice a275 ((wd0 * hi0).toNat) c276, .slice a277 ((wd0 * hi0).toNat) c278, .slice a279 ((wd0 * hi0).toNat) c280]) 8 rfl (by kernel_rfl) rfl rfl (fun w' e' => y_extract rfl rfl) ?_
              refine m_y (v := .bool true) 9 rfl (by kernel_rfl) rfl rfl (fun w' e' => y_extract rfl rfl) ?_
              refine m_k 11 [12] rfl (by kernel_rfl) rfl rfl (fun w284 e285 => ?_)
              replace R31 := R31.trans (Ext0.any e285)
              replace B := B.ext0 e285
              clear e285
              refine k_stB (v := .agg #[.slice a275 ((wd0 * hi0).toNat) c276, .slice a277 ((wd0 * hi0).toNat) c278, .slice a279 ((wd0 * hi0).toNat) c280]) (n := 3) (cs' := [.slice a275 ((wd0 * hi0).toNat) c276, .slice a277 ((wd0 * hi0).toNat) c278, .slice a279 ((wd0 * hi0).toNat) c280]) T11.sz_49_3 rfl rfl rfl (B.b 11 rfl) (by simp [Value.cells, Value.oneCell']) (Nat.le_of_ble_eq_true rfl) rfl (fun w282 hU283 => ?_)
              replace R31 := R31.fresh hU283.at1 (fun kx hs hl => (nf238 ((show kx = b235 from hs) ▸ hl)).elim)
              replace B : Bu w no w282 [.blk b235 [.slice a275 ((wd0 * hi0).toNat) c276, .slice a277 ((wd0 * hi0).toNat) c278, .slice a279 ((wd0 * hi0).toNat) c280] 49, .ow kF a275 ((wd0 * hi0).toNat) c276 56 (addL (wd0 * hi0) Xfe1 Xfe2), .ow kF a277 ((wd0 * hi0).toNat) c278 56 (addL (wd0 * hi0) Xfx1 Xfx2), .ow kF a279 ((wd0 * hi0).toNat) c280 56 (addL (wd0 * hi0) Xfy1 Xfy2), .ow kF a261 nfe2 c262 56 Xfe2, .ow kF a263 nfx2 c264 56 Xfx2, .ow kF a265 nfy2 c266 56 Xfy2, .ow kF a251 nfe1 c252 56 Xfe1, .ow kF a253 nfx1 c254 56 Xfx1, .ow kF a255 nfy1 c256 56 Xfy1, .ow kF a243 nsp0 c244 56 Xsp0, .ow kF a245 nls0 c246 56 Xls0, .blk b7 [.slice afe2 nfe2 cfe2, .slice afx2 nfx2 cfx2, .slice afy2 nfy2 cfy2] 45, .blk b4 [.slice afe1 nfe1 cfe1, .slice afx1 nfx1 cfx1, .slice afy1 nfy1 cfy1] 45, .blk b1 [.int .i64 wd0, .int .i64 hi0, .bool wr0, .slice asp0 nsp0 csp0, .slice als0 nls0 cls0] 36, .rd kF asp0 nsp0 Xsp0, .rd kF als0 nls0 Xls0, .rd kF afe1 nfe1 Xfe1, .rd kF afx1 nfx1 Xfx1, .rd kF afy1 nfy1 Xfy1, .rd kF afe2 nfe2 Xfe2, .rd kF afx2 nfx2 Xfx2, .rd kF afy2 nfy2 Xfy2] := B.upd [11] rfl hU283
              clear hU283
              refine ⟨fun _ => R31, ?_⟩
              refine m_y (v := .bool true) 12 rfl (by kernel_rfl) rfl rfl (fun w' e' => y_assign rfl) ?_
              refine m_done (by kernel_rfl) (fun w286 e287 => ?_)
              replace B := B.ext0 e287
              clear e287
              clear B0_30 R31
              exact .inl ⟨_, b235, a275, c276, a277, c278, a279, c280, Fits.eq ⟨rfl, rfl, rfl, rfl, rfl, rfl, trivial⟩, B.pick [0, 1, 2, 3, 12, 13, 14, 15, 16, 17, 18, 19, 20, 21, 22] rfl rfl, c273⟩
            · obtain ⟨_, rfl, e288⟩ := hx271.resolve_left (fun hz => c273 hz.1)
              clear hx271
              replace R31 := R31.trans (Ext0.any e288)
              replace B := B.ext0 e288
              clear e288
              refine ⟨fun _ => R31, ?_⟩
              refine m_y (v := .tuple #[.agg #[.slice none 0 0, .slice none 0 0, .slice none 0 0], .bool false]) 7 rfl (by kernel_rfl) rfl rfl (fun w' e' => y_move rfl) ?_
              refine m_y (v := .agg #[.slice none 0 0, .slice none 0 0, .slice none 0 0]) 8 rfl (by kernel_rfl) rfl rfl (fun w' e' => y_extract rfl rfl) ?_
              refine m_y (v := .bool false) 9 rfl (by kernel_rfl) rfl rfl (fun w' e' => y_extract rfl rfl) ?_
              refine m_k 11 [12] rfl (by kernel_rfl) rfl rfl (fun w291 e292 => ?_)
              replace R31 := R31.trans (Ext0.any e292)
              replace B := B.ext0 e292
              clear e292
              refine k_stB (v := .agg #[.slice none 0 0, .slice none 0 0, .slice none 0 0]) (n := 3) (cs' := [.slice none 0 0, .slice none 0 0, .slice none 0 0]) T11.sz_49_3 rfl rfl rfl (B.b 8 rfl) (by simp [Value.cells, Value.oneCell']) (Nat.le_of_ble_eq_true rfl) rfl (fun w289 hU290 => ?_)
              replace R31 := R31.fresh hU290.at1 (fun kx hs hl => (nf238 ((show kx = b235 from hs) ▸ hl)).elim)
              replace B : Bu w no w289 [.blk b235 [.slice none 0 0, .slice none 0 0, .slice none 0 0] 49, .ow kF a261 nfe2 c262 56 Xfe2, .ow kF a263 nfx2 c264 56 Xfx2, .ow kF a265 nfy2 c266 56 Xfy2, .ow kF a251 nfe1 c252 56 Xfe1, .ow kF a253 nfx1 c254 56 Xfx1, .ow kF a255 nfy1 c256 56 Xfy1, .ow kF a243 nsp0 c244 56 Xsp0, .ow kF a245 nls0 c246 56 Xls0, .blk b7 [.slice afe2 nfe2 cfe2, .slice afx2 nfx2 cfx2, .slice afy2 nfy2 cfy2] 45, .blk b4 [.slice afe1 nfe1 cfe1, .slice afx1 nfx1 cfx1, .slice afy1 nfy1 cfy1] 45, .blk b1 [.int .i64 wd0, .int .i64 hi0, .bool wr0, .slice asp0 nsp0 csp0, .slice als0 nls0 cls0] 36, .rd kF asp0 nsp0 Xsp0, .rd kF als0 nls0 Xls0, .rd kF afe1 nfe1 Xfe1, .rd kF afx1 nfx1 Xfx1, .rd kF afy1 nfy1 Xfy1, .rd kF afe2 nfe2 Xfe2, .rd kF afx2 nfx2 Xfx2, .rd kF afy2 nfy2 Xfy2] := B.upd [8] rfl hU290
              clear hU290
              refine ⟨fun _ => R31, ?_⟩
              refine m_y (v := .bool false) 12 rfl (by kernel_rfl) rfl rfl (fun w' e' => y_assign rfl) ?_
              refine m_done (by kernel_rfl) (fun w293 e294 => ?_)
              replace B := B.ext0 e294
              clear e294
              clear B0_30 R31
              exact .inr (⟨_, b235, Fits.eq ⟨rfl, rfl, rfl, rfl, rfl, rfl, trivial⟩, B.pick [0, 9, 10, 11, 12, 13, 14, 15, 16, 17, 18, 19] rfl rfl, c273⟩)
        · clear B; rintro _ w295 (⟨ρ297, b82, a75, c76, a77, c78, a79, c80, rfl, B, c296⟩ | ⟨ρ299, b96, rfl, B, c298⟩)
          · have hb300 := addB_b c296
            refine W_seq ?_
            refine W_region (by kernel_rfl) ?_
            refine s_y (v := .agg #[.int .i64 wd0, .int .i64 hi0, .bool wr0, .slice asp0 nsp0 csp0, .slice als0 nls0 cls0]) rfl (y_loadn (b := b1) (o := 0) (vs := [.int .i64 wd0, .int .i64 hi0, .bool wr0, .slice asp0 nsp0 csp0, .slice als0 nls0 cls0]) T11.agg_36_5 rfl rfl ((B.b 6 rfl).cells (o := 0) rfl)) ?_
            refine s_k rfl (k_call T11.fn_23 (c_l_toSheet (B.r 7 rfl) (B.r 8 rfl) (by omega) (by omega)) rfl ?_)
            rintro _ w301 ⟨a302, c303, a304, c305, rfl, hN306⟩
            replace B := B.new2 hN306
            clear hN306
            refine s_k rfl (k_allocN (z := (.agg #[.int .i64 0, .int .i64 0, .bool false, .slice none 0 0, .slice none 0 0])) (cs := [.int .i64 0, .int .i64 0, .bool false, .slice none 0 0, .slice none 0 0]) T11.zero_26 rfl (fun b307 w308 hN309 => ?_))
            replace B := B.new1 hN309
            clear hN309
            refine s_k0 rfl (k_stB (v := .agg #[.int .i64 wd0, .int .i64 hi0, .bool wr0, .slice a302 nsp0 c303, .slice a304 nls0 c305]) (n := 5) (cs' := [.int .i64 wd0, .int .i64 hi0, .bool wr0, .slice a302 nsp0 c303, .slice a304 nls0 c305]) T11.sz_26_5 rfl rfl rfl (B.b 0 rfl) (by simp [Value.cells, Value.oneCell']) (Nat.le_of_ble_eq_true rfl) rfl (fun w310 hU311 => ?_))
            replace B : Bu w no w310 [.blk b307 [.int .i64 wd0, .int .i64 hi0, .bool wr0, .slice a302 nsp0 c303, .slice a304 nls0 c305] 26, .ow kF a302 nsp0 c303 56 Xsp0, .ow kF a304 nls0 c305 56 Xls0, .blk b82 [.slice a75 ((wd0 * hi0).toNat) c76, .slice a77 ((wd0 * hi0).toNat) c78, .slice a79 ((wd0 * hi0).toNat) c80] 49, .ow kF a75 ((wd0 * hi0).toNat) c76 56 (addL (wd0 * hi0) Xfe1 Xfe2), .ow kF a77 ((wd0 * hi0).toNat) c78 56 (addL (wd0 * hi0) Xfx1 Xfx2), .ow kF a79 ((wd0 * hi0).toNat) c80 56 (addL (wd0 * hi0) Xfy1 Xfy2), .blk b7 [.slice afe2 nfe2 cfe2, .slice afx2 nfx2 cfx2, .slice afy2 nfy2 cfy2] 45, .blk b4 [.slice afe1 nfe1 cfe1, .slice afx1 nfx1 cfx1, .slice afy1 nfy1 cfy1] 45, .blk b1 [.int .i64 wd0, .int .i64 hi0, .bool wr0, .slice asp0 nsp0 csp0, .slice als0 nls0 cls0] 36, .rd kF asp0 nsp0 Xsp0, .rd kF als0 nls0 Xls0, .rd kF afe1 nfe1 Xfe1, .rd kF afx1 nfx1 Xfx1, .rd kF afy1 nfy1 Xfy1, .rd kF afe2 nfe2 Xfe2, .rd kF afx2 nfx2 Xfx2, .rd kF afy2 nfy2 Xfy2] := B.upd [0] rfl hU311
            clear hU311
            refine s_nil ?_
            refine W_seq ?_
            refine W_region (by kernel_rfl) ?_
            refine s_y (v := .agg #[.slice afe1 nfe1 cfe1, .slice afx1 nfx1 cfx1, .slice afy1 nfy1 cfy1]) rfl (y_loadn (b := b4) (o := 0) (vs := [.slice afe1 nfe1 cfe1, .slice afx1 nfx1 cfx1, .slice afy1 nfy1 cfy1]) T11.agg_45_3 rfl rfl ((B.b 8 rfl).cells (o := 0) rfl)) ?_
            refine s_k rfl (k_call T11.fn_31 (c_l_toField (B.r 12 rfl) (B.r 13 rfl) (B.r 14 rfl) (by omega) (by omega) (by omega)) rfl ?_)
            rintro _ w312 ⟨a313, c314, a315, c316, a317, c318, rfl, hN319⟩
            replace B := B.new3 hN319
            clear hN319
            refine s_k rfl (k_allocN (z := (.agg #[.slice none 0 0, .slice none 0 0, .slice none 0 0])) (cs := [.slice none 0 0, .slice none 0 0, .slice none 0 0]) T11.zero_49 rfl (fun b320 w321 hN322 => ?_))
            replace B := B.new1 hN322
            clear hN322
            refine s_k0 rfl (k_stB (v := .agg #[.slice a313 nfe1 c314, .slice a315 nfx1 c316, .slice a317 nfy1 c318]) (n := 3) (cs' := [.slice a313 nfe1 c314, .slice a315 nfx1 c316, .slice a317 nfy1 c318]) T11.sz_49_3 rfl rfl rfl (B.b 0 rfl) (by simp [Value.cells, Value.oneCell']) (Nat.le_of_ble_eq_true rfl) rfl (fun w323 hU324 => ?_))
            replace B : Bu w no w323 [.blk b320 [.slice a313 nfe1 c314, .slice a315 nfx1 c316, .slice a317 nfy1 c318] 49, .ow kF a313 nfe1 c314 56 Xfe1, .ow kF a315 nfx1 c316 56 Xfx1, .ow kF a317 nfy1 c318 56 Xfy1, .blk b307 [.int .i64 wd0, .int .i64 hi0, .bool wr0, .slice a302 nsp0 c303, .slice a304 nls0 c305] 26, .ow kF a302 nsp0 c303 56 Xsp0, .ow kF a304 nls0 c305 56 Xls0, .blk b82 [.slice a75 ((wd0 * hi0).toNat) c76, .slice a77 ((wd0 * hi0).toNat) c78, .slice a79 ((wd0 * hi0).toNat) c80] 49, .ow kF a75 ((wd0 * hi0).toNat) c76 56 (addL (wd0 * hi0) Xfe1 Xfe2), .ow kF a77 ((wd0 * hi0).toNat) c78 56 (addL (wd0 * hi0) Xfx1 Xfx2), .ow kF a79 ((wd0 * hi0).toNat) c80 56 (addL (wd0 * hi0) Xfy1 Xfy2), .blk b7 [.slice afe2 nfe2 cfe2, .slice afx2 nfx2 cfx2, .slice afy2 nfy2 cfy2] 45, .blk b4 [.slice afe1 nfe1 cfe1, .slice afx1 nfx1 cfx1, .slice afy1 nfy1 cfy1] 45, .blk b1 [.int .i64 wd0, .int .i64 hi0, .bool wr0, .slice asp0 nsp0 csp0, .slice als0 nls0 cls0] 36, .rd kF asp0 nsp0 Xsp0, .rd kF als0 nls0 Xls0, .rd kF afe1 nfe1 Xfe1, .rd kF afx1 nfx1 Xfx1, .rd kF afy1 nfy1 Xfy1, .rd kF afe2 nfe2 Xfe2, .rd kF afx2 nfx2 Xfx2, .rd kF afy2 nfy2 Xfy2] := B.upd [0] rfl hU324
            clear hU324
            refine s_nil ?_
            refine W_seq ?_
            refine W_region (by kernel_rfl) ?_
            refine s_y (v := .agg #[.slice afe2 nfe2 cfe2, .slice afx2 nfx2 cfx2, .slice afy2 nfy2 cfy2]) rfl (y_loadn (b := b7) (o := 0) (vs := [.slice afe2 nfe2 cfe2, .slice afx2 nfx2 cfx2, .slice afy2 nfy2 cfy2]) T11.agg_45_3 rfl rfl ((B.b 11 rfl).cells (o := 0) rfl)) ?_
            refine s_k rfl (k_call T11.fn_31 (c_l_toField (B.r 19 rfl) (B.r 20 rfl) (B.r 21 rfl) (by omega) (by omega) (by omega)) rfl ?_)
            rintro _ w325 ⟨a326, c327, a328, c329, a330, c331, rfl, hN332⟩
            replace B := B.new3 hN332
            clear hN332
            refine s_k rfl (k_allocN (z := (.agg #[.slice none 0 0, .slice none 0 0, .slice none 0 0])) (cs := [.slice none 0 0, .slice none 0 0, .slice none 0 0]) T11.zero_49 rfl (fun b333 w334 hN335 => ?_))
            replace B := B.new1 hN335
            clear hN335
            refine s_k0 rfl (k_stB (v := .agg #[.slice a326 nfe2 c327, .slice a328 nfx2 c329, .slice a330 nfy2 c331]) (n := 3) (cs' := [.slice a326 nfe2 c327, .slice a328 nfx2 c329, .slice a330 nfy2 c331]) T11.sz_49_3 rfl rfl rfl (B.b 0 rfl) (by simp [Value.cells, Value.oneCell']) (Nat.le_of_ble_eq_true rfl) rfl (fun w336 hU337 => ?_))
            replace B : Bu w no w336 [.blk b333 [.slice a326 nfe2 c327, .slice a328 nfx2 c329, .slice a330 nfy2 c331] 49, .ow kF a326 nfe2 c327 56 Xfe2, .ow kF a328 nfx2 c329 56 Xfx2, .ow kF a330 nfy2 c331 56 Xfy2, .blk b320 [.slice a313 nfe1 c314, .slice a315 nfx1 c316, .slice a317 nfy1 c318] 49, .ow kF a313 nfe1 c314 56 Xfe1, .ow kF a315 nfx1 c316 56 Xfx1, .ow kF a317 nfy1 c318 56 Xfy1, .blk b307 [.int .i64 wd0, .int .i64 hi0, .bool wr0, .slice a302 nsp0 c303, .slice a304 nls0 c305] 26, .ow kF a302 nsp0 c303 56 Xsp0, .ow kF a304 nls0 c305 56 Xls0, .blk b82 [.slice a75 ((wd0 * hi0).toNat) c76, .slice a77 ((wd0 * hi0).toNat) c78, .slice a79 ((wd0 * hi0).toNat) c80] 49, .ow kF a75 ((wd0 * hi0).toNat) c76 56 (addL (wd0 * hi0) Xfe1 Xfe2), .ow kF a77 ((wd0 * hi0).toNat) c78 56 (addL (wd0 * hi0) Xfx1 Xfx2), .ow kF a79 ((wd0 * hi0).toNat) c80 56 (addL (wd0 * hi0) Xfy1 Xfy2), .blk b7 [.slice afe2 nfe2 cfe2, .slice afx2 nfx2 cfx2, .slice afy2 nfy2 cfy2] 45, .blk b4 [.slice afe1 nfe1 cfe1, .slice afx1 nfx1 cfx1, .slice afy1 nfy1 cfy1] 45, .blk b1 [.int .i64 wd0, .int .i64 hi0, .bool wr0, .slice asp0 nsp0 csp0, .slice als0 nls0 cls0] 36, .rd kF asp0 nsp0 Xsp0, .rd kF als0 nls0 Xls0, .rd kF afe1 nfe1 Xfe1, .rd kF afx1 nfx1 Xfx1, .rd kF afy1 nfy1 Xfy1, .rd kF afe2 nfe2 Xfe2, .rd kF afx2 nfx2 Xfx2, .rd kF afy2 nfy2 Xfy2] := B.upd [0] rfl hU337
            clear hU337
            refine s_nil ?_
            refine W_seq ?_
            refine W_region (by kernel_rfl) ?_
            refine s_y (v := .agg #[.int .i64 wd0, .int .i64 hi0, .bool wr0, .slice a302 nsp0 c303, .slice a304 nls0 c305]) rfl (y_loadn (b := b307) (o := 0) (vs := [.int .i64 wd0, .int .i64 hi0, .bool wr0, .slice a302 nsp0 c303, .slice a304 nls0 c305]) T11.agg_26_5 rfl rfl ((B.b 8 rfl).cells (o := 0) rfl)) ?_
            refine s_y (v := .agg #[.slice a313 nfe1 c314, .slice a315 nfx1 c316, .slice a317 nfy1 c318]) rfl (y_loadn (b := b320) (o := 0) (vs := [.slice a313 nfe1 c314, .slice a315 nfx1 c316, .slice a317 nfy1 c318]) T11.agg_49_3 rfl rfl ((B.b 4 rfl).cells (o := 0) rfl)) ?_
            refine s_y (v := .agg #[.slice a326 nfe2 c327, .slice a328 nfx2 c329, .slice a330 nfy2 c331]) rfl (y_loadn (b := b333) (o := 0) (vs := [.slice a326 nfe2 c327, .slice a328 nfx2 c329, .slice a330 nfy2 c331]) T11.agg_49_3 rfl rfl ((B.b 0 rfl).cells (o := 0) rfl)) ?_
            refine s_k rfl (k_call T11.fn_54 (c_i_AddFields ((B.o 9 rfl).rd) ((B.o 10 rfl).rd) ((B.o 5 rfl).rd) ((B.o 6 rfl).rd) ((B.o 7 rfl).rd) ((B.o 1 rfl).rd) ((B.o 2 rfl).rd) ((B.o 3 rfl).rd) (by omega) (by omega) (by omega) (by omega) (by omega) (by omega) (by omega) (by omega)) rfl ?_)
            rintro v340 w338 hx339
            obtain ⟨a341, c342, a343, c344, a345, c346, rfl, hN347⟩ := (hx339.resolve_right (fun hz => by rw [c296] at hz; cases hz.1)).2
            clear hx339
            replace B := B.new3 hN347
            clear hN347
            refine s_y (v := .tuple #[.agg #[.slice a341 ((wd0 * hi0).toNat) c342, .slice a343 ((wd0 * hi0).toNat) c344, .slice a345 ((wd0 * hi0).toNat) c346], .bool true]) rfl (y_move rfl) ?_
            refine s_y (v := .agg #[.slice a341 ((wd0 * hi0).toNat) c342, .slice a343 ((wd0 * hi0).toNat) c344, .slice a345 ((wd0 * hi0).toNat) c346]) rfl (y_extract rfl rfl) ?_
            refine s_y (v := .bool true) rfl (y_extract rfl rfl) ?_
            refine s_k rfl (k_allocN (z := (.agg #[.slice none 0 0, .slice none 0 0, .slice none 0 0])) (cs := [.slice none 0 0, .slice none 0 0, .slice none 0 0]) T11.zero_49 rfl (fun b348 w349 hN350 => ?_))
            replace B := B.new1 hN350
            clear hN350
            refine s_k0 rfl (k_stB (v := .agg #[.slice a341 ((wd0 * hi0).toNat) c342, .slice a343 ((wd0 * hi0).toNat) c344, .slice a345 ((wd0 * hi0).toNat) c346]) (n := 3) (cs' := [.slice a341 ((wd0 * hi0).toNat) c342, .slice a343 ((wd0 * hi0).toNat) c344, .slice a345 ((wd0 * hi0).toNat) c346]) T11.sz_49_3 rfl rfl rfl (B.b 0 rfl) (by simp [Value.cells, Value.oneCell']) (Nat.le_of_ble_eq_true rfl) rfl (fun w351 hU352 => ?_))
            replace B : Bu w no w351 [.blk b348 [.slice a341 ((wd0 * hi0).toNat) c342, .slice a343 ((wd0 * hi0).toNat) c344, .slice a345 ((wd0 * hi0).toNat) c346] 49, .ow kF a341 ((wd0 * hi0).toNat) c342 56 (addL (wd0 * hi0) Xfe1 Xfe2), .ow kF a343 ((wd0 * hi0).toNat) c344 56 (addL (wd0 * hi0) Xfx1 Xfx2), .ow kF a345 ((wd0 * hi0).toNat) c346 56 (addL (wd0 * hi0) Xfy1 Xfy2), .blk b333 [.slice a326 nfe2 c327, .slice a328 nfx2 c329, .slice a330 nfy2 c331] 49, .ow kF a326 nfe2 c327 56 Xfe2, .ow kF a328 nfx2 c329 56 Xfx2, .ow kF a330 nfy2 c331 56 Xfy2, .blk b320 [.slice a313 nfe1 c314, .slice a315 nfx1 c316, .slice a317 nfy1 c318] 49, .ow kF a313 nfe1 c314 56 Xfe1, .ow kF a315 nfx1 c316 56 Xfx1, .ow kF a317 nfy1 c318 56 Xfy1, .blk b307 [.int .i64 wd0, .int .i64 hi0, .bool wr0, .slice a302 nsp0 c303, .slice a304 nls0 c305] 26, .ow kF a302 nsp0 c303 56 Xsp0, .ow kF a304 nls0 c305 56 Xls0, .blk b82 [.slice a75 ((wd0 * hi0).toNat) c76, .slice a77 ((wd0 * hi0).toNat) c78, .slice a79 ((wd0 * hi0).toNat) c80] 49, .ow kF a75 ((wd0 * hi0).toNat) c76 56 (addL (wd0 * hi0) Xfe1 Xfe2), .ow kF a77 ((wd0 * hi0).toNat) c78 56 (addL (wd0 * hi0) Xfx1 Xfx2), .ow kF a79 ((wd0 * hi0).toNat) c80 56 (addL (wd0 * hi0) Xfy1 Xfy2), .blk b7 [.slice afe2 nfe2 cfe2, .slice afx2 nfx2 cfx2, .slice afy2 nfy2 cfy2] 45, .blk b4 [.slice afe1 nfe1 cfe1, .slice afx1 nfx1 cfx1, .slice afy1 nfy1 cfy1] 45, .blk b1 [.int .i64 wd0, .int .i64 hi0, .bool wr0, .slice asp0 nsp0 csp0, .slice als0 nls0 cls0] 36, .rd kF asp0 nsp0 Xsp0, .rd kF als0 nls0 Xls0, .rd kF afe1 nfe1 Xfe1, .rd kF afx1 nfx1 Xfx1, .rd kF afy1 nfy1 Xfy1, .rd kF afe2 nfe2 Xfe2, .rd kF afx2 nfx2 Xfx2, .rd kF afy2 nfy2 Xfy2] := B.upd [0] rfl hU352
            clear hU352
            refine s_y (v := .bool true) rfl (y_assign rfl) ?_
            refine s_nil ?_
            refine W_seq ?_
            refine W_seq ?_
            refine W_region (by kernel_rfl) ?_
            refine s_y (v := .agg #[.slice a341 ((wd0 * hi0).toNat) c342, .slice a343 ((wd0 * hi0).toNat) c344, .slice a345 ((wd0 * hi0).toNat) c346]) rfl (y_loadn (b := b348) (o := 0) (vs := [.slice a341 ((wd0 * hi0).toNat) c342, .slice a343 ((wd0 * hi0).toNat) c344, .slice a345 ((wd0 * hi0).toNat) c346]) T11.agg_49_3 rfl rfl ((B.b 0 rfl).cells (o := 0) rfl)) ?_
            refine s_y (v := .agg #[.slice a75 ((wd0 * hi0).toNat) c76, .slice a77 ((wd0 * hi0).toNat) c78, .slice a79 ((wd0 * hi0).toNat) c80]) rfl (y_loadn (b := b82) (o := 0) (vs := [.slice a75 ((wd0 * hi0).toNat) c76, .slice a77 ((wd0 * hi0).toNat) c78, .slice a79 ((wd0 * hi0).toNat) c80]) T11.agg_49_3 rfl rfl ((B.b 15 rfl).cells (o := 0) rfl)) ?_
            refine s_k rfl (k_call T11.fn_34 (c_l_eqField ((B.o 1 rfl).rd) ((B.o 2 rfl).rd) ((B.o 3 rfl).rd) ((B.o 16 rfl).rd) ((B.o 17 rfl).rd) ((B.o 18 rfl).rd) (by omega) (by omega) (by omega)) rfl ?_)
            rintro _ w353 ⟨rfl, e354⟩
            replace B := B.ext0 e354
            clear e354
            refine s_y (v := .bool false) rfl (y_not rfl rfl) ?_
            refine s_y (v := .bool false) rfl (y_move rfl) ?_
            refine s_y (v := .bool true) rfl (y_move rfl) ?_
            refine s_y (v := .bool true) rfl (y_move rfl) ?_
            refine s_y (v := .bool false) rfl (y_bneq T11.bool_4 rfl rfl rfl) ?_
            refine s_y (v := .bool false) rfl (y_pick_f rfl rfl) ?_
            refine s_nil ?_
            refine W_if_f (by decide) rfl ?_
            refine W_skip ?_
            refine W_seq ?_
            refine W_seq ?_
            have B0_359 := B
            refine W_draw (no) T11.mx (by kernel_rfl) (fun w357 e358 => ?_)
            have R360 := Ext.refl (no) w353
            replace R360 := R360.trans (Ext0.any e358)
            replace B := B.ext0 e358
            clear e358
            refine m_y (v := .agg #[.int .i64 wd0, .int .i64 hi0, .bool wr0, .slice a302 nsp0 c303, .slice a304 nls0 c305]) 0 rfl (by kernel_rfl) rfl rfl (fun w' e' => y_loadn (b := b307) (o := 0) (vs := [.int .i64 wd0, .int .i64 hi0, .bool wr0, .slice a302 nsp0 c303, .slice a304 nls0 c305]) T11.agg_26_5 rfl rfl (((B0_359.b 12 rfl).ext0 e').cells (o := 0) rfl)) ?_
            refine m_y (v := .agg #[.int .i64 wd0, .int .i64 hi0, .bool wr0, .slice asp0 nsp0 csp0, .slice als0 nls0 cls0]) 1 rfl (by kernel_rfl) rfl rfl (fun w' e' => y_loadn (b := b1) (o := 0) (vs := [.int .i64 wd0, .int .i64 hi0, .bool wr0, .slice asp0 nsp0 csp0, .slice als0 nls0 cls0]) T11.agg_36_5 rfl rfl (((B0_359.b 21 rfl).ext0 e').cells (o := 0) rfl)) ?_
            refine m_k 2 [3, 4] rfl (by kernel_rfl) rfl rfl (fun w361 e362 => ?_)
            replace R360 := R360.trans (Ext0.any e362)
            replace B := B.ext0 e362
            clear e362
            refine k_call T11.fn_23 (c_l_toSheet (B.r 22 rfl) (B.r 23 rfl) (by omega) (by omega)) rfl ?_
            rintro _ w363 ⟨a364, c365, a366, c367, rfl, hN368⟩
            replace R360 := R360.trans (Ext0.any hN368.ext)
            replace B := B.new2 hN368
            clear hN368
            refine ⟨fun _ => R360, ?_⟩
            refine m_k 3 [4] rfl (by kernel_rfl) rfl rfl (fun w369 e370 => ?_)
            replace R360 := R360.trans (Ext0.any e370)
            replace B := B.ext0 e370
            clear e370
            refine k_call T11.fn_25 (c_l_eqSheet ((B.o 15 rfl).rd) ((B.o 16 rfl).rd) ((B.o 0 rfl).rd) ((B.o 1 rfl).rd) (by omega) (by omega)) rfl ?_
            rintro _ w371 ⟨rfl, e372⟩
            replace R360 := R360.trans (Ext0.any e372)
            replace B := B.ext0 e372
            clear e372
            refine ⟨fun _ => R360, ?_⟩
            refine m_y (v := .bool false) 4 rfl (by kernel_rfl) rfl rfl (fun w' e' => y_not rfl rfl) ?_
            refine m_done (by kernel_rfl) (fun w373 e374 => ?_)
            replace B := B.ext0 e374
            clear e374
            clear B0_359 R360
            refine W_if_f (by decide) rfl ?_
            refine W_skip ?_
            refine W_seq ?_
            refine W_seq ?_
            have B0_379 := B
            refine W_draw (no) T11.mx (by kernel_rfl) (fun w377 e378 => ?_)
            have R380 := Ext.refl (no) w373
            replace R380 := R380.trans (Ext0.any e378)
            replace B := B.ext0 e378
            clear e378
            refine m_y (v := .agg #[.slice a313 nfe1 c314, .slice a315 nfx1 c316, .slice a317 nfy1 c318]) 0 rfl (by kernel_rfl) rfl rfl (fun w' e' => y_loadn (b := b320) (o := 0) (vs := [.slice a313 nfe1 c314, .slice a315 nfx1 c316, .slice a317 nfy1 c318]) T11.agg_49_3 rfl rfl (((B0_379.b 10 rfl).ext0 e').cells (o := 0) rfl)) ?_
            refine m_y (v := .agg #[.slice afe1 nfe1 cfe1, .slice afx1 nfx1 cfx1, .slice afy1 nfy1 cfy1]) 1 rfl (by kernel_rfl) rfl rfl (fun w' e' => y_loadn (b := b4) (o := 0) (vs := [.slice afe1 nfe1 cfe1, .slice afx1 nfx1 cfx1, .slice afy1 nfy1 cfy1]) T11.agg_45_3 rfl rfl (((B0_379.b 22 rfl).ext0 e').cells (o := 0) rfl)) ?_
            refine m_k 2 [3, 4] rfl (by kernel_rfl) rfl rfl (fun w381 e382 => ?_)
            replace R380 := R380.trans (Ext0.any e382)
            replace B := B.ext0 e382
            clear e382
            refine k_call T11.fn_31 (c_l_toField (B.r 26 rfl) (B.r 27 rfl) (B.r 28 rfl) (by omega) (by omega) (by omega)) rfl ?_
            rintro _ w383 ⟨a384, c385, a386, c387, a388, c389, rfl, hN390⟩
            replace R380 := R380.trans (Ext0.any hN390.ext)
            replace B := B.new3 hN390
            clear hN390
            refine ⟨fun _ => R380, ?_⟩
            refine m_k 3 [4] rfl (by kernel_rfl) rfl rfl (fun w391 e392 => ?_)
            replace R380 := R380.trans (Ext0.any e392)
            replace B := B.ext0 e392
            clear e392
            refine k_call T11.fn_34 (c_l_eqField ((B.o 14 rfl).rd) ((B.o 15 rfl).rd) ((B.o 16 rfl).rd) ((B.o 0 rfl).rd) ((B.o 1 rfl).rd) ((B.o 2 rfl).rd) (by omega) (by omega) (by omega)) rfl ?_
            rintro _ w393 ⟨rfl, e394⟩
            replace R380 := R380.trans (Ext0.any e394)
            replace B := B.ext0 e394
            clear e394
            refine ⟨fun _ => R380, ?_⟩
            refine m_y (v := .bool false) 4 rfl (by kernel_rfl) rfl rfl (fun w' e' => y_not rfl rfl) ?_
            refine m_done (by kernel_rfl) (fun w395 e396 => ?_)
            replace B := B.ext0 e396
            clear e396
            clear B0_379 R380
            refine W_if_f (by decide) rfl ?_
            refine W_skip ?_
            refine W_seq ?_
            refine W_seq ?_
            have B0_401 := B
            refine W_draw (no) T11.mx (by kernel_rfl) (fun w399 e400 => ?_)
            have R402 := Ext.refl (no) w395
            replace R402 := R402.trans (Ext0.any e400)
            replace B := B.ext0 e400
            clear e400
            refine m_y (v := .agg #[.slice a326 nfe2 c327, .slice a328 nfx2 c329, .slice a330 nfy2 c331]) 0 rfl (by kernel_rfl) rfl rfl (fun w' e' => y_loadn (b := b333) (o := 0) (vs := [.slice a326 nfe2 c327, .slice a328 nfx2 c329, .slice a330 nfy2 c331]) T11.agg_49_3 rfl rfl (((B0_401.b 9 rfl).ext0 e').cells (o := 0) rfl)) ?_
            refine m_y (v := .agg #[.slice afe2 nfe2 cfe2, .slice afx2 nfx2 cfx2, .slice afy2 nfy2 cfy2]) 1 rfl (by kernel_rfl) rfl rfl (fun w' e' => y_loadn (b := b7) (o := 0) (vs := [.slice afe2 nfe2 cfe2, .slice afx2 nfx2 cfx2, .slice afy2 nfy2 cfy2]) T11.agg_45_3 rfl rfl (((B0_401.b 24 rfl).ext0 e').cells (o := 0) rfl)) ?_
            refine m_k 2 [3, 4] rfl (by kernel_rfl) rfl rfl (fun w403 e404 => ?_)
            replace R402 := R402.trans (Ext0.any e404)
            replace B := B.ext0 e404
            clear e404
            refine k_call T11.fn_31 (c_l_toField (B.r 32 rfl) (B.r 33 rfl) (B.r 34 rfl) (by omega) (by omega) (by omega)) rfl ?_
            rintro _ w405 ⟨a406, c407, a408, c409, a410, c411, rfl, hN412⟩
            replace R402 := R402.trans (Ext0.any hN412.ext)
            replace B := B.new3 hN412
            clear hN412
            refine ⟨fun _ => R402, ?_⟩
            refine m_k 3 [4] rfl (by kernel_rfl) rfl rfl (fun w413 e414 => ?_)
            replace R402 := R402.trans (Ext0.any e414)
            replace B := B.ext0 e414
            clear e414
            refine k_call T11.fn_34 (c_l_eqField ((B.o 13 rfl).rd) ((B.o 14 rfl).rd) ((B.o 15 rfl).rd) ((B.o 0 rfl).rd) ((B.o 1 rfl).rd) ((B.o 2 rfl).rd) (by omega) (by omega) (by omega)) rfl ?_
            rintro _ w415 ⟨rfl, e416⟩
            replace R402 := R402.trans (Ext0.any e416)
            replace B := B.ext0 e416
            clear e416
            refine ⟨fun _ => R402, ?_⟩
            refine m_y (v := .bool false) 4 rfl (by kernel_rfl) rfl rfl (fun w' e' => y_not rfl rfl) ?_
            refine m_done (by kernel_rfl) (fun w417 e418 => ?_)
            replace B := B.ext0 e418
            clear e418
            clear B0_401 R402
            refine W_if_f (by decide) rfl ?_
            refine W_skip ?_
            refine W_seq ?_
            refine W_region (by kernel_rfl) ?_
            refine s_y (v := .int .i64 1) rfl (y_assign rfl) ?_
            refine s_nil ?_
            refine W_seq ?_
            refine W_region (by kernel_rfl) ?_
            refine s_y (v := .agg #[.int .i64 wd0, .int .i64 hi0, .bool wr0, .slice a302 nsp0 c303, .slice a304 nls0 c305]) rfl (y_loadn (b := b307) (o := 0) (vs := [.int .i64 wd0, .int .i64 hi0, .bool wr0, .slice a302 nsp0 c303, .slice a304 nls0 c305]) T11.agg_26_5 rfl rfl ((B.b 20 rfl).cells (o := 0) rfl)) ?_
            refine s_y (v := .int .i64 1) rfl (y_move rfl) ?_
            refine s_k rfl (k_call T11.fn_26 (c_l_markSheet (by omega) (by omega) (by omega) (by omega) (B.all.pick [21, 22] rfl) (B.pw.pick [21, 22] rfl rfl)) rfl ?_)
            rintro _ w419 ⟨rfl, hU420⟩
            replace B : Bu w no w419 [.ow kF a302 nsp0 c303 56 (marks 1 nsp0), .ow kF a304 nls0 c305 56 (marks (1 + ((nsp0 : Nat) : Int)) nls0), .ow kF a406 nfe2 c407 56 Xfe2, .ow kF a408 nfx2 c409 56 Xfx2, .ow kF a410 nfy2 c411 56 Xfy2, .ow kF a384 nfe1 c385 56 Xfe1, .ow kF a386 nfx1 c387 56 Xfx1, .ow kF a388 nfy1 c389 56 Xfy1, .ow kF a364 nsp0 c365 56 Xsp0, .ow kF a366 nls0 c367 56 Xls0, .blk b348 [.slice a341 ((wd0 * hi0).toNat) c342, .slice a343 ((wd0 * hi0).toNat) c344, .slice a345 ((wd0 * hi0).toNat) c346] 49, .ow kF a341 ((wd0 * hi0).toNat) c342 56 (addL (wd0 * hi0) Xfe1 Xfe2), .ow kF a343 ((wd0 * hi0).toNat) c344 56 (addL (wd0 * hi0) Xfx1 Xfx2), .ow kF a345 ((wd0 * hi0).toNat) c346 56 (addL (wd0 * hi0) Xfy1 Xfy2), .blk b333 [.slice a326 nfe2 c327, .slice a328 nfx2 c329, .slice a330 nfy2 c331] 49, .ow kF a326 nfe2 c327 56 Xfe2, .ow kF a328 nfx2 c329 56 Xfx2, .ow kF a330 nfy2 c331 56 Xfy2, .blk b320 [.slice a313 nfe1 c314, .slice a315 nfx1 c316, .slice a317 nfy1 c318] 49, .ow kF a313 nfe1 c314 56 Xfe1, .ow kF a315 nfx1 c316 56 Xfx1, .ow kF a317 nfy1 c318 56 Xfy1, .blk b307 [.int .i64 wd0, .int .i64 hi0, .bool wr0, .slice a302 nsp0 c303, .slice a304 nls0 c305] 26, .blk b82 [.slice a75 ((wd0 * hi0).toNat) c76, .slice a77 ((wd0 * hi0).toNat) c78, .slice a79 ((wd0 * hi0).toNat) c80] 49, .ow kF a75 ((wd0 * hi0).toNat) c76 56 (addL (wd0 * hi0) Xfe1 Xfe2), .ow kF a77 ((wd0 * hi0).toNat) c78 56 (addL (wd0 * hi0) Xfx1 Xfx2), .ow kF a79 ((wd0 * hi0).toNat) c80 56 (addL (wd0 * hi0) Xfy1 Xfy2), .blk b7 [.slice afe2 nfe2 cfe2, .slice afx2 nfx2 cfx2, .slice afy2 nfy2 cfy2] 45, .blk b4 [.slice afe1 nfe1 cfe1, .slice afx1 nfx1 cfx1, .slice afy1 nfy1 cfy1] 45, .blk b1 [.int .i64 wd0, .int .i64 hi0, .bool wr0, .slice asp0 nsp0 csp0, .slice als0 nls0 cls0] 36, .rd kF asp0 nsp0 Xsp0, .rd kF als0 nls0 Xls0, .rd kF afe1 nfe1 Xfe1, .rd kF afx1 nfx1 Xfx1, .rd kF afy1 nfy1 Xfy1, .rd kF afe2 nfe2 Xfe2, .rd kF afx2 nfx2 Xfx2, .rd kF afy2 nfy2 Xfy2] := B.upd [21, 22] rfl hU420
            clear hU420
            refine s_y (v := .int .i64 (1 + ((nsp0 : Nat) : Int) + ((nls0 : Nat) : Int))) rfl (y_assign rfl) ?_
            refine s_nil ?_
            refine W_seq ?_
            refine W_region (by kernel_rfl) ?_
            refine s_y (v := .agg #[.slice a313 nfe1 c314, .slice a315 nfx1 c316, .slice a317 nfy1 c318]) rfl (y_loadn (b := b320) (o := 0) (vs := [.slice a313 nfe1 c314, .slice a315 nfx1 c316, .slice a317 nfy1 c318]) T11.agg_49_3 rfl rfl ((B.b 18 rfl).cells (o := 0) rfl)) ?_
            refine s_y (v := .int .i64 (1 + ((nsp0 : Nat) : Int) + ((nls0 : Nat) : Int))) rfl (y_move rfl) ?_
            refine s_k rfl (k_call T11.fn_35 (c_l_markField (by omega) (by omega) (by omega) (by omega) (by omega) (B.all.pick [19, 20, 21] rfl) (B.pw.pick [19, 20, 21] rfl rfl)) rfl ?_)
            rintro _ w421 ⟨rfl, hU422⟩
            replace B : Bu w no w421 [.ow kF a313 nfe1 c314 56 (marks (1 + ((nsp0 : Nat) : Int) + ((nls0 : Nat) : Int)) nfe1), .ow kF a315 nfx1 c316 56 (marks ((1 + ((nsp0 : Nat) : Int) + ((nls0 : Nat) : Int)) + ((nfe1 : Nat) : Int)) nfx1), .ow kF a317 nfy1 c318 56 (marks ((1 + ((nsp0 : Nat) : Int) + ((nls0 : Nat) : Int)) + ((nfe1 : Nat) : Int) + ((nfx1 : Nat) : Int)) nfy1), .ow kF a302 nsp0 c303 56 (marks 1 nsp0), .ow kF a304 nls0 c305 56 (marks (1 + ((nsp0 : Nat) : Int)) nls0), .ow kF a406 nfe2 c407 56 Xfe2, .ow kF a408 nfx2 c409 56 Xfx2, .ow kF a410 nfy2 c411 56 Xfy2, .ow kF a384 nfe1 c385 56 Xfe1, .ow kF a386 nfx1 c387 56 Xfx1, .ow kF a388 nfy1 c389 56 Xfy1, .ow kF a364 nsp0 c365 56 Xsp0, .ow kF a366 nls0 c367 56 Xls0, .blk b348 [.slice a341 ((wd0 * hi0).toNat) c342, .slice a343 ((wd0 * hi0).toNat) c344, .slice a345 ((wd0 * hi0).toNat) c346] 49, .ow kF a341 ((wd0 * hi0).toNat) c342 56 (addL (wd0 * hi0) Xfe1 Xfe2), .ow kF a343 ((wd0 * hi0).toNat) c344 56 (addL (wd0 * hi0) Xfx1 Xfx2), .ow kF a345 ((wd0 * hi0).toNat) c346 56 (addL (wd0 * hi0) Xfy1 Xfy2), .blk b333 [.slice a326 nfe2 c327, .slice a328 nfx2 c329, .slice a330 nfy2 c331] 49, .ow kF a326 nfe2 c327 56 Xfe2, .ow kF a328 nfx2 c329 56 Xfx2, .ow kF a330 nfy2 c331 56 Xfy2, .blk b320 [.slice a313 nfe1 c314, .slice a315 nfx1 c316, .slice a317 nfy1 c318] 49, .blk b307 [.int .i64 wd0, .int .i64 hi0, .bool wr0, .slice a302 nsp0 c303, .slice a304 nls0 c305] 26, .blk b82 [.slice a75 ((wd0 * hi0).toNat) c76, .slice a77 ((wd0 * hi0).toNat) c78, .slice a79 ((wd0 * hi0).toNat) c80] 49, .ow kF a75 ((wd0 * hi0).toNat) c76 56 (addL (wd0 * hi0) Xfe1 Xfe2), .ow kF a77 ((wd0 * hi0).toNat) c78 56 (addL (wd0 * hi0) Xfx1 Xfx2), .ow kF a79 ((wd0 * hi0).toNat) c80 56 (addL (wd0 * hi0) Xfy1 Xfy2), .blk b7 [.slice afe2 nfe2 cfe2, .slice afx2 nfx2 cfx2, .slice afy2 nfy2 cfy2] 45, .blk b4 [.slice afe1 nfe1 cfe1, .slice afx1 nfx1 cfx1, .slice afy1 nfy1 cfy1] 45, .blk b1 [.int .i64 wd0, .int .i64 hi0, .bool wr0, .slice asp0 nsp0 csp0, .slice als0 nls0 cls0] 36, .rd kF asp0 nsp0 Xsp0, .rd kF als0 nls0 Xls0, .rd kF afe1 nfe1 Xfe1, .rd kF afx1 nfx1 Xfx1, .rd kF afy1 nfy1 Xfy1, .rd kF afe2 nfe2 Xfe2, .rd kF afx2 nfx2 Xfx2, .rd kF afy2 nfy2 Xfy2] := B.upd [19, 20, 21] rfl hU422
            clear hU422
            refine s_y (v := .int .i64 ((1 + ((nsp0 : Nat) : Int) + ((nls0 : Nat) : Int)) + ((nfe1 : Nat) : Int) + ((nfx1 : Nat) : Int) + ((nfy1 : Nat) : Int))) rfl (y_assign rfl) ?_
            refine s_nil ?_
            refine W_seq ?_
            refine W_region (by kernel_rfl) ?_
            refine s_y (v := .agg #[.slice a326 nfe2 c327, .slice a328 nfx2 c329, .slice a330 nfy2 c331]) rfl (y_loadn (b := b333) (o := 0) (vs := [.slice a326 nfe2 c327, .slice a328 nfx2 c329, .slice a330 nfy2 c331]) T11.agg_49_3 rfl rfl ((B.b 17 rfl).cells (o := 0) rfl)) ?_
            refine s_y (v := .int .i64 ((1 + ((nsp0 : Nat) : Int) + ((nls0 : Nat) : Int)) + ((nfe1 : Nat) : Int) + ((nfx1 : Nat) : Int) + ((nfy1 : Nat) : Int))) rfl (y_move rfl) ?_
            refine s_k rfl (k_call T11.fn_35 (c_l_markField (by omega) (by omega) (by omega) (by omega) (by omega) (B.all.pick [18, 19, 20] rfl) (B.pw.pick [18, 19, 20] rfl rfl)) rfl ?_)
            rintro _ w423 ⟨rfl, hU424⟩
            replace B : Bu w no w423 [.ow kF a326 nfe2 c327 56 (marks ((1 + ((nsp0 : Nat) : Int) + ((nls0 : Nat) : Int)) + ((nfe1 : Nat) : Int) + ((nfx1 : Nat) : Int) + ((nfy1 : Nat) : Int)) nfe2), .ow kF a328 nfx2 c329 56 (marks (((1 + ((nsp0 : Nat) : Int) + ((nls0 : Nat) : Int)) + ((nfe1 : Nat) : Int) + ((nfx1 : Nat) : Int) + ((nfy1 : Nat) : Int)) + ((nfe2 : Nat) : Int)) nfx2), .ow kF a330 nfy2 c331 56 (marks (((1 + ((nsp0 : Nat) : Int) + ((nls0 : Nat) : Int)) + ((nfe1 : Nat) : Int) + ((nfx1 : Nat) : Int) + ((nfy1 : Nat) : Int)) + ((nfe2 : Nat) : Int) + ((nfx2 : Nat) : Int)) nfy2), .ow kF a313 nfe1 c314 56 (marks (1 + ((nsp0 : Nat) : Int) + ((nls0 : Nat) : Int)) nfe1), .ow kF a315 nfx1 c316 56 (marks ((1 + ((nsp0 : Nat) : Int) + ((nls0 : Nat) : Int)) + ((nfe1 : Nat) : Int)) nfx1), .ow kF a317 nfy1 c318 56 (marks ((1 + ((nsp0 : Nat) : Int) + ((nls0 : Nat) : Int)) + ((nfe1 : Nat) : Int) + ((nfx1 : Nat) : Int)) nfy1), .ow kF a302 nsp0 c303 56 (marks 1 nsp0), .ow kF a304 nls0 c305 56 (marks (1 + ((nsp0 : Nat) : Int)) nls0), .ow kF a406 nfe2 c407 56 Xfe2, .ow kF a408 nfx2 c409 56 Xfx2, .ow kF a410 nfy2 c411 56 Xfy2, .ow kF a384 nfe1 c385 56 Xfe1, .ow kF a386 nfx1 c387 56 Xfx1, .ow kF a388 nfy1 c389 56 Xfy1, .ow kF a364 nsp0 c365 56 Xsp0, .ow kF a366 nls0 c367 56 Xls0, .blk b348 [.slice a341 ((wd0 * hi0).toNat) c342, .slice a343 ((wd0 * hi0).toNat) c344, .slice a345 ((wd0 * hi0).toNat) c346] 49, .ow kF a341 ((wd0 * hi0).toNat) c342 56 (addL (wd0 * hi0) Xfe1 Xfe2), .ow kF a343 ((wd0 * hi0).toNat) c344 56 (addL (wd0 * hi0) Xfx1 Xfx2), .ow kF a345 ((wd0 * hi0).toNat) c346 56 (addL (wd0 * hi0) Xfy1 Xfy2), .blk b333 [.slice a326 nfe2 c327, .slice a328 nfx2 c329, .slice a330 nfy2 c331] 49, .blk b320 [.slice a313 nfe1 c314, .slice a315 nfx1 c316, .slice a317 nfy1 c318] 49, .blk b307 [.int .i64 wd0, .int .i64 hi0, .bool wr0, .slice a302 nsp0 c303, .slice a304 nls0 c305] 26, .blk b82 [.slice a75 ((wd0 * hi0).toNat) c76, .slice a77 ((wd0 * hi0).toNat) c78, .slice a79 ((wd0 * hi0).toNat) c80] 49, .ow kF a75 ((wd0 * hi0).toNat) c76 56 (addL (wd0 * hi0) Xfe1 Xfe2), .ow kF a77 ((wd0 * hi0).toNat) c78 56 (addL (wd0 * hi0) Xfx1 Xfx2), .ow kF a79 ((wd0 * hi0).toNat) c80 56 (addL (wd0 * hi0) Xfy1 Xfy2), .blk b7 [.slice afe2 nfe2 cfe2, .slice afx2 nfx2 cfx2, .slice afy2 nfy2 cfy2] 45, .blk b4 [.slice afe1 nfe1 cfe1, .slice afx1 nfx1 cfx1, .slice afy1 nfy1 cfy1] 45, .blk b1 [.int .i64 wd0, .int .i64 hi0, .bool wr0, .slice asp0 nsp0 csp0, .slice als0 nls0 cls0] 36, .rd kF asp0 nsp0 Xsp0, .rd kF als0 nls0 Xls0, .rd kF afe1 nfe1 Xfe1, .rd kF afx1 nfx1 Xfx1, .rd kF afy1 nfy1 Xfy1, .rd kF afe2 nfe2 Xfe2, .rd kF afx2 nfx2 Xfx2, .rd kF afy2 nfy2 Xfy2] := B.upd [18, 19, 20] rfl hU424
            clear hU424
            refine s_y (v := .int .i64 (((1 + ((nsp0 : Nat) : Int) + ((nls0 : Nat) : Int)) + ((nfe1 : Nat) : Int) + ((nfx1 : Nat) : Int) + ((nfy1 : Nat) : Int)) + ((nfe2 : Nat) : Int) + ((nfx2 : Nat) : Int) + ((nfy2 : Nat) : Int))) rfl (y_assign rfl) ?_
            refine s_nil ?_
            refine W_seq ?_
            refine W_seq ?_
            refine W_region (by kernel_rfl) ?_
            refine s_y (v := .int .i64 (((1 + ((nsp0 : Nat) : Int) + ((nls0 : Nat) : Int)) + ((nfe1 : Nat) : Int) + ((nfx1 : Nat) : Int) + ((nfy1 : Nat) : Int)) + ((nfe2 : Nat) : Int) + ((nfx2 : Nat) : Int) + ((nfy2 : Nat) : Int))) rfl (y_move rfl) ?_
            have hk425 : ¬ ((((1 + ((nsp0 : Nat) : Int) + ((nls0 : Nat) : Int)) + ((nfe1 : Nat) : Int) + ((nfx1 : Nat) : Int) + ((nfy1 : Nat) : Int)) + ((nfe2 : Nat) : Int) + ((nfx2 : Nat) : Int) + ((nfy2 : Nat) : Int)) < 0) := (by omega)
            refine s_y (v := .bool false) rfl (y_lss rfl rfl (decide_eq_false hk425)) ?_
            refine s_y (v := .bool false) rfl (y_move rfl) ?_
            refine s_y (v := .agg #[.slice a341 ((wd0 * hi0).toNat) c342, .slice a343 ((wd0 * hi0).toNat) c344, .slice a345 ((wd0 * hi0).toNat) c346]) rfl (y_loadn (b := b348) (o := 0) (vs := [.slice a341 ((wd0 * hi0).toNat) c342, .slice a343 ((wd0 * hi0).toNat) c344, .slice a345 ((wd0 * hi0).toNat) c346]) T11.agg_49_3 rfl rfl ((B.b 16 rfl).cells (o := 0) rfl)) ?_
            refine s_y (v := .agg #[.slice a75 ((wd0 * hi0).toNat) c76, .slice a77 ((wd0 * hi0).toNat) c78, .slice a79 ((wd0 * hi0).toNat) c80]) rfl (y_loadn (b := b82) (o := 0) (vs := [.slice a75 ((wd0 * hi0).toNat) c76, .slice a77 ((wd0 * hi0).toNat) c78, .slice a79 ((wd0 * hi0).toNat) c80]) T11.agg_49_3 rfl rfl ((B.b 23 rfl).cells (o := 0) rfl)) ?_
            refine s_k rfl (k_call T11.fn_34 (c_l_eqField ((B.o 17 rfl).rd) ((B.o 18 rfl).rd) ((B.o 19 rfl).rd) ((B.o 24 rfl).rd) ((B.o 25 rfl).rd) ((B.o 26 rfl).rd) (by omega) (by omega) (by omega)) rfl ?_)
            rintro _ w426 ⟨rfl, e427⟩
            replace B := B.ext0 e427
            clear e427
            refine s_y (v := .bool false) rfl (y_not rfl rfl) ?_
            refine s_y (v := .bool false) rfl (y_pick_f rfl rfl) ?_
            refine s_y (v := .bool false) rfl (y_move rfl) ?_
            refine s_y (v := .bool true) rfl (y_move rfl) ?_
            refine s_y (v := .bool true) rfl (y_move rfl) ?_
            refine s_y (v := .bool false) rfl (y_bneq T11.bool_4 rfl rfl rfl) ?_
            refine s_y (v := .bool false) rfl (y_pick_f rfl rfl) ?_
            refine s_nil ?_
            refine W_if_f (by decide) rfl ?_
            refine W_skip ?_
            refine W_seq ?_
            refine W_region (by kernel_rfl) ?_
            refine s_y (v := .int .i64 1) rfl (y_assign rfl) ?_
            refine s_nil ?_
            refine W_seq ?_
            refine W_region (by kernel_rfl) ?_
            refine s_y (v := .agg #[.slice a341 ((wd0 * hi0).toNat) c342, .slice a343 ((wd0 * hi0).toNat) c344, .slice a345 ((wd0 * hi0).toNat) c346]) rfl (y_loadn (b := b348) (o := 0) (vs := [.slice a341 ((wd0 * hi0).toNat) c342, .slice a343 ((wd0 * hi0).toNat) c344, .slice a345 ((wd0 * hi0).toNat) c346]) T11.agg_49_3 rfl rfl ((B.b 16 rfl).cells (o := 0) rfl)) ?_
            refine s_y (v := .int .i64 1) rfl (y_move rfl) ?_
            refine s_k rfl (k_call T11.fn_35 (c_l_markField (by omega) (by omega) (by omega) (by omega) (by omega) (B.all.pick [17, 18, 19] rfl) (B.pw.pick [17, 18, 19] rfl rfl)) rfl ?_)
            rintro _ w428 ⟨rfl, hU429⟩
            replace B : Bu w no w428 [.ow kF a341 ((wd0 * hi0).toNat) c342 56 (marks 1 ((wd0 * hi0).toNat)), .ow kF a343 ((wd0 * hi0).toNat) c344 56 (marks (1 + (((wd0 * hi0).toNat : Nat) : Int)) ((wd0 * hi0).toNat)), .ow kF a345 ((wd0 * hi0).toNat) c346 56 (marks (1 + (((wd0 * hi0).toNat : Nat) : Int) + (((wd0 * hi0).toNat : Nat) : Int)) ((wd0 * hi0).toNat)), .ow kF a326 nfe2 c327 56 (marks ((1 + ((nsp0 : Nat) : Int) + ((nls0 : Nat) : Int)) + ((nfe1 : Nat) : Int) + ((nfx1 : Nat) : Int) + ((nfy1 : Nat) : Int)) nfe2), .ow kF a328 nfx2 c329 56 (marks (((1 + ((nsp0 : Nat) : Int) + ((nls0 : Nat) : Int)) + ((nfe1 : Nat) : Int) + ((nfx1 : Nat) : Int) + ((nfy1 : Nat) : Int)) + ((nfe2 : Nat) : Int)) nfx2), .ow kF a330 nfy2 c331 56 (marks (((1 + ((nsp0 : Nat) : Int) + ((nls0 : Nat) : Int)) + ((nfe1 : Nat) : Int) + ((nfx1 : Nat) : Int) + ((nfy1 : Nat) : Int)) + ((nfe2 : Nat) : Int) + ((nfx2 : Nat) : Int)) nfy2), .ow kF a313 nfe1 c314 56 (marks (1 + ((nsp0 : Nat) : Int) + ((nls0 : Nat) : Int)) nfe1), .ow kF a315 nfx1 c316 56 (marks ((1 + ((nsp0 : Nat) : Int) + ((nls0 : Nat) : Int)) + ((nfe1 : Nat) : Int)) nfx1), .ow kF a317 nfy1 c318 56 (marks ((1 + ((nsp0 : Nat) : Int) + ((nls0 : Nat) : Int)) + ((nfe1 : Nat) : Int) + ((nfx1 : Nat) : Int)) nfy1), .ow kF a302 nsp0 c303 56 (marks 1 nsp0), .ow kF a304 nls0 c305 56 (marks (1 + ((nsp0 : Nat) : Int)) nls0), .ow kF a406 nfe2 c407 56 Xfe2, .ow kF a408 nfx2 c409 56 Xfx2, .ow kF a410 nfy2 c411 56 Xfy2, .ow kF a384 nfe1 c385 56 Xfe1, .ow kF a386 nfx1 c387 56 Xfx1, .ow kF a388 nfy1 c389 56 Xfy1, .ow kF a364 nsp0 c365 56 Xsp0, .ow kF a366 nls0 c367 56 Xls0, .blk b348 [.slice a341 ((wd0 * hi0).toNat) c342, .slice a343 ((wd0 * hi0).toNat) c344, .slice a345 ((wd0 * hi0).toNat) c346] 49, .blk b333 [.slice a326 nfe2 c327, .slice a328 nfx2 c329, .slice a330 nfy2 c331] 49, .blk b320 [.slice a313 nfe1 c314, .slice a315 nfx1 c316, .slice a317 nfy1 c318] 49, .blk b307 [.int .i64 wd0, .int .i64 hi0, .bool wr0, .slice a302 nsp0 c303, .slice a304 nls0 c305] 26, .blk b82 [.slice a75 ((wd0 * hi0).toNat) c76, .slice a77 ((wd0 * hi0).toNat) c78, .slice a79 ((wd0 * hi0).toNat) c80] 49, .ow kF a75 ((wd0 * hi0).toNat) c76 56 (addL (wd0 * hi0) Xfe1 Xfe2), .ow kF a77 ((wd0 * hi0).toNat) c78 56 (addL (wd0 * hi0) Xfx1 Xfx2), .ow kF a79 ((wd0 * hi0).toNat) c80 56 (addL (wd0 * hi0) Xfy1 Xfy2), .blk b7 [.slice afe2 nfe2 cfe2, .slice afx2 nfx2 cfx2, .slice afy2 nfy2 cfy2] 45, .blk b4 [.slice afe1 nfe1 cfe1, .slice afx1 nfx1 cfx1, .slice afy1 nfy1 cfy1] 45, .blk b1 [.int .i64 wd0, .int .i64 hi0, .bool wr0, .slice asp0 nsp0 csp0, .slice als0 nls0 cls0] 36, .rd kF asp0 nsp0 Xsp0, .rd kF als0 nls0 Xls0, .rd kF afe1 nfe1 Xfe1, .rd kF afx1 nfx1 Xfx1, .rd kF afy1 nfy1 Xfy1, .rd kF afe2 nfe2 Xfe2, .rd kF afx2 nfx2 Xfx2, .rd kF afy2 nfy2 Xfy2] := B.upd [17, 18, 19] rfl hU429
            clear hU429
            refine s_y (v := .int .i64 (1 + (((wd0 * hi0).toNat : Nat) : Int) + (((wd0 * hi0).toNat : Nat) : Int) + (((wd0 * hi0).toNat : Nat) : Int))) rfl (y_assign rfl) ?_
            refine s_nil ?_
            refine W_seq ?_
            refine W_region (by kernel_rfl) ?_
            refine s_y (v := .int .i64 1) rfl (y_assign rfl) ?_
            refine s_nil ?_
            refine W_seq ?_
            refine W_region (by kernel_rfl) ?_
            refine s_y (v := .agg #[.slice a341 ((wd0 * hi0).toNat) c342, .slice a343 ((wd0 * hi0).toNat) c344, .slice a345 ((wd0 * hi0).toNat) c346]) rfl (y_loadn (b := b348) (o := 0) (vs := [.slice a341 ((wd0 * hi0).toNat) c342, .slice a343 ((wd0 * hi0).toNat) c344, .slice a345 ((wd0 * hi0).toNat) c346]) T11.agg_49_3 rfl rfl ((B.b 19 rfl).cells (o := 0) rfl)) ?_
            refine s_y (v := .int .i64 1) rfl (y_move rfl) ?_
            refine s_k rfl (k_call T11.fn_50 (c_l_heldField ((B.o 0 rfl).rd) ((B.o 1 rfl).rd) ((B.o 2 rfl).rd) (by omega) (by omega) (by omega) (by omega) (by omega)) rfl ?_)
            rintro _ w430 ⟨rfl, e431⟩
            replace B := B.ext0 e431
            clear e431
            refine s_y (v := .int .i64 (1 + (((wd0 * hi0).toNat : Nat) : Int) + (((wd0 * hi0).toNat : Nat) : Int) + (((wd0 * hi0).toNat : Nat) : Int))) rfl (y_assign rfl) ?_
            refine s_nil ?_
            refine W_seq ?_
            refine W_seq ?_
            refine W_region (by kernel_rfl) ?_
            refine s_y (v := .int .i64 (1 + (((wd0 * hi0).toNat : Nat) : Int) + (((wd0 * hi0).toNat : Nat) : Int) + (((wd0 * hi0).toNat : Nat) : Int))) rfl (y_move rfl) ?_
            have hk432 : ¬ ((1 + (((wd0 * hi0).toNat : Nat) : Int) + (((wd0 * hi0).toNat : Nat) : Int) + (((wd0 * hi0).toNat : Nat) : Int)) < 0) := (by omega)
            refine s_y (v := .bool false) rfl (y_lss rfl rfl (decide_eq_false hk432)) ?_
            refine s_nil ?_
            refine W_if_f (by decide) rfl ?_
            refine W_skip ?_
            refine W_seq ?_
            refine W_seq ?_
            refine W_region (by kernel_rfl) ?_
            refine s_y (v := .int .i64 (1 + (((wd0 * hi0).toNat : Nat) : Int) + (((wd0 * hi0).toNat : Nat) : Int) + (((wd0 * hi0).toNat : Nat) : Int))) rfl (y_move rfl) ?_
            refine s_y (v := .int .i64 (1 + (((wd0 * hi0).toNat : Nat) : Int) + (((wd0 * hi0).toNat : Nat) : Int) + (((wd0 * hi0).toNat : Nat) : Int))) rfl (y_move rfl) ?_
            refine s_y (v := .bool false) rfl (y_neq rfl rfl (decide_eq_false (fun hq => hq rfl))) ?_
            refine s_nil ?_
            refine W_if_f (by decide) rfl ?_
            refine W_skip ?_
            refine W_seq ?_
            have B0_435 := B
            refine W_drawI (no) (fun ρ' w' => (∃ (ρ1 : Env) (b485 : Nat) (a478 : Option Addr) (c479 : Nat) (a480 : Option Addr) (c481 : Nat) (a482 : Option Addr) (c483 : Nat), ρ' = updL ρ1 [(6, .bool false), (8, .pointer (some ⟨b82, 0, none⟩)), (9, .bool true), (13, .pointer (some ⟨b348, 0, none⟩)), (16, .int .i64 (1 + (((wd0 * hi0).toNat : Nat) : Int) + (((wd0 * hi0).toNat : Nat) : Int) + (((wd0 * hi0).toNat : Nat) : Int))), (17, .int .i64 (1 + (((wd0 * hi0).toNat : Nat) : Int) + (((wd0 * hi0).toNat : Nat) : Int) + (((wd0 * hi0).toNat : Nat) : Int))), (18, .pointer (some ⟨b485, 0, none⟩)), (19, .bool true)] ∧ Bu w no w' [.blk b485 [.slice a478 ((wd0 * hi0).toNat) c479, .slice a480 ((wd0 * hi0).toNat) c481, .slice a482 ((wd0 * hi0).toNat) c483] 49, .ow kF a478 ((wd0 * hi0).toNat) c479 56 (addL (wd0 * hi0) Xfe1 Xfe2), .ow kF a480 ((wd0 * hi0).toNat) c481 56 (addL (wd0 * hi0) Xfx1 Xfx2), .ow kF a482 ((wd0 * hi0).toNat) c483 56 (addL (wd0 * hi0) Xfy1 Xfy2), .ow kF a341 ((wd0 * hi0).toNat) c342 56 (marks 1 ((wd0 * hi0).toNat)), .ow kF a343 ((wd0 * hi0).toNat) c344 56 (marks (1 + (((wd0 * hi0).toNat : Nat) : Int)) ((wd0 * hi0).toNat)), .ow kF a345 ((wd0 * hi0).toNat) c346 56 (marks (1 + (((wd0 * hi0).toNat : Nat) : Int) + (((wd0 * hi0).toNat : Nat) : Int)) ((wd0 * hi0).toNat)), .ow kF a326 nfe2 c327 56 (marks ((1 + ((nsp0 : Nat) : Int) + ((nls0 : Nat) : Int)) + ((nfe1 : Nat) : Int) + ((nfx1 : Nat) : Int) + ((nfy1 : Nat) : Int)) nfe2), .ow kF a328 nfx2 c329 56 (marks (((1 + ((nsp0 : Nat) : Int) + ((nls0 : Nat) : Int)) + ((nfe1 : Nat) : Int) + ((nfx1 : Nat) : Int) + ((nfy1 : Nat) : Int)) + ((nfe2 : Nat) : Int)) nfx2), .ow kF a330 nfy2 c331 56 (marks (((1 + ((nsp0 : Nat) : Int) + ((nls0 : Nat) : Int)) + ((nfe1 : Nat) : Int) + ((nfx1 : Nat) : Int) + ((nfy1 : Nat) : Int)) + ((nfe2 : Nat) : Int) + ((nfx2 : Nat) : Int)) nfy2), .ow kF a313 nfe1 c314 56 (marks (1 + ((nsp0 : Nat) : Int) + ((nls0 : Nat) : Int)) nfe1), .ow kF a315 nfx1 c316 56 (marks ((1 + ((nsp0 : Nat) : Int) + ((nls0 : Nat) : Int)) + ((nfe1 : Nat) : Int)) nfx1), .ow kF a317 nfy1 c318 56 (marks ((1 + ((nsp0 : Nat) : Int) + ((nls0 : Nat) : Int)) + ((nfe1 : Nat) : Int) + ((nfx1 : Nat) : Int)) nfy1), .ow kF a302 nsp0 c303 56 (marks 1 nsp0), .ow kF a304 nls0 c305 56 (marks (1 + ((nsp0 : Nat) : Int)) nls0), .ow kF a406 nfe2 c407 56 Xfe2, .ow kF a408 nfx2 c409 56 Xfx2, .ow kF a410 nfy2 c411 56 Xfy2, .ow kF a384 nfe1 c385 56 Xfe1, .ow kF a386 nfx1 c387 56 Xfx1, .ow kF a388 nfy1 c389 56 Xfy1, .ow kF a364 nsp0 c365 56 Xsp0, .ow kF a366 nls0 c367 56 Xls0, .blk b348 [.slice a341 ((wd0 * hi0).toNat) c342, .slice a343 ((wd0 * hi0).toNat) c344, .slice a345 ((wd0 * hi0).toNat) c346] 49, .blk b333 [.slice a326 nfe2 c327, .slice a328 nfx2 c329, .slice a330 nfy2 c331] 49, .blk b320 [.slice a313 nfe1 c314, .slice a315 nfx1 c316, .slice a317 nfy1 c318] 49, .blk b307 [.int .i64 wd0, .int .i64 hi0, .bool wr0, .slice a302 nsp0 c303, .slice a304 nls0 c305] 26, .blk b82 [.slice a75 ((wd0 * hi0).toNat) c76, .slice a77 ((wd0 * hi0).toNat) c78, .slice a79 ((wd0 * hi0).toNat) c80] 49, .ow kF a75 ((wd0 * hi0).toNat) c76 56 (addL (wd0 * hi0) Xfe1 Xfe2), .ow kF a77 ((wd0 * hi0).toNat) c78 56 (addL (wd0 * hi0) Xfx1 Xfx2), .ow kF a79 ((wd0 * hi0).toNat) c80 56 (addL (wd0 * hi0) Xfy1 Xfy2), .blk b7 [.slice afe2 nfe2 cfe2, .slice afx2 nfx2 cfx2, .slice afy2 nfy2 cfy2] 45, .blk b4 [.slice afe1 nfe1 cfe1, .slice afx1 nfx1 cfx1, .slice afy1 nfy1 cfy1] 45, .blk b1 [.int .i64 wd0, .int .i64 hi0, .bool wr0, .slice asp0 nsp0 csp0, .slice als0 nls0 cls0] 36, .rd kF asp0 nsp0 Xsp0, .rd kF als0 nls0 Xls0, .rd kF afe1 nfe1 Xfe1, .rd kF afx1 nfx1 Xfx1, .rd kF afy1 nfy1 Xfy1, .rd kF afe2 nfe2 Xfe2, .rd kF afx2 nfx2 Xfx2, .rd kF afy2 nfy2 Xfy2])) T11.mx (by kernel_rfl) (fun w433 e434 => ?_) ?_
            · have R436 := Ext.refl (no) w430
              replace R436 := R436.trans (Ext0.any e434)
              replace B := B.ext0 e434
              clear e434
              refine m_y (v := .agg #[.int .i64 wd0, .int .i64 hi0, .bool wr0, .slice asp0 nsp0 csp0, .slice als0 nls0 cls0]) 0 rfl (by kernel_rfl) rfl rfl (fun w' e' => y_loadn (b := b1) (o := 0) (vs := [.int .i64 wd0, .int .i64 hi0, .bool wr0, .slice asp0 nsp0 csp0, .slice als0 nls0 cls0]) T11.agg_36_5 rfl rfl (((B0_435.b 29 rfl).ext0 e').cells (o := 0) rfl)) ?_
              refine m_y (v := .agg #[.slice afe1 nfe1 cfe1, .slice afx1 nfx1 cfx1, .slice afy1 nfy1 cfy1]) 2 rfl (by kernel_rfl) rfl rfl (fun w' e' => y_loadn (b := b4) (o := 0) (vs := [.slice afe1 nfe1 cfe1, .slice afx1 nfx1 cfx1, .slice afy1 nfy1 cfy1]) T11.agg_45_3 rfl rfl (((B0_435.b 28 rfl).ext0 e').cells (o := 0) rfl)) ?_
              refine m_y (v := .agg #[.slice afe2 nfe2 cfe2, .slice afx2 nfx2 cfx2, .slice afy2 nfy2 cfy2]) 4 rfl (by kernel_rfl) rfl rfl (fun w' e' => y_loadn (b := b7) (o := 0) (vs := [.slice afe2 nfe2 cfe2, .slice afx2 nfx2 cfx2, .slice afy2 nfy2 cfy2]) T11.agg_45_3 rfl rfl (((B0_435.b 27 rfl).ext0 e').cells (o := 0) rfl)) ?_
              refine m_two 1 10 (by kernel_rfl) rfl rfl rfl rfl rfl rfl (fun w437 e438 => ?_) (fun w439 e440 => ?_)
              · replace R436 := R436.trans (Ext0.any e438)
                replace B := B.ext0 e438
                clear e438
                refine k_call T11.fn_23 (c_l_toSheet (B.r 30 rfl) (B.r 31 rfl) (by omega) (by omega)) rfl ?_
                rintro _ w441 ⟨a442, c443, a444, c445, rfl, hN446⟩
                replace R436 := R436.trans (Ext0.any hN446.ext)
                replace B := B.new2 hN446
                clear hN446
                refine ⟨fun _ => R436, ?_⟩
                refine m_two 3 10 (by kernel_rfl) rfl rfl rfl rfl rfl rfl (fun w447 e448 => ?_) (fun w449 e450 => ?_)
                · replace R436 := R436.trans (Ext0.any e448)
                  replace B := B.ext0 e448
                  clear e448
                  refine k_call T11.fn_31 (c_l_toField (B.r 34 rfl) (B.r 35 rfl) (B.r 36 rfl) (by omega) (by omega) (by omega)) rfl ?_
                  rintro _ w451 ⟨a452, c453, a454, c455, a456, c457, rfl, hN458⟩
                  replace R436 := R436.trans (Ext0.any hN458.ext)
                  replace B := B.new3 hN458
                  clear hN458
                  refine ⟨fun _ => R436, ?_⟩
                  refine m_two 5 10 (by kernel_rfl) rfl rfl rfl rfl rfl rfl (fun w459 e460 => ?_) (fun w461 e462 => ?_)
                  · replace R436 := R436.trans (Ext0.any e460)
                    replace B := B.ext0 e460
                    clear e460
                    refine k_call T11.fn_31 (c_l_toField (B.r 40 rfl) (B.r 41 rfl) (B.r 42 rfl) (by omega) (by omega) (by omega)) rfl ?_
                    rintro _ w463 ⟨a464, c465, a466, c467, a468, c469, rfl, hN470⟩
                    replace R436 := R436.trans (Ext0.any hN470.ext)
                    replace B := B.new3 hN470
                    clear hN470
                    refine ⟨fun _ => R436, ?_⟩
                    refine m_two 6 10 (by kernel_rfl) rfl rfl rfl rfl rfl rfl (fun w471 e472 => ?_) (fun w473 e474 => ?_)
                    · replace R436 := R436.trans (Ext0.any e472)
                      replace B := B.ext0 e472
                      clear e472
                      refine k_call T11.fn_54 (c_i_AddFields ((B.o 6 rfl).rd) ((B.o 7 rfl).rd) ((B.o 3 rfl).rd) ((B.o 4 rfl).rd) ((B.o 5 rfl).rd) ((B.o 0 rfl).rd) ((B.o 1 rfl).rd) ((B.o 2 rfl).rd) (by omega) (by omega) (by omega) (by omega) (by omega) (by omega) (by omega) (by omega)) rfl ?_
                      rintro v477 w475 hx476
                      obtain ⟨a478, c479, a480, c481, a482, c483, rfl, hN484⟩ := (hx476.resolve_right (fun hz => by rw [c296] at hz; cases hz.1)).2
                      clear hx476
                      replace R436 := R436.trans (Ext0.any hN484.ext)
                      replace B := B.new3 hN484
                      clear hN484
                      refine ⟨fun _ => R436, ?_⟩
                      refine m_y (v := .tuple #[.agg #[.slice a478 ((wd0 * hi0).toNat) c479, .slice a480 ((wd0 * hi0).toNat) c481, .slice a482 ((wd0 * hi0).toNat) c483], .bool true]) 7 rfl (by kernel_rfl) rfl rfl (fun w' e' => y_move rfl) ?_
                      refine m_y (v := .agg #[.slice a478 ((wd0 * hi0).toNat) c479, .slice a480 ((wd0 * hi0).toNat) c481, .slice a482 ((wd0 * hi0).toNat) c483]) 8 rfl (by kernel_rfl) rfl rfl (fun w' e' => y_extract rfl rfl) ?_
                      refine m_y (v := .bool true) 9 rfl (by kernel_rfl) rfl rfl (fun w' e' => y_extract rfl rfl) ?_
                      refine m_k 10 [11, 12] rfl (by kernel_rfl) rfl rfl (fun w488 e489 => ?_)
                      replace R436 := R436.trans (Ext0.any e489)
                      replace B := B.ext0 e489
                      clear e489
                      refine k_allocN (z := (.agg #[.slice none 0 0, .slice none 0 0, .slice none 0 0])) (cs := [.slice none 0 0, .slice none 0 0, .slice none 0 0]) T11.zero_49 rfl (fun b485 w486 hN487 => ?_)
                      have nf490 : NotLt b485 _ := fun h => Nat.not_lt.2 (Nat.le_trans (Ext.size R436) hN487.ge) h
                      replace R436 := R436.trans (Ext0.any hN487.ext)
                      replace B := B.new1 hN487
                      clear hN487
                      refine ⟨fun _ => R436, ?_⟩
                      refine m_k 11 [12] rfl (by kernel_rfl) rfl rfl (fun w494 e495 => ?_)
                      replace R436 := R436.trans (Ext0.any e495)
                      replace B := B.ext0 e495
                      clear e495
                      refine k_stB (v := .agg #[.slice a478 ((wd0 * hi0).toNat) c479, .slice a480 ((wd0 * hi0).toNat) c481, .slice a482 ((wd0 * hi0).toNat) c483]) (n := 3) (cs' := [.slice a478 ((wd0 * hi0).toNat) c479, .slice a480 ((wd0 * hi0).toNat) c481, .slice a482 ((wd0 * hi0).toNat) c483]) T11.sz_49_3 rfl rfl rfl (B.b 0 rfl) (by simp [Value.cells, Value.oneCell']) (Nat.le_of_ble_eq_true rfl) rfl (fun w492 hU493 => ?_)
                      replace R436 := R436.fresh hU493.at1 (fun kx hs hl => (nf490 ((show kx = b485 from hs) ▸ hl)).elim)
                      replace B : Bu w no w492 [.blk b485 [.slice a478 ((wd0 * hi0).toNat) c479, .slice a480 ((wd0 * hi0).toNat) c481, .slice a482 ((wd0 * hi0).toNat) c483] 49, .ow kF a478 ((wd0 * hi0).toNat) c479 56 (addL (wd0 * hi0) Xfe1 Xfe2), .ow kF a480 ((wd0 * hi0).toNat) c481 56 (addL (wd0 * hi0) Xfx1 Xfx2), .ow kF a482 ((wd0 * hi0).toNat) c483 56 (addL (wd0 * hi0) Xfy1 Xfy2), .ow kF a464 nfe2 c465 56 Xfe2, .ow kF a466 nfx2 c467 56 Xfx2, .ow kF a468 nfy2 c469 56 Xfy2, .ow kF a452 nfe1 c453 56 Xfe1, .ow kF a454 nfx1 c455 56 Xfx1, .ow kF a456 nfy1 c457 56 Xfy1, .ow kF a442 nsp0 c443 56 Xsp0, .ow kF a444 nls0 c445 56 Xls0, .ow kF a341 ((wd0 * hi0).toNat) c342 56 (marks 1 ((wd0 * hi0).toNat)), .ow kF a343 ((wd0 * hi0).toNat) c344 56 (marks (1 + (((wd0 * hi0).toNat : Nat) : Int)) ((wd0 * hi0).toNat)), .ow kF a345 ((wd0 * hi0).toNat) c346 56 (marks (1 + (((wd0 * hi0).toNat : Nat) : Int) + (((wd0 * hi0).toNat : Nat) : Int)) ((wd0 * hi0).toNat)), .ow kF a326 nfe2 c327 56 (marks ((1 + ((nsp0 : Nat) : Int) + ((nls0 : Nat) : Int)) + ((nfe1 : Nat) : Int) + ((nfx1 : Nat) : Int) + ((nfy1 : Nat) : Int)) nfe2), .ow kF a328 nfx2 c329 56 (marks (((1 + ((nsp0 : Nat) : Int) + ((nls0 : Nat) : Int)) + ((nfe1 : Nat) : Int) + ((nfx1 : Nat) : Int) + ((nfy1 : Nat) : Int)) + ((nfe2 : Nat) : Int)) nfx2), .ow kF a330 nfy2 c331 56 (marks (((1 + ((nsp0 : Nat) : Int) + ((nls0 : Nat) : Int)) + ((nfe1 : Nat) : Int) + ((nfx1 : Nat) : Int) + ((nfy1 : Nat) : Int)) + ((nfe2 : Nat) : Int) + ((nfx2 : Nat) : Int)) nfy2), .ow kF a313 nfe1 c314 56 (marks (1 + ((nsp0 : Nat) : Int) + ((nls0 : Nat) : Int)) nfe1), .ow kF a315 nfx1 c316 56 (marks ((1 + ((nsp0 : Nat) : Int) + ((nls0 : Nat) : Int)) + ((nfe1 : Nat) : Int)) nfx1), .ow kF a317 nfy1 c318 56 (marks ((1 + ((nsp0 : Nat) : Int) + ((nls0 : Nat) : Int)) + ((nfe1 : Nat) : Int) + ((nfx1 : Nat) : Int)) nfy1), .ow kF a302 nsp0 c303 56 (marks 1 nsp0), .ow kF a304 nls0 c305 56 (marks (1 + ((nsp0 : Nat) : Int)) nls0), .ow kF a406 nfe2 c407 56 Xfe2, .ow kF a408 nfx2 c409 56 Xfx2, .ow kF a410 nfy2 c411 56 Xfy2, .ow kF a384 nfe1 c385 56 Xfe1, .ow kF a386 nfx1 c387 56 Xfx1, .ow kF a388 nfy1 c389 56 Xfy1, .ow kF a364 nsp0 c365 56 Xsp0, .ow kF a366 nls0 c367 56 Xls0, .blk b348 [.slice a341 ((wd0 * hi0).toNat) c342, .slice a343 ((wd0 * hi0).toNat) c344, .slice a345 ((wd0 * hi0).toNat) c346] 49, .blk b333 [.slice a326 nfe2 c327, .slice a328 nfx2 c329, .slice a330 nfy2 c331] 49, .blk b320 [.slice a313 nfe1 c314, .slice a315 nfx1 c316, .slice a317 nfy1 c318] 49, .blk b307 [.int .i64 wd0, .int .i64 hi0, .bool wr0, .slice a302 nsp0 c303, .slice a304 nls0 c305] 26, .blk b82 [.slice a75 ((wd0 * hi0).toNat) c76, .slice a77 ((wd0 * hi0).toNat) c78, .slice a79 ((wd0 * hi0).toNat) c80] 49, .ow kF a75 ((wd0 * hi0).toNat) c76 56 (addL (wd0 * hi0) Xfe1 Xfe2), .ow kF a77 ((wd0 * hi0).toNat) c78 56 (addL (wd0 * hi0) Xfx1 Xfx2), .ow kF a79 ((wd0 * hi0).toNat) c80 56 (addL (wd0 * hi0) Xfy1 Xfy2), .blk b7 [.slice afe2 nfe2 cfe2, .slice afx2 nfx2 cfx2, .slice afy2 nfy2 cfy2] 45, .blk b4 [.slice afe1 nfe1 cfe1, .slice afx1 nfx1 cfx1, .slice afy1 nfy1 cfy1] 45, .blk b1 [.int .i64 wd0, .int .i64 hi0, .bool wr0, .slice asp0 nsp0 csp0, .slice als0 nls0 cls0] 36, .rd kF asp0 nsp0 Xsp0, .rd kF als0 nls0 Xls0, .rd kF afe1 nfe1 Xfe1, .rd kF afx1 nfx1 Xfx1, .rd kF afy1 nfy1 Xfy1, .rd kF afe2 nfe2 Xfe2, .rd kF afx2 nfx2 Xfx2, .rd kF afy2 nfy2 Xfy2] := B.upd [0] rfl hU493
                      clear hU493
                      refine ⟨fun _ => R436, ?_⟩
                      refine m_y (v := .bool true) 12 rfl (by kernel_rfl) rfl rfl (fun w' e' => y_assign rfl) ?_
                      refine m_done (by kernel_rfl) (fun w496 e497 => ?_)
                      replace B := B.ext0 e497
                      clear e497
                      clear B0_435 R436
                      exact ⟨_, b485, a478, c479, a480, c481, a482, c483, Fits.eq ⟨rfl, rfl, rfl, rfl, rfl, rfl, rfl, rfl, trivial⟩, B.pick [0, 1, 2, 3, 12, 13, 14, 15, 16, 17, 18, 19, 20, 21, 22, 23, 24, 25, 26, 27, 28, 29, 30, 31, 32, 33, 34, 35, 36, 37, 38, 39, 40, 41, 42, 43, 44, 45, 46, 47, 48, 49] rfl rfl⟩
                    · replace R436 := R436.trans (Ext0.any e474)
                      replace B := B.ext0 e474
                      clear e474
                      refine k_allocN (z := (.agg #[.slice none 0 0, .slice none 0 0, .slice none 0 0])) (cs := [.slice none 0 0, .slice none 0 0, .slice none 0 0]) T11.zero_49 rfl (fun b498 w499 hN500 => ?_)
                      have nf501 : NotLt b498 _ := fun h => Nat.not_lt.2 (Nat.le_trans (Ext.size R436) hN500.ge) h
                      replace R436 := R436.trans (Ext0.any hN500.ext)
                      replace B := B.new1 hN500
                      clear hN500
                      refine ⟨fun _ => R436, ?_⟩
                      refine m_k 6 [7, 8, 9, 11, 12] rfl (by kernel_rfl) rfl rfl (fun w503 e504 => ?_)
                      replace R436 := R436.trans (Ext0.any e504)
                      replace B := B.ext0 e504
                      clear e504
                      refine k_call T11.fn_54 (c_i_AddFields ((B.o 7 rfl).rd) ((B.o 8 rfl).rd) ((B.o 4 rfl).rd) ((B.o 5 rfl).rd) ((B.o 6 rfl).rd) ((B.o 1 rfl).rd) ((B.o 2 rfl).rd) ((B.o 3 rfl).rd) (by omega) (by omega) (by omega) (by omega) (by omega) (by omega) (by omega) (by omega)) rfl ?_
                      rintro v507 w505 hx506
                      obtain ⟨a508, c509, a510, c511, a512, c513, rfl, hN514⟩ := (hx506.resolve_right (fun hz => by rw [c296] at hz; cases hz.1)).2
                      clear hx506
                      replace R436 := R436.trans (Ext0.any hN514.ext)
                      replace B := B.new3 hN514
                      clear hN514
                      refine ⟨fun _ => R436, ?_⟩
                      refine m_y (v := .tuple #[.agg #[.slice a508 ((wd0 * hi0).toNat) c509, .slice a510 ((wd0 * hi0).toNat) c511, .slice a512 ((wd0 * hi0).toNat) c513], .bool true]) 7 rfl (by kernel_rfl) rfl rfl (fun w' e' => y_move rfl) ?_
                      refine m_y (v := .agg #[.slice a508 ((wd0 * hi0).toNat) c509, .slice a510 ((wd0 * hi0).toNat) c511, .slice a512 ((wd0 * hi0).toNat) c513]) 8 rfl (by kernel_rfl) rfl rfl (fun w' e' => y_extract rfl rfl) ?_
                      refine m_y (v := .bool true) 9 rfl (by kernel_rfl) rfl rfl (fun w' e' => y_extract rfl rfl) ?_
                      refine m_k 11 [12] rfl (by kernel_rfl) rfl rfl (fun w517 e518 => ?_)
                      replace R436 := R436.trans (Ext0.any e518)
                      replace B := B.ext0 e518
                      clear e518
                      refine k_stB (v := .agg #[.slice a508 ((wd0 * hi0).toNat) c509, .slice a510 ((wd0 * hi0).toNat) c511, .slice a512 ((wd0 * hi0).toNat) c513]) (n := 3) (cs' := [.slice a508 ((wd0 * hi0).toNat) c509, .slice a510 ((wd0 * hi0).toNat) c511, .slice a512 ((wd0 * hi0).toNat) c513]) T11.sz_49_3 rfl rfl rfl (B.b 3 rfl) (by simp [Value.cells, Value.oneCell']) (Nat.le_of_ble_eq_true rfl) rfl (fun w515 hU516 => ?_)
                      replace R436 := R436.fresh hU516.at1 (fun kx hs hl => (nf501 ((show kx = b498 from hs) ▸ hl)).elim)
                      replace B : Bu w no w515 [.blk b498 [.slice a508 ((wd0 * hi0).toNat) c509, .slice a510 ((wd0 * hi0).toNat) c511, .slice a512 ((wd0 * hi0).toNat) c513] 49, .ow kF a508 ((wd0 * hi0).toNat) c509 56 (addL (wd0 * hi0) Xfe1 Xfe2), .ow kF a510 ((wd0 * hi0).toNat) c511 56 (addL (wd0 * hi0) Xfx1 Xfx2), .ow kF a512 ((wd0 * hi0).toNat) c513 56 (addL (wd0 * hi0) Xfy1 Xfy2), .ow kF a464 nfe2 c465 56 Xfe2, .ow kF a466 nfx2 c467 56 Xfx2, .ow kF a468 nfy2 c469 56 Xfy2, .ow kF a452 nfe1 c453 56 Xfe1, .ow kF a454 nfx1 c455 56 Xfx1, .ow kF a456 nfy1 c457 56 Xfy1, .ow kF a442 nsp0 c443 56 Xsp0, .ow kF a444 nls0 c445 56 Xls0, .ow kF a341 ((wd0 * hi0).toNat) c342 56 (marks 1 ((wd0 * hi0).toNat)), .ow kF a343 ((wd0 * hi0).toNat) c344 56 (marks (1 + (((wd0 * hi0).toNat : Nat) : Int)) ((wd0 * hi0).toNat)), .ow kF a345 ((wd0 * hi0).toNat) c346 56 (marks (1 + (((wd0 * hi0).toNat : Nat) : Int) + (((wd0 * hi0).toNat : Nat) : Int)) ((wd0 * hi0).toNat)), .ow kF a326 nfe2 c327 56 (marks ((1 + ((nsp0 : Nat) : Int) + ((nls0 : Nat) : Int)) + ((nfe1 : Nat) : Int) + ((nfx1 : Nat) : Int) + ((nfy1 : Nat) : Int)) nfe2), .ow kF a328 nfx2 c329 56 (marks (((1 + ((nsp0 : Nat) : Int) + ((nls0 : Nat) : Int)) + ((nfe1 : Nat) : Int) + ((nfx1 : Nat) : Int) + ((nfy1 : Nat) : Int)) + ((nfe2 : Nat) : Int)) nfx2), .ow kF a330 nfy2 c331 56 (marks (((1 + ((nsp0 : Nat) : Int) + ((nls0 : Nat) : Int)) + ((nfe1 : Nat) : Int) + ((nfx1 : Nat) : Int) + ((nfy1 : Nat) : Int)) + ((nfe2 : Nat) : Int) + ((nfx2 : Nat) : Int)) nfy2), .ow kF a313 nfe1 c314 56 (marks (1 + ((nsp0 : Nat) : Int) + ((nls0 : Nat) : Int)) nfe1), .ow kF a315 nfx1 c316 56 (marks ((1 + ((nsp0 : Nat) : Int) + ((nls0 : Nat) : Int)) + ((nfe1 : Nat) : Int)) nfx1), .ow kF a317 nfy1 c318 56 (marks ((1 + ((nsp0 : Nat) : Int) + ((nls0 : Nat) : Int)) + ((nfe1 : Nat) : Int) + ((nfx1 : Nat) : Int)) nfy1), .ow kF a302 nsp0 c303 56 (marks 1 nsp0), .ow kF a304 nls0 c305 56 (marks (1 + ((nsp0 : Nat) : Int)) nls0), .ow kF a406 nfe2 c407 56 Xfe2, .ow kF a408 nfx2 c409 56 Xfx2, .ow kF a410 nfy2 c411 56 Xfy2, .ow kF a384 nfe1 c385 56 Xfe1, .ow kF a386 nfx1 c387 56 Xfx1, .ow kF a388 nfy1 c389 56 Xfy1, .ow kF a364 nsp0 c365 56 Xsp0, .ow kF a366 nls0 c367 56 Xls0, .blk b348 [.slice a341 ((wd0 * hi0).toNat) c342, .slice a343 ((wd0 * hi0).toNat) c344, .slice a345 ((wd0 * hi0).toNat) c346] 49, .blk b333 [.slice a326 nfe2 c327, .slice a328 nfx2 c329, .slice a330 nfy2 c331] 49, .blk b320 [.slice a313 nfe1 c314, .slice a315 nfx1 c316, .slice a317 nfy1 c318] 49, .blk b307 [.int .i64 wd0, .int .i64 hi0, .bool wr0, .slice a302 nsp0 c303, .slice a304 nls0 c305] 26, .blk b82 [.slice a75 ((wd0 * hi0).toNat) c76, .slice a77 ((wd0 * hi0).toNat) c78, .slice a79 ((wd0 * hi0).toNat) c80] 49, .ow kF a75 ((wd0 * hi0).toNat) c76 56 (addL (wd0 * hi0) Xfe1 Xfe2), .ow kF a77 ((wd0 * hi0).toNat) c78 56 (addL (wd0 * hi0) Xfx1 Xfx2), .ow kF a79 ((wd0 * hi0).toNat) c80 56 (addL (wd0 * hi0) Xfy1 Xfy2), .blk b7 [.slice afe2 nfe2 cfe2, .slice afx2 nfx2 cfx2, .slice afy2 nfy2 cfy2] 45, .blk b4 [.slice afe1 nfe1 cfe1, .slice afx1 nfx1 cfx1, .slice afy1 nfy1 cfy1] 45, .blk b1 [.int .i64 wd0, .int .i64 hi0, .bool wr0, .slice asp0 nsp0 csp0, .slice als0 nls0 cls0] 36, .rd kF asp0 nsp0 Xsp0, .rd kF als0 nls0 Xls0, .rd kF afe1 nfe1 Xfe1, .rd kF afx1 nfx1 Xfx1, .rd kF afy1 nfy1 Xfy1, .rd kF afe2 nfe2 Xfe2, .rd kF afx2 nfx2 Xfx2, .rd kF afy2 nfy2 Xfy2] := B.upd [3] rfl hU516
                      clear hU516
                      refine ⟨fun _ => R436, ?_⟩
                      refine m_y (v := .bool true) 12 rfl (by kernel_rfl) rfl rfl (fun w' e' => y_assign rfl) ?_
                      refine m_done (by kernel_rfl) (fun w519 e520 => ?_)
                      replace B := B.ext0 e520
                      clear e520
                      clear B0_435 R436
                      exact ⟨_, b498, a508, c509, a510, c511, a512, c513, Fits.eq ⟨rfl, rfl, rfl, rfl, rfl, rfl, rfl, rfl, trivial⟩, B.pick [0, 1, 2, 3, 12, 13, 14, 15, 16, 17, 18, 19, 20, 21, 22, 23, 24, 25, 26, 27, 28, 29, 30, 31, 32, 33, 34, 35, 36, 37, 38, 39, 40, 41, 42, 43, 44, 45, 46, 47, 48, 49] rfl rfl⟩
                  · replace R436 := R436.trans (Ext0.any e462)
                    replace B := B.ext0 e462
                    clear e462
                    refine k_allocN (z := (.agg #[.slice none 0 0, .slice none 0 0, .slice none 0 0])) (cs := [.slice none 0 0, .slice none 0 0, .slice none 0 0]) T11.zero_49 rfl (fun b521 w522 hN523 => ?_)
                    have nf524 : NotLt b521 _ := fun h => Nat.not_lt.2 (Nat.le_trans (Ext.size R436) hN523.ge) h
                    replace R436 := R436.trans (Ext0.any hN523.ext)
                    replace B := B.new1 hN523
                    clear hN523
                    refine ⟨fun _ => R436, ?_⟩
                    refine m_k 5 [6, 7, 8, 9, 11, 12] rfl (by kernel_rfl) rfl rfl (fun w526 e527 => ?_)
                    replace R436 := R436.trans (Ext0.any e527)
                    replace B := B.ext0 e527
                    clear e527
                    refine k_call T11.fn_31 (c_l_toField (B.r 41 rfl) (B.r 42 rfl) (B.r 43 rfl) (by omega) (by omega) (by omega)) rfl ?_
                    rintro _ w528 ⟨a529, c530, a531, c532, a533, c534, rfl, hN535⟩
                    replace R436 := R436.trans (Ext0.any hN535.ext)
                    replace B := B.new3 hN535
                    clear hN535
                    refine ⟨fun _ => R436, ?_⟩
                    refine m_k 6 [7, 8, 9, 11, 12] rfl (by kernel_rfl) rfl rfl (fun w536 e537 => ?_)
                    replace R436 := R436.trans (Ext0.any e537)
                    replace B := B.ext0 e537
                    clear e537
                    refine k_call T11.fn_54 (c_i_AddFields ((B.o 7 rfl).rd) ((B.o 8 rfl).rd) ((B.o 4 rfl).rd) ((B.o 5 rfl).rd) ((B.o 6 rfl).rd) ((B.o 0 rfl).rd) ((B.o 1 rfl).rd) ((B.o 2 rfl).rd) (by omega) (by omega) (by omega) (by omega) (by omega) (by omega) (by omega) (by omega)) rfl ?_
                    rintro v540 w538 hx539
                    obtain ⟨a541, c542, a543, c544, a545, c546, rfl, hN547⟩ := (hx539.resolve_right (fun hz => by rw [c296] at hz; cases hz.1)).2
                    clear hx539
                    replace R436 := R436.trans (Ext0.any hN547.ext)
                    replace B := B.new3 hN547
                    clear hN547
                    refine ⟨fun _ => R436, ?_⟩
                    refine m_y (v := .tuple #[.agg #[.slice a541 ((wd0 * hi0).toNat) c542, .slice a543 ((wd0 * hi0).toNat) c544, .slice a545 ((wd0 * hi0).toNat) c546], .bool true]) 7 rfl (by kernel_rfl) rfl rfl (fun w' e' => y_move rfl) ?_
                    refine m_y (v := .agg #[.slice a541 ((wd0 * hi0).toNat) c542, .slice a543 ((wd0 * hi0).toNat) c544, .slice a545 ((wd0 * hi0).toNat) c546]) 8 rfl (by kernel_rfl) rfl rfl (fun w' e' => y_extract rfl rfl) ?_
                    refine m_y (v := .bool true) 9 rfl (by kernel_rfl) rfl rfl (fun w' e' => y_extract rfl rfl) ?_
                    refine m_k 11 [12] rfl (by kernel_rfl) rfl rfl (fun w550 e551 => ?_)
                    replace R436 := R436.trans (Ext0.any e551)
                    replace B := B.ext0 e551
                    clear e551
                    refine k_stB (v := .agg #[.slice a541 ((wd0 * hi0).toNat) c542, .slice a543 ((wd0 * hi0).toNat) c544, .slice a545 ((wd0 * hi0).toNat) c546]) (n := 3) (cs' := [.slice a541 ((wd0 * hi0).toNat) c542, .slice a543 ((wd0 * hi0).toNat) c544, .slice a545 ((wd0 * hi0).toNat) c546]) T11.sz_49_3 rfl rfl rfl (B.b 6 rfl) (by simp [Value.cells, Value.oneCell']) (Nat.le_of_ble_eq_true rfl) rfl (fun w548 hU549 => ?_)
                    replace R436 := R436.fresh hU549.at1 (fun kx hs hl => (nf524 ((show kx = b521 from hs) ▸ hl)).elim)
                    replace B : Bu w no w548 [.blk b521 [.slice a541 ((wd0 * hi0).toNat) c542, .slice a543 ((wd0 * hi0).toNat) c544, .slice a545 ((wd0 * hi0).toNat) c546] 49, .ow kF a541 ((wd0 * hi0).toNat) c542 56 (addL (wd0 * hi0) Xfe1 Xfe2), .ow kF a543 ((wd0 * hi0).toNat) c544 56 (addL (wd0 * hi0) Xfx1 Xfx2), .ow kF a545 ((wd0 * hi0).toNat) c546 56 (addL (wd0 * hi0) Xfy1 Xfy2), .ow kF a529 nfe2 c530 56 Xfe2, .ow kF a531 nfx2 c532 56 Xfx2, .ow kF a533 nfy2 c534 56 Xfy2, .ow kF a452 nfe1 c453 56 Xfe1, .ow kF a454 nfx1 c455 56 Xfx1, .ow kF a456 nfy1 c457 56 Xfy1, .ow kF a442 nsp0 c443 56 Xsp0, .ow kF a444 nls0 c445 56 Xls0, .ow kF a341 ((wd0 * hi0).toNat) c342 56 (marks 1 ((wd0 * hi0).toNat)), .ow kF a343 ((wd0 * hi0).toNat) c344 56 (marks (1 + (((wd0 * hi0).toNat : Nat) : Int)) ((wd0 * hi0).toNat)), .ow kF a345 ((wd0 * hi0).toNat) c346 56 (marks (1 + (((wd0 * hi0).toNat : Nat) : Int) + (((wd0 * hi0).toNat : Nat) : Int)) ((wd0 * hi0).toNat)), .ow kF a326 nfe2 c327 56 (marks ((1 + ((nsp0 : Nat) : Int) + ((nls0 : Nat) : Int)) + ((nfe1 : Nat) : Int) + ((nfx1 : Nat) : Int) + ((nfy1 : Nat) : Int)) nfe2), .ow kF a328 nfx2 c329 56 (marks (((1 + ((nsp0 : Nat) : Int) + ((nls0 : Nat) : Int)) + ((nfe1 : Nat) : Int) + ((nfx1 : Nat) : Int) + ((nfy1 : Nat) : Int)) + ((nfe2 : Nat) : Int)) nfx2), .ow kF a330 nfy2 c331 56 (marks (((1 + ((nsp0 : Nat) : Int) + ((nls0 : Nat) : Int)) + ((nfe1 : Nat) : Int) + ((nfx1 : Nat) : Int) + ((nfy1 : Nat) : Int)) + ((nfe2 : Nat) : Int) + ((nfx2 : Nat) : Int)) nfy2), .ow kF a313 nfe1 c314 56 (marks (1 + ((nsp0 : Nat) : Int) + ((nls0 : Nat) : Int)) nfe1), .ow kF a315 nfx1 c316 56 (marks ((1 + ((nsp0 : Nat) : Int) + ((nls0 : Nat) : Int)) + ((nfe1 : Nat) : Int)) nfx1), .ow kF a317 nfy1 c318 56 (marks ((1 + ((nsp0 : Nat) : Int) + ((nls0 : Nat) : Int)) + ((nfe1 : Nat) : Int) + ((nfx1 : Nat) : Int)) nfy1), .ow kF a302 nsp0 c303 56 (marks 1 nsp0), .ow kF a304 nls0 c305 56 (marks (1 + ((nsp0 : Nat) : Int)) nls0), .ow kF a406 nfe2 c407 56 Xfe2, .ow kF a408 nfx2 c409 56 Xfx2, .ow kF a410 nfy2 c411 56 Xfy2, .ow kF a384 nfe1 c385 56 Xfe1, .ow kF a386 nfx1 c387 56 Xfx1, .ow kF a388 nfy1 c389 56 Xfy1, .ow kF a364 nsp0 c365 56 Xsp0, .ow kF a366 nls0 c367 56 Xls0, .blk b348 [.slice a341 ((wd0 * hi0).toNat) c342, .slice a343 ((wd0 * hi0).toNat) c344, .slice a345 ((wd0 * hi0).toNat) c346] 49, .blk b333 [.slice a326 nfe2 c327, .slice a328 nfx2 c329, .slice a330 nfy2 c331] 49, .blk b320 [.slice a313 nfe1 c314, .slice a315 nfx1 c316, .slice a317 nfy1 c318] 49, .blk b307 [.int .i64 wd0, .int .i64 hi0, .bool wr0, .slice a302 nsp0 c303, .slice a304 nls0 c305] 26, .blk b82 [.slice a75 ((wd0 * hi0).toNat) c76, .slice a77 ((wd0 * hi0).toNat) c78, .slice a79 ((wd0 * hi0).toNat) c80] 49, .ow kF a75 ((wd0 * hi0).toNat) c76 56 (addL (wd0 * hi0) Xfe1 Xfe2), .ow kF a77 ((wd0 * hi0).toNat) c78 56 (addL (wd0 * hi0) Xfx1 Xfx2), .ow kF a79 ((wd0 * hi0).toNat) c80 56 (addL (wd0 * hi0) Xfy1 Xfy2), .blk b7 [.slice afe2 nfe2 cfe2, .slice afx2 nfx2 cfx2, .slice afy2 nfy2 cfy2] 45, .blk b4 [.slice afe1 nfe1 cfe1, .slice afx1 nfx1 cfx1, .slice afy1 nfy1 cfy1] 45, .blk b1 [.int .i64 wd0, .int .i64 hi0, .bool wr0, .slice asp0 nsp0 csp0, .slice als0 nls0 cls0] 36, .rd kF asp0 nsp0 Xsp0, .rd kF als0 nls0 Xls0, .rd kF afe1 nfe1 Xfe1, .rd kF afx1 nfx1 Xfx1, .rd kF afy1 nfy1 Xfy1, .rd kF afe2 nfe2 Xfe2, .rd kF afx2 nfx2 Xfx2, .rd kF afy2 nfy2 Xfy2] := B.upd [6] rfl hU549
                    clear hU549
                    refine ⟨fun _ => R436, ?_⟩
                    refine m_y (v := .bool true) 12 rfl (by kernel_rfl) rfl rfl (fun w' e' => y_assign rfl) ?_
                    refine m_done (by kernel_rfl) (fun w552 e553 => ?_)
                    replace B := B.ext0 e553
                    clear e553
                    clear B0_435 R436
                    exact ⟨_, b521, a541, c542, a543, c544, a545, c546, Fits.eq ⟨rfl, rfl, rfl, rfl, rfl, rfl, rfl, rfl, trivial⟩, B.pick [0, 1, 2, 3, 12, 13, 14, 15, 16, 17, 18, 19, 20, 21, 22, 23, 24, 25, 26, 27, 28, 29, 30, 31, 32, 33, 34, 35, 36, 37, 38, 39, 40, 41, 42, 43, 44, 45, 46, 47, 48, 49] rfl rfl⟩
                · replace R436 := R436.trans (Ext0.any e450)
                  replace B := B.ext0 e450
                  clear e450
                  refine k_allocN (z := (.agg #[.slice none 0 0, .slice none 0 0, .slice none 0 0])) (cs := [.slice none 0 0, .slice none 0 0, .slice none 0 0]) T11.zero_49 rfl (fun b554 w555 hN556 => ?_)
                  have nf557 : NotLt b554 _ := fun h => Nat.not_lt.2 (Nat.le_trans (Ext.size R436) hN556.ge) h
                  replace R436 := R436.trans (Ext0.any hN556.ext)
                  replace B := B.new1 hN556
                  clear hN556
                  refine ⟨fun _ => R436, ?_⟩
                  refine m_k 3 [5, 6, 7, 8, 9, 11, 12] rfl (by kernel_rfl) rfl rfl (fun w559 e560 => ?_)
                  replace R436 := R436.trans (Ext0.any e560)
                  replace B := B.ext0 e560
                  clear e560
                  refine k_call T11.fn_31 (c_l_toField (B.r 35 rfl) (B.r 36 rfl) (B.r 37 rfl) (by omega) (by omega) (by omega)) rfl ?_
                  rintro _ w561 ⟨a562, c563, a564, c565, a566, c567, rfl, hN568⟩
                  replace R436 := R436.trans (Ext0.any hN568.ext)
                  replace B := B.new3 hN568
                  clear hN568
                  refine ⟨fun _ => R436, ?_⟩
                  refine m_k 5 [6, 7, 8, 9, 11, 12] rfl (by kernel_rfl) rfl rfl (fun w569 e570 => ?_)
                  replace R436 := R436.trans (Ext0.any e570)
                  replace B := B.ext0 e570
                  clear e570
                  refine k_call T11.fn_31 (c_l_toField (B.r 41 rfl) (B.r 42 rfl) (B.r 43 rfl) (by omega) (by omega) (by omega)) rfl ?_
                  rintro _ w571 ⟨a572, c573, a574, c575, a576, c577, rfl, hN578⟩
                  replace R436 := R436.trans (Ext0.any hN578.ext)
                  replace B := B.new3 hN578
                  clear hN578
                  refine ⟨fun _ => R436, ?_⟩
                  refine m_k 6 [7, 8, 9, 11, 12] rfl (by kernel_rfl) rfl rfl (fun w579 e580 => ?_)
                  replace R436 := R436.trans (Ext0.any e580)
                  replace B := B.ext0 e580
                  clear e580
                  refine k_call T11.fn_54 (c_i_AddFields ((B.o 7 rfl).rd) ((B.o 8 rfl).rd) ((B.o 3 rfl).rd) ((B.o 4 rfl).rd) ((B.o 5 rfl).rd) ((B.o 0 rfl).rd) ((B.o 1 rfl).rd) ((B.o 2 rfl).rd) (by omega) (by omega) (by omega) (by omega) (by omega) (by omega) (by omega) (by omega)) rfl ?_
                  rintro v583 w581 hx582
                  obtain ⟨a584, c585, a586, c587, a588, c589, rfl, hN590⟩ := (hx582.resolve_right (fun hz => by rw [c296] at hz; cases hz.1)).2
                  clear hx582
                  replace R436 := R436.trans (Ext0.any hN590.ext)
                  replace B := B.new3 hN590
                  clear hN590
                  refine ⟨fun _ => R436, ?_⟩
                  refine m_y (v := .tuple #[.agg #[.slice a584 ((wd0 * hi0).toNat) c585, .slice a586 ((wd0 * hi0).toNat) c587, .slice a588 ((wd0 * hi0).toNat) c589], .bool true]) 7 rfl (by kernel_rfl) rfl rfl (fun w' e' => y_move rfl) ?_
                  refine m_y (v := .agg #[.slice a584 ((wd0 * hi0).toNat) c585, .slice a586 ((wd0 * hi0).toNat) c587, .slice a588 ((wd0 * hi0).toNat) c589]) 8 rfl (by kernel_rfl) rfl rfl (fun w' e' => y_extract rfl rfl) ?_
                  refine m_y (v := .bool true) 9 rfl (by kernel_rfl) rfl rfl (fun w' e' => y_extract rfl rfl) ?_
                  refine m_k 11 [12] rfl (by kernel_rfl) rfl rfl (fun w593 e594 => ?_)
                  replace R436 := R436.trans (Ext0.any e594)
                  replace B := B.ext0 e594
                  clear e594
                  refine k_stB (v := .agg #[.slice a584 ((wd0 * hi0).toNat) c585, .slice a586 ((wd0 * hi0).toNat) c587, .slice a588 ((wd0 * hi0).toNat) c589]) (n := 3) (cs' := [.slice a584 ((wd0 * hi0).toNat) c585, .slice a586 ((wd0 * hi0).toNat) c587, .slice a588 ((wd0 * hi0).toNat) c589]) T11.sz_49_3 rfl rfl rfl (B.b 9 rfl) (by simp [Value.cells, Value.oneCell']) (Nat.le_of_ble_eq_true rfl) rfl (fun w591 hU592 => ?_)
                  replace R436 := R436.fresh hU592.at1 (fun kx hs hl => (nf557 ((show kx = b554 from hs) ▸ hl)).elim)
                  replace B : Bu w no w591 [.blk b554 [.slice a584 ((wd0 * hi0).toNat) c585, .slice a586 ((wd0 * hi0).toNat) c587, .slice a588 ((wd0 * hi0).toNat) c589] 49, .ow kF a584 ((wd0 * hi0).toNat) c585 56 (addL (wd0 * hi0) Xfe1 Xfe2), .ow kF a586 ((wd0 * hi0).toNat) c587 56 (addL (wd0 * hi0) Xfx1 Xfx2), .ow kF a588 ((wd0 * hi0).toNat) c589 56 (addL (wd0 * hi0) Xfy1 Xfy2), .ow kF a572 nfe2 c573 56 Xfe2, .ow kF a574 nfx2 c575 56 Xfx2, .ow kF a576 nfy2 c577 56 Xfy2, .ow kF a562 nfe1 c563 56 Xfe1, .ow kF a564 nfx1 c565 56 Xfx1, .ow kF a566 nfy1 c567 56 Xfy1, .ow kF a442 nsp0 c443 56 Xsp0, .ow kF a444 nls0 c445 56 Xls0, .ow kF a341 ((wd0 * hi0).toNat) c342 56 (marks 1 ((wd0 * hi0).toNat)), .ow kF a343 ((wd0 * hi0).toNat) c344 56 (marks (1 + (((wd0 * hi0).toNat : Nat) : Int)) ((wd0 * hi0).toNat)), .ow kF a345 ((wd0 * hi0).toNat) c346 56 (marks (1 + (((wd0 * hi0).toNat : Nat) : Int) + (((wd0 * hi0).toNat : Nat) : Int)) ((wd0 * hi0).toNat)), .ow kF a326 nfe2 c327 56 (marks ((1 + ((nsp0 : Nat) : Int) + ((nls0 : Nat) : Int)) + ((nfe1 : Nat) : Int) + ((nfx1 : Nat) : Int) + ((nfy1 : Nat) : Int)) nfe2), .ow kF a328 nfx2 c329 56 (marks (((1 + ((nsp0 : Nat) : Int) + ((nls0 : Nat) : Int)) + ((nfe1 : Nat) : Int) + ((nfx1 : Nat) : Int) + ((nfy1 : Nat) : Int)) + ((nfe2 : Nat) : Int)) nfx2), .ow kF a330 nfy2 c331 56 (marks (((1 + ((nsp0 : Nat) : Int) + ((nls0 : Nat) : Int)) + ((nfe1 : Nat) : Int) + ((nfx1 : Nat) : Int) + ((nfy1 : Nat) : Int)) + ((nfe2 : Nat) : Int) + ((nfx2 : Nat) : Int)) nfy2), .ow kF a313 nfe1 c314 56 (marks (1 + ((nsp0 : Nat) : Int) + ((nls0 : Nat) : Int)) nfe1), .ow kF a315 nfx1 c316 56 (marks ((1 + ((nsp0 : Nat) : Int) + ((nls0 : Nat) : Int)) + ((nfe1 : Nat) : Int)) nfx1), .ow kF a317 nfy1 c318 56 (marks ((1 + ((nsp0 : Nat) : Int) + ((nls0 : Nat) : Int)) + ((nfe1 : Nat) : Int) + ((nfx1 : Nat) : Int)) nfy1), .ow kF a302 nsp0 c303 56 (marks 1 nsp0), .ow kF a304 nls0 c305 56 (marks (1 + ((nsp0 : Nat) : Int)) nls0), .ow kF a406 nfe2 c407 56 Xfe2, .ow kF a408 nfx2 c409 56 Xfx2, .ow kF a410 nfy2 c411 56 Xfy2, .ow kF a384 nfe1 c385 56 Xfe1, .ow kF a386 nfx1 c387 56 Xfx1, .ow kF a388 nfy1 c389 56 Xfy1, .ow kF a364 nsp0 c365 56 Xsp0, .ow kF a366 nls0 c367 56 Xls0, .blk b348 [.slice a341 ((wd0 * hi0).toNat) c342, .slice a343 ((wd0 * hi0).toNat) c344, .slice a345 ((wd0 * hi0).toNat) c346] 49, .blk b333 [.slice a326 nfe2 c327, .slice a328 nfx2 c329, .slice a330 nfy2 c331] 49, .blk b320 [.slice a313 nfe1 c314, .slice a315 nfx1 c316, .slice a317 nfy1 c318] 49, .blk b307 [.int .i64 wd0, .int .i64 hi0, .bool wr0, .slice a302 nsp0 c303, .slice a304 nls0 c305] 26, .blk b82 [.slice a75 ((wd0 * hi0).toNat) c76, .slice a77 ((wd0 * hi0).toNat) c78, .slice a79 ((wd0 * hi0).toNat) c80] 49, .ow kF a75 ((wd0 * hi0).toNat) c76 56 (addL (wd0 * hi0) Xfe1 Xfe2), .ow kF a77 ((wd0 * hi0).toNat) c78 56 (addL (wd0 * hi0) Xfx1 Xfx2), .ow kF a79 ((wd0 * hi0).toNat) c80 56 (addL (wd0 * hi0) Xfy1 Xfy2), .blk b7 [.slice afe2 nfe2 cfe2, .slice afx2 nfx2 cfx2, .slice afy2 nfy2 cfy2] 45, .blk b4 [.slice afe1 nfe1 cfe1, .slice afx1 nfx1 cfx1, .slice afy1 nfy1 cfy1] 45, .blk b1 [.int .i64 wd0, .int .i64 hi0, .bool wr0, .slice asp0 nsp0 csp0, .slice als0 nls0 cls0] 36, .rd kF asp0 nsp0 Xsp0, .rd kF als0 nls0 Xls0, .rd kF afe1 nfe1 Xfe1, .rd kF afx1 nfx1 Xfx1, .rd kF afy1 nfy1 Xfy1, .rd kF afe2 nfe2 Xfe2, .rd kF afx2 nfx2 Xfx2, .rd kF afy2 nfy2 Xfy2] := B.upd [9] rfl hU592
                  clear hU592
                  refine ⟨fun _ => R436, ?_⟩
                  refine m_y (v := .bool true) 12 rfl (by kernel_rfl) rfl rfl (fun w' e' => y_assign rfl) ?_
                  refine m_done (by kernel_rfl) (fun w595 e596 => ?_)
                  replace B := B.ext0 e596
                  clear e596
                  clear B0_435 R436
                  exact ⟨_, b554, a584, c585, a586, c587, a588, c589, Fits.eq ⟨rfl, rfl, rfl, rfl, rfl, rfl, rfl, rfl, trivial⟩, B.pick [0, 1, 2, 3, 12, 13, 14, 15, 16, 17, 18, 19, 20, 21, 22, 23, 24, 25, 26, 27, 28, 29, 30, 31, 32, 33, 34, 35, 36, 37, 38, 39, 40, 41, 42, 43, 44, 45, 46, 47, 48, 49] rfl rfl⟩
              · replace R436 := R436.trans (Ext0.any e440)
                replace B := B.ext0 e440
                clear e440
                refine k_allocN (z := (.agg #[.slice none 0 0, .slice none 0 0, .slice none 0 0])) (cs := [.slice none 0 0, .slice none 0 0, .slice none 0 0]) T11.zero_49 rfl (fun b597 w598 hN599 => ?_)
                have nf600 : NotLt b597 _ := fun h => Nat.not_lt.2 (Nat.le_trans (Ext.size R436) hN599.ge) h
                replace R436 := R436.trans (Ext0.any hN599.ext)
                replace B := B.new1 hN599
                clear hN599
                refine ⟨fun _ => R436, ?_⟩
                refine m_k 1 [3, 5, 6, 7, 8, 9, 11, 12] rfl (by kernel_rfl) rfl rfl (fun w602 e603 => ?_)
                replace R436 := R436.trans (Ext0.any e603)
                replace B := B.ext0 e603
                clear e603
                refine k_call T11.fn_23 (c_l_toSheet (B.r 31 rfl) (B.r 32 rfl) (by omega) (by omega)) rfl ?_
                rintro _ w604 ⟨a605, c606, a607, c608, rfl, hN609⟩
                replace R436 := R436.trans (Ext0.any hN609.ext)
                replace B := B.new2 hN609
                clear hN609
                refine ⟨fun _ => R436, ?_⟩
                refine m_k 3 [5, 6, 7, 8, 9, 11, 12] rfl (by kernel_rfl) rfl rfl (fun w610 e611 => ?_)
                replace R436 := R436.trans (Ext0.any e611)
                replace B := B.ext0 e611
                clear e611
                refine k_call T11.fn_31 (c_l_toField (B.r 35 rfl) (B.r 36 rfl) (B.r 37 rfl) (by omega) (by omega) (by omega)) rfl ?_
                rintro _ w612 ⟨a613, c614, a615, c616, a617, c618, rfl, hN619⟩
                replace R436 := R436.trans (Ext0.any hN619.ext)
                replace B := B.new3 hN619
                clear hN619
                refine ⟨fun _ => R436, ?_⟩
                refine m_k 5 [6, 7, 8, 9, 11, 12] rfl (by kernel_rfl) rfl rfl (fun w620 e621 => ?_)
                replace R436 := R436.trans (Ext0.any e621)
                replace B := B.ext0 e621
                clear e621
                refine k_call T11.fn_31 (c_l_toField (B.r 41 rfl) (B.r 42 rfl) (B.r 43 rfl) (by omega) (by omega) (by omega)) rfl ?_
                rintro _ w622 ⟨a623, c624, a625, c626, a627, c628, rfl, hN629⟩
                replace R436 := R436.trans (Ext0.any hN629.ext)
                replace B := B.new3 hN629
                clear hN629
                refine ⟨fun _ => R436, ?_⟩
                refine m_k 6 [7, 8, 9, 11, 12] rfl (by kernel_rfl) rfl rfl (fun w630 e631 => ?_)
                replace R436 := R436.trans (Ext0.any e631)
                replace B := B.ext0 e631
                clear e631
                refine k_call T11.fn_54 (c_i_AddFields ((B.o 6 rfl).rd) ((B.o 7 rfl).rd) ((B.o 3 rfl).rd) ((B.o 4 rfl).rd) ((B.o 5 rfl).rd) ((B.o 0 rfl).rd) ((B.o 1 rfl).rd) ((B.o 2 rfl).rd) (by omega) (by omega) (by omega) (by omega) (by omega) (by omega) (by omega) (by omega)) rfl ?_
                rintro v634 w632 hx633
                obtain ⟨a635, c636, a637, c638, a639, c640, rfl, hN641⟩ := (hx633.resolve_right (fun hz => by rw [c296] at hz; cases hz.1)).2
                clear hx633
                replace R436 := R436.trans (Ext0.any hN641.ext)
                replace B := B.new3 hN641
                clear hN641
                refine ⟨fun _ => R436, ?_⟩
                refine m_y (v := .tuple #[.agg #[.slice a635 ((wd0 * hi0).toNat) c636, .slice a637 ((wd0 * hi0).toNat) c638, .slice a639 ((wd0 * hi0).toNat) c640], .bool true]) 7 rfl (by kernel_rfl) rfl rfl (fun w' e' => y_move rfl) ?_
                refine m_y (v := .agg #[.slice a635 ((wd0 * hi0).toNat) c636, .slice a637 ((wd0 * hi0).toNat) c638, .slice a639 ((wd0 * hi0).toNat) c640]) 8 rfl (by kernel_rfl) rfl rfl (fun w' e' => y_extract rfl rfl) ?_
                refine m_y (v := .bool true) 9 rfl (by kernel_rfl) rfl rfl (fun w' e' => y_extract rfl rfl) ?_
                refine m_k 11 [12] rfl (by kernel_rfl) rfl rfl (fun w644 e645 => ?_)
                replace R436 := R436.trans (Ext0.any e645)
                replace B := B.ext0 e645
                clear e645
                refine k_stB (v := .agg #[.slice a635 ((wd0 * hi0).toNat) c636, .slice a637 ((wd0 * hi0).toNat) c638, .slice a639 ((wd0 * hi0).toNat) c640]) (n := 3) (cs' := [.slice a635 ((wd0 * hi0).toNat) c636, .slice a637 ((wd0 * hi0).toNat) c638, .slice a639 ((wd0 * hi0).toNat) c640]) T11.sz_49_3 rfl rfl rfl (B.b 11 rfl) (by simp [Value.cells, Value.oneCell']) (Nat.le_of_ble_eq_true rfl) rfl (fun w642 hU643 => ?_)
                replace R436 := R436.fresh hU643.at1 (fun kx hs hl => (nf600 ((show kx = b597 from hs) ▸ hl)).elim)
                replace B : Bu w no w642 [.blk b597 [.slice a635 ((wd0 * hi0).toNat) c636, .slice a637 ((wd0 * hi0).toNat) c638, .slice a639 ((wd0 * hi0).toNat) c640] 49, .ow kF a635 ((wd0 * hi0).toNat) c636 56 (addL (wd0 * hi0) Xfe1 Xfe2), .ow kF a637 ((wd0 * hi0).toNat) c638 56 (addL (wd0 * hi0) Xfx1 Xfx2), .ow kF a639 ((wd0 * hi0).toNat) c640 56 (addL (wd0 * hi0) Xfy1 Xfy2), .ow kF a623 nfe2 c624 56 Xfe2, .ow kF a625 nfx2 c626 56 Xfx2, .ow kF a627 nfy2 c628 56 Xfy2, .ow kF a613 nfe1 c614 56 Xfe1, .ow kF a615 nfx1 c616 56 Xfx1, .ow kF a617 nfy1 c618 56 Xfy1, .ow kF a605 nsp0 c606 56 Xsp0, .ow kF a607 nls0 c608 56 Xls0, .ow kF a341 ((wd0 * hi0).toNat) c342 56 (marks 1 ((wd0 * hi0).toNat)), .ow kF a343 ((wd0 * hi0).toNat) c344 56 (marks (1 + (((wd0 * hi0).toNat : Nat) : Int)) ((wd0 * hi0).toNat)), .ow kF a345 ((wd0 * hi0).toNat) c346 56 (marks (1 + (((wd0 * hi0).toNat : Nat) : Int) + (((wd0 * hi0).toNat : Nat) : Int)) ((wd0 * hi0).toNat)), .ow kF a326 nfe2 c327 56 (marks ((1 + ((nsp0 : Nat) : Int) + ((nls0 : Nat) : Int)) + ((nfe1 : Nat) : Int) + ((nfx1 : Nat) : Int) + ((nfy1 : Nat) : Int)) nfe2), .ow kF a328 nfx2 c329 56 (marks (((1 + ((nsp0 : Nat) : Int) + ((nls0 : Nat) : Int)) + ((nfe1 : Nat) : Int) + ((nfx1 : Nat) : Int) + ((nfy1 : Nat) : Int)) + ((nfe2 : Nat) : Int)) nfx2), .ow kF a330 nfy2 c331 56 (marks (((1 + ((nsp0 : Nat) : Int) + ((nls0 : Nat) : Int)) + ((nfe1 : Nat) : Int) + ((nfx1 : Nat) : Int) + ((nfy1 : Nat) : Int)) + ((nfe2 : Nat) : Int) + ((nfx2 : Nat) : Int)) nfy2), .ow kF a313 nfe1 c314 56 (marks (1 + ((nsp0 : Nat) : Int) + ((nls0 : Nat) : Int)) nfe1), .ow kF a315 nfx1 c316 56 (marks ((1 + ((nsp0 : Nat) : Int) + ((nls0 : Nat) : Int)) + ((nfe1 : Nat) : Int)) nfx1), .ow kF a317 nfy1 c318 56 (marks ((1 + ((nsp0 : Nat) : Int) + ((nls0 : Nat) : Int)) + ((nfe1 : Nat) : Int) + ((nfx1 : Nat) : Int)) nfy1), .ow kF a302 nsp0 c303 56 (marks 1 nsp0), .ow kF a304 nls0 c305 56 (marks (1 + ((nsp0 : Nat) : Int)) nls0), .ow kF a406 nfe2 c407 56 Xfe2, .ow kF a408 nfx2 c409 56 Xfx2, .ow kF a410 nfy2 c411 56 Xfy2, .ow kF a384 nfe1 c385 56 Xfe1, .ow kF a386 nfx1 c387 56 Xfx1, .ow kF a388 nfy1 c389 56 Xfy1, .ow kF a364 nsp0 c365 56 Xsp0, .ow kF a366 nls0 c367 56 Xls0, .blk b348 [.slice a341 ((wd0 * hi0).toNat) c342, .slice a343 ((wd0 * hi0).toNat) c344, .slice a345 ((wd0 * hi0).toNat) c346] 49, .blk b333 [.slice a326 nfe2 c327, .slice a328 nfx2 c329, .slice a330 nfy2 c331] 49, .blk b320 [.slice a313 nfe1 c314, .slice a315 nfx1 c316, .slice a317 nfy1 c318] 49, .blk b307 [.int .i64 wd0, .int .i64 hi0, .bool wr0, .slice a302 nsp0 c303, .slice a304 nls0 c305] 26, .blk b82 [.slice a75 ((wd0 * hi0).toNat) c76, .slice a77 ((wd0 * hi0).toNat) c78, .slice a79 ((wd0 * hi0).toNat) c80] 49, .ow kF a75 ((wd0 * hi0).toNat) c76 56 (addL (wd0 * hi0) Xfe1 Xfe2), .ow kF a77 ((wd0 * hi0).toNat) c78 56 (addL (wd0 * hi0) Xfx1 Xfx2), .ow kF a79 ((wd0 * hi0).toNat) c80 56 (addL (wd0 * hi0) Xfy1 Xfy2), .blk b7 [.slice afe2 nfe2 cfe2, .slice afx2 nfx2 cfx2, .slice afy2 nfy2 cfy2] 45, .blk b4 [.slice afe1 nfe1 cfe1, .slice afx1 nfx1 cfx1, .slice afy1 nfy1 cfy1] 45, .blk b1 [.int .i64 wd0, .int .i64 hi0, .bool wr0, .slice asp0 nsp0 csp0, .slice als0 nls0 cls0] 36, .rd kF asp0 nsp0 Xsp0, .rd kF als0 nls0 Xls0, .rd kF afe1 nfe1 Xfe1, .rd kF afx1 nfx1 Xfx1, .rd kF afy1 nfy1 Xfy1, .rd kF afe2 nfe2 Xfe2, .rd kF afx2 nfx2 Xfx2, .rd kF afy2 nfy2 Xfy2] := B.upd [11] rfl hU643
                clear hU643
                refine ⟨fun _ => R436, ?_⟩
                refine m_y (v := .bool true) 12 rfl (by kernel_rfl) rfl rfl (fun w' e' => y_assign rfl) ?_
                refine m_done (by kernel_rfl) (fun w646 e647 => ?_)
                replace B := B.ext0 e647
                clear e647
                clear B0_435 R436
                exact ⟨_, b597, a635, c636, a637, c638, a639, c640, Fits.eq ⟨rfl, rfl, rfl, rfl, rfl, rfl, rfl, rfl, trivial⟩, B.pick [0, 1, 2, 3, 12, 13, 14, 15, 16, 17, 18, 19, 20, 21, 22, 23, 24, 25, 26, 27, 28, 29, 30, 31, 32, 33, 34, 35, 36, 37, 38, 39, 40, 41, 42, 43, 44, 45, 46, 47, 48, 49] rfl rfl⟩
            · clear B; rintro _ w648 (⟨ρ649, b485, a478, c479, a480, c481, a482, c483, rfl, B⟩)
              refine W_seq ?_
              refine W_seq ?_
              refine W_region (by kernel_rfl) ?_
              refine s_y (v := .agg #[.slice a478 ((wd0 * hi0).toNat) c479, .slice a480 ((wd0 * hi0).toNat) c481, .slice a482 ((wd0 * hi0).toNat) c483]) rfl (y_loadn (b := b485) (o := 0) (vs := [.slice a478 ((wd0 * hi0).toNat) c479, .slice a480 ((wd0 * hi0).toNat) c481, .slice a482 ((wd0 * hi0).toNat) c483]) T11.agg_49_3 rfl rfl ((B.b 0 rfl).cells (o := 0) rfl)) ?_
              refine s_y (v := .agg #[.slice a75 ((wd0 * hi0).toNat) c76, .slice a77 ((wd0 * hi0).toNat) c78, .slice a79 ((wd0 * hi0).toNat) c80]) rfl (y_loadn (b := b82) (o := 0) (vs := [.slice a75 ((wd0 * hi0).toNat) c76, .slice a77 ((wd0 * hi0).toNat) c78, .slice a79 ((wd0 * hi0).toNat) c80]) T11.agg_49_3 rfl rfl ((B.b 27 rfl).cells (o := 0) rfl)) ?_
              refine s_k rfl (k_call T11.fn_34 (c_l_eqField ((B.o 1 rfl).rd) ((B.o 2 rfl).rd) ((B.o 3 rfl).rd) ((B.o 28 rfl).rd) ((B.o 29 rfl).rd) ((B.o 30 rfl).rd) (by omega) (by omega) (by omega)) rfl ?_)
              rintro _ w650 ⟨rfl, e651⟩
              replace B := B.ext0 e651
              clear e651
              refine s_y (v := .bool false) rfl (y_not rfl rfl) ?_
              refine s_y (v := .bool false) rfl (y_move rfl) ?_
              refine s_y (v := .bool true) rfl (y_move rfl) ?_
              refine s_y (v := .bool true) rfl (y_move rfl) ?_
              refine s_y (v := .bool false) rfl (y_bneq T11.bool_4 rfl rfl rfl) ?_
              refine s_y (v := .bool false) rfl (y_pick_f rfl rfl) ?_
              refine s_nil ?_
              refine W_if_f (by decide) rfl ?_
              refine W_skip ?_
              refine W_seq ?_
              refine W_region (by kernel_rfl) ?_
              refine s_y (v := .int .i64 1) rfl (y_assign rfl) ?_
              refine s_nil ?_
              refine W_seq ?_
              refine W_region (by kernel_rfl) ?_
              refine s_y (v := .agg #[.slice a341 ((wd0 * hi0).toNat) c342, .slice a343 ((wd0 * hi0).toNat) c344, .slice a345 ((wd0 * hi0).toNat) c346]) rfl (y_loadn (b := b348) (o := 0) (vs := [.slice a341 ((wd0 * hi0).toNat) c342, .slice a343 ((wd0 * hi0).toNat) c344, .slice a345 ((wd0 * hi0).toNat) c346]) T11.agg_49_3 rfl rfl ((B.b 23 rfl).cells (o := 0) rfl)) ?_
              refine s_y (v := .int .i64 1) rfl (y_move rfl) ?_
              refine s_k rfl (k_call T11.fn_50 (c_l_heldField ((B.o 4 rfl).rd) ((B.o 5 rfl).rd) ((B.o 6 rfl).rd) (by omega) (by omega) (by omega) (by omega) (by omega)) rfl ?_)
              rintro _ w652 ⟨rfl, e653⟩
              replace B := B.ext0 e653
              clear e653
              refine s_y (v := .int .i64 (1 + (((wd0 * hi0).toNat : Nat) : Int) + (((wd0 * hi0).toNat : Nat) : Int) + (((wd0 * hi0).toNat : Nat) : Int))) rfl (y_assign rfl) ?_
              refine s_nil ?_
              refine W_seq ?_
              refine W_seq ?_
              refine W_region (by kernel_rfl) ?_
              refine s_y (v := .int .i64 (1 + (((wd0 * hi0).toNat : Nat) : Int) + (((wd0 * hi0).toNat : Nat) : Int) + (((wd0 * hi0).toNat : Nat) : Int))) rfl (y_move rfl) ?_
              refine s_y (v := .bool false) rfl (y_lss rfl rfl (decide_eq_false hk432)) ?_
              refine s_nil ?_
              refine W_if_f (by decide) rfl ?_
              refine W_skip ?_
              refine W_seq ?_
              refine W_seq ?_
              refine W_region (by kernel_rfl) ?_
              refine s_y (v := .int .i64 (1 + (((wd0 * hi0).toNat : Nat) : Int) + (((wd0 * hi0).toNat : Nat) : Int) + (((wd0 * hi0).toNat : Nat) : Int))) rfl (y_move rfl) ?_
              refine s_y (v := .int .i64 (1 + (((wd0 * hi0).toNat : Nat) : Int) + (((wd0 * hi0).toNat : Nat) : Int) + (((wd0 * hi0).toNat : Nat) : Int))) rfl (y_move rfl) ?_
              refine s_y (v := .bool false) rfl (y_neq rfl rfl (decide_eq_false (fun hq => hq rfl))) ?_
              refine s_nil ?_
              refine W_if_f (by decide) rfl ?_
              refine W_skip ?_
              refine W_seq ?_
              refine W_region (by kernel_rfl) ?_
              refine s_y (v := .bool true) rfl (y_assign rfl) ?_
              refine s_nil ?_
              refine W_ret ?_
              refine ret1 (v := .bool true) rfl rfl rfl ⟨_, rfl, ?_⟩
              exact ⟨rfl, B.ext⟩
          · refine W_seq ?_
            refine W_region (by kernel_rfl) ?_
            refine s_y (v := .agg #[.int .i64 wd0, .int .i64 hi0, .bool wr0, .slice asp0 nsp0 csp0, .slice als0 nls0 cls0]) rfl (y_loadn (b := b1) (o := 0) (vs := [.int .i64 wd0, .int .i64 hi0, .bool wr0, .slice asp0 nsp0 csp0, .slice als0 nls0 cls0]) T11.agg_36_5 rfl rfl ((B.b 3 rfl).cells (o := 0) rfl)) ?_
            refine s_k rfl (k_call T11.fn_23 (c_l_toSheet (B.r 4 rfl) (B.r 5 rfl) (by omega) (by omega)) rfl ?_)
            rintro _ w654 ⟨a655, c656, a657, c658, rfl, hN659⟩
            replace B := B.new2 hN659
            clear hN659
            refine s_k rfl (k_allocN (z := (.agg #[.int .i64 0, .int .i64 0, .bool false, .slice none 0 0, .slice none 0 0])) (cs := [.int .i64 0, .int .i64 0, .bool false, .slice none 0 0, .slice none 0 0]) T11.zero_26 rfl (fun b660 w661 hN662 => ?_))
            replace B := B.new1 hN662
            clear hN662
            refine s_k0 rfl (k_stB (v := .agg #[.int .i64 wd0, .int .i64 hi0, .bool wr0, .slice a655 nsp0 c656, .slice a657 nls0 c658]) (n := 5) (cs' := [.int .i64 wd0, .int .i64 hi0, .bool wr0, .slice a655 nsp0 c656, .slice a657 nls0 c658]) T11.sz_26_5 rfl rfl rfl (B.b 0 rfl) (by simp [Value.cells, Value.oneCell']) (Nat.le_of_ble_eq_true rfl) rfl (fun w663 hU664 => ?_))
            replace B : Bu w no w663 [.blk b660 [.int .i64 wd0, .int .i64 hi0, .bool wr0, .slice a655 nsp0 c656, .slice a657 nls0 c658] 26, .ow kF a655 nsp0 c656 56 Xsp0, .ow kF a657 nls0 c658 56 Xls0, .blk b96 [.slice none 0 0, .slice none 0 0, .slice none 0 0] 49, .blk b7 [.slice afe2 nfe2 cfe2, .slice afx2 nfx2 cfx2, .slice afy2 nfy2 cfy2] 45, .blk b4 [.slice afe1 nfe1 cfe1, .slice afx1 nfx1 cfx1, .slice afy1 nfy1 cfy1] 45, .blk b1 [.int .i64 wd0, .int .i64 hi0, .bool wr0, .slice asp0 nsp0 csp0, .slice als0 nls0 cls0] 36, .rd kF asp0 nsp0 Xsp0, .rd kF als0 nls0 Xls0, .rd kF afe1 nfe1 Xfe1, .rd kF afx1 nfx1 Xfx1, .rd kF afy1 nfy1 Xfy1, .rd kF afe2 nfe2 Xfe2, .rd kF afx2 nfx2 Xfx2, .rd kF afy2 nfy2 Xfy2] := B.upd [0] rfl hU664
            clear hU664
            refine s_nil ?_
            refine W_seq ?_
            refine W_region (by kernel_rfl) ?_
            refine s_y (v := .agg #[.slice afe1 nfe1 cfe1, .slice afx1 nfx1 cfx1, .slice afy1 nfy1 cfy1]) rfl (y_loadn (b := b4) (o := 0) (vs := [.slice afe1 nfe1 cfe1, .slice afx1 nfx1 cfx1, .slice afy1 nfy1 cfy1]) T11.agg_45_3 rfl rfl ((B.b 5 rfl).cells (o := 0) rfl)) ?_
            refine s_k rfl (k_call T11.fn_31 (c_l_toField (B.r 9 rfl) (B.r 10 rfl) (B.r 11 rfl) (by omega) (by omega) (by omega)) rfl ?_)
            rintro _ w665 ⟨a666, c667, a668, c669, a670, c671, rfl, hN672⟩
            replace B := B.new3 hN672
            clear hN672
            refine s_k rfl (k_allocN (z := (.agg #[.slice none 0 0, .slice none 0 0, .slice none 0 0])) (cs := [.slice none 0 0, .slice none 0 0, .slice none 0 0]) T11.zero_49 rfl (fun b673 w674 hN675 => ?_))
            replace B := B.new1 hN675
            clear hN675
            refine s_k0 rfl (k_stB (v := .agg #[.slice a666 nfe1 c667, .slice a668 nfx1 c669, .slice a670 nfy1 c671]) (n := 3) (cs' := [.slice a666 nfe1 c667, .slice a668 nfx1 c669, .slice a670 nfy1 c671]) T11.sz_49_3 rfl rfl rfl (B.b 0 rfl) (by simp [Value.cells, Value.oneCell']) (Nat.le_of_ble_eq_true rfl) rfl (fun w676 hU677 => ?_))
            replace B : Bu w no w676 [.blk b673 [.slice a666 nfe1 c667, .slice a668 nfx1 c669, .slice a670 nfy1 c671] 49, .ow kF a666 nfe1 c667 56 Xfe1, .ow kF a668 nfx1 c669 56 Xfx1, .ow kF a670 nfy1 c671 56 Xfy1, .blk b660 [.int .i64 wd0, .int .i64 hi0, .bool wr0, .slice a655 nsp0 c656, .slice a657 nls0 c658] 26, .ow kF a655 nsp0 c656 56 Xsp0, .ow kF a657 nls0 c658 56 Xls0, .blk b96 [.slice none 0 0, .slice none 0 0, .slice none 0 0] 49, .blk b7 [.slice afe2 nfe2 cfe2, .slice afx2 nfx2 cfx2, .slice afy2 nfy2 cfy2] 45, .blk b4 [.slice afe1 nfe1 cfe1, .slice afx1 nfx1 cfx1, .slice afy1 nfy1 cfy1] 45, .blk b1 [.int .i64 wd0, .int .i64 hi0, .bool wr0, .slice asp0 nsp0 csp0, .slice als0 nls0 cls0] 36, .rd kF asp0 nsp0 Xsp0, .rd kF als0 nls0 Xls0, .rd kF afe1 nfe1 Xfe1, .rd kF afx1 nfx1 Xfx1, .rd kF afy1 nfy1 Xfy1, .rd kF afe2 nfe2 Xfe2, .rd kF afx2 nfx2 Xfx2, .rd kF afy2 nfy2 Xfy2] := B.upd [0] rfl hU677
            clear hU677
            refine s_nil ?_
            refine W_seq ?_
            refine W_region (by kernel_rfl) ?_
            refine s_y (v := .agg #[.slice afe2 nfe2 cfe2, .slice afx2 nfx2 cfx2, .slice afy2 nfy2 cfy2]) rfl (y_loadn (b := b7) (o := 0) (vs := [.slice afe2 nfe2 cfe2, .slice afx2 nfx2 cfx2, .slice afy2 nfy2 cfy2]) T11.agg_45_3 rfl rfl ((B.b 8 rfl).cells (o := 0) rfl)) ?_
            refine s_k rfl (k_call T11.fn_31 (c_l_toField (B.r 16 rfl) (B.r 17 rfl) (B.r 18 rfl) (by omega) (by omega) (by omega)) rfl ?_)
            rintro _ w678 ⟨a679, c680, a681, c682, a683, c684, rfl, hN685⟩
            replace B := B.new3 hN685
            clear hN685
            refine s_k rfl (k_allocN (z := (.agg #[.slice none 0 0, .slice none 0 0, .slice none 0 0])) (cs := [.slice none 0 0, .slice none 0 0, .slice none 0 0]) T11.zero_49 rfl (fun b686 w687 hN688 => ?_))
            replace B := B.new1 hN688
            clear hN688
            refine s_k0 rfl (k_stB (v := .agg #[.slice a679 nfe2 c680, .slice a681 nfx2 c682, .slice a683 nfy2 c684]) (n := 3) (cs' := [.slice a679 nfe2 c680, .slice a681 nfx2 c682, .slice a683 nfy2 c684]) T11.sz_49_3 rfl rfl rfl (B.b 0 rfl) (by simp [Value.cells, Value.oneCell']) (Nat.le_of_ble_eq_true rfl) rfl (fun w689 hU690 => ?_))
            replace B : Bu w no w689 [.blk b686 [.slice a679 nfe2 c680, .slice a681 nfx2 c682, .slice a683 nfy2 c684] 49, .ow kF a679 nfe2 c680 56 Xfe2, .ow kF a681 nfx2 c682 56 Xfx2, .ow kF a683 nfy2 c684 56 Xfy2, .blk b673 [.slice a666 nfe1 c667, .slice a668 nfx1 c669, .slice a670 nfy1 c671] 49, .ow kF a666 nfe1 c667 56 Xfe1, .ow kF a668 nfx1 c669 56 Xfx1, .ow kF a670 nfy1 c671 56 Xfy1, .blk b660 [.int .i64 wd0, .int .i64 hi0, .bool wr0, .slice a655 nsp0 c656, .slice a657 nls0 c658] 26, .ow kF a655 nsp0 c656 56 Xsp0, .ow kF a657 nls0 c658 56 Xls0, .blk b96 [.slice none 0 0, .slice none 0 0, .slice none 0 0] 49, .blk b7 [.slice afe2 nfe2 cfe2, .slice afx2 nfx2 cfx2, .slice afy2 nfy2 cfy2] 45, .blk b4 [.slice afe1 nfe1 cfe1, .slice afx1 nfx1 cfx1, .slice afy1 nfy1 cfy1] 45, .blk b1 [.int .i64 wd0, .int .i64 hi0, .bool wr0, .slice asp0 nsp0 csp0, .slice als0 nls0 cls0] 36, .rd kF asp0 nsp0 Xsp0, .rd kF als0 nls0 Xls0, .rd kF afe1 nfe1 Xfe1, .rd kF afx1 nfx1 Xfx1, .rd kF afy1 nfy1 Xfy1, .rd kF afe2 nfe2 Xfe2, .rd kF afx2 nfx2 Xfx2, .rd kF afy2 nfy2 Xfy2] := B.upd [0] rfl hU690
            clear hU690
            refine s_nil ?_
            refine W_seq ?_
            refine W_region (by kernel_rfl) ?_
            refine s_y (v := .agg #[.int .i64 wd0, .int .i64 hi0, .bool wr0, .slice a655 nsp0 c656, .slice a657 nls0 c658]) rfl (y_loadn (b := b660) (o := 0) (vs := [.int .i64 wd0, .int .i64 hi0, .bool wr0, .slice a655 nsp0 c656, .slice a657 nls0 c658]) T11.agg_26_5 rfl rfl ((B.b 8 rfl).cells (o := 0) rfl)) ?_
            refine s_y (v := .agg #[.slice a666 nfe1 c667, .slice a668 nfx1 c669, .slice a670 nfy1 c671]) rfl (y_loadn (b := b673) (o := 0) (vs := [.slice a666 nfe1 c667, .slice a668 nfx1 c669, .slice a670 nfy1 c671]) T11.agg_49_3 rfl rfl ((B.b 4 rfl).cells (o := 0) rfl)) ?_
            refine s_y (v := .agg #[.slice a679 nfe2 c680, .slice a681 nfx2 c682, .slice a683 nfy2 c684]) rfl (y_loadn (b := b686) (o := 0) (vs := [.slice a679 nfe2 c680, .slice a681 nfx2 c682, .slice a683 nfy2 c684]) T11.agg_49_3 rfl rfl ((B.b 0 rfl).cells (o := 0) rfl)) ?_
            refine s_k rfl (k_call T11.fn_54 (c_i_AddFields ((B.o 9 rfl).rd) ((B.o 10 rfl).rd) ((B.o 5 rfl).rd) ((B.o 6 rfl).rd) ((B.o 7 rfl).rd) ((B.o 1 rfl).rd) ((B.o 2 rfl).rd) ((B.o 3 rfl).rd) (by omega) (by omega) (by omega) (by omega) (by omega) (by omega) (by omega) (by omega)) rfl ?_)
            rintro v693 w691 hx692
            obtain ⟨_, rfl, e694⟩ := hx692.resolve_left (fun hz => c298 hz.1)
            clear hx692
            replace B := B.ext0 e694
            clear e694
            refine s_y (v := .tuple #[.agg #[.slice none 0 0, .slice none 0 0, .slice none 0 0], .bool false]) rfl (y_move rfl) ?_
            refine s_y (v := .agg #[.slice none 0 0, .slice none 0 0, .slice none 0 0]) rfl (y_extract rfl rfl) ?_
            refine s_y (v := .bool false) rfl (y_extract rfl rfl) ?_
            refine s_k rfl (k_allocN (z := (.agg #[.slice none 0 0, .slice none 0 0, .slice none 0 0])) (cs := [.slice none 0 0, .slice none 0 0, .slice none 0 0]) T11.zero_49 rfl (fun b695 w696 hN697 => ?_))
            replace B := B.new1 hN697
            clear hN697
            refine s_k0 rfl (k_stB (v := .agg #[.slice none 0 0, .slice none 0 0, .slice none 0 0]) (n := 3) (cs' := [.slice none 0 0, .slice none 0 0, .slice none 0 0]) T11.sz_49_3 rfl rfl rfl (B.b 0 rfl) (by simp [Value.cells, Value.oneCell']) (Nat.le_of_ble_eq_true rfl) rfl (fun w698 hU699 => ?_))
            replace B : Bu w no w698 [.blk b695 [.slice none 0 0, .slice none 0 0, .slice none 0 0] 49, .blk b686 [.slice a679 nfe2 c680, .slice a681 nfx2 c682, .slice a683 nfy2 c684] 49, .ow kF a679 nfe2 c680 56 Xfe2, .ow kF a681 nfx2 c682 56 Xfx2, .ow kF a683 nfy2 c684 56 Xfy2, .blk b673 [.slice a666 nfe1 c667, .slice a668 nfx1 c669, .slice a670 nfy1 c671] 49, .ow kF a666 nfe1 c667 56 Xfe1, .ow kF a668 nfx1 c669 56 Xfx1, .ow kF a670 nfy1 c671 56 Xfy1, .blk b660 [.int .i64 wd0, .int .i64 hi0, .bool wr0, .slice a655 nsp0 c656, .slice a657 nls0 c658] 26, .ow kF a655 nsp0 c656 56 Xsp0, .ow kF a657 nls0 c658 56 Xls0, .blk b96 [.slice none 0 0, .slice none 0 0, .slice none 0 0] 49, .blk b7 [.slice afe2 nfe2 cfe2, .slice afx2 nfx2 cfx2, .slice afy2 nfy2 cfy2] 45, .blk b4 [.slice afe1 nfe1 cfe1, .slice afx1 nfx1 cfx1, .slice afy1 nfy1 cfy1] 45, .blk b1 [.int .i64 wd0, .int .i64 hi0, .bool wr0, .slice asp0 nsp0 csp0, .slice als0 nls0 cls0] 36, .rd kF asp0 nsp0 Xsp0, .rd kF als0 nls0 Xls0, .rd kF afe1 nfe1 Xfe1, .rd kF afx1 nfx1 Xfx1, .rd kF afy1 nfy1 Xfy1, .rd kF afe2 nfe2 Xfe2, .rd kF afx2 nfx2 Xfx2, .rd kF afy2 nfy2 Xfy2] := B.upd [0] rfl hU699
            clear hU699
            refine s_y (v := .bool false) rfl (y_assign rfl) ?_
            refine s_nil ?_
            refine W_seq ?_
            refine W_seq ?_
            refine W_region (by kernel_rfl) ?_
            refine s_y (v := .agg #[.slice none 0 0, .slice none 0 0, .slice none 0 0]) rfl (y_loadn (b := b695) (o := 0) (vs := [.slice none 0 0, .slice none 0 0, .slice none 0 0]) T11.agg_49_3 rfl rfl ((B.b 0 rfl).cells (o := 0) rfl)) ?_
            refine s_y (v := .agg #[.slice none 0 0, .slice none 0 0, .slice none 0 0]) rfl (y_loadn (b := b96) (o := 0) (vs := [.slice none 0 0, .slice none 0 0, .slice none 0 0]) T11.agg_49_3 rfl rfl ((B.b 12 rfl).cells (o := 0) rfl)) ?_
            refine s_k rfl (k_call T11.fn_34 (c_l_eqField (Rd.nil _ kF none) (Rd.nil _ kF none) (Rd.nil _ kF none) (Rd.nil _ kF none) (Rd.nil _ kF none) (Rd.nil _ kF none) (by omega) (by omega) (by omega)) rfl ?_)
            rintro _ w700 ⟨rfl, e701⟩
            replace B := B.ext0 e701
            clear e701
            refine s_y (v := .bool false) rfl (y_not rfl rfl) ?_
            refine s_y (v := .bool false) rfl (y_move rfl) ?_
            refine s_y (v := .bool false) rfl (y_move rfl) ?_
            refine s_y (v := .bool false) rfl (y_move rfl) ?_
            refine s_y (v := .bool false) rfl (y_bneq T11.bool_4 rfl rfl rfl) ?_
            refine s_y (v := .bool false) rfl (y_pick_f rfl rfl) ?_
            refine s_nil ?_
            refine W_if_f (by decide) rfl ?_
            refine W_skip ?_
            refine W_seq ?_
            refine W_seq ?_
            have B0_706 := B
            refine W_draw (no) T11.mx (by kernel_rfl) (fun w704 e705 => ?_)
            have R707 := Ext.refl (no) w700
            replace R707 := R707.trans (Ext0.any e705)
            replace B := B.ext0 e705
            clear e705
            refine m_y (v := .agg #[.int .i64 wd0, .int .i64 hi0, .bool wr0, .slice a655 nsp0 c656, .slice a657 nls0 c658]) 0 rfl (by kernel_rfl) rfl rfl (fun w' e' => y_loadn (b := b660) (o := 0) (vs := [.int .i64 wd0, .int .i64 hi0, .bool wr0, .slice a655 nsp0 c656, .slice a657 nls0 c658]) T11.agg_26_5 rfl rfl (((B0_706.b 9 rfl).ext0 e').cells (o := 0) rfl)) ?_
            refine m_y (v := .agg #[.int .i64 wd0, .int .i64 hi0, .bool wr0, .slice asp0 nsp0 csp0, .slice als0 nls0 cls0]) 1 rfl (by kernel_rfl) rfl rfl (fun w' e' => y_loadn (b := b1) (o := 0) (vs := [.int .i64 wd0, .int .i64 hi0, .bool wr0, .slice asp0 nsp0 csp0, .slice als0 nls0 cls0]) T11.agg_36_5 rfl rfl (((B0_706.b 15 rfl).ext0 e').cells (o := 0) rfl)) ?_
            refine m_k 2 [3, 4] rfl (by kernel_rfl) rfl rfl (fun w708 e709 => ?_)
            replace R707 := R707.trans (Ext0.any e709)
            replace B := B.ext0 e709
            clear e709
            refine k_call T11.fn_23 (c_l_toSheet (B.r 16 rfl) (B.r 17 rfl) (by omega) (by omega)) rfl ?_
            rintro _ w710 ⟨a711, c712, a713, c714, rfl, hN715⟩
            replace R707 := R707.trans (Ext0.any hN715.ext)
            replace B := B.new2 hN715
            clear hN715
            refine ⟨fun _ => R707, ?_⟩
            refine m_k 3 [4] rfl (by kernel_rfl) rfl rfl (fun w716 e717 => ?_)
            replace R707 := R707.trans (Ext0.any e717)
            replace B := B.ext0 e717
            clear e717
            refine k_call T11.fn_25 (c_l_eqSheet ((B.o 12 rfl).rd) ((B.o 13 rfl).rd) ((B.o 0 rfl).rd) ((B.o 1 rfl).rd) (by omega) (by omega)) rfl ?_
            rintro _ w718 ⟨rfl, e719⟩
            replace R707 := R707.trans (Ext0.any e719)
            replace B := B.ext0 e719
            clear e719
            refine ⟨fun _ => R707, ?_⟩
            refine m_y (v := .bool false) 4 rfl (by kernel_rfl) rfl rfl (fun w' e' => y_not rfl rfl) ?_
            refine m_done (by kernel_rfl) (fun w720 e721 => ?_)
            replace B := B.ext0 e721
            clear e721
            clear B0_706 R707
            refine W_if_f (by decide) rfl ?_
            refine W_skip ?_
            refine W_seq ?_
            refine W_seq ?_
            have B0_726 := B
            refine W_draw (no) T11.mx (by kernel_rfl) (fun w724 e725 => ?_)
            have R727 := Ext.refl (no) w720
            replace R727 := R727.trans (Ext0.any e725)
            replace B := B.ext0 e725
            clear e725
            refine m_y (v := .agg #[.slice a666 nfe1 c667, .slice a668 nfx1 c669, .slice a670 nfy1 c671]) 0 rfl (by kernel_rfl) rfl rfl (fun w' e' => y_loadn (b := b673) (o := 0) (vs := [.slice a666 nfe1 c667, .slice a668 nfx1 c669, .slice a670 nfy1 c671]) T11.agg_49_3 rfl rfl (((B0_726.b 7 rfl).ext0 e').cells (o := 0) rfl)) ?_
            refine m_y (v := .agg #[.slice afe1 nfe1 cfe1, .slice afx1 nfx1 cfx1, .slice afy1 nfy1 cfy1]) 1 rfl (by kernel_rfl) rfl rfl (fun w' e' => y_loadn (b := b4) (o := 0) (vs := [.slice afe1 nfe1 cfe1, .slice afx1 nfx1 cfx1, .slice afy1 nfy1 cfy1]) T11.agg_45_3 rfl rfl (((B0_726.b 16 rfl).ext0 e').cells (o := 0) rfl)) ?_
            refine m_k 2 [3, 4] rfl (by kernel_rfl) rfl rfl (fun w728 e729 => ?_)
            replace R727 := R727.trans (Ext0.any e729)
            replace B := B.ext0 e729
            clear e729
            refine k_call T11.fn_31 (c_l_toField (B.r 20 rfl) (B.r 21 rfl) (B.r 22 rfl) (by omega) (by omega) (by omega)) rfl ?_
            rintro _ w730 ⟨a731, c732, a733, c734, a735, c736, rfl, hN737⟩
            replace R727 := R727.trans (Ext0.any hN737.ext)
            replace B := B.new3 hN737
            clear hN737
            refine ⟨fun _ => R727, ?_⟩
            refine m_k 3 [4] rfl (by kernel_rfl) rfl rfl (fun w738 e739 => ?_)
            replace R727 := R727.trans (Ext0.any e739)
            replace B := B.ext0 e739
            clear e739
            refine k_call T11.fn_34 (c_l_eqField ((B.o 11 rfl).rd) ((B.o 12 rfl).rd) ((B.o 13 rfl).rd) ((B.o 0 rfl).rd) ((B.o 1 rfl).rd) ((B.o 2 rfl).rd) (by omega) (by omega) (by omega)) rfl ?_
            rintro _ w740 ⟨rfl, e741⟩
            replace R727 := R727.trans (Ext0.any e741)
            replace B := B.ext0 e741
            clear e741
            refine ⟨fun _ => R727, ?_⟩
            refine m_y (v := .bool false) 4 rfl (by kernel_rfl) rfl rfl (fun w' e' => y_not rfl rfl) ?_
            refine m_done (by kernel_rfl) (fun w742 e743 => ?_)
            replace B := B.ext0 e743
            clear e743
            clear B0_726 R727
            refine W_if_f (by decide) rfl ?_
            refine W_skip ?_
            refine W_seq ?_
            refine W_seq ?_
            have B0_748 := B
            refine W_draw (no) T11.mx (by kernel_rfl) (fun w746 e747 => ?_)
            have R749 := Ext.refl (no) w742
            replace R749 := R749.trans (Ext0.any e747)
            replace B := B.ext0 e747
            clear e747
            refine m_y (v := .agg #[.slice a679 nfe2 c680, .slice a681 nfx2 c682, .slice a683 nfy2 c684]) 0 rfl (by kernel_rfl) rfl rfl (fun w' e' => y_loadn (b := b686) (o := 0) (vs := [.slice a679 nfe2 c680, .slice a681 nfx2 c682, .slice a683 nfy2 c684]) T11.agg_49_3 rfl rfl (((B0_748.b 6 rfl).ext0 e').cells (o := 0) rfl)) ?_
            refine m_y (v := .agg #[.slice afe2 nfe2 cfe2, .slice afx2 nfx2 cfx2, .slice afy2 nfy2 cfy2]) 1 rfl (by kernel_rfl) rfl rfl (fun w' e' => y_loadn (b := b7) (o := 0) (vs := [.slice afe2 nfe2 cfe2, .slice afx2 nfx2 cfx2, .slice afy2 nfy2 cfy2]) T11.agg_45_3 rfl rfl (((B0_748.b 18 rfl).ext0 e').cells (o := 0) rfl)) ?_
            refine m_k 2 [3, 4] rfl (by kernel_rfl) rfl rfl (fun w750 e751 => ?_)
            replace R749 := R749.trans (Ext0.any e751)
            replace B := B.ext0 e751
            clear e751
            refine k_call T11.fn_31 (c_l_toField (B.r 26 rfl) (B.r 27 rfl) (B.r 28 rfl) (by omega) (by omega) (by omega)) rfl ?_
            rintro _ w752 ⟨a753, c754, a755, c756, a757, c758, rfl, hN759⟩
            replace R749 := R749.trans (Ext0.any hN759.ext)
            replace B := B.new3 hN759
            clear hN759
            refine ⟨fun _ => R749, ?_⟩
            refine m_k 3 [4] rfl (by kernel_rfl) rfl rfl (fun w760 e761 => ?_)
            replace R749 := R749.trans (Ext0.any e761)
            replace B := B.ext0 e761
            clear e761
            refine k_call T11.fn_34 (c_l_eqField ((B.o 10 rfl).rd) ((B.o 11 rfl).rd) ((B.o 12 rfl).rd) ((B.o 0 rfl).rd) ((B.o 1 rfl).rd) ((B.o 2 rfl).rd) (by omega) (by omega) (by omega)) rfl ?_
            rintro _ w762 ⟨rfl, e763⟩
            replace R749 := R749.trans (Ext0.any e763)
            replace B := B.ext0 e763
            clear e763
            refine ⟨fun _ => R749, ?_⟩
            refine m_y (v := .bool false) 4 rfl (by kernel_rfl) rfl rfl (fun w' e' => y_not rfl rfl) ?_
            refine m_done (by kernel_rfl) (fun w764 e765 => ?_)
            replace B := B.ext0 e765
            clear e765
            clear B0_748 R749
            refine W_if_f (by decide) rfl ?_
            refine W_skip ?_
            refine W_seq ?_
            refine W_region (by kernel_rfl) ?_
            refine s_y (v := .int .i64 1) rfl (y_assign rfl) ?_
            refine s_nil ?_
            refine W_seq ?_
            refine W_region (by kernel_rfl) ?_
            refine s_y (v := .agg #[.int .i64 wd0, .int .i64 hi0, .bool wr0, .slice a655 nsp0 c656, .slice a657 nls0 c658]) rfl (y_loadn (b := b660) (o := 0) (vs := [.int .i64 wd0, .int .i64 hi0, .bool wr0, .slice a655 nsp0 c656, .slice a657 nls0 c658]) T11.agg_26_5 rfl rfl ((B.b 17 rfl).cells (o := 0) rfl)) ?_
            refine s_y (v := .int .i64 1) rfl (y_move rfl) ?_
            refine s_k rfl (k_call T11.fn_26 (c_l_markSheet (by omega) (by omega) (by omega) (by omega) (B.all.pick [18, 19] rfl) (B.pw.pick [18, 19] rfl rfl)) rfl ?_)
            rintro _ w766 ⟨rfl, hU767⟩
            replace B : Bu w no w766 [.ow kF a655 nsp0 c656 56 (marks 1 nsp0), .ow kF a657 nls0 c658 56 (marks (1 + ((nsp0 : Nat) : Int)) nls0), .ow kF a753 nfe2 c754 56 Xfe2, .ow kF a755 nfx2 c756 56 Xfx2, .ow kF a757 nfy2 c758 56 Xfy2, .ow kF a731 nfe1 c732 56 Xfe1, .ow kF a733 nfx1 c734 56 Xfx1, .ow kF a735 nfy1 c736 56 Xfy1, .ow kF a711 nsp0 c712 56 Xsp0, .ow kF a713 nls0 c714 56 Xls0, .blk b695 [.slice none 0 0, .slice none 0 0, .slice none 0 0] 49, .blk b686 [.slice a679 nfe2 c680, .slice a681 nfx2 c682, .slice a683 nfy2 c684] 49, .ow kF a679 nfe2 c680 56 Xfe2, .ow kF a681 nfx2 c682 56 Xfx2, .ow kF a683 nfy2 c684 56 Xfy2, .blk b673 [.slice a666 nfe1 c667, .slice a668 nfx1 c669, .slice a670 nfy1 c671] 49, .ow kF a666 nfe1 c667 56 Xfe1, .ow kF a668 nfx1 c669 56 Xfx1, .ow kF a670 nfy1 c671 56 Xfy1, .blk b660 [.int .i64 wd0, .int .i64 hi0, .bool wr0, .slice a655 nsp0 c656, .slice a657 nls0 c658] 26, .blk b96 [.slice none 0 0, .slice none 0 0, .slice none 0 0] 49, .blk b7 [.slice afe2 nfe2 cfe2, .slice afx2 nfx2 cfx2, .slice afy2 nfy2 cfy2] 45, .blk b4 [.slice afe1 nfe1 cfe1, .slice afx1 nfx1 cfx1, .slice afy1 nfy1 cfy1] 45, .blk b1 [.int .i64 wd0, .int .i64 hi0, .bool wr0, .slice asp0 nsp0 csp0, .slice als0 nls0 cls0] 36, .rd kF asp0 nsp0 Xsp0, .rd kF als0 nls0 Xls0, .rd kF afe1 nfe1 Xfe1, .rd kF afx1 nfx1 Xfx1, .rd kF afy1 nfy1 Xfy1, .rd kF afe2 nfe2 Xfe2, .rd kF afx2 nfx2 Xfx2, .rd kF afy2 nfy2 Xfy2] := B.upd [18, 19] rfl hU767
            clear hU767
            refine s_y (v := .int .i64 (1 + ((nsp0 : Nat) : Int) + ((nls0 : Nat) : Int))) rfl (y_assign rfl) ?_
            refine s_nil ?_
            refine W_seq ?_
            refine W_region (by kernel_rfl) ?_
            refine s_y (v := .agg #[.slice a666 nfe1 c667, .slice a668 nfx1 c669, .slice a670 nfy1 c671]) rfl (y_loadn (b := b673) (o := 0) (vs := [.slice a666 nfe1 c667, .slice a668 nfx1 c669, .slice a670 nfy1 c671]) T11.agg_49_3 rfl rfl ((B.b 15 rfl).cells (o := 0) rfl)) ?_
            refine s_y (v := .int .i64 (1 + ((nsp0 : Nat) : Int) + ((nls0 : Nat) : Int))) rfl (y_move rfl) ?_
            refine s_k rfl (k_call T11.fn_35 (c_l_markField (by omega) (by omega) (by omega) (by omega) (by omega) (B.all.pick [16, 17, 18] rfl) (B.pw.pick [16, 17, 18] rfl rfl)) rfl ?_)
            rintro _ w768 ⟨rfl, hU769⟩
            replace B : Bu w no w768 [.ow kF a666 nfe1 c667 56 (marks (1 + ((nsp0 : Nat) : Int) + ((nls0 : Nat) : Int)) nfe1), .ow kF a668 nfx1 c669 56 (marks ((1 + ((nsp0 : Nat) : Int) + ((nls0 : Nat) : Int)) + ((nfe1 : Nat) : Int)) nfx1), .ow kF a670 nfy1 c671 56 (marks ((1 + ((nsp0 : Nat) : Int) + ((nls0 : Nat) : Int)) + ((nfe1 : Nat) : Int) + ((nfx1 : Nat) : Int)) nfy1), .ow kF a655 nsp0 c656 56 (marks 1 nsp0), .ow kF a657 nls0 c658 56 (marks (1 + ((nsp0 : Nat) : Int)) nls0), .ow kF a753 nfe2 c754 56 Xfe2, .ow kF a755 nfx2 c756 56 Xfx2, .ow kF a757 nfy2 c758 56 Xfy2, .ow kF a731 nfe1 c732 56 Xfe1, .ow kF a733 nfx1 c734 56 Xfx1, .ow kF a735 nfy1 c736 56 Xfy1, .ow kF a711 nsp0 c712 56 Xsp0, .ow kF a713 nls0 c714 56 Xls0, .blk b695 [.slice none 0 0, .slice none 0 0, .slice none 0 0] 49, .blk b686 [.slice a679 nfe2 c680, .slice a681 nfx2 c682, .slice a683 nfy2 c684] 49, .ow kF a679 nfe2 c680 56 Xfe2, .ow kF a681 nfx2 c682 56 Xfx2, .ow kF a683 nfy2 c684 56 Xfy2, .blk b673 [.slice a666 nfe1 c667, .slice a668 nfx1 c669, .slice a670 nfy1 c671] 49, .blk b660 [.int .i64 wd0, .int .i64 hi0, .bool wr0, .slice a655 nsp0 c656, .slice a657 nls0 c658] 26, .blk b96 [.slice none 0 0, .slice none 0 0, .slice none 0 0] 49, .blk b7 [.slice afe2 nfe2 cfe2, .slice afx2 nfx2 cfx2, .slice afy2 nfy2 cfy2] 45, .blk b4 [.slice afe1 nfe1 cfe1, .slice afx1 nfx1 cfx1, .slice afy1 nfy1 cfy1] 45, .blk b1 [.int .i64 wd0, .int .i64 hi0, .bool wr0, .slice asp0 nsp0 csp0, .slice als0 nls0 cls0] 36, .rd kF asp0 nsp0 Xsp0, .rd kF als0 nls0 Xls0, .rd kF afe1 nfe1 Xfe1, .rd kF afx1 nfx1 Xfx1, .rd kF afy1 nfy1 Xfy1, .rd kF afe2 nfe2 Xfe2, .rd kF afx2 nfx2 Xfx2, .rd kF afy2 nfy2 Xfy2] := B.upd [16, 17, 18] rfl hU769
            clear hU769
            refine s_y (v := .int .i64 ((1 + ((nsp0 : Nat) : Int) + ((nls0 : Nat) : Int)) + ((nfe1 : Nat) : Int) + ((nfx1 : Nat) : Int) + ((nfy1 : Nat) : Int))) rfl (y_assign rfl) ?_
            refine s_nil ?_
            refine W_seq ?_
            refine W_region (by kernel_rfl) ?_
            refine s_y (v := .agg #[.slice a679 nfe2 c680, .slice a681 nfx2 c682, .slice a683 nfy2 c684]) rfl (y_loadn (b := b686) (o := 0) (vs := [.slice a679 nfe2 c680, .slice a681 nfx2 c682, .slice a683 nfy2 c684]) T11.agg_49_3 rfl rfl ((B.b 14 rfl).cells (o := 0) rfl)) ?_
            refine s_y (v := .int .i64 ((1 + ((nsp0 : Nat) : Int) + ((nls0 : Nat) : Int)) + ((nfe1 : Nat) : Int) + ((nfx1 : Nat) : Int) + ((nfy1 : Nat) : Int))) rfl (y_move rfl) ?_
            refine s_k rfl (k_call T11.fn_35 (c_l_markField (by omega) (by omega) (by omega) (by omega) (by omega) (B.all.pick [15, 16, 17] rfl) (B.pw.pick [15, 16, 17] rfl rfl)) rfl ?_)
            rintro _ w770 ⟨rfl, hU771⟩
            replace B : Bu w no w770 [.ow kF a679 nfe2 c680 56 (marks ((1 + ((nsp0 : Nat) : Int) + ((nls0 : Nat) : Int)) + ((nfe1 : Nat) : Int) + ((nfx1 : Nat) : Int) + ((nfy1 : Nat) : Int)) nfe2), .ow kF a681 nfx2 c682 56 (marks (((1 + ((nsp0 : Nat) : Int) + ((nls0 : Nat) : Int)) + ((nfe1 : Nat) : Int) + ((nfx1 : Nat) : Int) + ((nfy1 : Nat) : Int)) + ((nfe2 : Nat) : Int)) nfx2), .ow kF a683 nfy2 c684 56 (marks (((1 + ((nsp0 : Nat) : Int) + ((nls0 : Nat) : Int)) + ((nfe1 : Nat) : Int) + ((nfx1 : Nat) : Int) + ((nfy1 : Nat) : Int)) + ((nfe2 : Nat) : Int) + ((nfx2 : Nat) : Int)) nfy2), .ow kF a666 nfe1 c667 56 (marks (1 + ((nsp0 : Nat) : Int) + ((nls0 : Nat) : Int)) nfe1), .ow kF a668 nfx1 c669 56 (marks ((1 + ((nsp0 : Nat) : Int) + ((nls0 : Nat) : Int)) + ((nfe1 : Nat) : Int)) nfx1), .ow kF a670 nfy1 c671 56 (marks ((1 + ((nsp0 : Nat) : Int) + ((nls0 : Nat) : Int)) + ((nfe1 : Nat) : Int) + ((nfx1 : Nat) : Int)) nfy1), .ow kF a655 nsp0 c656 56 (marks 1 nsp0), .ow kF a657 nls0 c658 56 (marks (1 + ((nsp0 : Nat) : Int)) nls0), .ow kF a753 nfe2 c754 56 Xfe2, .ow kF a755 nfx2 c756 56 Xfx2, .ow kF a757 nfy2 c758 56 Xfy2, .ow kF a731 nfe1 c732 56 Xfe1, .ow kF a733 nfx1 c734 56 Xfx1, .ow kF a735 nfy1 c736 56 Xfy1, .ow kF a711 nsp0 c712 56 Xsp0, .ow kF a713 nls0 c714 56 Xls0, .blk b695 [.slice none 0 0, .slice none 0 0, .slice none 0 0] 49, .blk b686 [.slice a679 nfe2 c680, .slice a681 nfx2 c682, .slice a683 nfy2 c684] 49, .blk b673 [.slice a666 nfe1 c667, .slice a668 nfx1 c669, .slice a670 nfy1 c671] 49, .blk b660 [.int .i64 wd0, .int .i64 hi0, .bool wr0, .slice a655 nsp0 c656, .slice a657 nls0 c658] 26, .blk b96 [.slice none 0 0, .slice none 0 0, .slice none 0 0] 49, .blk b7 [.slice afe2 nfe2 cfe2, .slice afx2 nfx2 cfx2, .slice afy2 nfy2 cfy2] 45, .blk b4 [.slice afe1 nfe1 cfe1, .slice afx1 nfx1 cfx1, .slice afy1 nfy1 cfy1] 45, .blk b1 [.int .i64 wd0, .int .i64 hi0, .bool wr0, .slice asp0 nsp0 csp0, .slice als0 nls0 cls0] 36, .rd kF asp0 nsp0 Xsp0, .rd kF als0 nls0 Xls0, .rd kF afe1 nfe1 Xfe1, .rd kF afx1 nfx1 Xfx1, .rd kF afy1 nfy1 Xfy1, .rd kF afe2 nfe2 Xfe2, .rd kF afx2 nfx2 Xfx2, .rd kF afy2 nfy2 Xfy2] := B.upd [15, 16, 17] rfl hU771
            clear hU771
            refine s_y (v := .int .i64 (((1 + ((nsp0 : Nat) : Int) + ((nls0 : Nat) : Int)) + ((nfe1 : Nat) : Int) + ((nfx1 : Nat) : Int) + ((nfy1 : Nat) : Int)) + ((nfe2 : Nat) : Int) + ((nfx2 : Nat) : Int) + ((nfy2 : Nat) : Int))) rfl (y_assign rfl) ?_
            refine s_nil ?_
            refine W_seq ?_
            refine W_seq ?_
            refine W_region (by kernel_rfl) ?_
            refine s_y (v := .int .i64 (((1 + ((nsp0 : Nat) : Int) + ((nls0 : Nat) : Int)) + ((nfe1 : Nat) : Int) + ((nfx1 : Nat) : Int) + ((nfy1 : Nat) : Int)) + ((nfe2 : Nat) : Int) + ((nfx2 : Nat) : Int) + ((nfy2 : Nat) : Int))) rfl (y_move rfl) ?_
            have hk772 : ¬ ((((1 + ((nsp0 : Nat) : Int) + ((nls0 : Nat) : Int)) + ((nfe1 : Nat) : Int) + ((nfx1 : Nat) : Int) + ((nfy1 : Nat) : Int)) + ((nfe2 : Nat) : Int) + ((nfx2 : Nat) : Int) + ((nfy2 : Nat) : Int)) < 0) := (by omega)
            refine s_y (v := .bool false) rfl (y_lss rfl rfl (decide_eq_false hk772)) ?_
            refine s_y (v := .bool false) rfl (y_move rfl) ?_
            refine s_y (v := .agg #[.slice none 0 0, .slice none 0 0, .slice none 0 0]) rfl (y_loadn (b := b695) (o := 0) (vs := [.slice none 0 0, .slice none 0 0, .slice none 0 0]) T11.agg_49_3 rfl rfl ((B.b 16 rfl).cells (o := 0) rfl)) ?_
            refine s_y (v := .agg #[.slice none 0 0, .slice none 0 0, .slice none 0 0]) rfl (y_loadn (b := b96) (o := 0) (vs := [.slice none 0 0, .slice none 0 0, .slice none 0 0]) T11.agg_49_3 rfl rfl ((B.b 20 rfl).cells (o := 0) rfl)) ?_
            refine s_k rfl (k_call T11.fn_34 (c_l_eqField (Rd.nil _ kF none) (Rd.nil _ kF none) (Rd.nil _ kF none) (Rd.nil _ kF none) (Rd.nil _ kF none) (Rd.nil _ kF none) (by omega) (by omega) (by omega)) rfl ?_)
            rintro _ w773 ⟨rfl, e774⟩
            replace B := B.ext0 e774
            clear e774
            refine s_y (v := .bool false) rfl (y_not rfl rfl) ?_
            refine s_y (v := .bool false) rfl (y_pick_f rfl rfl) ?_
            refine s_y (v := .bool false) rfl (y_move rfl) ?_
            refine s_y (v := .bool false) rfl (y_move rfl) ?_
            refine s_y (v := .bool false) rfl (y_move rfl) ?_
            refine s_y (v := .bool false) rfl (y_bneq T11.bool_4 rfl rfl rfl) ?_
            refine s_y (v := .bool false) rfl (y_pick_f rfl rfl) ?_
            refine s_nil ?_
            refine W_if_f (by decide) rfl ?_
            refine W_skip ?_
            refine W_seq ?_
            refine W_region (by kernel_rfl) ?_
            refine s_y (v := .int .i64 1) rfl (y_assign rfl) ?_
            refine s_nil ?_
            refine W_seq ?_
            refine W_region (by kernel_rfl) ?_
            refine s_y (v := .agg #[.slice none 0 0, .slice none 0 0, .slice none 0 0]) rfl (y_loadn (b := b695) (o := 0) (vs := [.slice none 0 0, .slice none 0 0, .slice none 0 0]) T11.agg_49_3 rfl rfl ((B.b 16 rfl).cells (o := 0) rfl)) ?_
            refine s_y (v := .int .i64 1) rfl (y_move rfl) ?_
            refine s_k rfl (k_call T11.fn_35 (c_l_markField (by decide) (by decide) (by decide) (by omega) (by omega) (All.cons (Ow.nil _ kF 56 : Fact.holds _ (.ow kF none 0 0 56 [])) <| All.cons (Ow.nil _ kF 56 : Fact.holds _ (.ow kF none 0 0 56 [])) <| All.cons (Ow.nil _ kF 56 : Fact.holds _ (.ow kF none 0 0 56 [])) <| All.nil) (Pw.nils (by intro f hf; simp only [List.mem_cons, List.not_mem_nil, or_false] at hf; rcases hf with rfl | rfl | rfl <;> exact no_none))) rfl ?_)
            rintro _ w775 ⟨rfl, hU776⟩
            replace hU776 := Upd.nils hU776 (by intro f hf; simp only [List.mem_cons, List.not_mem_nil, or_false] at hf; rcases hf with rfl | rfl | rfl <;> exact no_none)
            replace B := B.ext0 hU776
            clear hU776
            refine s_y (v := .int .i64 (1 + ((0 : Nat) : Int) + ((0 : Nat) : Int) + ((0 : Nat) : Int))) rfl (y_assign rfl) ?_
            refine s_nil ?_
            refine W_seq ?_
            refine W_region (by kernel_rfl) ?_
            refine s_y (v := .int .i64 1) rfl (y_assign rfl) ?_
            refine s_nil ?_
            refine W_seq ?_
            refine W_region (by kernel_rfl) ?_
            refine s_y (v := .agg #[.slice none 0 0, .slice none 0 0, .slice none 0 0]) rfl (y_loadn (b := b695) (o := 0) (vs := [.slice none 0 0, .slice none 0 0, .slice none 0 0]) T11.agg_49_3 rfl rfl ((B.b 16 rfl).cells (o := 0) rfl)) ?_
            refine s_y (v := .int .i64 1) rfl (y_move rfl) ?_
            refine s_k rfl (k_call T11.fn_50 (c_l_heldField (k := 1) (Rd.nil _ kF none : Rd _ kF none 0 (marks 1 0)) (Rd.nil _ kF none : Rd _ kF none 0 (marks (1 + ((0 : Nat) : Int)) 0)) (Rd.nil _ kF none : Rd _ kF none 0 (marks (1 + ((0 : Nat) : Int) + ((0 : Nat) : Int)) 0)) (by decide) (by decide) (by decide) (by omega) (by omega)) rfl ?_)
            rintro _ w777 ⟨rfl, e778⟩
            replace B := B.ext0 e778
            clear e778
            refine s_y (v := .int .i64 (1 + ((0 : Nat) : Int) + ((0 : Nat) : Int) + ((0 : Nat) : Int))) rfl (y_assign rfl) ?_
            refine s_nil ?_
            refine W_seq ?_
            refine W_seq ?_
            refine W_region (by kernel_rfl) ?_
            refine s_y (v := .int .i64 (1 + ((0 : Nat) : Int) + ((0 : Nat) : Int) + ((0 : Nat) : Int))) rfl (y_move rfl) ?_
            have hk779 : ¬ ((1 + ((0 : Nat) : Int) + ((0 : Nat) : Int) + ((0 : Nat) : Int)) < 0) := (by omega)
            refine s_y (v := .bool false) rfl (y_lss rfl rfl (decide_eq_false hk779)) ?_
            refine s_nil ?_
            refine W_if_f (by decide) rfl ?_
            refine W_skip ?_
            refine W_seq ?_
            refine W_seq ?_
            refine W_region (by kernel_rfl) ?_
            refine s_y (v := .int .i64 (1 + ((0 : Nat) : Int) + ((0 : Nat) : Int) + ((0 : Nat) : Int))) rfl (y_move rfl) ?_
            refine s_y (v := .int .i64 (1 + ((0 : Nat) : Int) + ((0 : Nat) : Int) + ((0 : Nat) : Int))) rfl (y_move rfl) ?_
            refine s_y (v := .bool false) rfl (y_neq rfl rfl (decide_eq_false (fun hq => hq rfl))) ?_
            refine s_nil ?_
            refine W_if_f (by decide) rfl ?_
            refine W_skip ?_
            refine W_seq ?_
            have B0_782 := B
            refine W_drawI (no) (fun ρ' w' => (∃ (ρ1 : Env) (b826 : Nat), ρ' = updL ρ1 [(6, .bool false), (8, .pointer (some ⟨b96, 0, none⟩)), (9, .bool false), (13, .pointer (some ⟨b695, 0, none⟩)), (16, .int .i64 (1 + ((0 : Nat) : Int) + ((0 : Nat) : Int) + ((0 : Nat) : Int))), (17, .int .i64 (1 + ((0 : Nat) : Int) + ((0 : Nat) : Int) + ((0 : Nat) : Int))), (18, .pointer (some ⟨b826, 0, none⟩)), (19, .bool false)] ∧ Bu w no w' [.blk b826 [.slice none 0 0, .slice none 0 0, .slice none 0 0] 49, .ow kF a679 nfe2 c680 56 (marks ((1 + ((nsp0 : Nat) : Int) + ((nls0 : Nat) : Int)) + ((nfe1 : Nat) : Int) + ((nfx1 : Nat) : Int) + ((nfy1 : Nat) : Int)) nfe2), .ow kF a681 nfx2 c682 56 (marks (((1 + ((nsp0 : Nat) : Int) + ((nls0 : Nat) : Int)) + ((nfe1 : Nat) : Int) + ((nfx1 : Nat) : Int) + ((nfy1 : Nat) : Int)) + ((nfe2 : Nat) : Int)) nfx2), .ow kF a683 nfy2 c684 56 (marks (((1 + ((nsp0 : Nat) : Int) + ((nls0 : Nat) : Int)) + ((nfe1 : Nat) : Int) + ((nfx1 : Nat) : Int) + ((nfy1 : Nat) : Int)) + ((nfe2 : Nat) : Int) + ((nfx2 : Nat) : Int)) nfy2), .ow kF a666 nfe1 c667 56 (marks (1 + ((nsp0 : Nat) : Int) + ((nls0 : Nat) : Int)) nfe1), .ow kF a668 nfx1 c669 56 (marks ((1 + ((nsp0 : Nat) : Int) + ((nls0 : Nat) : Int)) + ((nfe1 : Nat) : Int)) nfx1), .ow kF a670 nfy1 c671 56 (marks ((1 + ((nsp0 : Nat) : Int) + ((nls0 : Nat) : Int)) + ((nfe1 : Nat) : Int) + ((nfx1 : Nat) : Int)) nfy1), .ow kF a655 nsp0 c656 56 (marks 1 nsp0), .ow kF a657 nls0 c658 56 (marks (1 + ((nsp0 : Nat) : Int)) nls0), .ow kF a753 nfe2 c754 56 Xfe2, .ow kF a755 nfx2 c756 56 Xfx2, .ow kF a757 nfy2 c758 56 Xfy2, .ow kF a731 nfe1 c732 56 Xfe1, .ow kF a733 nfx1 c734 56 Xfx1, .ow kF a735 nfy1 c736 56 Xfy1, .ow kF a711 nsp0 c712 56 Xsp0, .ow kF a713 nls0 c714 56 Xls0, .blk b695 [.slice none 0 0, .slice none 0 0, .slice none 0 0] 49, .blk b686 [.slice a679 nfe2 c680, .slice a681 nfx2 c682, .slice a683 nfy2 c684] 49, .blk b673 [.slice a666 nfe1 c667, .slice a668 nfx1 c669, .slice a670 nfy1 c671] 49, .blk b660 [.int .i64 wd0, .int .i64 hi0, .bool wr0, .slice a655 nsp0 c656, .slice a657 nls0 c658] 26, .blk b96 [.slice none 0 0, .slice none 0 0, .slice none 0 0] 49, .blk b7 [.slice afe2 nfe2 cfe2, .slice afx2 nfx2 cfx2, .slice afy2 nfy2 cfy2] 45, .blk b4 [.slice afe1 nfe1 cfe1, .slice afx1 nfx1 cfx1, .slice afy1 nfy1 cfy1] 45, .blk b1 [.int .i64 wd0, .int .i64 hi0, .bool wr0, .slice asp0 nsp0 csp0, .slice als0 nls0 cls0] 36, .rd kF asp0 nsp0 Xsp0, .rd kF als0 nls0 Xls0, .rd kF afe1 nfe1 Xfe1, .rd kF afx1 nfx1 Xfx1, .rd kF afy1 nfy1 Xfy1, .rd kF afe2 nfe2 Xfe2, .rd kF afx2 nfx2 Xfx2, .rd kF afy2 nfy2 Xfy2])) T11.mx (by kernel_rfl) (fun w780 e781 => ?_) ?_
            · have R783 := Ext.refl (no) w777
              replace R783 := R783.trans (Ext0.any e781)
              replace B := B.ext0 e781
              clear e781
              refine m_y (v := .agg #[.int .i64 wd0, .int .i64 hi0, .bool wr0, .slice asp0 nsp0 csp0, .slice als0 nls0 cls0]) 0 rfl (by kernel_rfl) rfl rfl (fun w' e' => y_loadn (b := b1) (o := 0) (vs := [.int .i64 wd0, .int .i64 hi0, .bool wr0, .slice asp0 nsp0 csp0, .slice als0 nls0 cls0]) T11.agg_36_5 rfl rfl (((B0_782.b 23 rfl).ext0 e').cells (o := 0) rfl)) ?_
              refine m_y (v := .agg #[.slice afe1 nfe1 cfe1, .slice afx1 nfx1 cfx1, .slice afy1 nfy1 cfy1]) 2 rfl (by kernel_rfl) rfl rfl (fun w' e' => y_loadn (b := b4) (o := 0) (vs := [.slice afe1 nfe1 cfe1, .slice afx1 nfx1 cfx1, .slice afy1 nfy1 cfy1]) T11.agg_45_3 rfl rfl (((B0_782.b 22 rfl).ext0 e').cells (o := 0) rfl)) ?_
              refine m_y (v := .agg #[.slice afe2 nfe2 cfe2, .slice afx2 nfx2 cfx2, .slice afy2 nfy2 cfy2]) 4 rfl (by kernel_rfl) rfl rfl (fun w' e' => y_loadn (b := b7) (o := 0) (vs := [.slice afe2 nfe2 cfe2, .slice afx2 nfx2 cfx2, .slice afy2 nfy2 cfy2]) T11.agg_45_3 rfl rfl (((B0_782.b 21 rfl).ext0 e').cells (o := 0) rfl)) ?_
              refine m_two 1 10 (by kernel_rfl) rfl rfl rfl rfl rfl rfl (fun w784 e785 => ?_) (fun w786 e787 => ?_)
              · replace R783 := R783.trans (Ext0.any e785)
                replace B := B.ext0 e785
                clear e785
                refine k_call T11.fn_23 (c_l_toSheet (B.r 24 rfl) (B.r 25 rfl) (by omega) (by omega)) rfl ?_
                rintro _ w788 ⟨a789, c790, a791, c792, rfl, hN793⟩
                replace R783 := R783.trans (Ext0.any hN793.ext)
                replace B := B.new2 hN793
                clear hN793
                refine ⟨fun _ => R783, ?_⟩
                refine m_two 3 10 (by kernel_rfl) rfl rfl rfl rfl rfl rfl (fun w794 e795 => ?_) (fun w796 e797 => ?_)
                · replace R783 := R783.trans (Ext0.any e795)
                  replace B := B.ext0 e795
                  clear e795
                  refine k_call T11.fn_31 (c_l_toField (B.r 28 rfl) (B.r 29 rfl) (B.r 30 rfl) (by omega) (by omega) (by omega)) rfl ?_
                  rintro _ w798 ⟨a799, c800, a801, c802, a803, c804, rfl, hN805⟩
                  replace R783 := R783.trans (Ext0.any hN805.ext)
                  replace B := B.new3 hN805
                  clear hN805
                  refine ⟨fun _ => R783, ?_⟩
                  refine m_two 5 10 (by kernel_rfl) rfl rfl rfl rfl rfl rfl (fun w806 e807 => ?_) (fun w808 e809 => ?_)
                  · replace R783 := R783.trans (Ext0.any e807)
                    replace B := B.ext0 e807
                    clear e807
                    refine k_call T11.fn_31 (c_l_toField (B.r 34 rfl) (B.r 35 rfl) (B.r 36 rfl) (by omega) (by omega) (by omega)) rfl ?_
                    rintro _ w810 ⟨a811, c812, a813, c814, a815, c816, rfl, hN817⟩
                    replace R783 := R783.trans (Ext0.any hN817.ext)
                    replace B := B.new3 hN817
                    clear hN817
                    refine ⟨fun _ => R783, ?_⟩
                    refine m_two 6 10 (by kernel_rfl) rfl rfl rfl rfl rfl rfl (fun w818 e819 => ?_) (fun w820 e821 => ?_)
                    · replace R783 := R783.trans (Ext0.any e819)
                      replace B := B.ext0 e819
                      clear e819
                      refine k_call T11.fn_54 (c_i_AddFields ((B.o 6 rfl).rd) ((B.o 7 rfl).rd) ((B.o 3 rfl).rd) ((B.o 4 rfl).rd) ((B.o 5 rfl).rd) ((B.o 0 rfl).rd) ((B.o 1 rfl).rd) ((B.o 2 rfl).rd) (by omega) (by omega) (by omega) (by omega) (by omega) (by omega) (by omega) (by omega)) rfl ?_
                      rintro v824 w822 hx823
                      obtain ⟨_, rfl, e825⟩ := hx823.resolve_left (fun hz => c298 hz.1)
                      clear hx823
                      replace R783 := R783.trans (Ext0.any e825)
                      replace B := B.ext0 e825
                      clear e825
                      refine ⟨fun _ => R783, ?_⟩
                      refine m_y (v := .tuple #[.agg #[.slice none 0 0, .slice none 0 0, .slice none 0 0], .bool false]) 7 rfl (by kernel_rfl) rfl rfl (fun w' e' => y_move rfl) ?_
                      refine m_y (v := .agg #[.slice none 0 0, .slice none 0 0, .slice none 0 0]) 8 rfl (by kernel_rfl) rfl rfl (fun w' e' => y_extract rfl rfl) ?_
                      refine m_y (v := .bool false) 9 rfl (by kernel_rfl) rfl rfl (fun w' e' => y_extract rfl rfl) ?_
                      refine m_k 10 [11, 12] rfl (by kernel_rfl) rfl rfl (fun w829 e830 => ?_)
                      replace R783 := R783.trans (Ext0.any e830)
                      replace B := B.ext0 e830
                      clear e830
                      refine k_allocN (z := (.agg #[.slice none 0 0, .slice none 0 0, .slice none 0 0])) (cs := [.slice none 0 0, .slice none 0 0, .slice none 0 0]) T11.zero_49 rfl (fun b826 w827 hN828 => ?_)
                      have nf831 : NotLt b826 _ := fun h => Nat.not_lt.2 (Nat.le_trans (Ext.size R783) hN828.ge) h
                      replace R783 := R783.trans (Ext0.any hN828.ext)
                      replace B := B.new1 hN828
                      clear hN828
                      refine ⟨fun _ => R783, ?_⟩
                      refine m_k 11 [12] rfl (by kernel_rfl) rfl rfl (fun w835 e836 => ?_)
                      replace R783 := R783.trans (Ext0.any e836)
                      replace B := B.ext0 e836
                      clear e836
                      refine k_stB (v := .agg #[.slice none 0 0, .slice none 0 0, .slice none 0 0]) (n := 3) (cs' := [.slice none 0 0, .slice none 0 0, .slice none 0 0]) T11.sz_49_3 rfl rfl rfl (B.b 0 rfl) (by simp [Value.cells, Value.oneCell']) (Nat.le_of_ble_eq_true rfl) rfl (fun w833 hU834 => ?_)
                      replace R783 := R783.fresh hU834.at1 (fun kx hs hl => (nf831 ((show kx = b826 from hs) ▸ hl)).elim)
                      replace B : Bu w no w833 [.blk b826 [.slice none 0 0, .slice none 0 0, .slice none 0 0] 49, .ow kF a811 nfe2 c812 56 Xfe2, .ow kF a813 nfx2 c814 56 Xfx2, .ow kF a815 nfy2 c816 56 Xfy2, .ow kF a799 nfe1 c800 56 Xfe1, .ow kF a801 nfx1 c802 56 Xfx1, .ow kF a803 nfy1 c804 56 Xfy1, .ow kF a789 nsp0 c790 56 Xsp0, .ow kF a791 nls0 c792 56 Xls0, .ow kF a679 nfe2 c680 56 (marks ((1 + ((nsp0 : Nat) : Int) + ((nls0 : Nat) : Int)) + ((nfe1 : Nat) : Int) + ((nfx1 : Nat) : Int) + ((nfy1 : Nat) : Int)) nfe2), .ow kF a681 nfx2 c682 56 (marks (((1 + ((nsp0 : Nat) : Int) + ((nls0 : Nat) : Int)) + ((nfe1 : Nat) : Int) + ((nfx1 : Nat) : Int) + ((nfy1 : Nat) : Int)) + ((nfe2 : Nat) : Int)) nfx2), .ow kF a683 nfy2 c684 56 (marks (((1 + ((nsp0 : Nat) : Int) + ((nls0 : Nat) : Int)) + ((nfe1 : Nat) : Int) + ((nfx1 : Nat) : Int) + ((nfy1 : Nat) : Int)) + ((nfe2 : Nat) : Int) + ((nfx2 : Nat) : Int)) nfy2), .ow kF a666 nfe1 c667 56 (marks (1 + ((nsp0 : Nat) : Int) + ((nls0 : Nat) : Int)) nfe1), .ow kF a668 nfx1 c669 56 (marks ((1 + ((nsp0 : Nat) : Int) + ((nls0 : Nat) : Int)) + ((nfe1 : Nat) : Int)) nfx1), .ow kF a670 nfy1 c671 56 (marks ((1 + ((nsp0 : Nat) : Int) + ((nls0 : Nat) : Int)) + ((nfe1 : Nat) : Int) + ((nfx1 : Nat) : Int)) nfy1), .ow kF a655 nsp0 c656 56 (marks 1 nsp0), .ow kF a657 nls0 c658 56 (marks (1 + ((nsp0 : Nat) : Int)) nls0), .ow kF a753 nfe2 c754 56 Xfe2, .ow kF a755 nfx2 c756 56 Xfx2, .ow kF a757 nfy2 c758 56 Xfy2, .ow kF a731 nfe1 c732 56 Xfe1, .ow kF a733 nfx1 c734 56 Xfx1, .ow kF a735 nfy1 c736 56 Xfy1, .ow kF a711 nsp0 c712 56 Xsp0, .ow kF a713 nls0 c714 56 Xls0, .blk b695 [.slice none 0 0, .slice none 0 0, .slice none 0 0] 49, .blk b686 [.slice a679 nfe2 c680, .slice a681 nfx2 c682, .slice a683 nfy2 c684] 49, .blk b673 [.slice a666 nfe1 c667, .slice a668 nfx1 c669, .slice a670 nfy1 c671] 49, .blk b660 [.int .i64 wd0, .int .i64 hi0, .bool wr0, .slice a655 nsp0 c656, .slice a657 nls0 c658] 26, .blk b96 [.slice none 0 0, .slice none 0 0, .slice none 0 0] 49, .blk b7 [.slice afe2 nfe2 cfe2, .slice afx2 nfx2 cfx2, .slice afy2 nfy2 cfy2] 45, .blk b4 [.slice afe1 nfe1 cfe1, .slice afx1 nfx1 cfx1, .slice afy1 nfy1 cfy1] 45, .blk b1 [.int .i64 wd0, .int .i64 hi0, .bool wr0, .slice asp0 nsp0 csp0, .slice als0 nls0 cls0] 36, .rd kF asp0 nsp0 Xsp0, .rd kF als0 nls0 Xls0, .rd kF afe1 nfe1 Xfe1, .rd kF afx1 nfx1 Xfx1, .rd kF afy1 nfy1 Xfy1, .rd kF afe2 nfe2 Xfe2, .rd kF afx2 nfx2 Xfx2, .rd kF afy2 nfy2 Xfy2] := B.upd [0] rfl hU834
                      clear hU834
                      refine ⟨fun _ => R783, ?_⟩
                      refine m_y (v := .bool false) 12 rfl (by kernel_rfl) rfl rfl (fun w' e' => y_assign rfl) ?_
                      refine m_done (by kernel_rfl) (fun w837 e838 => ?_)
                      replace B := B.ext0 e838
                      clear e838
                      clear B0_782 R783
                      exact ⟨_, b826, Fits.eq ⟨rfl, rfl, rfl, rfl, rfl, rfl, rfl, rfl, trivial⟩, B.pick [0, 9, 10, 11, 12, 13, 14, 15, 16, 17, 18, 19, 20, 21, 22, 23, 24, 25, 26, 27, 28, 29, 30, 31, 32, 33, 34, 35, 36, 37, 38, 39, 40] rfl rfl⟩
                    · replace R783 := R783.trans (Ext0.any e821)
                      replace B := B.ext0 e821
                      clear e821
                      refine k_allocN (z := (.agg #[.slice none 0 0, .slice none 0 0, .slice none 0 0])) (cs := [.slice none 0 0, .slice none 0 0, .slice none 0 0]) T11.zero_49 rfl (fun b839 w840 hN841 => ?_)
                      have nf842 : NotLt b839 _ := fun h => Nat.not_lt.2 (Nat.le_trans (Ext.size R783) hN841.ge) h
                      replace R783 := R783.trans (Ext0.any hN841.ext)
                      replace B := B.new1 hN841
                      clear hN841
                      refine ⟨fun _ => R783, ?_⟩
                      refine m_k 6 [7, 8, 9, 11, 12] rfl (by kernel_rfl) rfl rfl (fun w844 e845 => ?_)
                      replace R783 := R783.trans (Ext0.any e845)
                      replace B := B.ext0 e845
                      clear e845
                      refine k_call T11.fn_54 (c_i_AddFields ((B.o 7 rfl).rd) ((B.o 8 rfl).rd) ((B.o 4 rfl).rd) ((B.o 5 rfl).rd) ((B.o 6 rfl).rd) ((B.o 1 rfl).rd) ((B.o 2 rfl).rd) ((B.o 3 rfl).rd) (by omega) (by omega) (by omega) (by omega) (by omega) (by omega) (by omega) (by omega)) rfl ?_
                      rintro v848 w846 hx847
                      obtain ⟨_, rfl, e849⟩ := hx847.resolve_left (fun hz => c298 hz.1)
                      clear hx847
                      replace R783 := R783.trans (Ext0.any e849)
                      replace B := B.ext0 e849
                      clear e849
                      refine ⟨fun _ => R783, ?_⟩
                      refine m_y (v := .tuple #[.agg #[.slice none 0 0, .slice none 0 0, .slice none 0 0], .bool false]) 7 rfl (by kernel_rfl) rfl rfl (fun w' e' => y_move rfl) ?_
                      refine m_y (v := .agg #[.slice none 0 0, .slice none 0 0, .slice none 0 0]) 8 rfl (by kernel_rfl) rfl rfl (fun w' e' => y_extract rfl rfl) ?_
                      refine m_y (v := .bool false) 9 rfl (by kernel_rfl) rfl rfl (fun w' e' => y_extract rfl rfl) ?_
                      refine m_k 11 [12] rfl (by kernel_rfl) rfl rfl (fun w852 e853 => ?_)
                      replace R783 := R783.trans (Ext0.any e853)
                      replace B := B.ext0 e853
                      clear e853
                      refine k_stB (v := .agg #[.slice none 0 0, .slice none 0 0, .slice none 0 0]) (n := 3) (cs' := [.slice none 0 0, .slice none 0 0, .slice none 0 0]) T11.sz_49_3 rfl rfl rfl (B.b 0 rfl) (by simp [Value.cells, Value.oneCell']) (Nat.le_of_ble_eq_true rfl) rfl (fun w850 hU851 => ?_)
                      replace R783 := R783.fresh hU851.at1 (fun kx hs hl => (nf842 ((show kx = b839 from hs) ▸ hl)).elim)
                      replace B : Bu w no w850 [.blk b839 [.slice none 0 0, .slice none 0 0, .slice none 0 0] 49, .ow kF a811 nfe2 c812 56 Xfe2, .ow kF a813 nfx2 c814 56 Xfx2, .ow kF a815 nfy2 c816 56 Xfy2, .ow kF a799 nfe1 c800 56 Xfe1, .ow kF a801 nfx1 c802 56 Xfx1, .ow kF a803 nfy1 c804 56 Xfy1, .ow kF a789 nsp0 c790 56 Xsp0, .ow kF a791 nls0 c792 56 Xls0, .ow kF a679 nfe2 c680 56 (marks ((1 + ((nsp0 : Nat) : Int) + ((nls0 : Nat) : Int)) + ((nfe1 : Nat) : Int) + ((nfx1 : Nat) : Int) + ((nfy1 : Nat) : Int)) nfe2), .ow kF a681 nfx2 c682 56 (marks (((1 + ((nsp0 : Nat) : Int) + ((nls0 : Nat) : Int)) + ((nfe1 : Nat) : Int) + ((nfx1 : Nat) : Int) + ((nfy1 : Nat) : Int)) + ((nfe2 : Nat) : Int)) nfx2), .ow kF a683 nfy2 c684 56 (marks (((1 + ((nsp0 : Nat) : Int) + ((nls0 : Nat) : Int)) + ((nfe1 : Nat) : Int) + ((nfx1 : Nat) : Int) + ((nfy1 : Nat) : Int)) + ((nfe2 : Nat) : Int) + ((nfx2 : Nat) : Int)) nfy2), .ow kF a666 nfe1 c667 56 (marks (1 + ((nsp0 : Nat) : Int) + ((nls0 : Nat) : Int)) nfe1), .ow kF a668 nfx1 c669 56 (marks ((1 + ((nsp0 : Nat) : Int) + ((nls0 : Nat) : Int)) + ((nfe1 : Nat) : Int)) nfx1), .ow kF a670 nfy1 c671 56 (marks ((1 + ((nsp0 : Nat) : Int) + ((nls0 : Nat) : Int)) + ((nfe1 : Nat) : Int) + ((nfx1 : Nat) : Int)) nfy1), .ow kF a655 nsp0 c656 56 (marks 1 nsp0), .ow kF a657 nls0 c658 56 (marks (1 + ((nsp0 : Nat) : Int)) nls0), .ow kF a753 nfe2 c754 56 Xfe2, .ow kF a755 nfx2 c756 56 Xfx2, .ow kF a757 nfy2 c758 56 Xfy2, .ow kF a731 nfe1 c732 56 Xfe1, .ow kF a733 nfx1 c734 56 Xfx1, .ow kF a735 nfy1 c736 56 Xfy1, .ow kF a711 nsp0 c712 56 Xsp0, .ow kF a713 nls0 c714 56 Xls0, .blk b695 [.slice none 0 0, .slice none 0 0, .slice none 0 0] 49, .blk b686 [.slice a679 nfe2 c680, .slice a681 nfx2 c682, .slice a683 nfy2 c684] 49, .blk b673 [.slice a666 nfe1 c667, .slice a668 nfx1 c669, .slice a670 nfy1 c671] 49, .blk b660 [.int .i64 wd0, .int .i64 hi0, .bool wr0, .slice a655 nsp0 c656, .slice a657 nls0 c658] 26, .blk b96 [.slice none 0 0, .slice none 0 0, .slice none 0 0] 49, .blk b7 [.slice afe2 nfe2 cfe2, .slice afx2 nfx2 cfx2, .slice afy2 nfy2 cfy2] 45, .blk b4 [.slice afe1 nfe1 cfe1, .slice afx1 nfx1 cfx1, .slice afy1 nfy1 cfy1] 45, .blk b1 [.int .i64 wd0, .int .i64 hi0, .bool wr0, .slice asp0 nsp0 csp0, .slice als0 nls0 cls0] 36, .rd kF asp0 nsp0 Xsp0, .rd kF als0 nls0 Xls0, .rd kF afe1 nfe1 Xfe1, .rd kF afx1 nfx1 Xfx1, .rd kF afy1 nfy1 Xfy1, .rd kF afe2 nfe2 Xfe2, .rd kF afx2 nfx2 Xfx2, .rd kF afy2 nfy2 Xfy2] := B.upd [0] rfl hU851
                      clear hU851
                      refine ⟨fun _ => R783, ?_⟩
                      refine m_y (v := .bool false) 12 rfl (by kernel_rfl) rfl rfl (fun w' e' => y_assign rfl) ?_
                      refine m_done (by kernel_rfl) (fun w854 e855 => ?_)
                      replace B := B.ext0 e855
                      clear e855
                      clear B0_782 R783
                      exact ⟨_, b839, Fits.eq ⟨rfl, rfl, rfl, rfl, rfl, rfl, rfl, rfl, trivial⟩, B.pick [0, 9, 10, 11, 12, 13, 14, 15, 16, 17, 18, 19, 20, 21, 22, 23, 24, 25, 26, 27, 28, 29, 30, 31, 32, 33, 34, 35, 36, 37, 38, 39, 40] rfl rfl⟩
                  · replace R783 := R783.trans (Ext0.any e809)
                    replace B := B.ext0 e809
                    clear e809
                    refine k_allocN (z := (.agg #[.slice none 0 0, .slice none 0 0, .slice none 0 0])) (cs := [.slice none 0 0, .slice none 0 0, .slice none 0 0]) T11.zero_49 rfl (fun b856 w857 hN858 => ?_)
                    have nf859 : NotLt b856 _ := fun h => Nat.not_lt.2 (Nat.le_trans (Ext.size R783) hN858.ge) h
                    replace R783 := R783.trans (Ext0.any hN858.ext)
                    replace B := B.new1 hN858
                    clear hN858
                    refine ⟨fun _ => R783, ?_⟩
                    refine m_k 5 [6, 7, 8, 9, 11, 12] rfl (by kernel_rfl) rfl rfl (fun w861 e862 => ?_)
                    replace R783 := R783.trans (Ext0.any e862)
                    replace B := B.ext0 e862
                    clear e862
                    refine k_call T11.fn_31 (c_l_toField (B.r 35 rfl) (B.r 36 rfl) (B.r 37 rfl) (by omega) (by omega) (by omega)) rfl ?_
                    rintro _ w863 ⟨a864, c865, a866, c867, a868, c869, rfl, hN870⟩
                    replace R783 := R783.trans (Ext0.any hN870.ext)
                    replace B := B.new3 hN870
                    clear hN870
                    refine ⟨fun _ => R783, ?_⟩
                    refine m_k 6 [7, 8, 9, 11, 12] rfl (by kernel_rfl) rfl rfl (fun w871 e872 => ?_)
                    replace R783 := R783.trans (Ext0.any e872)
                    replace B := B.ext0 e872
                    clear e872
                    refine k_call T11.fn_54 (c_i_AddFields ((B.o 7 rfl).rd) ((B.o 8 rfl).rd) ((B.o 4 rfl).rd) ((B.o 5 rfl).rd) ((B.o 6 rfl).rd) ((B.o 0 rfl).rd) ((B.o 1 rfl).rd) ((B.o 2 rfl).rd) (by omega) (by omega) (by omega) (by omega) (by omega) (by omega) (by omega) (by omega)) rfl ?_
                    rintro v875 w873 hx874
                    obtain ⟨_, rfl, e876⟩ := hx874.resolve_left (fun hz => c298 hz.1)
                    clear hx874
                    replace R783 := R783.trans (Ext0.any e876)
                    replace B := B.ext0 e876
                    clear e876
                    refine ⟨fun _ => R783, ?_⟩
                    refine m_y (v := .tuple #[.agg #[.slice none 0 0, .slice none 0 0, .slice none 0 0], .bool false]) 7 rfl (by kernel_rfl) rfl rfl (fun w' e' => y_move rfl) ?_
                    refine m_y (v := .agg #[.slice none 0 0, .slice none 0 0, .slice none 0 0]) 8 rfl (by kernel_rfl) rfl rfl (fun w' e' => y_extract rfl rfl) ?_
                    refine m_y (v := .bool false) 9 rfl (by kernel_rfl) rfl rfl (fun w' e' => y_extract rfl rfl) ?_
                    refine m_k 11 [12] rfl (by kernel_rfl) rfl rfl (fun w879 e880 => ?_)
                    replace R783 := R783.trans (Ext0.any e880)
                    replace B := B.ext0 e880
                    clear e880
                    refine k_stB (v := .agg #[.slice none 0 0, .slice none 0 0, .slice none 0 0]) (n := 3) (cs' := [.slice none 0 0, .slice none 0 0, .slice none 0 0]) T11.sz_49_3 rfl rfl rfl (B.b 3 rfl) (by simp [Value.cells, Value.oneCell']) (Nat.le_of_ble_eq_true rfl) rfl (fun w877 hU878 => ?_)
                    replace R783 := R783.fresh hU878.at1 (fun kx hs hl => (nf859 ((show kx = b856 from hs) ▸ hl)).elim)
                    replace B : Bu w no w877 [.blk b856 [.slice none 0 0, .slice none 0 0, .slice none 0 0] 49, .ow kF a864 nfe2 c865 56 Xfe2, .ow kF a866 nfx2 c867 56 Xfx2, .ow kF a868 nfy2 c869 56 Xfy2, .ow kF a799 nfe1 c800 56 Xfe1, .ow kF a801 nfx1 c802 56 Xfx1, .ow kF a803 nfy1 c804 56 Xfy1, .ow kF a789 nsp0 c790 56 Xsp0, .ow kF a791 nls0 c792 56 Xls0, .ow kF a679 nfe2 c680 56 (marks ((1 + ((nsp0 : Nat) : Int) + ((nls0 : Nat) : Int)) + ((nfe1 : Nat) : Int) + ((nfx1 : Nat) : Int) + ((nfy1 : Nat) : Int)) nfe2), .ow kF a681 nfx2 c682 56 (marks (((1 + ((nsp0 : Nat) : Int) + ((nls0 : Nat) : Int)) + ((nfe1 : Nat) : Int) + ((nfx1 : Nat) : Int) + ((nfy1 : Nat) : Int)) + ((nfe2 : Nat) : Int)) nfx2), .ow kF a683 nfy2 c684 56 (marks (((1 + ((nsp0 : Nat) : Int) + ((nls0 : Nat) : Int)) + ((nfe1 : Nat) : Int) + ((nfx1 : Nat) : Int) + ((nfy1 : Nat) : Int)) + ((nfe2 : Nat) : Int) + ((nfx2 : Nat) : Int)) nfy2), .ow kF a666 nfe1 c667 56 (marks (1 + ((nsp0 : Nat) : Int) + ((nls0 : Nat) : Int)) nfe1), .ow kF a668 nfx1 c669 56 (marks ((1 + ((nsp0 : Nat) : Int) + ((nls0 : Nat) : Int)) + ((nfe1 : Nat) : Int)) nfx1), .ow kF a670 nfy1 c671 56 (marks ((1 + ((nsp0 : Nat) : Int) + ((nls0 : Nat) : Int)) + ((nfe1 : Nat) : Int) + ((nfx1 : Nat) : Int)) nfy1), .ow kF a655 nsp0 c656 56 (marks 1 nsp0), .ow kF a657 nls0 c658 56 (marks (1 + ((nsp0 : Nat) : Int)) nls0), .ow kF a753 nfe2 c754 56 Xfe2, .ow kF a755 nfx2 c756 56 Xfx2, .ow kF a757 nfy2 c758 56 Xfy2, .ow kF a731 nfe1 c732 56 Xfe1, .ow kF a733 nfx1 c734 56 Xfx1, .ow kF a735 nfy1 c736 56 Xfy1, .ow kF a711 nsp0 c712 56 Xsp0, .ow kF a713 nls0 c714 56 Xls0, .blk b695 [.slice none 0 0, .slice none 0 0, .slice none 0 0] 49, .blk b686 [.slice a679 nfe2 c680, .slice a681 nfx2 c682, .slice a683 nfy2 c684] 49, .blk b673 [.slice a666 nfe1 c667, .slice a668 nfx1 c669, .slice a670 nfy1 c671] 49, .blk b660 [.int .i64 wd0, .int .i64 hi0, .bool wr0, .slice a655 nsp0 c656, .slice a657 nls0 c658] 26, .blk b96 [.slice none 0 0, .slice none 0 0, .slice none 0 0] 49, .blk b7 [.slice afe2 nfe2 cfe2, .slice afx2 nfx2 cfx2, .slice afy2 nfy2 cfy2] 45, .blk b4 [.slice afe1 nfe1 cfe1, .slice afx1 nfx1 cfx1, .slice afy1 nfy1 cfy1] 45, .blk b1 [.int .i64 wd0, .int .i64 hi0, .bool wr0, .slice asp0 nsp0 csp0, .slice als0 nls0 cls0] 36, .rd kF asp0 nsp0 Xsp0, .rd kF als0 nls0 Xls0, .rd kF afe1 nfe1 Xfe1, .rd kF afx1 nfx1 Xfx1, .rd kF afy1 nfy1 Xfy1, .rd kF afe2 nfe2 Xfe2, .rd kF afx2 nfx2 Xfx2, .rd kF afy2 nfy2 Xfy2] := B.upd [3] rfl hU878
                    clear hU878
                    refine ⟨fun _ => R783, ?_⟩
                    refine m_y (v := .bool false) 12 rfl (by kernel_rfl) rfl rfl (fun w' e' => y_assign rfl) ?_
                    refine m_done (by kernel_rfl) (fun w881 e882 => ?_)
                    replace B := B.ext0 e882
                    clear e882
                    clear B0_782 R783
                    exact ⟨_, b856, Fits.eq ⟨rfl, rfl, rfl, rfl, rfl, rfl, rfl, rfl, trivial⟩, B.pick [0, 9, 10, 11, 12, 13, 14, 15, 16, 17, 18, 19, 20, 21, 22, 23, 24, 25, 26, 27, 28, 29, 30, 31, 32, 33, 34, 35, 36, 37, 38, 39, 40] rfl rfl⟩
                · replace R783 := R783.trans (Ext0.any e797)
                  replace B := B.ext0 e797
                  clear e797
                  refine k_allocN (z := (.agg #[.slice none 0 0, .slice none 0 0, .slice none 0 0])) (cs := [.slice none 0 0, .slice none 0 0, .slice none 0 0]) T11.zero_49 rfl (fun b883 w884 hN885 => ?_)
                  have nf886 : NotLt b883 _ := fun h => Nat.not_lt.2 (Nat.le_trans (Ext.size R783) hN885.ge) h
                  replace R783 := R783.trans (Ext0.any hN885.ext)
                  replace B := B.new1 hN885
                  clear hN885
                  refine ⟨fun _ => R783, ?_⟩
                  refine m_k 3 [5, 6, 7, 8, 9, 11, 12] rfl (by kernel_rfl) rfl rfl (fun w888 e889 => ?_)
                  replace R783 := R783.trans (Ext0.any e889)
                  replace B := B.ext0 e889
                  clear e889
                  refine k_call T11.fn_31 (c_l_toField (B.r 29 rfl) (B.r 30 rfl) (B.r 31 rfl) (by omega) (by omega) (by omega)) rfl ?_
                  rintro _ w890 ⟨a891, c892, a893, c894, a895, c896, rfl, hN897⟩
                  replace R783 := R783.trans (Ext0.any hN897.ext)
                  replace B := B.new3 hN897
                  clear hN897
                  refine ⟨fun _ => R783, ?_⟩
                  refine m_k 5 [6, 7, 8, 9, 11, 12] rfl (by kernel_rfl) rfl rfl (fun w898 e899 => ?_)
                  replace R783 := R783.trans (Ext0.any e899)
                  replace B := B.ext0 e899
                  clear e899
                  refine k_call T11.fn_31 (c_l_toField (B.r 35 rfl) (B.r 36 rfl) (B.r 37 rfl) (by omega) (by omega) (by omega)) rfl ?_
                  rintro _ w900 ⟨a901, c902, a903, c904, a905, c906, rfl, hN907⟩
                  replace R783 := R783.trans (Ext0.any hN907.ext)
                  replace B := B.new3 hN907
                  clear hN907
                  refine ⟨fun _ => R783, ?_⟩
                  refine m_k 6 [7, 8, 9, 11, 12] rfl (by kernel_rfl) rfl rfl (fun w908 e909 => ?_)
                  replace R783 := R783.trans (Ext0.any e909)
                  replace B := B.ext0 e909
                  clear e909
                  refine k_call T11.fn_54 (c_i_AddFields ((B.o 7 rfl).rd) ((B.o 8 rfl).rd) ((B.o 3 rfl).rd) ((B.o 4 rfl).rd) ((B.o 5 rfl).rd) ((B.o 0 rfl).rd) ((B.o 1 rfl).rd) ((B.o 2 rfl).rd) (by omega) (by omega) (by omega) (by omega) (by omega) (by omega) (by omega) (by omega)) rfl ?_
                  rintro v912 w910 hx911
                  obtain ⟨_, rfl, e913⟩ := hx911.resolve_left (fun hz => c298 hz.1)
                  clear hx911
                  replace R783 := R783.trans (Ext0.any e913)
                  replace B := B.ext0 e913
                  clear e913
                  refine ⟨fun _ => R783, ?_⟩
                  refine m_y (v := .tuple #[.agg #[.slice none 0 0, .slice none 0 0, .slice none 0 0], .bool false]) 7 rfl (by kernel_rfl) rfl rfl (fun w' e' => y_move rfl) ?_
                  refine m_y (v := .agg #[.slice none 0 0, .slice none 0 0, .slice none 0 0]) 8 rfl (by kernel_rfl) rfl rfl (fun w' e' => y_extract rfl rfl) ?_
                  refine m_y (v := .bool false) 9 rfl (by kernel_rfl) rfl rfl (fun w' e' => y_extract rfl rfl) ?_
                  refine m_k 11 [12] rfl (by kernel_rfl) rfl rfl (fun w916 e917 => ?_)
                  replace R783 := R783.trans (Ext0.any e917)
                  replace B := B.ext0 e917
                  clear e917
                  refine k_stB (v := .agg #[.slice none 0 0, .slice none 0 0, .slice none 0 0]) (n := 3) (cs' := [.slice none 0 0, .slice none 0 0, .slice none 0 0]) T11.sz_49_3 rfl rfl rfl (B.b 6 rfl) (by simp [Value.cells, Value.oneCell']) (Nat.le_of_ble_eq_true rfl) rfl (fun w914 hU915 => ?_)
                  replace R783 := R783.fresh hU915.at1 (fun kx hs hl => (nf886 ((show kx = b883 from hs) ▸ hl)).elim)
                  replace B : Bu w no w914 [.blk b883 [.slice none 0 0, .slice none 0 0, .slice none 0 0] 49, .ow kF a901 nfe2 c902 56 Xfe2, .ow kF a903 nfx2 c904 56 Xfx2, .ow kF a905 nfy2 c906 56 Xfy2, .ow kF a891 nfe1 c892 56 Xfe1, .ow kF a893 nfx1 c894 56 Xfx1, .ow kF a895 nfy1 c896 56 Xfy1, .ow kF a789 nsp0 c790 56 Xsp0, .ow kF a791 nls0 c792 56 Xls0, .ow kF a679 nfe2 c680 56 (marks ((1 + ((nsp0 : Nat) : Int) + ((nls0 : Nat) : Int)) + ((nfe1 : Nat) : Int) + ((nfx1 : Nat) : Int) + ((nfy1 : Nat) : Int)) nfe2), .ow kF a681 nfx2 c682 56 (marks (((1 + ((nsp0 : Nat) : Int) + ((nls0 : Nat) : Int)) + ((nfe1 : Nat) : Int) + ((nfx1 : Nat) : Int) + ((nfy1 : Nat) : Int)) + ((nfe2 : Nat) : Int)) nfx2), .ow kF a683 nfy2 c684 56 (marks (((1 + ((nsp0 : Nat) : Int) + ((nls0 : Nat) : Int)) + ((nfe1 : Nat) : Int) + ((nfx1 : Nat) : Int) + ((nfy1 : Nat) : Int)) + ((nfe2 : Nat) : Int) + ((nfx2 : Nat) : Int)) nfy2), .ow kF a666 nfe1 c667 56 (marks (1 + ((nsp0 : Nat) : Int) + ((nls0 : Nat) : Int)) nfe1), .ow kF a668 nfx1 c669 56 (marks ((1 + ((nsp0 : Nat) : Int) + ((nls0 : Nat) : Int)) + ((nfe1 : Nat) : Int)) nfx1), .ow kF a670 nfy1 c671 56 (marks ((1 + ((nsp0 : Nat) : Int) + ((nls0 : Nat) : Int)) + ((nfe1 : Nat) : Int) + ((nfx1 : Nat) : Int)) nfy1), .ow kF a655 nsp0 c656 56 (marks 1 nsp0), .ow kF a657 nls0 c658 56 (marks (1 + ((nsp0 : Nat) : Int)) nls0), .ow kF a753 nfe2 c754 56 Xfe2, .ow kF a755 nfx2 c756 56 Xfx2, .ow kF a757 nfy2 c758 56 Xfy2, .ow kF a731 nfe1 c732 56 Xfe1, .ow kF a733 nfx1 c734 56 Xfx1, .ow kF a735 nfy1 c736 56 Xfy1, .ow kF a711 nsp0 c712 56 Xsp0, .ow kF a713 nls0 c714 56 Xls0, .blk b695 [.slice none 0 0, .slice none 0 0, .slice none 0 0] 49, .blk b686 [.slice a679 nfe2 c680, .slice a681 nfx2 c682, .slice a683 nfy2 c684] 49, .blk b673 [.slice a666 nfe1 c667, .slice a668 nfx1 c669, .slice a670 nfy1 c671] 49, .blk b660 [.int .i64 wd0, .int .i64 hi0, .bool wr0, .slice a655 nsp0 c656, .slice a657 nls0 c658] 26, .blk b96 [.slice none 0 0, .slice none 0 0, .slice none 0 0] 49, .blk b7 [.slice afe2 nfe2 cfe2, .slice afx2 nfx2 cfx2, .slice afy2 nfy2 cfy2] 45, .blk b4 [.slice afe1 nfe1 cfe1, .slice afx1 nfx1 cfx1, .slice afy1 nfy1 cfy1] 45, .blk b1 [.int .i64 wd0, .int .i64 hi0, .bool wr0, .slice asp0 nsp0 csp0, .slice als0 nls0 cls0] 36, .rd kF asp0 nsp0 Xsp0, .rd kF als0 nls0 Xls0, .rd kF afe1 nfe1 Xfe1, .rd kF afx1 nfx1 Xfx1, .rd kF afy1 nfy1 Xfy1, .rd kF afe2 nfe2 Xfe2, .rd kF afx2 nfx2 Xfx2, .rd kF afy2 nfy2 Xfy2] := B.upd [6] rfl hU915
                  clear hU915
                  refine ⟨fun _ => R783, ?_⟩
                  refine m_y (v := .bool false) 12 rfl (by kernel_rfl) rfl rfl (fun w' e' => y_assign rfl) ?_
                  refine m_done (by kernel_rfl) (fun w918 e919 => ?_)
                  replace B := B.ext0 e919
                  clear e919
                  clear B0_782 R783
                  exact ⟨_, b883, Fits.eq ⟨rfl, rfl, rfl, rfl, rfl, rfl, rfl, rfl, trivial⟩, B.pick [0, 9, 10, 11, 12, 13, 14, 15, 16, 17, 18, 19, 20, 21, 22, 23, 24, 25, 26, 27, 28, 29, 30, 31, 32, 33, 34, 35, 36, 37, 38, 39, 40] rfl rfl⟩
              · replace R783 := R783.trans (Ext0.any e787)
                replace B := B.ext0 e787
                clear e787
                refine k_allocN (z := (.agg #[.slice none 0 0, .slice none 0 0, .slice none 0 0])) (cs := [.slice none 0 0, .slice none 0 0, .slice none 0 0]) T11.zero_49 rfl (fun b920 w921 hN922 => ?_)
                have nf923 : NotLt b920 _ := fun h => Nat.not_lt.2 (Nat.le_trans (Ext.size R783) hN922.ge) h
                replace R783 := R783.trans (Ext0.any hN922.ext)
                replace B := B.new1 hN922
                clear hN922
                refine ⟨fun _ => R783, ?_⟩
                refine m_k 1 [3, 5, 6, 7, 8, 9, 11, 12] rfl (by kernel_rfl) rfl rfl (fun w925 e926 => ?_)
                replace R783 := R783.trans (Ext0.any e926)
                replace B := B.ext0 e926
                clear e926
                refine k_call T11.fn_23 (c_l_toSheet (B.r 25 rfl) (B.r 26 rfl) (by omega) (by omega)) rfl ?_
                rintro _ w927 ⟨a928, c929, a930, c931, rfl, hN932⟩
                replace R783 := R783.trans (Ext0.any hN932.ext)
                replace B := B.new2 hN932
                clear hN932
                refine ⟨fun _ => R783, ?_⟩
                refine m_k 3 [5, 6, 7, 8, 9, 11, 12] rfl (by kernel_rfl) rfl rfl (fun w933 e934 => ?_)
                replace R783 := R783.trans (Ext0.any e934)
                replace B := B.ext0 e934
                clear e934
                refine k_call T11.fn_31 (c_l_toField (B.r 29 rfl) (B.r 30 rfl) (B.r 31 rfl) (by omega) (by omega) (by omega)) rfl ?_
                rintro _ w935 ⟨a936, c937, a938, c939, a940, c941, rfl, hN942⟩
                replace R783 := R783.trans (Ext0.any hN942.ext)
                replace B := B.new3 hN942
                clear hN942
                refine ⟨fun _ => R783, ?_⟩
                refine m_k 5 [6, 7, 8, 9, 11, 12] rfl (by kernel_rfl) rfl rfl (fun w943 e944 => ?_)
                replace R783 := R783.trans (Ext0.any e944)
                replace B := B.ext0 e944
                clear e944
                refine k_call T11.fn_31 (c_l_toField (B.r 35 rfl) (B.r 36 rfl) (B.r 37 rfl) (by omega) (by omega) (by omega)) rfl ?_
                rintro _ w945 ⟨a946, c947, a948, c949, a950, c951, rfl, hN952⟩
                replace R783 := R783.trans (Ext0.any hN952.ext)
                replace B := B.new3 hN952
                clear hN952
                refine ⟨fun _ => R783, ?_⟩
                refine m_k 6 [7, 8, 9, 11, 12] rfl (by kernel_rfl) rfl rfl (fun w953 e954 => ?_)
                replace R783 := R783.trans (Ext0.any e954)
                replace B := B.ext0 e954
                clear e954
                refine k_call T11.fn_54 (c_i_AddFields ((B.o 6 rfl).rd) ((B.o 7 rfl).rd) ((B.o 3 rfl).rd) ((B.o 4 rfl).rd) ((B.o 5 rfl).rd) ((B.o 0 rfl).rd) ((B.o 1 rfl).rd) ((B.o 2 rfl).rd) (by omega) (by omega) (by omega) (by omega) (by omega) (by omega) (by omega) (by omega)) rfl ?_
                rintro v957 w955 hx956
                obtain ⟨_, rfl, e958⟩ := hx956.resolve_left (fun hz => c298 hz.1)
                clear hx956
                replace R783 := R783.trans (Ext0.any e958)
                replace B := B.ext0 e958
                clear e958
                refine ⟨fun _ => R783, ?_⟩
                refine m_y (v := .tuple #[.agg #[.slice none 0 0, .slice none 0 0, .slice none 0 0], .bool false]) 7 rfl (by kernel_rfl) rfl rfl (fun w' e' => y_move rfl) ?_
                refine m_y (v := .agg #[.slice none 0 0, .slice none 0 0, .slice none 0 0]) 8 rfl (by kernel_rfl) rfl rfl (fun w' e' => y_extract rfl rfl) ?_
                refine m_y (v := .bool false) 9 rfl (by kernel_rfl) rfl rfl (fun w' e' => y_extract rfl rfl) ?_
                refine m_k 11 [12] rfl (by kernel_rfl) rfl rfl (fun w961 e962 => ?_)
                replace R783 := R783.trans (Ext0.any e962)
                replace B := B.ext0 e962
                clear e962
                refine k_stB (v := .agg #[.slice none 0 0, .slice none 0 0, .slice none 0 0]) (n := 3) (cs' := [.slice none 0 0, .slice none 0 0, .slice none 0 0]) T11.sz_49_3 rfl rfl rfl (B.b 8 rfl) (by simp [Value.cells, Value.oneCell']) (Nat.le_of_ble_eq_true rfl) rfl (fun w959 hU960 => ?_)
                replace R783 := R783.fresh hU960.at1 (fun kx hs hl => (nf923 ((show kx = b920 from hs) ▸ hl)).elim)
                replace B : Bu w no w959 [.blk b920 [.slice none 0 0, .slice none 0 0, .slice none 0 0] 49, .ow kF a946 nfe2 c947 56 Xfe2, .ow kF a948 nfx2 c949 56 Xfx2, .ow kF a950 nfy2 c951 56 Xfy2, .ow kF a936 nfe1 c937 56 Xfe1, .ow kF a938 nfx1 c939 56 Xfx1, .ow kF a940 nfy1 c941 56 Xfy1, .ow kF a928 nsp0 c929 56 Xsp0, .ow kF a930 nls0 c931 56 Xls0, .ow kF a679 nfe2 c680 56 (marks ((1 + ((nsp0 : Nat) : Int) + ((nls0 : Nat) : Int)) + ((nfe1 : Nat) : Int) + ((nfx1 : Nat) : Int) + ((nfy1 : Nat) : Int)) nfe2), .ow kF a681 nfx2 c682 56 (marks (((1 + ((nsp0 : Nat) : Int) + ((nls0 : Nat) : Int)) + ((nfe1 : Nat) : Int) + ((nfx1 : Nat) : Int) + ((nfy1 : Nat) : Int)) + ((nfe2 : Nat) : Int)) nfx2), .ow kF a683 nfy2 c684 56 (marks (((1 + ((nsp0 : Nat) : Int) + ((nls0 : Nat) : Int)) + ((nfe1 : Nat) : Int) + ((nfx1 : Nat) : Int) + ((nfy1 : Nat) : Int)) + ((nfe2 : Nat) : Int) + ((nfx2 : Nat) : Int)) nfy2), .ow kF a666 nfe1 c667 56 (marks (1 + ((nsp0 : Nat) : Int) + ((nls0 : Nat) : Int)) nfe1), .ow kF a668 nfx1 c669 56 (marks ((1 + ((nsp0 : Nat) : Int) + ((nls0 : Nat) : Int)) + ((nfe1 : Nat) : Int)) nfx1), .ow kF a670 nfy1 c671 56 (marks ((1 + ((nsp0 : Nat) : Int) + ((nls0 : Nat) : Int)) + ((nfe1 : Nat) : Int) + ((nfx1 : Nat) : Int)) nfy1), .ow kF a655 nsp0 c656 56 (marks 1 nsp0), .ow kF a657 nls0 c658 56 (marks (1 + ((nsp0 : Nat) : Int)) nls0), .ow kF a753 nfe2 c754 56 Xfe2, .ow kF a755 nfx2 c756 56 Xfx2, .ow kF a757 nfy2 c758 56 Xfy2, .ow kF a731 nfe1 c732 56 Xfe1, .ow kF a733 nfx1 c734 56 Xfx1, .ow kF a735 nfy1 c736 56 Xfy1, .ow kF a711 nsp0 c712 56 Xsp0, .ow kF a713 nls0 c714 56 Xls0, .blk b695 [.slice none 0 0, .slice none 0 0, .slice none 0 0] 49, .blk b686 [.slice a679 nfe2 c680, .slice a681 nfx2 c682, .slice a683 nfy2 c684] 49, .blk b673 [.slice a666 nfe1 c667, .slice a668 nfx1 c669, .slice a670 nfy1 c671] 49, .blk b660 [.int .i64 wd0, .int .i64 hi0, .bool wr0, .slice a655 nsp0 c656, .slice a657 nls0 c658] 26, .blk b96 [.slice none 0 0, .slice none 0 0, .slice none 0 0] 49, .blk b7 [.slice afe2 nfe2 cfe2, .slice afx2 nfx2 cfx2, .slice afy2 nfy2 cfy2] 45, .blk b4 [.slice afe1 nfe1 cfe1, .slice afx1 nfx1 cfx1, .slice afy1 nfy1 cfy1] 45, .blk b1 [.int .i64 wd0, .int .i64 hi0, .bool wr0, .slice asp0 nsp0 csp0, .slice als0 nls0 cls0] 36, .rd kF asp0 nsp0 Xsp0, .rd kF als0 nls0 Xls0, .rd kF afe1 nfe1 Xfe1, .rd kF afx1 nfx1 Xfx1, .rd kF afy1 nfy1 Xfy1, .rd kF afe2 nfe2 Xfe2, .rd kF afx2 nfx2 Xfx2, .rd kF afy2 nfy2 Xfy2] := B.upd [8] rfl hU960
                clear hU960
                refine ⟨fun _ => R783, ?_⟩
                refine m_y (v := .bool false) 12 rfl (by kernel_rfl) rfl rfl (fun w' e' => y_assign rfl) ?_
                refine m_done (by kernel_rfl) (fun w963 e964 => ?_)
                replace B := B.ext0 e964
                clear e964
                clear B0_782 R783
                exact ⟨_, b920, Fits.eq ⟨rfl, rfl, rfl, rfl, rfl, rfl, rfl, rfl, trivial⟩, B.pick [0, 9, 10, 11, 12, 13, 14, 15, 16, 17, 18, 19, 20, 21, 22, 23, 24, 25, 26, 27, 28, 29, 30, 31, 32, 33, 34, 35, 36, 37, 38, 39, 40] rfl rfl⟩
            · clear B; rintro _ w965 (⟨ρ966, b826, rfl, B⟩)
              refine W_seq ?_
              refine W_seq ?_
              refine W_region (by kernel_rfl) ?_
              refine s_y (v := .agg #[.slice none 0 0, .slice none 0 0, .slice none 0 0]) rfl (y_loadn (b := b826) (o := 0) (vs := [.slice none 0 0, .slice none 0 0, .slice none 0 0]) T11.agg_49_3 rfl rfl ((B.b 0 rfl).cells (o := 0) rfl)) ?_
              refine s_y (v := .agg #[.slice none 0 0, .slice none 0 0, .slice none 0 0]) rfl (y_loadn (b := b96) (o := 0) (vs := [.slice none 0 0, .slice none 0 0, .slice none 0 0]) T11.agg_49_3 rfl rfl ((B.b 21 rfl).cells (o := 0) rfl)) ?_
              refine s_k rfl (k_call T11.fn_34 (c_l_eqField (Rd.nil _ kF none) (Rd.nil _ kF none) (Rd.nil _ kF none) (Rd.nil _ kF none) (Rd.nil _ kF none) (Rd.nil _ kF none) (by omega) (by omega) (by omega)) rfl ?_)
              rintro _ w967 ⟨rfl, e968⟩
              replace B := B.ext0 e968
              clear e968
              refine s_y (v := .bool false) rfl (y_not rfl rfl) ?_
              refine s_y (v := .bool false) rfl (y_move rfl) ?_
              refine s_y (v := .bool false) rfl (y_move rfl) ?_
              refine s_y (v := .bool false) rfl (y_move rfl) ?_
              refine s_y (v := .bool false) rfl (y_bneq T11.bool_4 rfl rfl rfl) ?_
              refine s_y (v := .bool false) rfl (y_pick_f rfl rfl) ?_
              refine s_nil ?_
              refine W_if_f (by decide) rfl ?_
              refine W_skip ?_
              refine W_seq ?_
              refine W_region (by kernel_rfl) ?_
              refine s_y (v := .int .i64 1) rfl (y_assign rfl) ?_
              refine s_nil ?_
              refine W_seq ?_
              refine W_region (by kernel_rfl) ?_
              refine s_y (v := .agg #[.slice none 0 0, .slice none 0 0, .slice none 0 0]) rfl (y_loadn (b := b695) (o := 0) (vs := [.slice none 0 0, .slice none 0 0, .slice none 0 0]) T11.agg_49_3 rfl rfl ((B.b 17 rfl).cells (o := 0) rfl)) ?_
              refine s_y (v := .int .i64 1) rfl (y_move rfl) ?_
              refine s_k rfl (k_call T11.fn_50 (c_l_heldField (k := 1) (Rd.nil _ kF none : Rd _ kF none 0 (marks 1 0)) (Rd.nil _ kF none : Rd _ kF none 0 (marks (1 + ((0 : Nat) : Int)) 0)) (Rd.nil _ kF none : Rd _ kF none 0 (marks (1 + ((0 : Nat) : Int) + ((0 : Nat) : Int)) 0)) (by decide) (by decide) (by decide) (by omega) (by omega)) rfl ?_)
              rintro _ w969 ⟨rfl, e970⟩
              replace B := B.ext0 e970
              clear e970
              refine s_y (v := .int .i64 (1 + ((0 : Nat) : Int) + ((0 : Nat) : Int) + ((0 : Nat) : Int))) rfl (y_assign rfl) ?_
              refine s_nil ?_
              refine W_seq ?_
              refine W_seq ?_
              refine W_region (by kernel_rfl) ?_
              refine s_y (v := .int .i64 (1 + ((0 : Nat) : Int) + ((0 : Nat) : Int) + ((0 : Nat) : Int))) rfl (y_move rfl) ?_
              refine s_y (v := .bool false) rfl (y_lss rfl rfl (decide_eq_false hk779)) ?_
              refine s_nil ?_
              refine W_if_f (by decide) rfl ?_
              refine W_skip ?_
              refine W_seq ?_
              refine W_seq ?_
              refine W_region (by kernel_rfl) ?_
              refine s_y (v := .int .i64 (1 + ((0 : Nat) : Int) + ((0 : Nat) : Int) + ((0 : Nat) : Int))) rfl (y_move rfl) ?_
              refine s_y (v := .int .i64 (1 + ((0 : Nat) : Int) + ((0 : Nat) : Int) + ((0 : Nat) : Int))) rfl (y_move rfl) ?_
              refine s_y (v := .bool false) rfl (y_neq rfl rfl (decide_eq_false (fun hq => hq rfl))) ?_
              refine s_nil ?_
              refine W_if_f (by decide) rfl ?_
              refine W_skip ?_
              refine W_seq ?_
              refine W_region (by kernel_rfl) ?_
              refine s_y (v := .bool true) rfl (y_assign rfl) ?_
              refine s_nil ?_
              refine W_ret ?_
              refine ret1 (v := .bool true) rfl rfl rfl ⟨_, rfl, ?_⟩
              exact ⟨rfl, B.ext⟩
      · obtain rfl : v24 = .int .i64 (-1) := hv25.trans (congrArg _ (if_neg c26))
        refine s_y (v := .int .i64 (-1)) rfl (y_assign rfl) ?_
        refine s_nil ?_
        refine W_seq ?_
        refine W_seq ?_
        refine W_region (by kernel_rfl) ?_
        refine s_y (v := .int .i64 (-1)) rfl (y_move rfl) ?_
        have hk971 : (-1 : Int) < 0 := (by decide)
        refine s_y (v := .bool true) rfl (y_lss rfl rfl (decide_eq_true hk971)) ?_
        refine s_nil ?_
        refine W_if_t (by decide) rfl ?_
        refine W_seq ?_
        refine W_region (by kernel_rfl) ?_
        refine s_y (v := .bool true) rfl (y_assign rfl) ?_
        refine s_nil ?_
        refine W_ret ?_
        refine ret1 (v := .bool true) rfl rfl rfl ⟨_, rfl, ?_⟩
        exact ⟨rfl, B.ext⟩
    · obtain rfl : v18 = .int .i64 (-1) := hv19.trans (congrArg _ (if_neg c20))
      refine s_y (v := .int .i64 (-1)) rfl (y_assign rfl) ?_
      refine s_nil ?_
      refine W_seq ?_
      refine W_seq ?_
      refine W_region (by kernel_rfl) ?_
      refine s_y (v := .int .i64 (-1)) rfl (y_move rfl) ?_
      have hk972 : (-1 : Int) < 0 := (by decide)
      refine s_y (v := .bool true) rfl (y_lss rfl rfl (decide_eq_true hk972)) ?_
      refine s_nil ?_
      refine W_if_t (by decide) rfl ?_
      refine W_seq ?_
      refine W_region (by kernel_rfl) ?_
      refine s_y (v := .bool true) rfl (y_assign rfl) ?_
      refine s_nil ?_
      refine W_ret ?_
      refine ret1 (v := .bool true) rfl rfl rfl ⟨_, rfl, ?_⟩
      exact ⟨rfl, B.ext⟩
  · obtain rfl : v12 = .int .i64 (-1) := hv13.trans (congrArg _ (if_neg c14))
    refine s_y (v := .int .i64 (-1)) rfl (y_assign rfl) ?_
    refine s_nil ?_
    refine W_seq ?_
    refine W_seq ?_
    refine W_region (by kernel_rfl) ?_
    refine s_y (v := .int .i64 (-1)) rfl (y_move rfl) ?_
    have hk973 : (-1 : Int) < 0 := (by decide)
    refine s_y (v := .bool true) rfl (y_lss rfl rfl (decide_eq_true hk973)) ?_
    refine s_nil ?_
    refine W_if_t (by decide) rfl ?_
    refine W_seq ?_
    refine W_region (by kernel_rfl) ?_
    refine s_y (v := .bool true) rfl (y_assign rfl) ?_
    refine s_nil ?_
    refine W_ret ?_
    refine ret1 (v := .bool true) rfl rfl rfl ⟨_, rfl, ?_⟩
    exact ⟨rfl, B.ext⟩
end Go.Proofs.Ytalkhbnlphefdaa
