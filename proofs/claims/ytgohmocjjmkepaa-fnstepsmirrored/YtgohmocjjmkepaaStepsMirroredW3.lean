/- Walks: what the functions under FnStepsMirrored do (part 4). Printed by a program of this claim's author. -/
import Derived.Test.YtgohmocjjmkepaaStepsMirroredW2
set_option linter.unusedSimpArgs false
set_option linter.unusedVariables false
open Go.Wv
namespace Go.Proofs.Ytgohmocjjmkepaa
open Go.Proofs
namespace T102
theorem mx : Try.prog.follows .mixedOrders = true := by kernel_rfl
theorem one_34 : oneB Try.prog 34 = true := by kernel_rfl
theorem sl_24_34_1 : slB Try.prog 24 34 1 = true := by kernel_rfl
end T102
set_option maxRecDepth 100000 in
set_option maxHeartbeats 4000000 in
theorem c_l_r8Equal {ap : Option Addr} {np : Nat} {cp : Nat} {Xp : List Nat} {aq : Option Addr} {nq : Nat} {cq : Nat} {Xq : List Nat} {w : World} (qp : Rd w kF ap np Xp) (qq : Rd w kF aq nq Xq) (gp : np ≤ 9223372036854775807) (gq : nq ≤ 9223372036854775807) :
    Calls Try.prog 102 #[.slice ap np cp, .slice aq nq cq] w (Rt fun v w' => v = .bool (eqL Xp Xq) ∧ Ext0 w w') := by
  have hlp := qp.len
  have hlq := qq.len
  have B : Bu w no w [.rd kF ap np Xp, .rd kF aq nq Xq] := Bu.ro (All.cons qp (All.cons qq All.nil)) rfl
  refine calls_W (n := 26) Try.func102 rfl rfl (Nat.le_of_ble_eq_true rfl) ?_
  refine W_seq ?_
  refine W_region (by kernel_rfl) ?_
  refine s_y (v := .bool false) rfl (y_assign rfl) ?_
  refine s_nil ?_
  refine W_seq ?_
  refine W_seq ?_
  refine W_region (by kernel_rfl) ?_
  refine s_y (v := .slice ap np cp) rfl (y_move rfl) ?_
  refine s_y (v := .int .i64 ((np : Nat) : Int)) rfl (y_len T102.sl_24_34_1 rfl rfl) ?_
  refine s_y (v := .slice aq nq cq) rfl (y_move rfl) ?_
  refine s_y (v := .int .i64 ((nq : Nat) : Int)) rfl (y_len T102.sl_24_34_1 rfl rfl) ?_
  by_cases c1 : ((np : Nat) : Int) ≠ ((nq : Nat) : Int)
  · refine s_y (v := .bool true) rfl (y_neq rfl rfl (decide_eq_true c1)) ?_
    refine s_nil ?_
    refine W_if_t (by decide) rfl ?_
    refine W_seq ?_
    refine W_region (by kernel_rfl) ?_
    refine s_y (v := .bool false) rfl (y_assign rfl) ?_
    refine s_nil ?_
    refine W_ret ?_
    refine ret1 (v := .bool false) rfl rfl rfl ⟨_, rfl, ?_⟩
    exact ⟨congrArg Value.bool ((eqL_n (by omega)).symm), B.ext⟩
  · refine s_y (v := .bool false) rfl (y_neq rfl rfl (decide_eq_false c1)) ?_
    refine s_nil ?_
    refine W_if_f (by decide) rfl ?_
    refine W_skip ?_
    refine W_seq ?_
    refine W_seq ?_
    refine W_region (by kernel_rfl) ?_
    refine s_y (v := .int .i64 0) rfl (y_assign rfl) ?_
    refine s_nil ?_
    refine W_block ?_
    refine W_loop (fun ρ' w' => ∃ (ρ1 : Env) (k : Int), ρ' = updL ρ1 [(0, .slice ap np cp), (1, .slice aq nq cq), (5, .int .i64 k)] ∧ Bu w no w' [.rd kF ap np Xp, .rd kF aq nq Xq] ∧ (0 ≤ k) ∧ (k ≤ (np : Int)) ∧ (∀ i, 0 ≤ i → i < k → ¬ fne .f32 (el Xp i) (el Xq i) = true)) (fun ρ' _ => ((np : Int) - iv (ρ' 5)).toNat) ?_ ?_
    · exact ⟨_, 0, Fits.eq ⟨rfl, rfl, rfl, trivial⟩, B, (Int.le_refl _), (by omega), (by intro i h0 h1; omega)⟩
    · clear B; rintro _ w2 ⟨ρ3, k, rfl, B, h0k, h1k, hq⟩
      refine W_seq ?_
      refine W_seq ?_
      refine W_region (by kernel_rfl) ?_
      refine s_y (v := .int .i64 k) rfl (y_move rfl) ?_
      refine s_y (v := .slice ap np cp) rfl (y_move rfl) ?_
      refine s_y (v := .int .i64 ((np : Nat) : Int)) rfl (y_len T102.sl_24_34_1 rfl rfl) ?_
      by_cases c4 : k < ((np : Nat) : Int)
      · refine s_y (v := .bool true) rfl (y_lss rfl rfl (decide_eq_true c4)) ?_
        refine s_nil ?_
        refine W_if_t (by decide) rfl ?_
        refine W_skip ?_
        refine W_seq ?_
        refine W_block ?_
        refine W_seq ?_
        have B0_9 := B
        refine W_draw (no) T102.mx (by kernel_rfl) (fun w7 e8 => ?_)
        have R10 := Ext.refl (no) w2
        replace R10 := R10.trans (Ext0.any e8)
        replace B := B.ext0 e8
        clear e8
        refine m_y (v := .slice ap np cp) 0 rfl (by kernel_rfl) rfl rfl (fun w' e' => y_move rfl) ?_
        refine m_y (v := .int .i64 k) 1 rfl (by kernel_rfl) rfl rfl (fun w' e' => y_move rfl) ?_
        refine m_y (v := .pointer (some (sat ap ((k).toNat * 1)))) 2 rfl (by kernel_rfl) rfl rfl (fun w' e' => y_idx T102.sl_24_34_1 rfl rfl ((B.r 0 rfl).addr (by omega)) (by omega) (by omega)) ?_
        obtain ⟨r12, hr13, hR11⟩ := Rd.atF (B0_9.r 0 rfl) k (by omega) (by omega)
        refine m_y (v := .float .f32 r12) 3 rfl (by kernel_rfl) rfl rfl (fun w' e' => y_load T102.one_34 rfl ((hR11.ext0 e').cell (i := 0) rfl)) ?_
        refine m_y (v := .slice aq nq cq) 4 rfl (by kernel_rfl) rfl rfl (fun w' e' => y_move rfl) ?_
        refine m_y (v := .int .i64 k) 5 rfl (by kernel_rfl) rfl rfl (fun w' e' => y_move rfl) ?_
        refine m_y (v := .pointer (some (sat aq ((k).toNat * 1)))) 6 rfl (by kernel_rfl) rfl rfl (fun w' e' => y_idx T102.sl_24_34_1 rfl rfl ((B.r 1 rfl).addr (by omega)) (by omega) (by omega)) ?_
        obtain ⟨r15, hr16, hR14⟩ := Rd.atF (B0_9.r 1 rfl) k (by omega) (by omega)
        refine m_y (v := .float .f32 r15) 7 rfl (by kernel_rfl) rfl rfl (fun w' e' => y_load T102.one_34 rfl ((hR14.ext0 e').cell (i := 0) rfl)) ?_
        by_cases c17 : fne .f32 (el Xp k) (el Xq k) = true
        · refine m_y (v := .bool true) 8 rfl (by kernel_rfl) rfl rfl (fun w' e' => y_fneq rfl rfl (fneC hr13 hr16 c17)) ?_
          refine m_done (by kernel_rfl) (fun w18 e19 => ?_)
          replace B := B.ext0 e19
          clear e19
          clear B0_9 R10
          refine W_if_t (by decide) rfl ?_
          refine W_seq ?_
          refine W_region (by kernel_rfl) ?_
          refine s_y (v := .bool false) rfl (y_assign rfl) ?_
          refine s_nil ?_
          refine W_ret ?_
          refine ret1 (v := .bool false) rfl rfl rfl ⟨_, rfl, ?_⟩
          exact ⟨congrArg Value.bool ((eqL_no (i := k) (by omega) (by omega) (by assumption)).symm), B.ext⟩
        · refine m_y (v := .bool false) 8 rfl (by kernel_rfl) rfl rfl (fun w' e' => y_fneq rfl rfl (fneC hr13 hr16 (Bool.eq_false_iff.2 c17))) ?_
          refine m_done (by kernel_rfl) (fun w20 e21 => ?_)
          replace B := B.ext0 e21
          clear e21
          clear B0_9 R10
          refine W_if_f (by decide) rfl ?_
          refine W_skip ?_
          refine W_region (by kernel_rfl) ?_
          refine s_y (v := .int .i64 k) rfl (y_move rfl) ?_
          refine s_y (v := .int .i64 (k + 1)) rfl (y_add rfl rfl rfl (by omega)) ?_
          refine s_y (v := .int .i64 (k + 1)) rfl (y_assign rfl) ?_
          refine s_nil ?_
          refine ⟨⟨_, k + 1, Fits.eq ⟨rfl, rfl, rfl, trivial⟩, B, (by omega), (by omega), (fun i h0 h1 => if e : i = k then (by subst e; assumption) else hq i h0 (by omega))⟩, ?_⟩
          show ((np : Int) - (k + 1)).toNat < ((np : Int) - k).toNat
          omega
      · refine s_y (v := .bool false) rfl (y_lss rfl rfl (decide_eq_false c4)) ?_
        refine s_nil ?_
        refine W_if_f (by decide) rfl ?_
        refine W_exit ?_
        refine W_seq ?_
        refine W_region (by kernel_rfl) ?_
        refine s_y (v := .bool true) rfl (y_assign rfl) ?_
        refine s_nil ?_
        refine W_ret ?_
        refine ret1 (v := .bool true) rfl rfl rfl ⟨_, rfl, ?_⟩
        exact ⟨congrArg Value.bool ((eqL_yes (by omega) (fun i h0 h1 => hq i h0 (by omega))).symm), B.ext⟩
namespace T50
theorem mx : Try.prog.follows .mixedOrders = true := by kernel_rfl
theorem fld_30_0_0 : fldB Try.prog 30 0 0 = true := by kernel_rfl
theorem fld_30_1_1 : fldB Try.prog 30 1 1 = true := by kernel_rfl
theorem fld_30_2_2 : fldB Try.prog 30 2 2 = true := by kernel_rfl
theorem fn_102 : fnB Try.prog 102 = true := by kernel_rfl
theorem one_24 : oneB Try.prog 24 = true := by kernel_rfl
end T50
set_option maxRecDepth 100000 in
set_option maxHeartbeats 4000000 in
theorem c_l_r8Fields {afe1 : Option Addr} {nfe1 : Nat} {cfe1 : Nat} {Xfe1 : List Nat} {afx1 : Option Addr} {nfx1 : Nat} {cfx1 : Nat} {Xfx1 : List Nat} {afy1 : Option Addr} {nfy1 : Nat} {cfy1 : Nat} {Xfy1 : List Nat} {afe2 : Option Addr} {nfe2 : Nat} {cfe2 : Nat} {Xfe2 : List Nat} {afx2 : Option Addr} {nfx2 : Nat} {cfx2 : Nat} {Xfx2 : List Nat} {afy2 : Option Addr} {nfy2 : Nat} {cfy2 : Nat} {Xfy2 : List Nat} {w : World} (qfe1 : Rd w kF afe1 nfe1 Xfe1) (qfx1 : Rd w kF afx1 nfx1 Xfx1) (qfy1 : Rd w kF afy1 nfy1 Xfy1) (qfe2 : Rd w kF afe2 nfe2 Xfe2) (qfx2 : Rd w kF afx2 nfx2 Xfx2) (qfy2 : Rd w kF afy2 nfy2 Xfy2) (gfe1 : nfe1 ≤ 9223372036854775807) (gfx1 : nfx1 ≤ 9223372036854775807) (gfy1 : nfy1 ≤ 9223372036854775807) (gfe2 : nfe2 ≤ 9223372036854775807) (gfx2 : nfx2 ≤ 9223372036854775807) (gfy2 : nfy2 ≤ 9223372036854775807) :
    Calls Try.prog 50 #[.agg #[.slice afe1 nfe1 cfe1, .slice afx1 nfx1 cfx1, .slice afy1 nfy1 cfy1], .agg #[.slice afe2 nfe2 cfe2, .slice afx2 nfx2 cfx2, .slice afy2 nfy2 cfy2]] w (Rt fun v w' => v = .bool ((eqL Xfe1 Xfe2 && eqL Xfx1 Xfx2 && eqL Xfy1 Xfy2)) ∧ Ext0 w w') := by
  have hlfe1 := qfe1.len
  have hlfx1 := qfx1.len
  have hlfy1 := qfy1.len
  have hlfe2 := qfe2.len
  have hlfx2 := qfx2.len
  have hlfy2 := qfy2.len
  have B : Bu w no w [.rd kF afe1 nfe1 Xfe1, .rd kF afx1 nfx1 Xfx1, .rd kF afy1 nfy1 Xfy1, .rd kF afe2 nfe2 Xfe2, .rd kF afx2 nfx2 Xfx2, .rd kF afy2 nfy2 Xfy2] := Bu.ro (All.cons qfe1 (All.cons qfx1 (All.cons qfy1 (All.cons qfe2 (All.cons qfx2 (All.cons qfy2 All.nil)))))) rfl
  refine calls_W (n := 24) Try.func50 rfl rfl (Nat.le_of_ble_eq_true rfl) ?_
  refine W_seq ?_
  refine W_region (by kernel_rfl) ?_
  refine s_k rfl (k_boxN (v := .agg #[.slice afe1 nfe1 cfe1, .slice afx1 nfx1 cfx1, .slice afy1 nfy1 cfy1]) (cs := [.slice afe1 nfe1 cfe1, .slice afx1 nfx1 cfx1, .slice afy1 nfy1 cfy1]) rfl rfl (fun b1 w2 hN3 => ?_))
  replace B := B.new1 hN3
  clear hN3
  refine s_k rfl (k_boxN (v := .agg #[.slice afe2 nfe2 cfe2, .slice afx2 nfx2 cfx2, .slice afy2 nfy2 cfy2]) (cs := [.slice afe2 nfe2 cfe2, .slice afx2 nfx2 cfx2, .slice afy2 nfy2 cfy2]) rfl rfl (fun b4 w5 hN6 => ?_))
  replace B := B.new1 hN6
  clear hN6
  refine s_y (v := .bool false) rfl (y_assign rfl) ?_
  refine s_nil ?_
  refine W_seq ?_
  refine W_region (by kernel_rfl) ?_
  refine s_y (v := .pointer (some ⟨b1, 0, none⟩)) rfl (y_fld (o := 0) T50.fld_30_0_0 rfl) ?_
  refine s_y (v := .slice afe1 nfe1 cfe1) rfl (y_load T50.one_24 rfl ((B.b 1 rfl).cell (j := 0) rfl)) ?_
  refine s_y (v := .pointer (some ⟨b4, 0, none⟩)) rfl (y_fld (o := 0) T50.fld_30_0_0 rfl) ?_
  refine s_y (v := .slice afe2 nfe2 cfe2) rfl (y_load T50.one_24 rfl ((B.b 0 rfl).cell (j := 0) rfl)) ?_
  refine s_k rfl (k_call T50.fn_102 (c_l_r8Equal (B.r 2 rfl) (B.r 5 rfl) (by omega) (by omega)) rfl ?_)
  rintro v9 w7 ⟨hv10, e8⟩
  replace B := B.ext0 e8
  clear e8
  by_cases c11 : eqL Xfe1 Xfe2 = true
  · obtain rfl : v9 = .bool true := hv10.trans (congrArg Value.bool c11)
    refine s_y (v := .bool true) rfl (y_move rfl) ?_
    refine s_y (v := .pointer (some ⟨b1, 1, none⟩)) rfl (y_fld (o := 0) T50.fld_30_1_1 rfl) ?_
    refine s_y (v := .slice afx1 nfx1 cfx1) rfl (y_load T50.one_24 rfl ((B.b 1 rfl).cell (j := 1) rfl)) ?_
    refine s_y (v := .pointer (some ⟨b4, 1, none⟩)) rfl (y_fld (o := 0) T50.fld_30_1_1 rfl) ?_
    refine s_y (v := .slice afx2 nfx2 cfx2) rfl (y_load T50.one_24 rfl ((B.b 0 rfl).cell (j := 1) rfl)) ?_
    refine s_k rfl (k_call T50.fn_102 (c_l_r8Equal (B.r 3 rfl) (B.r 6 rfl) (by omega) (by omega)) rfl ?_)
    rintro v14 w12 ⟨hv15, e13⟩
    replace B := B.ext0 e13
    clear e13
    by_cases c16 : eqL Xfx1 Xfx2 = true
    · obtain rfl : v14 = .bool true := hv15.trans (congrArg Value.bool c16)
      refine s_y (v := .bool true) rfl (y_pick_t rfl rfl) ?_
      refine s_y (v := .bool true) rfl (y_move rfl) ?_
      refine s_y (v := .pointer (some ⟨b1, 2, none⟩)) rfl (y_fld (o := 0) T50.fld_30_2_2 rfl) ?_
      refine s_y (v := .slice afy1 nfy1 cfy1) rfl (y_load T50.one_24 rfl ((B.b 1 rfl).cell (j := 2) rfl)) ?_
      refine s_y (v := .pointer (some ⟨b4, 2, none⟩)) rfl (y_fld (o := 0) T50.fld_30_2_2 rfl) ?_
      refine s_y (v := .slice afy2 nfy2 cfy2) rfl (y_load T50.one_24 rfl ((B.b 0 rfl).cell (j := 2) rfl)) ?_
      refine s_k rfl (k_call T50.fn_102 (c_l_r8Equal (B.r 4 rfl) (B.r 7 rfl) (by omega) (by omega)) rfl ?_)
      rintro v19 w17 ⟨hv20, e18⟩
      replace B := B.ext0 e18
      clear e18
      by_cases c21 : eqL Xfy1 Xfy2 = true
      · obtain rfl : v19 = .bool true := hv20.trans (congrArg Value.bool c21)
        refine s_y (v := .bool true) rfl (y_pick_t rfl rfl) ?_
        refine s_y (v := .bool true) rfl (y_assign rfl) ?_
        refine s_nil ?_
        refine W_ret ?_
        refine ret1 (v := .bool true) rfl rfl rfl ⟨_, rfl, ?_⟩
        exact ⟨congrArg Value.bool (by simp only [c11, c16, c21, Bool.and_true, Bool.true_and, Bool.and_false, Bool.false_and, Bool.not_true, Bool.not_false, Bool.or_true, Bool.true_or, Bool.or_false, Bool.false_or]), B.ext⟩
      · obtain rfl : v19 = .bool false := hv20.trans (congrArg Value.bool (Bool.eq_false_iff.2 c21))
        refine s_y (v := .bool false) rfl (y_pick_t rfl rfl) ?_
        refine s_y (v := .bool false) rfl (y_assign rfl) ?_
        refine s_nil ?_
        refine W_ret ?_
        refine ret1 (v := .bool false) rfl rfl rfl ⟨_, rfl, ?_⟩
        exact ⟨congrArg Value.bool (by simp only [c11, c16, (Bool.eq_false_iff.2 c21), Bool.and_true, Bool.true_and, Bool.and_false, Bool.false_and, Bool.not_true, Bool.not_false, Bool.or_true, Bool.true_or, Bool.or_false, Bool.false_or]), B.ext⟩
    · obtain rfl : v14 = .bool false := hv15.trans (congrArg Value.bool (Bool.eq_false_iff.2 c16))
      refine s_y (v := .bool false) rfl (y_pick_t rfl rfl) ?_
      refine s_y (v := .bool false) rfl (y_move rfl) ?_
      refine s_skip rfl ?_
      refine s_skip rfl ?_
      refine s_skip rfl ?_
      refine s_skip rfl ?_
      refine s_skip rfl ?_
      refine s_y (v := .bool false) rfl (y_pick_f rfl rfl) ?_
      refine s_y (v := .bool false) rfl (y_assign rfl) ?_
      refine s_nil ?_
      refine W_ret ?_
      refine ret1 (v := .bool false) rfl rfl rfl ⟨_, rfl, ?_⟩
      exact ⟨congrArg Value.bool (by simp only [c11, (Bool.eq_false_iff.2 c16), Bool.and_true, Bool.true_and, Bool.and_false, Bool.false_and, Bool.not_true, Bool.not_false, Bool.or_true, Bool.true_or, Bool.or_false, Bool.false_or]), B.ext⟩
  · obtain rfl : v9 = .bool false := hv10.trans (congrArg Value.bool (Bool.eq_false_iff.2 c11))
    refine s_y (v := .bool false) rfl (y_move rfl) ?_
    refine s_skip rfl ?_
    refine s_skip rfl ?_
    refine s_skip rfl ?_
    refine s_skip rfl ?_
    refine s_skip rfl ?_
    refine s_y (v := .bool false) rfl (y_pick_f rfl rfl) ?_
    refine s_y (v := .bool false) rfl (y_move rfl) ?_
    refine s_skip rfl ?_
    refine s_skip rfl ?_
    refine s_skip rfl ?_
    refine s_skip rfl ?_
    refine s_skip rfl ?_
    refine s_y (v := .bool false) rfl (y_pick_f rfl rfl) ?_
    refine s_y (v := .bool false) rfl (y_assign rfl) ?_
    refine s_nil ?_
    refine W_ret ?_
    refine ret1 (v := .bool false) rfl rfl rfl ⟨_, rfl, ?_⟩
    exact ⟨congrArg Value.bool (by simp only [(Bool.eq_false_iff.2 c11), Bool.and_true, Bool.true_and, Bool.and_false, Bool.false_and, Bool.not_true, Bool.not_false, Bool.or_true, Bool.true_or, Bool.or_false, Bool.false_or]), B.ext⟩
namespace T109
theorem mx : Try.prog.follows .mixedOrders = true := by kernel_rfl
theorem agg_26_5 : aggB Try.prog 26 5 = true := by kernel_rfl
theorem fld_26_2_2 : fldB Try.prog 26 2 2 = true := by kernel_rfl
theorem fn_65 : fnB Try.prog 65 = true := by kernel_rfl
theorem fn_74 : fnB Try.prog 74 = true := by kernel_rfl
theorem one_4 : oneB Try.prog 4 = true := by kernel_rfl
end T109
set_option maxRecDepth 100000 in
set_option maxHeartbeats 4000000 in
theorem c_i_isShift {wd : Int} {hi : Int} {wr : Bool} {asp : Option Addr} {nsp : Nat} {csp : Nat} {Xsp : List Nat} {als : Option Addr} {nls : Nat} {cls : Nat} {Xls : List Nat} {x : Int} {y : Int} {w : World} (qsp : Rd w kF asp nsp Xsp) (qls : Rd w kF als nls Xls) (hbsp : nsp ≤ 9223372036854775806) (hbls : nls ≤ 9223372036854775806) :
    Calls Try.prog 109 #[.agg #[.int .i64 wd, .int .i64 hi, .bool wr, .slice asp nsp csp, .slice als nls cls], .int .i64 x, .int .i64 y] w (Rt fun v w' => v = .bool (shB wd hi wr Xsp Xls x y) ∧ Ext0 w w') := by
  have hlsp := qsp.len
  have hlls := qls.len
  have B : Bu w no w [.rd kF asp nsp Xsp, .rd kF als nls Xls] := Bu.ro (All.cons qsp (All.cons qls All.nil)) rfl
  refine calls_W (n := 21) Try.func109 rfl rfl (Nat.le_of_ble_eq_true rfl) ?_
  refine W_seq ?_
  refine W_region (by kernel_rfl) ?_
  refine s_k rfl (k_boxN (v := .agg #[.int .i64 wd, .int .i64 hi, .bool wr, .slice asp nsp csp, .slice als nls cls]) (cs := [.int .i64 wd, .int .i64 hi, .bool wr, .slice asp nsp csp, .slice als nls cls]) rfl rfl (fun b1 w2 hN3 => ?_))
  replace B := B.new1 hN3
  clear hN3
  refine s_y (v := .bool false) rfl (y_assign rfl) ?_
  refine s_nil ?_
  refine W_seq ?_
  refine W_region (by kernel_rfl) ?_
  refine s_y (v := .agg #[.int .i64 wd, .int .i64 hi, .bool wr, .slice asp nsp csp, .slice als nls cls]) rfl (y_loadn (b := b1) (o := 0) (vs := [.int .i64 wd, .int .i64 hi, .bool wr, .slice asp nsp csp, .slice als nls cls]) T109.agg_26_5 rfl rfl ((B.b 0 rfl).cells (o := 0) rfl)) ?_
  refine s_k rfl (k_call T109.fn_65 (c_i_ValidSheet (B.r 1 rfl) (B.r 2 rfl) (by omega) (by omega)) rfl ?_)
  rintro v6 w4 ⟨hv7, e5⟩
  replace B := B.ext0 e5
  clear e5
  by_cases c8 : validS wd hi Xsp Xls = true
  · have hb9 := validS_b c8
    obtain rfl : v6 = .bool true := hv7.trans (congrArg Value.bool c8)
    refine s_y (v := .bool true) rfl (y_move rfl) ?_
    refine s_y (v := .pointer (some ⟨b1, 2, none⟩)) rfl (y_fld (o := 0) T109.fld_26_2_2 rfl) ?_
    refine s_y (v := .bool wr) rfl (y_load T109.one_4 rfl ((B.b 0 rfl).cell (j := 2) rfl)) ?_
    refine s_y (v := .bool wr) rfl (y_pick_t rfl rfl) ?_
    refine s_y (v := .bool wr) rfl (y_move rfl) ?_
    cases wr
    · refine s_skip rfl ?_
      refine s_skip rfl ?_
      refine s_y (v := .bool false) rfl (y_pick_f rfl rfl) ?_
      refine s_y (v := .bool false) rfl (y_move rfl) ?_
      refine s_skip rfl ?_
      refine s_skip rfl ?_
      refine s_y (v := .bool false) rfl (y_pick_f rfl rfl) ?_
      refine s_y (v := .bool false) rfl (y_assign rfl) ?_
      refine s_nil ?_
      refine W_ret ?_
      refine ret1 (v := .bool false) rfl rfl rfl ⟨_, rfl, ?_⟩
      exact ⟨congrArg Value.bool (by simp only [shB, c8, Bool.and_true, Bool.true_and, Bool.and_false, Bool.false_and, Bool.not_true, Bool.not_false, Bool.or_true, Bool.true_or, Bool.or_false, Bool.false_or]), B.ext⟩
    · refine s_y (v := .int .i64 x) rfl (y_move rfl) ?_
      refine s_k rfl (k_call T109.fn_74 (c_i_within) rfl ?_)
      rintro v12 w10 ⟨hv13, e11⟩
      replace B := B.ext0 e11
      clear e11
      by_cases c14 : within x (-16) 16 = true
      · have hb15 := within_b c14
        obtain rfl : v12 = .bool true := hv13.trans (congrArg Value.bool c14)
        refine s_y (v := .bool true) rfl (y_pick_t rfl rfl) ?_
        refine s_y (v := .bool true) rfl (y_move rfl) ?_
        refine s_y (v := .int .i64 y) rfl (y_move rfl) ?_
        refine s_k rfl (k_call T109.fn_74 (c_i_within) rfl ?_)
        rintro v18 w16 ⟨hv19, e17⟩
        replace B := B.ext0 e17
        clear e17
        by_cases c20 : within y (-16) 16 = true
        · have hb21 := within_b c20
          obtain rfl : v18 = .bool true := hv19.trans (congrArg Value.bool c20)
          refine s_y (v := .bool true) rfl (y_pick_t rfl rfl) ?_
          refine s_y (v := .bool true) rfl (y_assign rfl) ?_
          refine s_nil ?_
          refine W_ret ?_
          refine ret1 (v := .bool true) rfl rfl rfl ⟨_, rfl, ?_⟩
          exact ⟨congrArg Value.bool (by simp only [shB, c8, c14, c20, Bool.and_true, Bool.true_and, Bool.and_false, Bool.false_and, Bool.not_true, Bool.not_false, Bool.or_true, Bool.true_or, Bool.or_false, Bool.false_or]), B.ext⟩
        · obtain rfl : v18 = .bool false := hv19.trans (congrArg Value.bool (Bool.eq_false_iff.2 c20))
          refine s_y (v := .bool false) rfl (y_pick_t rfl rfl) ?_
          refine s_y (v := .bool false) rfl (y_assign rfl) ?_
          refine s_nil ?_
          refine W_ret ?_
          refine ret1 (v := .bool false) rfl rfl rfl ⟨_, rfl, ?_⟩
          exact ⟨congrArg Value.bool (by simp only [shB, c8, c14, (Bool.eq_false_iff.2 c20), Bool.and_true, Bool.true_and, Bool.and_false, Bool.false_and, Bool.not_true, Bool.not_false, Bool.or_true, Bool.true_or, Bool.or_false, Bool.false_or]), B.ext⟩
      · obtain rfl : v12 = .bool false := hv13.trans (congrArg Value.bool (Bool.eq_false_iff.2 c14))
        refine s_y (v := .bool false) rfl (y_pick_t rfl rfl) ?_
        refine s_y (v := .bool false) rfl (y_move rfl) ?_
        refine s_skip rfl ?_
        refine s_skip rfl ?_
        refine s_y (v := .bool false) rfl (y_pick_f rfl rfl) ?_
        refine s_y (v := .bool false) rfl (y_assign rfl) ?_
        refine s_nil ?_
        refine W_ret ?_
        refine ret1 (v := .bool false) rfl rfl rfl ⟨_, rfl, ?_⟩
        exact ⟨congrArg Value.bool (by simp only [shB, c8, (Bool.eq_false_iff.2 c14), Bool.and_true, Bool.true_and, Bool.and_false, Bool.false_and, Bool.not_true, Bool.not_false, Bool.or_true, Bool.true_or, Bool.or_false, Bool.false_or]), B.ext⟩
  · obtain rfl : v6 = .bool false := hv7.trans (congrArg Value.bool (Bool.eq_false_iff.2 c8))
    refine s_y (v := .bool false) rfl (y_move rfl) ?_
    refine s_skip rfl ?_
    refine s_skip rfl ?_
    refine s_y (v := .bool false) rfl (y_pick_f rfl rfl) ?_
    refine s_y (v := .bool false) rfl (y_move rfl) ?_
    refine s_skip rfl ?_
    refine s_skip rfl ?_
    refine s_y (v := .bool false) rfl (y_pick_f rfl rfl) ?_
    refine s_y (v := .bool false) rfl (y_move rfl) ?_
    refine s_skip rfl ?_
    refine s_skip rfl ?_
    refine s_y (v := .bool false) rfl (y_pick_f rfl rfl) ?_
    refine s_y (v := .bool false) rfl (y_assign rfl) ?_
    refine s_nil ?_
    refine W_ret ?_
    refine ret1 (v := .bool false) rfl rfl rfl ⟨_, rfl, ?_⟩
    exact ⟨congrArg Value.bool (by simp only [shB, (Bool.eq_false_iff.2 c8), Bool.and_true, Bool.true_and, Bool.and_false, Bool.false_and, Bool.not_true, Bool.not_false, Bool.or_true, Bool.true_or, Bool.or_false, Bool.false_or]), B.ext⟩
namespace T134
theorem mx : Try.prog.follows .mixedOrders = true := by kernel_rfl
theorem fld_26_0_0 : fldB Try.prog 26 0 0 = true := by kernel_rfl
theorem fld_26_1_1 : fldB Try.prog 26 1 1 = true := by kernel_rfl
theorem one_2 : oneB Try.prog 2 = true := by kernel_rfl
end T134
set_option maxRecDepth 100000 in
set_option maxHeartbeats 4000000 in
theorem c_i_backBy_1 {u1 : Int} {u2 : Int} {b1 : Nat} {x : Int} {b2 : Nat} {wd : Int} {hi : Int} {wr : Bool} {asp : Option Addr} {nsp : Nat} {csp : Nat} {als : Option Addr} {nls : Nat} {cls : Nat} {b3 : Nat} {y : Int} {w : World} (Pb1 : Sl w (some ⟨b1, 0, none⟩) [.int .i64 x]) (Pb2 : Sl w (some ⟨b2, 0, none⟩) [.int .i64 wd, .int .i64 hi, .bool wr, .slice asp nsp csp, .slice als nls cls]) (Pb3 : Sl w (some ⟨b3, 0, none⟩) [.int .i64 y]) (h1 : 3 ≤ wd) (h2 : wd ≤ 16) (h3 : 3 ≤ hi) (h4 : hi ≤ 16) (g1 : -16 ≤ x) (g2 : x ≤ 16) (g3 : -16 ≤ y) (g4 : y ≤ 16) (g5 : 0 ≤ u1) (g6 : u1 < wd) (g7 : 0 ≤ u2) (g8 : u2 < hi) :
    Calls Try.prog 134 #[.int .i64 u1, .int .i64 u2, .pointer (some ⟨b1, 0, none⟩), .pointer (some ⟨b2, 0, none⟩), .pointer (some ⟨b3, 0, none⟩)] w (Rt fun v w' => v = .tuple #[.int .i64 ((u1 - x + 16 * wd) % wd), .int .i64 ((u2 - y + 16 * hi) % hi)] ∧ Ext0 w w') := by
  have B : Bu w no w [.sl (some ⟨b1, 0, none⟩) [.int .i64 x], .sl (some ⟨b2, 0, none⟩) [.int .i64 wd, .int .i64 hi, .bool wr, .slice asp nsp csp, .slice als nls cls], .sl (some ⟨b3, 0, none⟩) [.int .i64 y]] := Bu.ro (All.cons Pb1 (All.cons Pb2 (All.cons Pb3 All.nil))) rfl
  refine calls_W (n := 29) Try.func134 rfl rfl (Nat.le_of_ble_eq_true rfl) ?_
  refine W_seq ?_
  refine W_region (by kernel_rfl) ?_
  refine s_y (v := .int .i64 0) rfl (y_assign rfl) ?_
  refine s_y (v := .int .i64 0) rfl (y_assign rfl) ?_
  refine s_nil ?_
  refine W_seq ?_
  have B0_5 := B
  refine W_draw (no) T134.mx (by kernel_rfl) (fun w3 e4 => ?_)
  have R6 := Ext.refl (no) w
  replace R6 := R6.trans (Ext0.any e4)
  replace B := B.ext0 e4
  clear e4
  refine m_y (v := .int .i64 u1) 0 rfl (by kernel_rfl) rfl rfl (fun w' e' => y_move rfl) ?_
  refine m_y (v := .int .i64 x) 1 rfl (by kernel_rfl) rfl rfl (fun w' e' => y_load T134.one_2 rfl (((B0_5.s 0 rfl).ext0 e').cell (j := 0) rfl)) ?_
  refine m_y (v := .int .i64 (u1 - x)) 2 rfl (by kernel_rfl) rfl rfl (fun w' e' => y_sub rfl rfl rfl (by omega)) ?_
  refine m_y (v := .pointer (some ⟨b2, 0, none⟩)) 3 rfl (by kernel_rfl) rfl rfl (fun w' e' => y_fld (o := 0 + 0) T134.fld_26_0_0 rfl) ?_
  refine m_y (v := .int .i64 wd) 4 rfl (by kernel_rfl) rfl rfl (fun w' e' => y_load T134.one_2 rfl (((B0_5.s 1 rfl).ext0 e').cell (j := 0) rfl)) ?_
  refine m_y (v := .int .i64 (16 * wd)) 5 rfl (by kernel_rfl) rfl rfl (fun w' e' => y_mul rfl rfl rfl (by omega)) ?_
  refine m_y (v := .int .i64 ((u1 - x) + (16 * wd))) 6 rfl (by kernel_rfl) rfl rfl (fun w' e' => y_add rfl rfl rfl (by omega)) ?_
  refine m_y (v := .pointer (some ⟨b2, 0, none⟩)) 7 rfl (by kernel_rfl) rfl rfl (fun w' e' => y_fld (o := 0 + 0) T134.fld_26_0_0 rfl) ?_
  refine m_y (v := .int .i64 wd) 8 rfl (by kernel_rfl) rfl rfl (fun w' e' => y_load T134.one_2 rfl (((B0_5.s 1 rfl).ext0 e').cell (j := 0) rfl)) ?_
  have hm7 := rem_b (x := (u1 - x) + (16 * wd)) (m := wd) (by omega) (by omega)
  refine m_y (v := .int .i64 (((u1 - x) + (16 * wd)) % wd)) 9 rfl (by kernel_rfl) rfl rfl (fun w' e' => y_rem rfl rfl (by omega) (by omega) rfl) ?_
  refine m_y (v := .int .i64 u2) 10 rfl (by kernel_rfl) rfl rfl (fun w' e' => y_move rfl) ?_
  refine m_y (v := .int .i64 y) 11 rfl (by kernel_rfl) rfl rfl (fun w' e' => y_load T134.one_2 rfl (((B0_5.s 2 rfl).ext0 e').cell (j := 0) rfl)) ?_
  refine m_y (v := .int .i64 (u2 - y)) 12 rfl (by kernel_rfl) rfl rfl (fun w' e' => y_sub rfl rfl rfl (by omega)) ?_
  refine m_y (v := .pointer (some ⟨b2, 0 + 1, none⟩)) 13 rfl (by kernel_rfl) rfl rfl (fun w' e' => y_fld (o := 0 + 0) T134.fld_26_1_1 rfl) ?_
  refine m_y (v := .int .i64 hi) 14 rfl (by kernel_rfl) rfl rfl (fun w' e' => y_load T134.one_2 rfl (((B0_5.s 1 rfl).ext0 e').cell (j := 1) rfl)) ?_
  refine m_y (v := .int .i64 (16 * hi)) 15 rfl (by kernel_rfl) rfl rfl (fun w' e' => y_mul rfl rfl rfl (by omega)) ?_
  refine m_y (v := .int .i64 ((u2 - y) + (16 * hi))) 16 rfl (by kernel_rfl) rfl rfl (fun w' e' => y_add rfl rfl rfl (by omega)) ?_
  refine m_y (v := .pointer (some ⟨b2, 0 + 1, none⟩)) 17 rfl (by kernel_rfl) rfl rfl (fun w' e' => y_fld (o := 0 + 0) T134.fld_26_1_1 rfl) ?_
  refine m_y (v := .int .i64 hi) 18 rfl (by kernel_rfl) rfl rfl (fun w' e' => y_load T134.one_2 rfl (((B0_5.s 1 rfl).ext0 e').cell (j := 1) rfl)) ?_
  have hm8 := rem_b (x := (u2 - y) + (16 * hi)) (m := hi) (by omega) (by omega)
  refine m_y (v := .int .i64 (((u2 - y) + (16 * hi)) % hi)) 19 rfl (by kernel_rfl) rfl rfl (fun w' e' => y_rem rfl rfl (by omega) (by omega) rfl) ?_
  refine m_y (v := .int .i64 (((u1 - x) + (16 * wd)) % wd)) 20 rfl (by kernel_rfl) rfl rfl (fun w' e' => y_assign rfl) ?_
  refine m_y (v := .int .i64 (((u2 - y) + (16 * hi)) % hi)) 21 rfl (by kernel_rfl) rfl rfl (fun w' e' => y_assign rfl) ?_
  refine m_done (by kernel_rfl) (fun w9 e10 => ?_)
  replace B := B.ext0 e10
  clear e10
  clear B0_5 R6
  refine W_ret ?_
  refine ret2 (v1 := .int .i64 (((u1 - x) + (16 * wd)) % wd)) (v2 := .int .i64 (((u2 - y) + (16 * hi)) % hi)) rfl rfl rfl rfl rfl ⟨_, rfl, ?_⟩
  exact ⟨rfl, B.ext⟩
namespace T110
theorem mx : Try.prog.follows .mixedOrders = true := by kernel_rfl
end T110
set_option maxRecDepth 100000 in
set_option maxHeartbeats 4000000 in
theorem c_i_backBy {wd : Int} {hi : Int} {wr : Bool} {asp : Option Addr} {nsp : Nat} {csp : Nat} {als : Option Addr} {nls : Nat} {cls : Nat} {x : Int} {y : Int} {w : World} :
    Calls Try.prog 110 #[.agg #[.int .i64 wd, .int .i64 hi, .bool wr, .slice asp nsp csp, .slice als nls cls], .int .i64 x, .int .i64 y] w (Rt fun v w' => (∃ b1 b2 b3 : Nat, v = .func (.func 134) #[] #[.pointer (some ⟨b1, 0, none⟩), .pointer (some ⟨b2, 0, none⟩), .pointer (some ⟨b3, 0, none⟩)] ∧ New w w' [.blk b1 [.int .i64 x] 2, .blk b2 [.int .i64 wd, .int .i64 hi, .bool wr, .slice asp nsp csp, .slice als nls cls] 26, .blk b3 [.int .i64 y] 2])) := by
  have B : Bu w no w [] := Bu.ro All.nil rfl
  refine calls_W (n := 8) Try.func110 rfl rfl (Nat.le_of_ble_eq_true rfl) ?_
  refine W_seq ?_
  refine W_region (by kernel_rfl) ?_
  refine s_k rfl (k_boxN (v := .agg #[.int .i64 wd, .int .i64 hi, .bool wr, .slice asp nsp csp, .slice als nls cls]) (cs := [.int .i64 wd, .int .i64 hi, .bool wr, .slice asp nsp csp, .slice als nls cls]) rfl rfl (fun b1 w2 hN3 => ?_))
  replace B := B.new1 hN3
  clear hN3
  refine s_k rfl (k_boxN (v := .int .i64 x) (cs := [.int .i64 x]) rfl rfl (fun b4 w5 hN6 => ?_))
  replace B := B.new1 hN6
  clear hN6
  refine s_k rfl (k_boxN (v := .int .i64 y) (cs := [.int .i64 y]) rfl rfl (fun b7 w8 hN9 => ?_))
  replace B := B.new1 hN9
  clear hN9
  refine s_y (v := .nilFunc) rfl (y_assign rfl) ?_
  refine s_nil ?_
  refine W_seq ?_
  refine W_region (by kernel_rfl) ?_
  refine s_y (v := .func (.func 134) #[] #[.pointer (some ⟨b4, 0, none⟩), .pointer (some ⟨b1, 0, none⟩), .pointer (some ⟨b7, 0, none⟩)]) rfl (y_func rfl rfl) ?_
  refine s_y (v := .func (.func 134) #[] #[.pointer (some ⟨b4, 0, none⟩), .pointer (some ⟨b1, 0, none⟩), .pointer (some ⟨b7, 0, none⟩)]) rfl (y_assign rfl) ?_
  refine s_nil ?_
  refine W_ret ?_
  refine ret1 (v := .func (.func 134) #[] #[.pointer (some ⟨b4, 0, none⟩), .pointer (some ⟨b1, 0, none⟩), .pointer (some ⟨b7, 0, none⟩)]) rfl rfl rfl ⟨_, rfl, ?_⟩
  exact ⟨_, _, _, rfl, B.give [1, 2, 0] rfl rfl rfl⟩
namespace T55
theorem mx : Try.prog.follows .mixedOrders = true := by kernel_rfl
theorem agg_26_5 : aggB Try.prog 26 5 = true := by kernel_rfl
theorem fld_26_0_0 : fldB Try.prog 26 0 0 = true := by kernel_rfl
theorem fld_26_1_1 : fldB Try.prog 26 1 1 = true := by kernel_rfl
theorem fld_26_2_2 : fldB Try.prog 26 2 2 = true := by kernel_rfl
theorem fld_26_3_3 : fldB Try.prog 26 3 3 = true := by kernel_rfl
theorem fld_26_4_4 : fldB Try.prog 26 4 4 = true := by kernel_rfl
theorem fn_104 : fnB Try.prog 104 = true := by kernel_rfl
theorem fn_109 : fnB Try.prog 109 = true := by kernel_rfl
theorem fn_110 : fnB Try.prog 110 = true := by kernel_rfl
theorem fn_134 : fnB Try.prog 134 = true := by kernel_rfl
theorem one_2 : oneB Try.prog 2 = true := by kernel_rfl
theorem one_24 : oneB Try.prog 24 = true := by kernel_rfl
theorem one_4 : oneB Try.prog 4 = true := by kernel_rfl
theorem sz_26_5 : szB Try.prog 26 5 = true := by kernel_rfl
theorem zero_26 : zeroB Try.prog 26 (.agg #[.int .i64 0, .int .i64 0, .bool false, .slice none 0 0, .slice none 0 0]) := by unfold zeroB; kernel_rfl
end T55
set_option maxRecDepth 100000 in
set_option maxHeartbeats 4000000 in
theorem c_i_ShiftSheet {wd : Int} {hi : Int} {wr : Bool} {asp : Option Addr} {nsp : Nat} {csp : Nat} {Xsp : List Nat} {als : Option Addr} {nls : Nat} {cls : Nat} {Xls : List Nat} {x : Int} {y : Int} {w : World} (qsp : Rd w kF asp nsp Xsp) (qls : Rd w kF als nls Xls) (hbsp : nsp ≤ 9223372036854775806) (hbls : nls ≤ 9223372036854775806) :
    Calls Try.prog 55 #[.agg #[.int .i64 wd, .int .i64 hi, .bool wr, .slice asp nsp csp, .slice als nls cls], .int .i64 x, .int .i64 y] w (Rt fun v w' => (shB wd hi wr Xsp Xls x y = true ∧ ∃ (a1 : Option Addr) (c1 : Nat) (a2 : Option Addr) (c2 : Nat), v = .tuple #[.agg #[.int .i64 wd, .int .i64 hi, .bool wr, .slice a1 ((wd * hi).toNat) c1, .slice a2 ((wd * hi).toNat) c2], .bool true] ∧ New w w' [.ow kF a1 ((wd * hi).toNat) c1 34 (shfS wd hi x y Xsp), .ow kF a2 ((wd * hi).toNat) c2 34 (shfS wd hi x y Xls)]) ∨ (shB wd hi wr Xsp Xls x y = false ∧ v = .tuple #[.agg #[.int .i64 0, .int .i64 0, .bool false, .slice none 0 0, .slice none 0 0], .bool false] ∧ Ext0 w w')) := by
  have hlsp := qsp.len
  have hlls := qls.len
  have B : Bu w no w [.rd kF asp nsp Xsp, .rd kF als nls Xls] := Bu.ro (All.cons qsp (All.cons qls All.nil)) rfl
  refine calls_W (n := 44) Try.func55 rfl rfl (Nat.le_of_ble_eq_true rfl) ?_
  refine W_seq ?_
  refine W_region (by kernel_rfl) ?_
  refine s_k rfl (k_boxN (v := .agg #[.int .i64 wd, .int .i64 hi, .bool wr, .slice asp nsp csp, .slice als nls cls]) (cs := [.int .i64 wd, .int .i64 hi, .bool wr, .slice asp nsp csp, .slice als nls cls]) rfl rfl (fun b1 w2 hN3 => ?_))
  replace B := B.new1 hN3
  clear hN3
  refine s_k rfl (k_allocN (z := (.agg #[.int .i64 0, .int .i64 0, .bool false, .slice none 0 0, .slice none 0 0])) (cs := [.int .i64 0, .int .i64 0, .bool false, .slice none 0 0, .slice none 0 0]) T55.zero_26 rfl (fun b4 w5 hN6 => ?_))
  replace B := B.new1 hN6
  clear hN6
  refine s_y (v := .bool false) rfl (y_assign rfl) ?_
  refine s_nil ?_
  refine W_seq ?_
  refine W_seq ?_
  refine W_region (by kernel_rfl) ?_
  refine s_y (v := .agg #[.int .i64 wd, .int .i64 hi, .bool wr, .slice asp nsp csp, .slice als nls cls]) rfl (y_loadn (b := b1) (o := 0) (vs := [.int .i64 wd, .int .i64 hi, .bool wr, .slice asp nsp csp, .slice als nls cls]) T55.agg_26_5 rfl rfl ((B.b 1 rfl).cells (o := 0) rfl)) ?_
  refine s_y (v := .int .i64 x) rfl (y_move rfl) ?_
  refine s_y (v := .int .i64 y) rfl (y_move rfl) ?_
  refine s_k rfl (k_call T55.fn_109 (c_i_isShift (B.r 2 rfl) (B.r 3 rfl) (by omega) (by omega)) rfl ?_)
  rintro v9 w7 ⟨hv10, e8⟩
  replace B := B.ext0 e8
  clear e8
  by_cases c11 : shB wd hi wr Xsp Xls x y = true
  · have hb12 := shB_b c11
    obtain rfl : v9 = .bool true := hv10.trans (congrArg Value.bool c11)
    refine s_y (v := .bool false) rfl (y_not rfl rfl) ?_
    refine s_nil ?_
    refine W_if_f (by decide) rfl ?_
    refine W_skip ?_
    refine W_seq ?_
    refine W_region (by kernel_rfl) ?_
    refine s_y (v := .agg #[.int .i64 wd, .int .i64 hi, .bool wr, .slice asp nsp csp, .slice als nls cls]) rfl (y_loadn (b := b1) (o := 0) (vs := [.int .i64 wd, .int .i64 hi, .bool wr, .slice asp nsp csp, .slice als nls cls]) T55.agg_26_5 rfl rfl ((B.b 1 rfl).cells (o := 0) rfl)) ?_
    refine s_y (v := .int .i64 x) rfl (y_move rfl) ?_
    refine s_y (v := .int .i64 y) rfl (y_move rfl) ?_
    refine s_k rfl (k_call T55.fn_110 (c_i_backBy) rfl ?_)
    rintro _ w13 ⟨b15, b16, b17, rfl, hN14⟩
    replace B := B.new3 hN14
    clear hN14
    refine s_y (v := .func (.func 134) #[] #[.pointer (some ⟨b15, 0, none⟩), .pointer (some ⟨b16, 0, none⟩), .pointer (some ⟨b17, 0, none⟩)]) rfl (y_assign rfl) ?_
    refine s_nil ?_
    refine W_seq ?_
    have B0_22 := B
    refine W_draw (at1 b4) T55.mx (by kernel_rfl) (fun w20 e21 => ?_)
    have R23 := Ext.refl (at1 b4) w13
    replace R23 := R23.trans (Ext0.any e21)
    replace B := B.ext0 e21
    clear e21
    refine m_y (v := .pointer (some ⟨b1, 0, none⟩)) 0 rfl (by kernel_rfl) rfl rfl (fun w' e' => y_fld (o := 0) T55.fld_26_0_0 rfl) ?_
    refine m_y (v := .int .i64 wd) 1 rfl (by kernel_rfl) rfl rfl (fun w' e' => y_load T55.one_2 rfl ((B0_22.bx 4 3 rfl rfl rfl rfl e' (fun _ h => h)).cell (j := 0) rfl)) ?_
    refine m_y (v := .pointer (some ⟨b1, 1, none⟩)) 2 rfl (by kernel_rfl) rfl rfl (fun w' e' => y_fld (o := 0) T55.fld_26_1_1 rfl) ?_
    refine m_y (v := .int .i64 hi) 3 rfl (by kernel_rfl) rfl rfl (fun w' e' => y_load T55.one_2 rfl ((B0_22.bx 4 3 rfl rfl rfl rfl e' (fun _ h => h)).cell (j := 1) rfl)) ?_
    refine m_y (v := .pointer (some ⟨b1, 2, none⟩)) 4 rfl (by kernel_rfl) rfl rfl (fun w' e' => y_fld (o := 0) T55.fld_26_2_2 rfl) ?_
    refine m_y (v := .bool wr) 5 rfl (by kernel_rfl) rfl rfl (fun w' e' => y_load T55.one_4 rfl ((B0_22.bx 4 3 rfl rfl rfl rfl e' (fun _ h => h)).cell (j := 2) rfl)) ?_
    refine m_y (v := .agg #[.int .i64 wd, .int .i64 hi, .bool wr, .slice asp nsp csp, .slice als nls cls]) 6 rfl (by kernel_rfl) rfl rfl (fun w' e' => y_loadn (b := b1) (o := 0) (vs := [.int .i64 wd, .int .i64 hi, .bool wr, .slice asp nsp csp, .slice als nls cls]) T55.agg_26_5 rfl rfl ((B0_22.bx 4 3 rfl rfl rfl rfl e' (fun _ h => h)).cells (o := 0) rfl)) ?_
    refine m_y (v := .pointer (some ⟨b1, 3, none⟩)) 7 rfl (by kernel_rfl) rfl rfl (fun w' e' => y_fld (o := 0) T55.fld_26_3_3 rfl) ?_
    refine m_y (v := .slice asp nsp csp) 8 rfl (by kernel_rfl) rfl rfl (fun w' e' => y_load T55.one_24 rfl ((B0_22.bx 4 3 rfl rfl rfl rfl e' (fun _ h => h)).cell (j := 3) rfl)) ?_
    refine m_y (v := .pointer (some ⟨b1, 0, none⟩)) 9 rfl (by kernel_rfl) rfl rfl (fun w' e' => y_fld (o := 0) T55.fld_26_0_0 rfl) ?_
    refine m_y (v := .int .i64 wd) 10 rfl (by kernel_rfl) rfl rfl (fun w' e' => y_load T55.one_2 rfl ((B0_22.bx 4 3 rfl rfl rfl rfl e' (fun _ h => h)).cell (j := 0) rfl)) ?_
    refine m_y (v := .pointer (some ⟨b1, 1, none⟩)) 11 rfl (by kernel_rfl) rfl rfl (fun w' e' => y_fld (o := 0) T55.fld_26_1_1 rfl) ?_
    refine m_y (v := .int .i64 hi) 12 rfl (by kernel_rfl) rfl rfl (fun w' e' => y_load T55.one_2 rfl ((B0_22.bx 4 3 rfl rfl rfl rfl e' (fun _ h => h)).cell (j := 1) rfl)) ?_
    refine m_y (v := .func (.func 134) #[] #[.pointer (some ⟨b15, 0, none⟩), .pointer (some ⟨b16, 0, none⟩), .pointer (some ⟨b17, 0, none⟩)]) 13 rfl (by kernel_rfl) rfl rfl (fun w' e' => y_move rfl) ?_
    refine m_y (v := .agg #[.int .i64 wd, .int .i64 hi, .bool wr, .slice asp nsp csp, .slice als nls cls]) 15 rfl (by kernel_rfl) rfl rfl (fun w' e' => y_loadn (b := b1) (o := 0) (vs := [.int .i64 wd, .int .i64 hi, .bool wr, .slice asp nsp csp, .slice als nls cls]) T55.agg_26_5 rfl rfl ((B0_22.bx 4 3 rfl rfl rfl rfl e' (fun _ h => h)).cells (o := 0) rfl)) ?_
    refine m_y (v := .pointer (some ⟨b1, 4, none⟩)) 16 rfl (by kernel_rfl) rfl rfl (fun w' e' => y_fld (o := 0) T55.fld_26_4_4 rfl) ?_
    refine m_y (v := .slice als nls cls) 17 rfl (by kernel_rfl) rfl rfl (fun w' e' => y_load T55.one_24 rfl ((B0_22.bx 4 3 rfl rfl rfl rfl e' (fun _ h => h)).cell (j := 4) rfl)) ?_
    refine m_y (v := .pointer (some ⟨b1, 0, none⟩)) 18 rfl (by kernel_rfl) rfl rfl (fun w' e' => y_fld (o := 0) T55.fld_26_0_0 rfl) ?_
    refine m_y (v := .int .i64 wd) 19 rfl (by kernel_rfl) rfl rfl (fun w' e' => y_load T55.one_2 rfl ((B0_22.bx 4 3 rfl rfl rfl rfl e' (fun _ h => h)).cell (j := 0) rfl)) ?_
    refine m_y (v := .pointer (some ⟨b1, 1, none⟩)) 20 rfl (by kernel_rfl) rfl rfl (fun w' e' => y_fld (o := 0) T55.fld_26_1_1 rfl) ?_
    refine m_y (v := .int .i64 hi) 21 rfl (by kernel_rfl) rfl rfl (fun w' e' => y_load T55.one_2 rfl ((B0_22.bx 4 3 rfl rfl rfl rfl e' (fun _ h => h)).cell (j := 1) rfl)) ?_
    refine m_y (v := .func (.func 134) #[] #[.pointer (some ⟨b15, 0, none⟩), .pointer (some ⟨b16, 0, none⟩), .pointer (some ⟨b17, 0, none⟩)]) 22 rfl (by kernel_rfl) rfl rfl (fun w' e' => y_move rfl) ?_
    refine m_k 14 [23, 24, 25, 26] rfl (by kernel_rfl) rfl rfl (fun w24 e25 => ?_)
    replace R23 := R23.trans (Ext0.any e25)
    replace B := B.ext0 e25
    clear e25
    refine k_call T55.fn_104 (c_i_moved (f := 134) (us := []) (xs := [.pointer (some ⟨b15, 0, none⟩), .pointer (some ⟨b16, 0, none⟩), .pointer (some ⟨b17, 0, none⟩)]) (FU := (fun xq _ => (xq - x + 16 * wd) % wd)) (FV := (fun _ yq => (yq - y + 16 * hi) % hi)) (W := wd) (H := hi) (B.r 5 rfl) T55.fn_134 (fun xq yq w1 he h0 h1 h2 h3 => (c_i_backBy_1 ((B.b 0 rfl).sl.ext0 he) ((B.b 1 rfl).sl.ext0 he) ((B.b 2 rfl).sl.ext0 he) (by omega) (by omega) (by omega) (by omega) (by omega) (by omega) (by omega) (by omega) (by omega) (by omega) (by omega) (by omega))) (fun xq yq h0 h1 h2 h3 => by have p1 := rem_b (x := xq - x + 16 * wd) (m := wd) (by omega) (by omega); have p2 := rem_b (x := yq - y + 16 * hi) (m := hi) (by omega) (by omega); first | omega | (simp only []; omega)) (by omega) (by omega) (by omega) (by omega) (by omega) (by omega) (by omega) (by omega) (by omega)) rfl ?_
    rintro _ w26 ⟨a27, c28, rfl, hN29⟩
    replace R23 := R23.trans (Ext0.any hN29.ext)
    replace B := B.new1 hN29
    clear hN29
    refine ⟨fun _ => R23, ?_⟩
    refine m_k 23 [24, 25, 26] rfl (by kernel_rfl) rfl rfl (fun w30 e31 => ?_)
    replace R23 := R23.trans (Ext0.any e31)
    replace B := B.ext0 e31
    clear e31
    refine k_call T55.fn_104 (c_i_moved (f := 134) (us := []) (xs := [.pointer (some ⟨b15, 0, none⟩), .pointer (some ⟨b16, 0, none⟩), .pointer (some ⟨b17, 0, none⟩)]) (FU := (fun xq _ => (xq - x + 16 * wd) % wd)) (FV := (fun _ yq => (yq - y + 16 * hi) % hi)) (W := wd) (H := hi) (B.r 7 rfl) T55.fn_134 (fun xq yq w1 he h0 h1 h2 h3 => (c_i_backBy_1 ((B.b 1 rfl).sl.ext0 he) ((B.b 2 rfl).sl.ext0 he) ((B.b 3 rfl).sl.ext0 he) (by omega) (by omega) (by omega) (by omega) (by omega) (by omega) (by omega) (by omega) (by omega) (by omega) (by omega) (by omega))) (fun xq yq h0 h1 h2 h3 => by have p1 := rem_b (x := xq - x + 16 * wd) (m := wd) (by omega) (by omega); have p2 := rem_b (x := yq - y + 16 * hi) (m := hi) (by omega) (by omega); first | omega | (simp only []; omega)) (by omega) (by omega) (by omega) (by omega) (by omega) (by omega) (by omega) (by omega) (by omega)) rfl ?_
    rintro _ w32 ⟨a33, c34, rfl, hN35⟩
    replace R23 := R23.trans (Ext0.any hN35.ext)
    replace B := B.new1 hN35
    clear hN35
    refine ⟨fun _ => R23, ?_⟩
    refine m_y (v := .agg #[.int .i64 wd, .int .i64 hi, .bool wr, .slice a27 ((wd * hi).toNat) c28, .slice a33 ((wd * hi).toNat) c34]) 24 rfl (by kernel_rfl) rfl rfl (fun w' e' => y_build (cells := #[.int .i64 wd, .int .i64 hi, .bool wr, .slice a27 ((wd * hi).toNat) c28, .slice a33 ((wd * hi).toNat) c34]) (by kernel_rfl)) ?_
    refine m_k 25 [26] rfl (by kernel_rfl) rfl rfl (fun w38 e39 => ?_)
    replace R23 := R23.trans (Ext0.any e39)
    replace B := B.ext0 e39
    clear e39
    refine k_stB (v := .agg #[.int .i64 wd, .int .i64 hi, .bool wr, .slice a27 ((wd * hi).toNat) c28, .slice a33 ((wd * hi).toNat) c34]) (n := 5) (cs' := [.int .i64 wd, .int .i64 hi, .bool wr, .slice a27 ((wd * hi).toNat) c28, .slice a33 ((wd * hi).toNat) c34]) T55.sz_26_5 rfl rfl rfl (B.b 5 rfl) (by simp [Value.cells, Value.oneCell']) (Nat.le_of_ble_eq_true rfl) rfl (fun w36 hU37 => ?_)
    replace R23 := R23.trans hU37.at1
    replace B : Bu w no w36 [.blk b4 [.int .i64 wd, .int .i64 hi, .bool wr, .slice a27 ((wd * hi).toNat) c28, .slice a33 ((wd * hi).toNat) c34] 26, .ow kF a33 ((wd * hi).toNat) c34 34 (movL wd hi (fun xp yp => atI wd hi ((fun xq _ => (xq - x + 16 * wd) % wd) xp yp) ((fun _ yq => (yq - y + 16 * hi) % hi) xp yp)) Xls), .ow kF a27 ((wd * hi).toNat) c28 34 (movL wd hi (fun xp yp => atI wd hi ((fun xq _ => (xq - x + 16 * wd) % wd) xp yp) ((fun _ yq => (yq - y + 16 * hi) % hi) xp yp)) Xsp), .blk b15 [.int .i64 x] 2, .blk b16 [.int .i64 wd, .int .i64 hi, .bool wr, .slice asp nsp csp, .slice als nls cls] 26, .blk b17 [.int .i64 y] 2, .blk b1 [.int .i64 wd, .int .i64 hi, .bool wr, .slice asp nsp csp, .slice als nls cls] 26, .rd kF asp nsp Xsp, .rd kF als nls Xls] := B.upd [5] rfl hU37
    clear hU37
    refine ⟨fun _ => R23, ?_⟩
    refine m_y (v := .bool true) 26 rfl (by kernel_rfl) rfl rfl (fun w' e' => y_assign rfl) ?_
    refine m_done (by kernel_rfl) (fun w40 e41 => ?_)
    replace B := B.ext0 e41
    clear e41
    clear B0_22 R23
    refine W_ret ?_
    refine ret2 (v1 := .agg #[.int .i64 wd, .int .i64 hi, .bool wr, .slice a27 ((wd * hi).toNat) c28, .slice a33 ((wd * hi).toNat) c34]) (v2 := .bool true) rfl rfl rfl ⟨_, [.int .i64 wd, .int .i64 hi, .bool wr, .slice a27 ((wd * hi).toNat) c28, .slice a33 ((wd * hi).toNat) c34], _, rfl, (B.b 0 rfl), T55.agg_26_5, rfl⟩ rfl ⟨_, rfl, ?_⟩
    have hcond : shB wd hi wr Xsp Xls x y = true := by simp only [c11, Bool.and_true, Bool.true_and, Bool.and_false, Bool.false_and, Bool.not_true, Bool.not_false, Bool.or_true, Bool.true_or, Bool.or_false, Bool.false_or]
    replace B : Bu w no w40 [.blk b4 [.int .i64 wd, .int .i64 hi, .bool wr, .slice a27 ((wd * hi).toNat) c28, .slice a33 ((wd * hi).toNat) c34] 26, .ow kF a33 ((wd * hi).toNat) c34 34 (movL wd hi (fun xp yp => atI wd hi ((fun xq _ => (xq - x + 16 * wd) % wd) xp yp) ((fun _ yq => (yq - y + 16 * hi) % hi) xp yp)) Xls), .ow kF a27 ((wd * hi).toNat) c28 34 (shfS wd hi x y Xsp), .blk b15 [.int .i64 x] 2, .blk b16 [.int .i64 wd, .int .i64 hi, .bool wr, .slice asp nsp csp, .slice als nls cls] 26, .blk b17 [.int .i64 y] 2, .blk b1 [.int .i64 wd, .int .i64 hi, .bool wr, .slice asp nsp csp, .slice als nls cls] 26, .rd kF asp nsp Xsp, .rd kF als nls Xls] := B.castX 2 rfl rfl (shf_i (by omega) (by omega))
    replace B : Bu w no w40 [.blk b4 [.int .i64 wd, .int .i64 hi, .bool wr, .slice a27 ((wd * hi).toNat) c28, .slice a33 ((wd * hi).toNat) c34] 26, .ow kF a33 ((wd * hi).toNat) c34 34 (shfS wd hi x y Xls), .ow kF a27 ((wd * hi).toNat) c28 34 (shfS wd hi x y Xsp), .blk b15 [.int .i64 x] 2, .blk b16 [.int .i64 wd, .int .i64 hi, .bool wr, .slice asp nsp csp, .slice als nls cls] 26, .blk b17 [.int .i64 y] 2, .blk b1 [.int .i64 wd, .int .i64 hi, .bool wr, .slice asp nsp csp, .slice als nls cls] 26, .rd kF asp nsp Xsp, .rd kF als nls Xls] := B.castX 1 rfl rfl (shf_i (by omega) (by omega))
    exact .inl ⟨hcond, ⟨_, _, _, _, rfl, B.give [2, 1] rfl rfl rfl⟩⟩
  · obtain rfl : v9 = .bool false := hv10.trans (congrArg Value.bool (Bool.eq_false_iff.2 c11))
    refine s_y (v := .bool true) rfl (y_not rfl rfl) ?_
    refine s_nil ?_
    refine W_if_t (by decide) rfl ?_
    refine W_seq ?_
    refine W_region (by kernel_rfl) ?_
    refine s_y (v := .agg #[.int .i64 0, .int .i64 0, .bool false, .slice none 0 0, .slice none 0 0]) rfl (y_build (cells := #[.int .i64 0, .int .i64 0, .bool false, .slice none 0 0, .slice none 0 0]) (by kernel_rfl)) ?_
    refine s_k0 rfl (k_stB (v := .agg #[.int .i64 0, .int .i64 0, .bool false, .slice none 0 0, .slice none 0 0]) (n := 5) (cs' := [.int .i64 0, .int .i64 0, .bool false, .slice none 0 0, .slice none 0 0]) T55.sz_26_5 rfl rfl rfl (B.b 0 rfl) (by simp [Value.cells, Value.oneCell']) (Nat.le_of_ble_eq_true rfl) rfl (fun w42 hU43 => ?_))
    replace B : Bu w no w42 [.blk b4 [.int .i64 0, .int .i64 0, .bool false, .slice none 0 0, .slice none 0 0] 26, .blk b1 [.int .i64 wd, .int .i64 hi, .bool wr, .slice asp nsp csp, .slice als nls cls] 26, .rd kF asp nsp Xsp, .rd kF als nls Xls] := B.upd [0] rfl hU43
    clear hU43
    refine s_y (v := .bool false) rfl (y_assign rfl) ?_
    refine s_nil ?_
    refine W_ret ?_
    refine ret2 (v1 := .agg #[.int .i64 0, .int .i64 0, .bool false, .slice none 0 0, .slice none 0 0]) (v2 := .bool false) rfl rfl rfl ⟨_, [.int .i64 0, .int .i64 0, .bool false, .slice none 0 0, .slice none 0 0], _, rfl, (B.b 0 rfl), T55.agg_26_5, rfl⟩ rfl ⟨_, rfl, ?_⟩
    exact .inr ⟨by simp only [(Bool.eq_false_iff.2 c11), Bool.and_true, Bool.true_and, Bool.and_false, Bool.false_and, Bool.not_true, Bool.not_false, Bool.or_true, Bool.true_or, Bool.or_false, Bool.false_or], rfl, B.ext⟩
namespace T56
theorem mx : Try.prog.follows .mixedOrders = true := by kernel_rfl
theorem agg_26_5 : aggB Try.prog 26 5 = true := by kernel_rfl
theorem agg_30_3 : aggB Try.prog 30 3 = true := by kernel_rfl
theorem fld_26_0_0 : fldB Try.prog 26 0 0 = true := by kernel_rfl
theorem fld_26_1_1 : fldB Try.prog 26 1 1 = true := by kernel_rfl
theorem fld_30_0_0 : fldB Try.prog 30 0 0 = true := by kernel_rfl
theorem fld_30_1_1 : fldB Try.prog 30 1 1 = true := by kernel_rfl
theorem fld_30_2_2 : fldB Try.prog 30 2 2 = true := by kernel_rfl
theorem fn_104 : fnB Try.prog 104 = true := by kernel_rfl
theorem fn_109 : fnB Try.prog 109 = true := by kernel_rfl
theorem fn_110 : fnB Try.prog 110 = true := by kernel_rfl
theorem fn_134 : fnB Try.prog 134 = true := by kernel_rfl
theorem fn_41 : fnB Try.prog 41 = true := by kernel_rfl
theorem one_2 : oneB Try.prog 2 = true := by kernel_rfl
theorem one_24 : oneB Try.prog 24 = true := by kernel_rfl
theorem sz_30_3 : szB Try.prog 30 3 = true := by kernel_rfl
theorem zero_30 : zeroB Try.prog 30 (.agg #[.slice none 0 0, .slice none 0 0, .slice none 0 0]) := by unfold zeroB; kernel_rfl
end T56
set_option maxRecDepth 100000 in
set_option maxHeartbeats 4000000 in
theorem c_i_ShiftField {wd : Int} {hi : Int} {wr : Bool} {asp : Option Addr} {nsp : Nat} {csp : Nat} {Xsp : List Nat} {als : Option Addr} {nls : Nat} {cls : Nat} {Xls : List Nat} {afe : Option Addr} {nfe : Nat} {cfe : Nat} {Xfe : List Nat} {afx : Option Addr} {nfx : Nat} {cfx : Nat} {Xfx : List Nat} {afy : Option Addr} {nfy : Nat} {cfy : Nat} {Xfy : List Nat} {x : Int} {y : Int} {w : World} (qsp : Rd w kF asp nsp Xsp) (qls : Rd w kF als nls Xls) (qfe : Rd w kF afe nfe Xfe) (qfx : Rd w kF afx nfx Xfx) (qfy : Rd w kF afy nfy Xfy) (hbsp : nsp ≤ 9223372036854775806) (hbls : nls ≤ 9223372036854775806) (hbfe : nfe ≤ 9223372036854775806) (hbfx : nfx ≤ 9223372036854775806) (hbfy : nfy ≤ 9223372036854775806) :
    Calls Try.prog 56 #[.agg #[.int .i64 wd, .int .i64 hi, .bool wr, .slice asp nsp csp, .slice als nls cls], .agg #[.slice afe nfe cfe, .slice afx nfx cfx, .slice afy nfy cfy], .int .i64 x, .int .i64 y] w (Rt fun v w' => (shfB wd hi wr Xsp Xls Xfe Xfx Xfy x y = true ∧ ∃ (a1 : Option Addr) (c1 : Nat) (a2 : Option Addr) (c2 : Nat) (a3 : Option Addr) (c3 : Nat), v = .tuple #[.agg #[.slice a1 ((wd * hi).toNat) c1, .slice a2 ((wd * hi).toNat) c2, .slice a3 ((wd * hi).toNat) c3], .bool true] ∧ New w w' [.ow kF a1 ((wd * hi).toNat) c1 34 (shfS wd hi x y Xfe), .ow kF a2 ((wd * hi).toNat) c2 34 (shfS wd hi x y Xfx), .ow kF a3 ((wd * hi).toNat) c3 34 (shfS wd hi x y Xfy)]) ∨ (shfB wd hi wr Xsp Xls Xfe Xfx Xfy x y = false ∧ v = .tuple #[.agg #[.slice none 0 0, .slice none 0 0, .slice none 0 0], .bool false] ∧ Ext0 w w')) := by
  have hlsp := qsp.len
  have hlls := qls.len
  have hlfe := qfe.len
  have hlfx := qfx.len
  have hlfy := qfy.len
  have B : Bu w no w [.rd kF asp nsp Xsp, .rd kF als nls Xls, .rd kF afe nfe Xfe, .rd kF afx nfx Xfx, .rd kF afy nfy Xfy] := Bu.ro (All.cons qsp (All.cons qls (All.cons qfe (All.cons qfx (All.cons qfy All.nil))))) rfl
  refine calls_W (n := 55) Try.func56 rfl rfl (Nat.le_of_ble_eq_true rfl) ?_
  refine W_seq ?_
  refine W_region (by kernel_rfl) ?_
  refine s_k rfl (k_boxN (v := .agg #[.int .i64 wd, .int .i64 hi, .bool wr, .slice asp nsp csp, .slice als nls cls]) (cs := [.int .i64 wd, .int .i64 hi, .bool wr, .slice asp nsp csp, .slice als nls cls]) rfl rfl (fun b1 w2 hN3 => ?_))
  replace B := B.new1 hN3
  clear hN3
  refine s_k rfl (k_boxN (v := .agg #[.slice afe nfe cfe, .slice afx nfx cfx, .slice afy nfy cfy]) (cs := [.slice afe nfe cfe, .slice afx nfx cfx, .slice afy nfy cfy]) rfl rfl (fun b4 w5 hN6 => ?_))
  replace B := B.new1 hN6
  clear hN6
  refine s_k rfl (k_allocN (z := (.agg #[.slice none 0 0, .slice none 0 0, .slice none 0 0])) (cs := [.slice none 0 0, .slice none 0 0, .slice none 0 0]) T56.zero_30 rfl (fun b7 w8 hN9 => ?_))
  replace B := B.new1 hN9
  clear hN9
  refine s_y (v := .bool false) rfl (y_assign rfl) ?_
  refine s_nil ?_
  refine W_seq ?_
  refine W_seq ?_
  refine W_region (by kernel_rfl) ?_
  refine s_y (v := .agg #[.int .i64 wd, .int .i64 hi, .bool wr, .slice asp nsp csp, .slice als nls cls]) rfl (y_loadn (b := b1) (o := 0) (vs := [.int .i64 wd, .int .i64 hi, .bool wr, .slice asp nsp csp, .slice als nls cls]) T56.agg_26_5 rfl rfl ((B.b 2 rfl).cells (o := 0) rfl)) ?_
  refine s_y (v := .int .i64 x) rfl (y_move rfl) ?_
  refine s_y (v := .int .i64 y) rfl (y_move rfl) ?_
  refine s_k rfl (k_call T56.fn_109 (c_i_isShift (B.r 3 rfl) (B.r 4 rfl) (by omega) (by omega)) rfl ?_)
  rintro v12 w10 ⟨hv13, e11⟩
  replace B := B.ext0 e11
  clear e11
  by_cases c14 : shB wd hi wr Xsp Xls x y = true
  · have hb15 := shB_b c14
    obtain rfl : v12 = .bool true := hv13.trans (congrArg Value.bool c14)
    refine s_y (v := .bool false) rfl (y_not rfl rfl) ?_
    refine s_y (v := .bool false) rfl (y_move rfl) ?_
    refine s_y (v := .agg #[.int .i64 wd, .int .i64 hi, .bool wr, .slice asp nsp csp, .slice als nls cls]) rfl (y_loadn (b := b1) (o := 0) (vs := [.int .i64 wd, .int .i64 hi, .bool wr, .slice asp nsp csp, .slice als nls cls]) T56.agg_26_5 rfl rfl ((B.b 2 rfl).cells (o := 0) rfl)) ?_
    refine s_y (v := .agg #[.slice afe nfe cfe, .slice afx nfx cfx, .slice afy nfy cfy]) rfl (y_loadn (b := b4) (o := 0) (vs := [.slice afe nfe cfe, .slice afx nfx cfx, .slice afy nfy cfy]) T56.agg_30_3 rfl rfl ((B.b 1 rfl).cells (o := 0) rfl)) ?_
    refine s_k rfl (k_call T56.fn_41 (c_i_IsField (B.r 3 rfl) (B.r 4 rfl) (B.r 5 rfl) (B.r 6 rfl) (B.r 7 rfl) (by omega) (by omega) (by omega) (by omega) (by omega)) rfl ?_)
    rintro v18 w16 ⟨hv19, e17⟩
    replace B := B.ext0 e17
    clear e17
    by_cases c20 : fieldB wd hi wr Xsp Xls Xfe Xfx Xfy = true
    · have hb21 := fieldB_b c20
      obtain rfl : v18 = .bool true := hv19.trans (congrArg Value.bool c20)
      refine s_y (v := .bool false) rfl (y_not rfl rfl) ?_
      refine s_y (v := .bool false) rfl (y_pick_f rfl rfl) ?_
      refine s_nil ?_
      refine W_if_f (by decide) rfl ?_
      refine W_skip ?_
      refine W_seq ?_
      refine W_region (by kernel_rfl) ?_
      refine s_y (v := .agg #[.int .i64 wd, .int .i64 hi, .bool wr, .slice asp nsp csp, .slice als nls cls]) rfl (y_loadn (b := b1) (o := 0) (vs := [.int .i64 wd, .int .i64 hi, .bool wr, .slice asp nsp csp, .slice als nls cls]) T56.agg_26_5 rfl rfl ((B.b 2 rfl).cells (o := 0) rfl)) ?_
      refine s_y (v := .int .i64 x) rfl (y_move rfl) ?_
      refine s_y (v := .int .i64 y) rfl (y_move rfl) ?_
      refine s_k rfl (k_call T56.fn_110 (c_i_backBy) rfl ?_)
      rintro _ w22 ⟨b24, b25, b26, rfl, hN23⟩
      replace B := B.new3 hN23
      clear hN23
      refine s_y (v := .func (.func 134) #[] #[.pointer (some ⟨b24, 0, none⟩), .pointer (some ⟨b25, 0, none⟩), .pointer (some ⟨b26, 0, none⟩)]) rfl (y_assign rfl) ?_
      refine s_nil ?_
      refine W_seq ?_
      have B0_31 := B
      refine W_draw (at1 b7) T56.mx (by kernel_rfl) (fun w29 e30 => ?_)
      have R32 := Ext.refl (at1 b7) w22
      replace R32 := R32.trans (Ext0.any e30)
      replace B := B.ext0 e30
      clear e30
      refine m_y (v := .agg #[.int .i64 wd, .int .i64 hi, .bool wr, .slice asp nsp csp, .slice als nls cls]) 0 rfl (by kernel_rfl) rfl rfl (fun w' e' => y_loadn (b := b1) (o := 0) (vs := [.int .i64 wd, .int .i64 hi, .bool wr, .slice asp nsp csp, .slice als nls cls]) T56.agg_26_5 rfl rfl ((B0_31.bx 5 3 rfl rfl rfl rfl e' (fun _ h => h)).cells (o := 0) rfl)) ?_
      refine m_y (v := .pointer (some ⟨b4, 0, none⟩)) 1 rfl (by kernel_rfl) rfl rfl (fun w' e' => y_fld (o := 0) T56.fld_30_0_0 rfl) ?_
      refine m_y (v := .slice afe nfe cfe) 2 rfl (by kernel_rfl) rfl rfl (fun w' e' => y_load T56.one_24 rfl ((B0_31.bx 4 3 rfl rfl rfl rfl e' (fun _ h => h)).cell (j := 0) rfl)) ?_
      refine m_y (v := .pointer (some ⟨b1, 0, none⟩)) 3 rfl (by kernel_rfl) rfl rfl (fun w' e' => y_fld (o := 0) T56.fld_26_0_0 rfl) ?_
      refine m_y (v := .int .i64 wd) 4 rfl (by kernel_rfl) rfl rfl (fun w' e' => y_load T56.one_2 rfl ((B0_31.bx 5 3 rfl rfl rfl rfl e' (fun _ h => h)).cell (j := 0) rfl)) ?_
      refine m_y (v := .pointer (some ⟨b1, 1, none⟩)) 5 rfl (by kernel_rfl) rfl rfl (fun w' e' => y_fld (o := 0) T56.fld_26_1_1 rfl) ?_
      refine m_y (v := .int .i64 hi) 6 rfl (by kernel_rfl) rfl rfl (fun w' e' => y_load T56.one_2 rfl ((B0_31.bx 5 3 rfl rfl rfl rfl e' (fun _ h => h)).cell (j := 1) rfl)) ?_
      refine m_y (v := .func (.func 134) #[] #[.pointer (some ⟨b24, 0, none⟩), .pointer (some ⟨b25, 0, none⟩), .pointer (some ⟨b26, 0, none⟩)]) 7 rfl (by kernel_rfl) rfl rfl (fun w' e' => y_move rfl) ?_
      refine m_y (v := .agg #[.int .i64 wd, .int .i64 hi, .bool wr, .slice asp nsp csp, .slice als nls cls]) 9 rfl (by kernel_rfl) rfl rfl (fun w' e' => y_loadn (b := b1) (o := 0) (vs := [.int .i64 wd, .int .i64 hi, .bool wr, .slice asp nsp csp, .slice als nls cls]) T56.agg_26_5 rfl rfl ((B0_31.bx 5 3 rfl rfl rfl rfl e' (fun _ h => h)).cells (o := 0) rfl)) ?_
      refine m_y (v := .pointer (some ⟨b4, 1, none⟩)) 10 rfl (by kernel_rfl) rfl rfl (fun w' e' => y_fld (o := 0) T56.fld_30_1_1 rfl) ?_
      refine m_y (v := .slice afx nfx cfx) 11 rfl (by kernel_rfl) rfl rfl (fun w' e' => y_load T56.one_24 rfl ((B0_31.bx 4 3 rfl rfl rfl rfl e' (fun _ h => h)).cell (j := 1) rfl)) ?_
      refine m_y (v := .pointer (some ⟨b1, 0, none⟩)) 12 rfl (by kernel_rfl) rfl rfl (fun w' e' => y_fld (o := 0) T56.fld_26_0_0 rfl) ?_
      refine m_y (v := .int .i64 wd) 13 rfl (by kernel_rfl) rfl rfl (fun w' e' => y_load T56.one_2 rfl ((B0_31.bx 5 3 rfl rfl rfl rfl e' (fun _ h => h)).cell (j := 0) rfl)) ?_
      refine m_y (v := .pointer (some ⟨b1, 1, none⟩)) 14 rfl (by kernel_rfl) rfl rfl (fun w' e' => y_fld (o := 0) T56.fld_26_1_1 rfl) ?_
      refine m_y (v := .int .i64 hi) 15 rfl (by kernel_rfl) rfl rfl (fun w' e' => y_load T56.one_2 rfl ((B0_31.bx 5 3 rfl rfl rfl rfl e' (fun _ h => h)).cell (j := 1) rfl)) ?_
      refine m_y (v := .func (.func 134) #[] #[.pointer (some ⟨b24, 0, none⟩), .pointer (some ⟨b25, 0, none⟩), .pointer (some ⟨b26, 0, none⟩)]) 16 rfl (by kernel_rfl) rfl rfl (fun w' e' => y_move rfl) ?_
      refine m_y (v := .agg #[.int .i64 wd, .int .i64 hi, .bool wr, .slice asp nsp csp, .slice als nls cls]) 18 rfl (by kernel_rfl) rfl rfl (fun w' e' => y_loadn (b := b1) (o := 0) (vs := [.int .i64 wd, .int .i64 hi, .bool wr, .slice asp nsp csp, .slice als nls cls]) T56.agg_26_5 rfl rfl ((B0_31.bx 5 3 rfl rfl rfl rfl e' (fun _ h => h)).cells (o := 0) rfl)) ?_
      refine m_y (v := .pointer (some ⟨b4, 2, none⟩)) 19 rfl (by kernel_rfl) rfl rfl (fun w' e' => y_fld (o := 0) T56.fld_30_2_2 rfl) ?_
      refine m_y (v := .slice afy nfy cfy) 20 rfl (by kernel_rfl) rfl rfl (fun w' e' => y_load T56.one_24 rfl ((B0_31.bx 4 3 rfl rfl rfl rfl e' (fun _ h => h)).cell (j := 2) rfl)) ?_
      refine m_y (v := .pointer (some ⟨b1, 0, none⟩)) 21 rfl (by kernel_rfl) rfl rfl (fun w' e' => y_fld (o := 0) T56.fld_26_0_0 rfl) ?_
      refine m_y (v := .int .i64 wd) 22 rfl (by kernel_rfl) rfl rfl (fun w' e' => y_load T56.one_2 rfl ((B0_31.bx 5 3 rfl rfl rfl rfl e' (fun _ h => h)).cell (j := 0) rfl)) ?_
      refine m_y (v := .pointer (some ⟨b1, 1, none⟩)) 23 rfl (by kernel_rfl) rfl rfl (fun w' e' => y_fld (o := 0) T56.fld_26_1_1 rfl) ?_
      refine m_y (v := .int .i64 hi) 24 rfl (by kernel_rfl) rfl rfl (fun w' e' => y_load T56.one_2 rfl ((B0_31.bx 5 3 rfl rfl rfl rfl e' (fun _ h => h)).cell (j := 1) rfl)) ?_
      refine m_y (v := .func (.func 134) #[] #[.pointer (some ⟨b24, 0, none⟩), .pointer (some ⟨b25, 0, none⟩), .pointer (some ⟨b26, 0, none⟩)]) 25 rfl (by kernel_rfl) rfl rfl (fun w' e' => y_move rfl) ?_
      refine m_k 8 [17, 26, 27, 28, 29] rfl (by kernel_rfl) rfl rfl (fun w33 e34 => ?_)
      replace R32 := R32.trans (Ext0.any e34)
      replace B := B.ext0 e34
      clear e34
      refine k_call T56.fn_104 (c_i_moved (f := 134) (us := []) (xs := [.pointer (some ⟨b24, 0, none⟩), .pointer (some ⟨b25, 0, none⟩), .pointer (some ⟨b26, 0, none⟩)]) (FU := (fun xq _ => (xq - x + 16 * wd) % wd)) (FV := (fun _ yq => (yq - y + 16 * hi) % hi)) (W := wd) (H := hi) (B.r 8 rfl) T56.fn_134 (fun xq yq w1 he h0 h1 h2 h3 => (c_i_backBy_1 ((B.b 0 rfl).sl.ext0 he) ((B.b 1 rfl).sl.ext0 he) ((B.b 2 rfl).sl.ext0 he) (by omega) (by omega) (by omega) (by omega) (by omega) (by omega) (by omega) (by omega) (by omega) (by omega) (by omega) (by omega))) (fun xq yq h0 h1 h2 h3 => by have p1 := rem_b (x := xq - x + 16 * wd) (m := wd) (by omega) (by omega); have p2 := rem_b (x := yq - y + 16 * hi) (m := hi) (by omega) (by omega); first | omega | (simp only []; omega)) (by omega) (by omega) (by omega) (by omega) (by omega) (by omega) (by omega) (by omega) (by omega)) rfl ?_
      rintro _ w35 ⟨a36, c37, rfl, hN38⟩
      replace R32 := R32.trans (Ext0.any hN38.ext)
      replace B := B.new1 hN38
      clear hN38
      refine ⟨fun _ => R32, ?_⟩
      refine m_k 17 [26, 27, 28, 29] rfl (by kernel_rfl) rfl rfl (fun w39 e40 => ?_)
      replace R32 := R32.trans (Ext0.any e40)
      replace B := B.ext0 e40
      clear e40
      refine k_call T56.fn_104 (c_i_moved (f := 134) (us := []) (xs := [.pointer (some ⟨b24, 0, none⟩), .pointer (some ⟨b25, 0, none⟩), .pointer (some ⟨b26, 0, none⟩)]) (FU := (fun xq _ => (xq - x + 16 * wd) % wd)) (FV := (fun _ yq => (yq - y + 16 * hi) % hi)) (W := wd) (H := hi) (B.r 10 rfl) T56.fn_134 (fun xq yq w1 he h0 h1 h2 h3 => (c_i_backBy_1 ((B.b 1 rfl).sl.ext0 he) ((B.b 2 rfl).sl.ext0 he) ((B.b 3 rfl).sl.ext0 he) (by omega) (by omega) (by omega) (by omega) (by omega) (by omega) (by omega) (by omega) (by omega) (by omega) (by omega) (by omega))) (fun xq yq h0 h1 h2 h3 => by have p1 := rem_b (x := xq - x + 16 * wd) (m := wd) (by omega) (by omega); have p2 := rem_b (x := yq - y + 16 * hi) (m := hi) (by omega) (by omega); first | omega | (simp only []; omega)) (by omega) (by omega) (by omega) (by omega) (by omega) (by omega) (by omega) (by omega) (by omega)) rfl ?_
      rintro _ w41 ⟨a42, c43, rfl, hN44⟩
      replace R32 := R32.trans (Ext0.any hN44.ext)
      replace B := B.new1 hN44
      clear hN44
      refine ⟨fun _ => R32, ?_⟩
      refine m_k 26 [27, 28, 29] rfl (by kernel_rfl) rfl rfl (fun w45 e46 => ?_)
      replace R32 := R32.trans (Ext0.any e46)
      replace B := B.ext0 e46
      clear e46
      refine k_call T56.fn_104 (c_i_moved (f := 134) (us := []) (xs := [.pointer (some ⟨b24, 0, none⟩), .pointer (some ⟨b25, 0, none⟩), .pointer (some ⟨b26, 0, none⟩)]) (FU := (fun xq _ => (xq - x + 16 * wd) % wd)) (FV := (fun _ yq => (yq - y + 16 * hi) % hi)) (W := wd) (H := hi) (B.r 12 rfl) T56.fn_134 (fun xq yq w1 he h0 h1 h2 h3 => (c_i_backBy_1 ((B.b 2 rfl).sl.ext0 he) ((B.b 3 rfl).sl.ext0 he) ((B.b 4 rfl).sl.ext0 he) (by omega) (by omega) (by omega) (by omega) (by omega) (by omega) (by omega) (by omega) (by omega) (by omega) (by omega) (by omega))) (fun xq yq h0 h1 h2 h3 => by have p1 := rem_b (x := xq - x + 16 * wd) (m := wd) (by omega) (by omega); have p2 := rem_b (x := yq - y + 16 * hi) (m := hi) (by omega) (by omega); first | omega | (simp only []; omega)) (by omega) (by omega) (by omega) (by omega) (by omega) (by omega) (by omega) (by omega) (by omega)) rfl ?_
      rintro _ w47 ⟨a48, c49, rfl, hN50⟩
      replace R32 := R32.trans (Ext0.any hN50.ext)
      replace B := B.new1 hN50
      clear hN50
      refine ⟨fun _ => R32, ?_⟩
      refine m_y (v := .agg #[.slice a36 ((wd * hi).toNat) c37, .slice a42 ((wd * hi).toNat) c43, .slice a48 ((wd * hi).toNat) c49]) 27 rfl (by kernel_rfl) rfl rfl (fun w' e' => y_build (cells := #[.slice a36 ((wd * hi).toNat) c37, .slice a42 ((wd * hi).toNat) c43, .slice a48 ((wd * hi).toNat) c49]) (by kernel_rfl)) ?_
      refine m_k 28 [29] rfl (by kernel_rfl) rfl rfl (fun w53 e54 => ?_)
      replace R32 := R32.trans (Ext0.any e54)
      replace B := B.ext0 e54
      clear e54
      refine k_stB (v := .agg #[.slice a36 ((wd * hi).toNat) c37, .slice a42 ((wd * hi).toNat) c43, .slice a48 ((wd * hi).toNat) c49]) (n := 3) (cs' := [.slice a36 ((wd * hi).toNat) c37, .slice a42 ((wd * hi).toNat) c43, .slice a48 ((wd * hi).toNat) c49]) T56.sz_30_3 rfl rfl rfl (B.b 6 rfl) (by simp [Value.cells, Value.oneCell']) (Nat.le_of_ble_eq_true rfl) rfl (fun w51 hU52 => ?_)
      replace R32 := R32.trans hU52.at1
      replace B : Bu w no w51 [.blk b7 [.slice a36 ((wd * hi).toNat) c37, .slice a42 ((wd * hi).toNat) c43, .slice a48 ((wd * hi).toNat) c49] 30, .ow kF a48 ((wd * hi).toNat) c49 34 (movL wd hi (fun xp yp => atI wd hi ((fun xq _ => (xq - x + 16 * wd) % wd) xp yp) ((fun _ yq => (yq - y + 16 * hi) % hi) xp yp)) Xfy), .ow kF a42 ((wd * hi).toNat) c43 34 (movL wd hi (fun xp yp => atI wd hi ((fun xq _ => (xq - x + 16 * wd) % wd) xp yp) ((fun _ yq => (yq - y + 16 * hi) % hi) xp yp)) Xfx), .ow kF a36 ((wd * hi).toNat) c37 34 (movL wd hi (fun xp yp => atI wd hi ((fun xq _ => (xq - x + 16 * wd) % wd) xp yp) ((fun _ yq => (yq - y + 16 * hi) % hi) xp yp)) Xfe), .blk b24 [.int .i64 x] 2, .blk b25 [.int .i64 wd, .int .i64 hi, .bool wr, .slice asp nsp csp, .slice als nls cls] 26, .blk b26 [.int .i64 y] 2, .blk b4 [.slice afe nfe cfe, .slice afx nfx cfx, .slice afy nfy cfy] 30, .blk b1 [.int .i64 wd, .int .i64 hi, .bool wr, .slice asp nsp csp, .slice als nls cls] 26, .rd kF asp nsp Xsp, .rd kF als nls Xls, .rd kF afe nfe Xfe, .rd kF afx nfx Xfx, .rd kF afy nfy Xfy] := B.upd [6] rfl hU52
      clear hU52
      refine ⟨fun _ => R32, ?_⟩
      refine m_y (v := .bool true) 29 rfl (by kernel_rfl) rfl rfl (fun w' e' => y_assign rfl) ?_
      refine m_done (by kernel_rfl) (fun w55 e56 => ?_)
      replace B := B.ext0 e56
      clear e56
      clear B0_31 R32
      refine W_ret ?_
      refine ret2 (v1 := .agg #[.slice a36 ((wd * hi).toNat) c37, .slice a42 ((wd * hi).toNat) c43, .slice a48 ((wd * hi).toNat) c49]) (v2 := .bool true) rfl rfl rfl ⟨_, [.slice a36 ((wd * hi).toNat) c37, .slice a42 ((wd * hi).toNat) c43, .slice a48 ((wd * hi).toNat) c49], _, rfl, (B.b 0 rfl), T56.agg_30_3, rfl⟩ rfl ⟨_, rfl, ?_⟩
      have hcond : shfB wd hi wr Xsp Xls Xfe Xfx Xfy x y = true := by simp only [shfB, c14, c20, Bool.and_true, Bool.true_and, Bool.and_false, Bool.false_and, Bool.not_true, Bool.not_false, Bool.or_true, Bool.true_or, Bool.or_false, Bool.false_or]
      replace B : Bu w no w55 [.blk b7 [.slice a36 ((wd * hi).toNat) c37, .slice a42 ((wd * hi).toNat) c43, .slice a48 ((wd * hi).toNat) c49] 30, .ow kF a48 ((wd * hi).toNat) c49 34 (movL wd hi (fun xp yp => atI wd hi ((fun xq _ => (xq - x + 16 * wd) % wd) xp yp) ((fun _ yq => (yq - y + 16 * hi) % hi) xp yp)) Xfy), .ow kF a42 ((wd * hi).toNat) c43 34 (movL wd hi (fun xp yp => atI wd hi ((fun xq _ => (xq - x + 16 * wd) % wd) xp yp) ((fun _ yq => (yq - y + 16 * hi) % hi) xp yp)) Xfx), .ow kF a36 ((wd * hi).toNat) c37 34 (shfS wd hi x y Xfe), .blk b24 [.int .i64 x] 2, .blk b25 [.int .i64 wd, .int .i64 hi, .bool wr, .slice asp nsp csp, .slice als nls cls] 26, .blk b26 [.int .i64 y] 2, .blk b4 [.slice afe nfe cfe, .slice afx nfx cfx, .slice afy nfy cfy] 30, .blk b1 [.int .i64 wd, .int .i64 hi, .bool wr, .slice asp nsp csp, .slice als nls cls] 26, .rd kF asp nsp Xsp, .rd kF als nls Xls, .rd kF afe nfe Xfe, .rd kF afx nfx Xfx, .rd kF afy nfy Xfy] := B.castX 3 rfl rfl (shf_i (by omega) (by omega))
      replace B : Bu w no w55 [.blk b7 [.slice a36 ((wd * hi).toNat) c37, .slice a42 ((wd * hi).toNat) c43, .slice a48 ((wd * hi).toNat) c49] 30, .ow kF a48 ((wd * hi).toNat) c49 34 (movL wd hi (fun xp yp => atI wd hi ((fun xq _ => (xq - x + 16 * wd) % wd) xp yp) ((fun _ yq => (yq - y + 16 * hi) % hi) xp yp)) Xfy), .ow kF a42 ((wd * hi).toNat) c43 34 (shfS wd hi x y Xfx), .ow kF a36 ((wd * hi).toNat) c37 34 (shfS wd hi x y Xfe), .blk b24 [.int .i64 x] 2, .blk b25 [.int .i64 wd, .int .i64 hi, .bool wr, .slice asp nsp csp, .slice als nls cls] 26, .blk b26 [.int .i64 y] 2, .blk b4 [.slice afe nfe cfe, .slice afx nfx cfx, .slice afy nfy cfy] 30, .blk b1 [.int .i64 wd, .int .i64 hi, .bool wr, .slice asp nsp csp, .slice als nls cls] 26, .rd kF asp nsp Xsp, .rd kF als nls Xls, .rd kF afe nfe Xfe, .rd kF afx nfx Xfx, .rd kF afy nfy Xfy] := B.castX 2 rfl rfl (shf_i (by omega) (by omega))
      replace B : Bu w no w55 [.blk b7 [.slice a36 ((wd * hi).toNat) c37, .slice a42 ((wd * hi).toNat) c43, .slice a48 ((wd * hi).toNat) c49] 30, .ow kF a48 ((wd * hi).toNat) c49 34 (shfS wd hi x y Xfy), .ow kF a42 ((wd * hi).toNat) c43 34 (shfS wd hi x y Xfx), .ow kF a36 ((wd * hi).toNat) c37 34 (shfS wd hi x y Xfe), .blk b24 [.int .i64 x] 2, .blk b25 [.int .i64 wd, .int .i64 hi, .bool wr, .slice asp nsp csp, .slice als nls cls] 26, .blk b26 [.int .i64 y] 2, .blk b4 [.slice afe nfe cfe, .slice afx nfx cfx, .slice afy nfy cfy] 30, .blk b1 [.int .i64 wd, .int .i64 hi, .bool wr, .slice asp nsp csp, .slice als nls cls] 26, .rd kF asp nsp Xsp, .rd kF als nls Xls, .rd kF afe nfe Xfe, .rd kF afx nfx Xfx, .rd kF afy nfy Xfy] := B.castX 1 rfl rfl (shf_i (by omega) (by omega))
      exact .inl ⟨hcond, ⟨_, _, _, _, _, _, rfl, B.give [3, 2, 1] rfl rfl rfl⟩⟩
    · obtain rfl : v18 = .bool false := hv19.trans (congrArg Value.bool (Bool.eq_false_iff.2 c20))
      refine s_y (v := .bool true) rfl (y_not rfl rfl) ?_
      refine s_y (v := .bool true) rfl (y_pick_f rfl rfl) ?_
      refine s_nil ?_
      refine W_if_t (by decide) rfl ?_
      refine W_seq ?_
      refine W_region (by kernel_rfl) ?_
      refine s_y (v := .agg #[.slice none 0 0, .slice none 0 0, .slice none 0 0]) rfl (y_build (cells := #[.slice none 0 0, .slice none 0 0, .slice none 0 0]) (by kernel_rfl)) ?_
      refine s_k0 rfl (k_stB (v := .agg #[.slice none 0 0, .slice none 0 0, .slice none 0 0]) (n := 3) (cs' := [.slice none 0 0, .slice none 0 0, .slice none 0 0]) T56.sz_30_3 rfl rfl rfl (B.b 0 rfl) (by simp [Value.cells, Value.oneCell']) (Nat.le_of_ble_eq_true rfl) rfl (fun w57 hU58 => ?_))
      replace B : Bu w no w57 [.blk b7 [.slice none 0 0, .slice none 0 0, .slice none 0 0] 30, .blk b4 [.slice afe nfe cfe, .slice afx nfx cfx, .slice afy nfy cfy] 30, .blk b1 [.int .i64 wd, .int .i64 hi, .bool wr, .slice asp nsp csp, .slice als nls cls] 26, .rd kF asp nsp Xsp, .rd kF als nls Xls, .rd kF afe nfe Xfe, .rd kF afx nfx Xfx, .rd kF afy nfy Xfy] := B.upd [0] rfl hU58
      clear hU58
      refine s_y (v := .bool false) rfl (y_assign rfl) ?_
      refine s_nil ?_
      refine W_ret ?_
      refine ret2 (v1 := .agg #[.slice none 0 0, .slice none 0 0, .slice none 0 0]) (v2 := .bool false) rfl rfl rfl ⟨_, [.slice none 0 0, .slice none 0 0, .slice none 0 0], _, rfl, (B.b 0 rfl), T56.agg_30_3, rfl⟩ rfl ⟨_, rfl, ?_⟩
      exact .inr ⟨by simp only [shfB, c14, (Bool.eq_false_iff.2 c20), Bool.and_true, Bool.true_and, Bool.and_false, Bool.false_and, Bool.not_true, Bool.not_false, Bool.or_true, Bool.true_or, Bool.or_false, Bool.false_or], rfl, B.ext⟩
  · obtain rfl : v12 = .bool false := hv13.trans (congrArg Value.bool (Bool.eq_false_iff.2 c14))
    refine s_y (v := .bool true) rfl (y_not rfl rfl) ?_
    refine s_y (v := .bool true) rfl (y_move rfl) ?_
    refine s_skip rfl ?_
    refine s_skip rfl ?_
    refine s_skip rfl ?_
    refine s_skip rfl ?_
    refine s_y (v := .bool true) rfl (y_pick_t rfl rfl) ?_
    refine s_nil ?_
    refine W_if_t (by decide) rfl ?_
    refine W_seq ?_
    refine W_region (by kernel_rfl) ?_
    refine s_y (v := .agg #[.slice none 0 0, .slice none 0 0, .slice none 0 0]) rfl (y_build (cells := #[.slice none 0 0, .slice none 0 0, .slice none 0 0]) (by kernel_rfl)) ?_
    refine s_k0 rfl (k_stB (v := .agg #[.slice none 0 0, .slice none 0 0, .slice none 0 0]) (n := 3) (cs' := [.slice none 0 0, .slice none 0 0, .slice none 0 0]) T56.sz_30_3 rfl rfl rfl (B.b 0 rfl) (by simp [Value.cells, Value.oneCell']) (Nat.le_of_ble_eq_true rfl) rfl (fun w59 hU60 => ?_))
    replace B : Bu w no w59 [.blk b7 [.slice none 0 0, .slice none 0 0, .slice none 0 0] 30, .blk b4 [.slice afe nfe cfe, .slice afx nfx cfx, .slice afy nfy cfy] 30, .blk b1 [.int .i64 wd, .int .i64 hi, .bool wr, .slice asp nsp csp, .slice als nls cls] 26, .rd kF asp nsp Xsp, .rd kF als nls Xls, .rd kF afe nfe Xfe, .rd kF afx nfx Xfx, .rd kF afy nfy Xfy] := B.upd [0] rfl hU60
    clear hU60
    refine s_y (v := .bool false) rfl (y_assign rfl) ?_
    refine s_nil ?_
    refine W_ret ?_
    refine ret2 (v1 := .agg #[.slice none 0 0, .slice none 0 0, .slice none 0 0]) (v2 := .bool false) rfl rfl rfl ⟨_, [.slice none 0 0, .slice none 0 0, .slice none 0 0], _, rfl, (B.b 0 rfl), T56.agg_30_3, rfl⟩ rfl ⟨_, rfl, ?_⟩
    exact .inr ⟨by simp only [shfB, (Bool.eq_false_iff.2 c14), Bool.and_true, Bool.true_and, Bool.and_false, Bool.false_and, Bool.not_true, Bool.not_false, Bool.or_true, Bool.true_or, Bool.or_false, Bool.false_or], rfl, B.ext⟩
namespace T9
theorem mx : Try.prog.follows .mixedOrders = true := by kernel_rfl
theorem agg_26_5 : aggB Try.prog 26 5 = true := by kernel_rfl
theorem agg_30_3 : aggB Try.prog 30 3 = true := by kernel_rfl
theorem fld_26_2_2 : fldB Try.prog 26 2 2 = true := by kernel_rfl
theorem fn_17 : fnB Try.prog 17 = true := by kernel_rfl
theorem fn_22 : fnB Try.prog 22 = true := by kernel_rfl
theorem fn_24 : fnB Try.prog 24 = true := by kernel_rfl
theorem fn_31 : fnB Try.prog 31 = true := by kernel_rfl
theorem fn_36 : fnB Try.prog 36 = true := by kernel_rfl
theorem fn_41 : fnB Try.prog 41 = true := by kernel_rfl
theorem fn_50 : fnB Try.prog 50 = true := by kernel_rfl
theorem fn_51 : fnB Try.prog 51 = true := by kernel_rfl
theorem fn_52 : fnB Try.prog 52 = true := by kernel_rfl
theorem fn_53 : fnB Try.prog 53 = true := by kernel_rfl
theorem fn_54 : fnB Try.prog 54 = true := by kernel_rfl
theorem fn_55 : fnB Try.prog 55 = true := by kernel_rfl
theorem fn_56 : fnB Try.prog 56 = true := by kernel_rfl
theorem one_4 : oneB Try.prog 4 = true := by kernel_rfl
theorem sz_26_5 : szB Try.prog 26 5 = true := by kernel_rfl
theorem sz_30_3 : szB Try.prog 30 3 = true := by kernel_rfl
theorem zero_26 : zeroB Try.prog 26 (.agg #[.int .i64 0, .int .i64 0, .bool false, .slice none 0 0, .slice none 0 0]) := by unfold zeroB; kernel_rfl
theorem zero_30 : zeroB Try.prog 30 (.agg #[.slice none 0 0, .slice none 0 0, .slice none 0 0]) := by unfold zeroB; kernel_rfl
end T9
set_option maxRecDepth 100000 in
set_option maxHeartbeats 20000000 in
theorem c_FnStepsMirrored {a0 : Option Addr} {n0 : Nat} {c0 : Nat} {X0 : List Nat} {a1 : Option Addr} {n1 : Nat} {c1 : Nat} {X1 : List Nat} {w : World} (q0 : Rd w kY a0 n0 X0) (q1 : Rd w kY a1 n1 X1) (g0 : n0 ≤ 9223372036854775807) (g1 : n1 ≤ 9223372036854775807) :
    Calls Try.prog 9 #[.slice a0 n0 c0, .slice a1 n1 c1] w (Rt fun v w' => v = .bool true ∧ Ext0 w w') := by
  have hl0 := q0.len
  have hl1 := q1.len
  have B : Bu w no w [.rd kY a0 n0 X0, .rd kY a1 n1 X1] := Bu.ro (All.cons q0 (All.cons q1 All.nil)) rfl
  refine calls_W (n := 197) Try.func9 rfl rfl (Nat.le_of_ble_eq_true rfl) ?_
  refine W_seq ?_
  refine W_region (by kernel_rfl) ?_
  refine s_y (v := .bool false) rfl (y_assign rfl) ?_
  refine s_nil ?_
  refine W_seq ?_
  refine W_seq ?_
  refine W_region (by kernel_rfl) ?_
  refine s_y (v := .slice a0 n0 c0) rfl (y_move rfl) ?_
  refine s_y (v := .slice a1 n1 c1) rfl (y_move rfl) ?_
  refine s_k rfl (k_call T9.fn_22 (c_l_r8Long (B.r 0 rfl) (B.r 1 rfl) (by first | exact lenle (by assumption) | exact lenle6 (by assumption) | exact le256 (by assumption) | exact le2566 (by assumption) | omega) (by first | exact lenle (by assumption) | exact lenle6 (by assumption) | exact le256 (by assumption) | exact le2566 (by assumption) | omega)) rfl ?_)
  rintro v3 w1 ⟨hv4, e2⟩
  replace B := B.ext0 e2
  clear e2
  by_cases c5 : (decide (48 < (n0 : Int)) || decide (48 < (n1 : Int))) = true
  · obtain rfl : v3 = .bool true := hv4.trans (congrArg Value.bool c5)
    refine s_nil ?_
    refine W_if_t (by decide) rfl ?_
    refine W_seq ?_
    refine W_region (by kernel_rfl) ?_
    refine s_y (v := .bool true) rfl (y_assign rfl) ?_
    refine s_nil ?_
    refine W_ret ?_
    refine ret1 (v := .bool true) rfl rfl rfl ⟨_, rfl, ?_⟩
    exact ⟨rfl, B.ext⟩
  · obtain rfl : v3 = .bool false := hv4.trans (congrArg Value.bool (Bool.eq_false_iff.2 c5))
    refine s_nil ?_
    refine W_if_f (by decide) rfl ?_
    refine W_skip ?_
    refine W_seq ?_
    refine W_region (by kernel_rfl) ?_
    refine s_y (v := .slice a0 n0 c0) rfl (y_move rfl) ?_
    refine s_k rfl (k_call T9.fn_31 (c_s_R8Sheet (B.r 0 rfl)) rfl ?_)
    rintro _ w6 ⟨v8, v9, vb10, a11, c12, c13, Z14, a15, c16, c17, Z18, rfl, hp19, hp20, hp21, hp22, hN7⟩
    replace B := B.new2 hN7
    clear hN7
    have hl23 := (B.o 0 rfl).len
    have hl24 := (B.o 1 rfl).len
    obtain ⟨⟨⟨⟨hv25, hv26⟩, hv27, hv28⟩, hv29, hv30⟩, hv31, hv32⟩ := validS_b hp21
    refine s_k rfl (k_allocN (z := (.agg #[.int .i64 0, .int .i64 0, .bool false, .slice none 0 0, .slice none 0 0])) (cs := [.int .i64 0, .int .i64 0, .bool false, .slice none 0 0, .slice none 0 0]) T9.zero_26 rfl (fun b33 w34 hN35 => ?_))
    replace B := B.new1 hN35
    clear hN35
    refine s_k0 rfl (k_stB (v := .agg #[.int .i64 v8, .int .i64 v9, .bool vb10, .slice a11 c12 c13, .slice a15 c16 c17]) (n := 5) (cs' := [.int .i64 v8, .int .i64 v9, .bool vb10, .slice a11 c12 c13, .slice a15 c16 c17]) T9.sz_26_5 rfl rfl rfl (B.b 0 rfl) (by simp [Value.cells, Value.oneCell']) (Nat.le_of_ble_eq_true rfl) rfl (fun w36 hU37 => ?_))
    replace B : Bu w no w36 [.blk b33 [.int .i64 v8, .int .i64 v9, .bool vb10, .slice a11 c12 c13, .slice a15 c16 c17] 26, .ow kF a11 c12 c13 34 Z14, .ow kF a15 c16 c17 34 Z18, .rd kY a0 n0 X0, .rd kY a1 n1 X1] := B.upd [0] rfl hU37
    clear hU37
    refine s_nil ?_
    refine W_seq ?_
    refine W_region (by kernel_rfl) ?_
    refine s_y (v := .slice a1 n1 c1) rfl (y_move rfl) ?_
    refine s_y (v := .agg #[.int .i64 v8, .int .i64 v9, .bool vb10, .slice a11 c12 c13, .slice a15 c16 c17]) rfl (y_loadn (b := b33) (o := 0) (vs := [.int .i64 v8, .int .i64 v9, .bool vb10, .slice a11 c12 c13, .slice a15 c16 c17]) T9.agg_26_5 rfl rfl ((B.b 0 rfl).cells (o := 0) rfl)) ?_
    refine s_k rfl (k_call T9.fn_36 (c_s_R8Field (B.r 4 rfl) ((B.o 1 rfl).rd) ((B.o 2 rfl).rd) (by first | assumption | omega) (by first | assumption | omega) (by first | assumption | omega) (by first | assumption | omega) (by omega) (by first | exact lenle (by assumption) | exact lenle6 (by assumption) | exact le256 (by assumption) | exact le2566 (by assumption) | omega) (by first | exact lenle (by assumption) | exact lenle6 (by assumption) | exact le256 (by assumption) | exact le2566 (by assumption) | omega)) rfl ?_)
    rintro _ w38 ⟨a40, c41, c42, Z43, a44, c45, c46, Z47, a48, c49, c50, Z51, rfl, hp52, hp53, hN39⟩
    replace B := B.new3 hN39
    clear hN39
    have hl54 := (B.o 0 rfl).len
    have hl55 := (B.o 1 rfl).len
    have hl56 := (B.o 2 rfl).len
    obtain ⟨⟨hv57, hv58, hv59⟩, _⟩ := fieldB_b hp52
    have hv60 : c41 ≤ 256 := by omega
    have hv61 : c45 ≤ 256 := by omega
    have hv62 : c49 ≤ 256 := by omega
    refine s_k rfl (k_allocN (z := (.agg #[.slice none 0 0, .slice none 0 0, .slice none 0 0])) (cs := [.slice none 0 0, .slice none 0 0, .slice none 0 0]) T9.zero_30 rfl (fun b63 w64 hN65 => ?_))
    replace B := B.new1 hN65
    clear hN65
    refine s_k0 rfl (k_stB (v := .agg #[.slice a40 c41 c42, .slice a44 c45 c46, .slice a48 c49 c50]) (n := 3) (cs' := [.slice a40 c41 c42, .slice a44 c45 c46, .slice a48 c49 c50]) T9.sz_30_3 rfl rfl rfl (B.b 0 rfl) (by simp [Value.cells, Value.oneCell']) (Nat.le_of_ble_eq_true rfl) rfl (fun w66 hU67 => ?_))
    replace B : Bu w no w66 [.blk b63 [.slice a40 c41 c42, .slice a44 c45 c46, .slice a48 c49 c50] 30, .ow kF a40 c41 c42 34 Z43, .ow kF a44 c45 c46 34 Z47, .ow kF a48 c49 c50 34 Z51, .blk b33 [.int .i64 v8, .int .i64 v9, .bool vb10, .slice a11 c12 c13, .slice a15 c16 c17] 26, .ow kF a11 c12 c13 34 Z14, .ow kF a15 c16 c17 34 Z18, .rd kY a0 n0 X0, .rd kY a1 n1 X1] := B.upd [0] rfl hU67
    clear hU67
    refine s_nil ?_
    refine W_seq ?_
    refine W_region (by kernel_rfl) ?_
    refine s_y (v := .slice a1 n1 c1) rfl (y_move rfl) ?_
    refine s_k rfl (k_call T9.fn_24 (c_l_r8At (B.r 8 rfl) (by omega) (by omega) (by first | exact lenle (by assumption) | exact lenle6 (by assumption) | exact le256 (by assumption) | exact le2566 (by assumption) | omega)) rfl ?_)
    rintro _ w68 ⟨u70, rfl, hp71, e69⟩
    replace B := B.ext0 e69
    clear e69
    have hb72 := r8A_b X1 40 (show 1 ≤ 5 by omega)
    rw [← hp71] at hb72
    refine s_y (v := .int .i64 u70) rfl (y_assign rfl) ?_
    refine s_nil ?_
    refine W_seq ?_
    refine W_region (by kernel_rfl) ?_
    refine s_y (v := .agg #[.int .i64 v8, .int .i64 v9, .bool vb10, .slice a11 c12 c13, .slice a15 c16 c17]) rfl (y_loadn (b := b33) (o := 0) (vs := [.int .i64 v8, .int .i64 v9, .bool vb10, .slice a11 c12 c13, .slice a15 c16 c17]) T9.agg_26_5 rfl rfl ((B.b 4 rfl).cells (o := 0) rfl)) ?_
    refine s_y (v := .agg #[.slice a40 c41 c42, .slice a44 c45 c46, .slice a48 c49 c50]) rfl (y_loadn (b := b63) (o := 0) (vs := [.slice a40 c41 c42, .slice a44 c45 c46, .slice a48 c49 c50]) T9.agg_30_3 rfl rfl ((B.b 0 rfl).cells (o := 0) rfl)) ?_
    refine s_y (v := .int .i64 u70) rfl (y_move rfl) ?_
    refine s_k rfl (k_call T9.fn_17 (c_i_RunField ((B.o 5 rfl).rd) ((B.o 6 rfl).rd) ((B.o 1 rfl).rd) ((B.o 2 rfl).rd) ((B.o 3 rfl).rd) (by first | exact lenle (by assumption) | exact lenle6 (by assumption) | exact le256 (by assumption) | exact le2566 (by assumption) | omega) (by first | exact lenle (by assumption) | exact lenle6 (by assumption) | exact le256 (by assumption) | exact le2566 (by assumption) | omega) (by first | exact lenle (by assumption) | exact lenle6 (by assumption) | exact le256 (by assumption) | exact le2566 (by assumption) | omega) (by first | exact lenle (by assumption) | exact lenle6 (by assumption) | exact le256 (by assumption) | exact le2566 (by assumption) | omega) (by first | exact lenle (by assumption) | exact lenle6 (by assumption) | exact le256 (by assumption) | exact le2566 (by assumption) | omega)) rfl ?_)
    rintro v75 w73 hx74
    have hk76 : runB v8 v9 vb10 Z14 Z18 Z43 Z47 Z51 u70 = true := (runB_yes hp52 (by omega))
    obtain ⟨a77, c78, a79, c80, a81, c82, rfl, hN83⟩ := (hx74.resolve_right (fun hz => by rw [hk76] at hz; cases hz.1)).2
    clear hx74
    replace B := B.new3 hN83
    clear hN83
    refine s_y (v := .tuple #[.agg #[.slice a77 c41 c78, .slice a79 c45 c80, .slice a81 c49 c82], .bool true]) rfl (y_move rfl) ?_
    refine s_y (v := .agg #[.slice a77 c41 c78, .slice a79 c45 c80, .slice a81 c49 c82]) rfl (y_extract rfl rfl) ?_
    refine s_y (v := .bool true) rfl (y_extract rfl rfl) ?_
    refine s_k rfl (k_allocN (z := (.agg #[.slice none 0 0, .slice none 0 0, .slice none 0 0])) (cs := [.slice none 0 0, .slice none 0 0, .slice none 0 0]) T9.zero_30 rfl (fun b84 w85 hN86 => ?_))
    replace B := B.new1 hN86
    clear hN86
    refine s_k0 rfl (k_stB (v := .agg #[.slice a77 c41 c78, .slice a79 c45 c80, .slice a81 c49 c82]) (n := 3) (cs' := [.slice a77 c41 c78, .slice a79 c45 c80, .slice a81 c49 c82]) T9.sz_30_3 rfl rfl rfl (B.b 0 rfl) (by simp [Value.cells, Value.oneCell']) (Nat.le_of_ble_eq_true rfl) rfl (fun w87 hU88 => ?_))
    replace B : Bu w no w87 [.blk b84 [.slice a77 c41 c78, .slice a79 c45 c80, .slice a81 c49 c82] 30, .ow kF a77 c41 c78 34 ((rnT v8 v9 vb10 Z14 Z18 (Z43, Z47, Z51) (Int.toNat u70)).1), .ow kF a79 c45 c80 34 ((rnT v8 v9 vb10 Z14 Z18 (Z43, Z47, Z51) (Int.toNat u70)).2.1), .ow kF a81 c49 c82 34 ((rnT v8 v9 vb10 Z14 Z18 (Z43, Z47, Z51) (Int.toNat u70)).2.2), .blk b63 [.slice a40 c41 c42, .slice a44 c45 c46, .slice a48 c49 c50] 30, .ow kF a40 c41 c42 34 Z43, .ow kF a44 c45 c46 34 Z47, .ow kF a48 c49 c50 34 Z51, .blk b33 [.int .i64 v8, .int .i64 v9, .bool vb10, .slice a11 c12 c13, .slice a15 c16 c17] 26, .ow kF a11 c12 c13 34 Z14, .ow kF a15 c16 c17 34 Z18, .rd kY a0 n0 X0, .rd kY a1 n1 X1] := B.upd [0] rfl hU88
    clear hU88
    refine s_y (v := .bool true) rfl (y_assign rfl) ?_
    refine s_nil ?_
    refine W_seq ?_
    refine W_region (by kernel_rfl) ?_
    refine s_y (v := .agg #[.int .i64 v8, .int .i64 v9, .bool vb10, .slice a11 c12 c13, .slice a15 c16 c17]) rfl (y_loadn (b := b33) (o := 0) (vs := [.int .i64 v8, .int .i64 v9, .bool vb10, .slice a11 c12 c13, .slice a15 c16 c17]) T9.agg_26_5 rfl rfl ((B.b 8 rfl).cells (o := 0) rfl)) ?_
    refine s_k rfl (k_call T9.fn_51 (c_i_MirrorSheet ((B.o 9 rfl).rd) ((B.o 10 rfl).rd) (by first | exact lenle (by assumption) | exact lenle6 (by assumption) | exact le256 (by assumption) | exact le2566 (by assumption) | omega) (by first | exact lenle (by assumption) | exact lenle6 (by assumption) | exact le256 (by assumption) | exact le2566 (by assumption) | omega)) rfl ?_)
    rintro v91 w89 hx90
    obtain ⟨a92, c93, a94, c95, rfl, hN96⟩ := (hx90.resolve_right (fun hz => by rw [hp21] at hz; cases hz.1)).2
    clear hx90
    replace B := B.new2 hN96
    clear hN96
    refine s_y (v := .tuple #[.agg #[.int .i64 v8, .int .i64 v9, .bool vb10, .slice a92 ((v8 * v9).toNat) c93, .slice a94 ((v8 * v9).toNat) c95], .bool true]) rfl (y_move rfl) ?_
    refine s_y (v := .agg #[.int .i64 v8, .int .i64 v9, .bool vb10, .slice a92 ((v8 * v9).toNat) c93, .slice a94 ((v8 * v9).toNat) c95]) rfl (y_extract rfl rfl) ?_
    refine s_y (v := .bool true) rfl (y_extract rfl rfl) ?_
    refine s_k rfl (k_allocN (z := (.agg #[.int .i64 0, .int .i64 0, .bool false, .slice none 0 0, .slice none 0 0])) (cs := [.int .i64 0, .int .i64 0, .bool false, .slice none 0 0, .slice none 0 0]) T9.zero_26 rfl (fun b97 w98 hN99 => ?_))
    replace B := B.new1 hN99
    clear hN99
    refine s_k0 rfl (k_stB (v := .agg #[.int .i64 v8, .int .i64 v9, .bool vb10, .slice a92 ((v8 * v9).toNat) c93, .slice a94 ((v8 * v9).toNat) c95]) (n := 5) (cs' := [.int .i64 v8, .int .i64 v9, .bool vb10, .slice a92 ((v8 * v9).toNat) c93, .slice a94 ((v8 * v9).toNat) c95]) T9.sz_26_5 rfl rfl rfl (B.b 0 rfl) (by simp [Value.cells, Value.oneCell']) (Nat.le_of_ble_eq_true rfl) rfl (fun w100 hU101 => ?_))
    replace B : Bu w no w100 [.blk b97 [.int .i64 v8, .int .i64 v9, .bool vb10, .slice a92 ((v8 * v9).toNat) c93, .slice a94 ((v8 * v9).toNat) c95] 26, .ow kF a92 ((v8 * v9).toNat) c93 34 (mirS v8 v9 Z14), .ow kF a94 ((v8 * v9).toNat) c95 34 (mirS v8 v9 Z18), .blk b84 [.slice a77 c41 c78, .slice a79 c45 c80, .slice a81 c49 c82] 30, .ow kF a77 c41 c78 34 ((rnT v8 v9 vb10 Z14 Z18 (Z43, Z47, Z51) (Int.toNat u70)).1), .ow kF a79 c45 c80 34 ((rnT v8 v9 vb10 Z14 Z18 (Z43, Z47, Z51) (Int.toNat u70)).2.1), .ow kF a81 c49 c82 34 ((rnT v8 v9 vb10 Z14 Z18 (Z43, Z47, Z51) (Int.toNat u70)).2.2), .blk b63 [.slice a40 c41 c42, .slice a44 c45 c46, .slice a48 c49 c50] 30, .ow kF a40 c41 c42 34 Z43, .ow kF a44 c45 c46 34 Z47, .ow kF a48 c49 c50 34 Z51, .blk b33 [.int .i64 v8, .int .i64 v9, .bool vb10, .slice a11 c12 c13, .slice a15 c16 c17] 26, .ow kF a11 c12 c13 34 Z14, .ow kF a15 c16 c17 34 Z18, .rd kY a0 n0 X0, .rd kY a1 n1 X1] := B.upd [0] rfl hU101
    clear hU101
    refine s_y (v := .bool true) rfl (y_assign rfl) ?_
    refine s_nil ?_
    refine W_seq ?_
    refine W_region (by kernel_rfl) ?_
    refine s_y (v := .agg #[.int .i64 v8, .int .i64 v9, .bool vb10, .slice a11 c12 c13, .slice a15 c16 c17]) rfl (y_loadn (b := b33) (o := 0) (vs := [.int .i64 v8, .int .i64 v9, .bool vb10, .slice a11 c12 c13, .slice a15 c16 c17]) T9.agg_26_5 rfl rfl ((B.b 11 rfl).cells (o := 0) rfl)) ?_
    refine s_y (v := .agg #[.slice a40 c41 c42, .slice a44 c45 c46, .slice a48 c49 c50]) rfl (y_loadn (b := b63) (o := 0) (vs := [.slice a40 c41 c42, .slice a44 c45 c46, .slice a48 c49 c50]) T9.agg_30_3 rfl rfl ((B.b 7 rfl).cells (o := 0) rfl)) ?_
    refine s_k rfl (k_call T9.fn_52 (c_i_MirrorField ((B.o 12 rfl).rd) ((B.o 13 rfl).rd) ((B.o 8 rfl).rd) ((B.o 9 rfl).rd) ((B.o 10 rfl).rd) (by first | exact lenle (by assumption) | exact lenle6 (by assumption) | exact le256 (by assumption) | exact le2566 (by assumption) | omega) (by first | exact lenle (by assumption) | exact lenle6 (by assumption) | exact le256 (by assumption) | exact le2566 (by assumption) | omega) (by first | exact lenle (by assumption) | exact lenle6 (by assumption) | exact le256 (by assumption) | exact le2566 (by assumption) | omega) (by first | exact lenle (by assumption) | exact lenle6 (by assumption) | exact le256 (by assumption) | exact le2566 (by assumption) | omega) (by first | exact lenle (by assumption) | exact lenle6 (by assumption) | exact le256 (by assumption) | exact le2566 (by assumption) | omega)) rfl ?_)
    rintro v104 w102 hx103
    obtain ⟨a105, c106, a107, c108, a109, c110, rfl, hN111⟩ := (hx103.resolve_right (fun hz => by rw [hp52] at hz; cases hz.1)).2
    clear hx103
    replace B := B.new3 hN111
    clear hN111
    refine s_y (v := .tuple #[.agg #[.slice a105 ((v8 * v9).toNat) c106, .slice a107 ((v8 * v9).toNat) c108, .slice a109 ((v8 * v9).toNat) c110], .bool true]) rfl (y_move rfl) ?_
    refine s_y (v := .agg #[.slice a105 ((v8 * v9).toNat) c106, .slice a107 ((v8 * v9).toNat) c108, .slice a109 ((v8 * v9).toNat) c110]) rfl (y_extract rfl rfl) ?_
    refine s_y (v := .bool true) rfl (y_extract rfl rfl) ?_
    refine s_k rfl (k_allocN (z := (.agg #[.slice none 0 0, .slice none 0 0, .slice none 0 0])) (cs := [.slice none 0 0, .slice none 0 0, .slice none 0 0]) T9.zero_30 rfl (fun b112 w113 hN114 => ?_))
    replace B := B.new1 hN114
    clear hN114
    refine s_k0 rfl (k_stB (v := .agg #[.slice a105 ((v8 * v9).toNat) c106, .slice a107 ((v8 * v9).toNat) c108, .slice a109 ((v8 * v9).toNat) c110]) (n := 3) (cs' := [.slice a105 ((v8 * v9).toNat) c106, .slice a107 ((v8 * v9).toNat) c108, .slice a109 ((v8 * v9).toNat) c110]) T9.sz_30_3 rfl rfl rfl (B.b 0 rfl) (by simp [Value.cells, Value.oneCell']) (Nat.le_of_ble_eq_true rfl) rfl (fun w115 hU116 => ?_))
    replace B : Bu w no w115 [.blk b112 [.slice a105 ((v8 * v9).toNat) c106, .slice a107 ((v8 * v9).toNat) c108, .slice a109 ((v8 * v9).toNat) c110] 30, .ow kF a105 ((v8 * v9).toNat) c106 34 (mirS v8 v9 Z43), .ow kF a107 ((v8 * v9).toNat) c108 34 (mirS v8 v9 Z47), .ow kF a109 ((v8 * v9).toNat) c110 34 (mirY v8 v9 Z51), .blk b97 [.int .i64 v8, .int .i64 v9, .bool vb10, .slice a92 ((v8 * v9).toNat) c93, .slice a94 ((v8 * v9).toNat) c95] 26, .ow kF a92 ((v8 * v9).toNat) c93 34 (mirS v8 v9 Z14), .ow kF a94 ((v8 * v9).toNat) c95 34 (mirS v8 v9 Z18), .blk b84 [.slice a77 c41 c78, .slice a79 c45 c80, .slice a81 c49 c82] 30, .ow kF a77 c41 c78 34 ((rnT v8 v9 vb10 Z14 Z18 (Z43, Z47, Z51) (Int.toNat u70)).1), .ow kF a79 c45 c80 34 ((rnT v8 v9 vb10 Z14 Z18 (Z43, Z47, Z51) (Int.toNat u70)).2.1), .ow kF a81 c49 c82 34 ((rnT v8 v9 vb10 Z14 Z18 (Z43, Z47, Z51) (Int.toNat u70)).2.2), .blk b63 [.slice a40 c41 c42, .slice a44 c45 c46, .slice a48 c49 c50] 30, .ow kF a40 c41 c42 34 Z43, .ow kF a44 c45 c46 34 Z47, .ow kF a48 c49 c50 34 Z51, .blk b33 [.int .i64 v8, .int .i64 v9, .bool vb10, .slice a11 c12 c13, .slice a15 c16 c17] 26, .ow kF a11 c12 c13 34 Z14, .ow kF a15 c16 c17 34 Z18, .rd kY a0 n0 X0, .rd kY a1 n1 X1] := B.upd [0] rfl hU116
    clear hU116
    refine s_y (v := .bool true) rfl (y_assign rfl) ?_
    refine s_nil ?_
    refine W_seq ?_
    refine W_region (by kernel_rfl) ?_
    refine s_y (v := .agg #[.int .i64 v8, .int .i64 v9, .bool vb10, .slice a92 ((v8 * v9).toNat) c93, .slice a94 ((v8 * v9).toNat) c95]) rfl (y_loadn (b := b97) (o := 0) (vs := [.int .i64 v8, .int .i64 v9, .bool vb10, .slice a92 ((v8 * v9).toNat) c93, .slice a94 ((v8 * v9).toNat) c95]) T9.agg_26_5 rfl rfl ((B.b 4 rfl).cells (o := 0) rfl)) ?_
    refine s_y (v := .agg #[.slice a105 ((v8 * v9).toNat) c106, .slice a107 ((v8 * v9).toNat) c108, .slice a109 ((v8 * v9).toNat) c110]) rfl (y_loadn (b := b112) (o := 0) (vs := [.slice a105 ((v8 * v9).toNat) c106, .slice a107 ((v8 * v9).toNat) c108, .slice a109 ((v8 * v9).toNat) c110]) T9.agg_30_3 rfl rfl ((B.b 0 rfl).cells (o := 0) rfl)) ?_
    refine s_y (v := .int .i64 u70) rfl (y_move rfl) ?_
    refine s_k rfl (k_call T9.fn_17 (c_i_RunField ((B.o 5 rfl).rd) ((B.o 6 rfl).rd) ((B.o 1 rfl).rd) ((B.o 2 rfl).rd) ((B.o 3 rfl).rd) (by first | exact lenle (by assumption) | exact lenle6 (by assumption) | exact le256 (by assumption) | exact le2566 (by assumption) | omega) (by first | exact lenle (by assumption) | exact lenle6 (by assumption) | exact le256 (by assumption) | exact le2566 (by assumption) | omega) (by first | exact lenle (by assumption) | exact lenle6 (by assumption) | exact le256 (by assumption) | exact le2566 (by assumption) | omega) (by first | exact lenle (by assumption) | exact lenle6 (by assumption) | exact le256 (by assumption) | exact le2566 (by assumption) | omega) (by first | exact lenle (by assumption) | exact lenle6 (by assumption) | exact le256 (by assumption) | exact le2566 (by assumption) | omega)) rfl ?_)
    rintro v119 w117 hx118
    have hk120 : runB v8 v9 vb10 (mirS v8 v9 Z14) (mirS v8 v9 Z18) (mirS v8 v9 Z43) (mirS v8 v9 Z47) (mirY v8 v9 Z51) u70 = true := (runB_yes (fieldB_mir hp52) (by omega))
    obtain ⟨a121, c122, a123, c124, a125, c126, rfl, hN127⟩ := (hx118.resolve_right (fun hz => by rw [hk120] at hz; cases hz.1)).2
    clear hx118
    replace B := B.new3 hN127
    clear hN127
    refine s_y (v := .tuple #[.agg #[.slice a121 ((v8 * v9).toNat) c122, .slice a123 ((v8 * v9).toNat) c124, .slice a125 ((v8 * v9).toNat) c126], .bool true]) rfl (y_move rfl) ?_
    refine s_y (v := .agg #[.slice a121 ((v8 * v9).toNat) c122, .slice a123 ((v8 * v9).toNat) c124, .slice a125 ((v8 * v9).toNat) c126]) rfl (y_extract rfl rfl) ?_
    refine s_y (v := .bool true) rfl (y_extract rfl rfl) ?_
    refine s_k rfl (k_allocN (z := (.agg #[.slice none 0 0, .slice none 0 0, .slice none 0 0])) (cs := [.slice none 0 0, .slice none 0 0, .slice none 0 0]) T9.zero_30 rfl (fun b128 w129 hN130 => ?_))
    replace B := B.new1 hN130
    clear hN130
    refine s_k0 rfl (k_stB (v := .agg #[.slice a121 ((v8 * v9).toNat) c122, .slice a123 ((v8 * v9).toNat) c124, .slice a125 ((v8 * v9).toNat) c126]) (n := 3) (cs' := [.slice a121 ((v8 * v9).toNat) c122, .slice a123 ((v8 * v9).toNat) c124, .slice a125 ((v8 * v9).toNat) c126]) T9.sz_30_3 rfl rfl rfl (B.b 0 rfl) (by simp [Value.cells, Value.oneCell']) (Nat.le_of_ble_eq_true rfl) rfl (fun w131 hU132 => ?_))
    replace B : Bu w no w131 [.blk b128 [.slice a121 ((v8 * v9).toNat) c122, .slice a123 ((v8 * v9).toNat) c124, .slice a125 ((v8 * v9).toNat) c126] 30, .ow kF a121 ((v8 * v9).toNat) c122 34 ((rnT v8 v9 vb10 (mirS v8 v9 Z14) (mirS v8 v9 Z18) ((mirS v8 v9 Z43), (mirS v8 v9 Z47), (mirY v8 v9 Z51)) (Int.toNat u70)).1), .ow kF a123 ((v8 * v9).toNat) c124 34 ((rnT v8 v9 vb10 (mirS v8 v9 Z14) (mirS v8 v9 Z18) ((mirS v8 v9 Z43), (mirS v8 v9 Z47), (mirY v8 v9 Z51)) (Int.toNat u70)).2.1), .ow kF a125 ((v8 * v9).toNat) c126 34 ((rnT v8 v9 vb10 (mirS v8 v9 Z14) (mirS v8 v9 Z18) ((mirS v8 v9 Z43), (mirS v8 v9 Z47), (mirY v8 v9 Z51)) (Int.toNat u70)).2.2), .blk b112 [.slice a105 ((v8 * v9).toNat) c106, .slice a107 ((v8 * v9).toNat) c108, .slice a109 ((v8 * v9).toNat) c110] 30, .ow kF a105 ((v8 * v9).toNat) c106 34 (mirS v8 v9 Z43), .ow kF a107 ((v8 * v9).toNat) c108 34 (mirS v8 v9 Z47), .ow kF a109 ((v8 * v9).toNat) c110 34 (mirY v8 v9 Z51), .blk b97 [.int .i64 v8, .int .i64 v9, .bool vb10, .slice a92 ((v8 * v9).toNat) c93, .slice a94 ((v8 * v9).toNat) c95] 26, .ow kF a92 ((v8 * v9).toNat) c93 34 (mirS v8 v9 Z14), .ow kF a94 ((v8 * v9).toNat) c95 34 (mirS v8 v9 Z18), .blk b84 [.slice a77 c41 c78, .slice a79 c45 c80, .slice a81 c49 c82] 30, .ow kF a77 c41 c78 34 ((rnT v8 v9 vb10 Z14 Z18 (Z43, Z47, Z51) (Int.toNat u70)).1), .ow kF a79 c45 c80 34 ((rnT v8 v9 vb10 Z14 Z18 (Z43, Z47, Z51) (Int.toNat u70)).2.1), .ow kF a81 c49 c82 34 ((rnT v8 v9 vb10 Z14 Z18 (Z43, Z47, Z51) (Int.toNat u70)).2.2), .blk b63 [.slice a40 c41 c42, .slice a44 c45 c46, .slice a48 c49 c50] 30, .ow kF a40 c41 c42 34 Z43, .ow kF a44 c45 c46 34 Z47, .ow kF a48 c49 c50 34 Z51, .blk b33 [.int .i64 v8, .int .i64 v9, .bool vb10, .slice a11 c12 c13, .slice a15 c16 c17] 26, .ow kF a11 c12 c13 34 Z14, .ow kF a15 c16 c17 34 Z18, .rd kY a0 n0 X0, .rd kY a1 n1 X1] := B.upd [0] rfl hU132
    clear hU132
    refine s_y (v := .bool true) rfl (y_assign rfl) ?_
    refine s_nil ?_
    refine W_seq ?_
    refine W_region (by kernel_rfl) ?_
    refine s_y (v := .agg #[.int .i64 v8, .int .i64 v9, .bool vb10, .slice a11 c12 c13, .slice a15 c16 c17]) rfl (y_loadn (b := b33) (o := 0) (vs := [.int .i64 v8, .int .i64 v9, .bool vb10, .slice a11 c12 c13, .slice a15 c16 c17]) T9.agg_26_5 rfl rfl ((B.b 19 rfl).cells (o := 0) rfl)) ?_
    refine s_y (v := .agg #[.slice a77 c41 c78, .slice a79 c45 c80, .slice a81 c49 c82]) rfl (y_loadn (b := b84) (o := 0) (vs := [.slice a77 c41 c78, .slice a79 c45 c80, .slice a81 c49 c82]) T9.agg_30_3 rfl rfl ((B.b 11 rfl).cells (o := 0) rfl)) ?_
    refine s_k rfl (k_call T9.fn_52 (c_i_MirrorField ((B.o 20 rfl).rd) ((B.o 21 rfl).rd) ((B.o 12 rfl).rd) ((B.o 13 rfl).rd) ((B.o 14 rfl).rd) (by first | exact lenle (by assumption) | exact lenle6 (by assumption) | exact le256 (by assumption) | exact le2566 (by assumption) | omega) (by first | exact lenle (by assumption) | exact lenle6 (by assumption) | exact le256 (by assumption) | exact le2566 (by assumption) | omega) (by first | exact lenle (by assumption) | exact lenle6 (by assumption) | exact le256 (by assumption) | exact le2566 (by assumption) | omega) (by first | exact lenle (by assumption) | exact lenle6 (by assumption) | exact le256 (by assumption) | exact le2566 (by assumption) | omega) (by first | exact lenle (by assumption) | exact lenle6 (by assumption) | exact le256 (by assumption) | exact le2566 (by assumption) | omega)) rfl ?_)
    rintro v135 w133 hx134
    have hk136 : fieldB v8 v9 vb10 Z14 Z18 ((rnT v8 v9 vb10 Z14 Z18 (Z43, Z47, Z51) (Int.toNat u70)).1) ((rnT v8 v9 vb10 Z14 Z18 (Z43, Z47, Z51) (Int.toNat u70)).2.1) ((rnT v8 v9 vb10 Z14 Z18 (Z43, Z47, Z51) (Int.toNat u70)).2.2) = true := (run_field hk76)
    obtain ⟨a137, c138, a139, c140, a141, c142, rfl, hN143⟩ := (hx134.resolve_right (fun hz => by rw [hk136] at hz; cases hz.1)).2
    clear hx134
    replace B := B.new3 hN143
    clear hN143
    refine s_y (v := .tuple #[.agg #[.slice a137 ((v8 * v9).toNat) c138, .slice a139 ((v8 * v9).toNat) c140, .slice a141 ((v8 * v9).toNat) c142], .bool true]) rfl (y_move rfl) ?_
    refine s_y (v := .agg #[.slice a137 ((v8 * v9).toNat) c138, .slice a139 ((v8 * v9).toNat) c140, .slice a141 ((v8 * v9).toNat) c142]) rfl (y_extract rfl rfl) ?_
    refine s_y (v := .bool true) rfl (y_extract rfl rfl) ?_
    refine s_k rfl (k_allocN (z := (.agg #[.slice none 0 0, .slice none 0 0, .slice none 0 0])) (cs := [.slice none 0 0, .slice none 0 0, .slice none 0 0]) T9.zero_30 rfl (fun b144 w145 hN146 => ?_))
    replace B := B.new1 hN146
    clear hN146
    refine s_k0 rfl (k_stB (v := .agg #[.slice a137 ((v8 * v9).toNat) c138, .slice a139 ((v8 * v9).toNat) c140, .slice a141 ((v8 * v9).toNat) c142]) (n := 3) (cs' := [.slice a137 ((v8 * v9).toNat) c138, .slice a139 ((v8 * v9).toNat) c140, .slice a141 ((v8 * v9).toNat) c142]) T9.sz_30_3 rfl rfl rfl (B.b 0 rfl) (by simp [Value.cells, Value.oneCell']) (Nat.le_of_ble_eq_true rfl) rfl (fun w147 hU148 => ?_))
    replace B : Bu w no w147 [.blk b144 [.slice a137 ((v8 * v9).toNat) c138, .slice a139 ((v8 * v9).toNat) c140, .slice a141 ((v8 * v9).toNat) c142] 30, .ow kF a137 ((v8 * v9).toNat) c138 34 (mirS v8 v9 ((rnT v8 v9 vb10 Z14 Z18 (Z43, Z47, Z51) (Int.toNat u70)).1)), .ow kF a139 ((v8 * v9).toNat) c140 34 (mirS v8 v9 ((rnT v8 v9 vb10 Z14 Z18 (Z43, Z47, Z51) (Int.toNat u70)).2.1)), .ow kF a141 ((v8 * v9).toNat) c142 34 (mirY v8 v9 ((rnT v8 v9 vb10 Z14 Z18 (Z43, Z47, Z51) (Int.toNat u70)).2.2)), .blk b128 [.slice a121 ((v8 * v9).toNat) c122, .slice a123 ((v8 * v9).toNat) c124, .slice a125 ((v8 * v9).toNat) c126] 30, .ow kF a121 ((v8 * v9).toNat) c122 34 ((rnT v8 v9 vb10 (mirS v8 v9 Z14) (mirS v8 v9 Z18) ((mirS v8 v9 Z43), (mirS v8 v9 Z47), (mirY v8 v9 Z51)) (Int.toNat u70)).1), .ow kF a123 ((v8 * v9).toNat) c124 34 ((rnT v8 v9 vb10 (mirS v8 v9 Z14) (mirS v8 v9 Z18) ((mirS v8 v9 Z43), (mirS v8 v9 Z47), (mirY v8 v9 Z51)) (Int.toNat u70)).2.1), .ow kF a125 ((v8 * v9).toNat) c126 34 ((rnT v8 v9 vb10 (mirS v8 v9 Z14) (mirS v8 v9 Z18) ((mirS v8 v9 Z43), (mirS v8 v9 Z47), (mirY v8 v9 Z51)) (Int.toNat u70)).2.2), .blk b112 [.slice a105 ((v8 * v9).toNat) c106, .slice a107 ((v8 * v9).toNat) c108, .slice a109 ((v8 * v9).toNat) c110] 30, .ow kF a105 ((v8 * v9).toNat) c106 34 (mirS v8 v9 Z43), .ow kF a107 ((v8 * v9).toNat) c108 34 (mirS v8 v9 Z47), .ow kF a109 ((v8 * v9).toNat) c110 34 (mirY v8 v9 Z51), .blk b97 [.int .i64 v8, .int .i64 v9, .bool vb10, .slice a92 ((v8 * v9).toNat) c93, .slice a94 ((v8 * v9).toNat) c95] 26, .ow kF a92 ((v8 * v9).toNat) c93 34 (mirS v8 v9 Z14), .ow kF a94 ((v8 * v9).toNat) c95 34 (mirS v8 v9 Z18), .blk b84 [.slice a77 c41 c78, .slice a79 c45 c80, .slice a81 c49 c82] 30, .ow kF a77 c41 c78 34 ((rnT v8 v9 vb10 Z14 Z18 (Z43, Z47, Z51) (Int.toNat u70)).1), .ow kF a79 c45 c80 34 ((rnT v8 v9 vb10 Z14 Z18 (Z43, Z47, Z51) (Int.toNat u70)).2.1), .ow kF a81 c49 c82 34 ((rnT v8 v9 vb10 Z14 Z18 (Z43, Z47, Z51) (Int.toNat u70)).2.2), .blk b63 [.slice a40 c41 c42, .slice a44 c45 c46, .slice a48 c49 c50] 30, .ow kF a40 c41 c42 34 Z43, .ow kF a44 c45 c46 34 Z47, .ow kF a48 c49 c50 34 Z51, .blk b33 [.int .i64 v8, .int .i64 v9, .bool vb10, .slice a11 c12 c13, .slice a15 c16 c17] 26, .ow kF a11 c12 c13 34 Z14, .ow kF a15 c16 c17 34 Z18, .rd kY a0 n0 X0, .rd kY a1 n1 X1] := B.upd [0] rfl hU148
    clear hU148
    refine s_y (v := .bool true) rfl (y_assign rfl) ?_
    refine s_nil ?_
    refine W_seq ?_
    refine W_region (by kernel_rfl) ?_
    refine s_y (v := .agg #[.int .i64 v8, .int .i64 v9, .bool vb10, .slice a11 c12 c13, .slice a15 c16 c17]) rfl (y_loadn (b := b33) (o := 0) (vs := [.int .i64 v8, .int .i64 v9, .bool vb10, .slice a11 c12 c13, .slice a15 c16 c17]) T9.agg_26_5 rfl rfl ((B.b 23 rfl).cells (o := 0) rfl)) ?_
    refine s_k rfl (k_call T9.fn_53 (c_i_SwapSheet ((B.o 24 rfl).rd) ((B.o 25 rfl).rd) (by first | exact lenle (by assumption) | exact lenle6 (by assumption) | exact le256 (by assumption) | exact le2566 (by assumption) | omega) (by first | exact lenle (by assumption) | exact lenle6 (by assumption) | exact le256 (by assumption) | exact le2566 (by assumption) | omega)) rfl ?_)
    rintro v151 w149 hx150
    obtain ⟨a152, c153, a154, c155, rfl, hN156⟩ := (hx150.resolve_right (fun hz => by rw [hp21] at hz; cases hz.1)).2
    clear hx150
    replace B := B.new2 hN156
    clear hN156
    refine s_y (v := .tuple #[.agg #[.int .i64 v9, .int .i64 v8, .bool vb10, .slice a152 ((v8 * v9).toNat) c153, .slice a154 ((v8 * v9).toNat) c155], .bool true]) rfl (y_move rfl) ?_
    refine s_y (v := .agg #[.int .i64 v9, .int .i64 v8, .bool vb10, .slice a152 ((v8 * v9).toNat) c153, .slice a154 ((v8 * v9).toNat) c155]) rfl (y_extract rfl rfl) ?_
    refine s_y (v := .bool true) rfl (y_extract rfl rfl) ?_
    refine s_k rfl (k_allocN (z := (.agg #[.int .i64 0, .int .i64 0, .bool false, .slice none 0 0, .slice none 0 0])) (cs := [.int .i64 0, .int .i64 0, .bool false, .slice none 0 0, .slice none 0 0]) T9.zero_26 rfl (fun b157 w158 hN159 => ?_))
    replace B := B.new1 hN159
    clear hN159
    refine s_k0 rfl (k_stB (v := .agg #[.int .i64 v9, .int .i64 v8, .bool vb10, .slice a152 ((v8 * v9).toNat) c153, .slice a154 ((v8 * v9).toNat) c155]) (n := 5) (cs' := [.int .i64 v9, .int .i64 v8, .bool vb10, .slice a152 ((v8 * v9).toNat) c153, .slice a154 ((v8 * v9).toNat) c155]) T9.sz_26_5 rfl rfl rfl (B.b 0 rfl) (by simp [Value.cells, Value.oneCell']) (Nat.le_of_ble_eq_true rfl) rfl (fun w160 hU161 => ?_))
    replace B : Bu w no w160 [.blk b157 [.int .i64 v9, .int .i64 v8, .bool vb10, .slice a152 ((v8 * v9).toNat) c153, .slice a154 ((v8 * v9).toNat) c155] 26, .ow kF a152 ((v8 * v9).toNat) c153 34 (swpS v8 v9 Z14), .ow kF a154 ((v8 * v9).toNat) c155 34 (swpS v8 v9 Z18), .blk b144 [.slice a137 ((v8 * v9).toNat) c138, .slice a139 ((v8 * v9).toNat) c140, .slice a141 ((v8 * v9).toNat) c142] 30, .ow kF a137 ((v8 * v9).toNat) c138 34 (mirS v8 v9 ((rnT v8 v9 vb10 Z14 Z18 (Z43, Z47, Z51) (Int.toNat u70)).1)), .ow kF a139 ((v8 * v9).toNat) c140 34 (mirS v8 v9 ((rnT v8 v9 vb10 Z14 Z18 (Z43, Z47, Z51) (Int.toNat u70)).2.1)), .ow kF a141 ((v8 * v9).toNat) c142 34 (mirY v8 v9 ((rnT v8 v9 vb10 Z14 Z18 (Z43, Z47, Z51) (Int.toNat u70)).2.2)), .blk b128 [.slice a121 ((v8 * v9).toNat) c122, .slice a123 ((v8 * v9).toNat) c124, .slice a125 ((v8 * v9).toNat) c126] 30, .ow kF a121 ((v8 * v9).toNat) c122 34 ((rnT v8 v9 vb10 (mirS v8 v9 Z14) (mirS v8 v9 Z18) ((mirS v8 v9 Z43), (mirS v8 v9 Z47), (mirY v8 v9 Z51)) (Int.toNat u70)).1), .ow kF a123 ((v8 * v9).toNat) c124 34 ((rnT v8 v9 vb10 (mirS v8 v9 Z14) (mirS v8 v9 Z18) ((mirS v8 v9 Z43), (mirS v8 v9 Z47), (mirY v8 v9 Z51)) (Int.toNat u70)).2.1), .ow kF a125 ((v8 * v9).toNat) c126 34 ((rnT v8 v9 vb10 (mirS v8 v9 Z14) (mirS v8 v9 Z18) ((mirS v8 v9 Z43), (mirS v8 v9 Z47), (mirY v8 v9 Z51)) (Int.toNat u70)).2.2), .blk b112 [.slice a105 ((v8 * v9).toNat) c106, .slice a107 ((v8 * v9).toNat) c108, .slice a109 ((v8 * v9).toNat) c110] 30, .ow kF a105 ((v8 * v9).toNat) c106 34 (mirS v8 v9 Z43), .ow kF a107 ((v8 * v9).toNat) c108 34 (mirS v8 v9 Z47), .ow kF a109 ((v8 * v9).toNat) c110 34 (mirY v8 v9 Z51), .blk b97 [.int .i64 v8, .int .i64 v9, .bool vb10, .slice a92 ((v8 * v9).toNat) c93, .slice a94 ((v8 * v9).toNat) c95] 26, .ow kF a92 ((v8 * v9).toNat) c93 34 (mirS v8 v9 Z14), .ow kF a94 ((v8 * v9).toNat) c95 34 (mirS v8 v9 Z18), .blk b84 [.slice a77 c41 c78, .slice a79 c45 c80, .slice a81 c49 c82] 30, .ow kF a77 c41 c78 34 ((rnT v8 v9 vb10 Z14 Z18 (Z43, Z47, Z51) (Int.toNat u70)).1), .ow kF a79 c45 c80 34 ((rnT v8 v9 vb10 Z14 Z18 (Z43, Z47, Z51) (Int.toNat u70)).2.1), .ow kF a81 c49 c82 34 ((rnT v8 v9 vb10 Z14 Z18 (Z43, Z47, Z51) (Int.toNat u70)).2.2), .blk b63 [.slice a40 c41 c42, .slice a44 c45 c46, .slice a48 c49 c50] 30, .ow kF a40 c41 c42 34 Z43, .ow kF a44 c45 c46 34 Z47, .ow kF a48 c49 c50 34 Z51, .blk b33 [.int .i64 v8, .int .i64 v9, .bool vb10, .slice a11 c12 c13, .slice a15 c16 c17] 26, .ow kF a11 c12 c13 34 Z14, .ow kF a15 c16 c17 34 Z18, .rd kY a0 n0 X0, .rd kY a1 n1 X1] := B.upd [0] rfl hU161
    clear hU161
    refine s_y (v := .bool true) rfl (y_assign rfl) ?_
    refine s_nil ?_
    refine W_seq ?_
    refine W_region (by kernel_rfl) ?_
    refine s_y (v := .agg #[.int .i64 v8, .int .i64 v9, .bool vb10, .slice a11 c12 c13, .slice a15 c16 c17]) rfl (y_loadn (b := b33) (o := 0) (vs := [.int .i64 v8, .int .i64 v9, .bool vb10, .slice a11 c12 c13, .slice a15 c16 c17]) T9.agg_26_5 rfl rfl ((B.b 26 rfl).cells (o := 0) rfl)) ?_
    refine s_y (v := .agg #[.slice a40 c41 c42, .slice a44 c45 c46, .slice a48 c49 c50]) rfl (y_loadn (b := b63) (o := 0) (vs := [.slice a40 c41 c42, .slice a44 c45 c46, .slice a48 c49 c50]) T9.agg_30_3 rfl rfl ((B.b 22 rfl).cells (o := 0) rfl)) ?_
    refine s_k rfl (k_call T9.fn_54 (c_i_SwapField ((B.o 27 rfl).rd) ((B.o 28 rfl).rd) ((B.o 23 rfl).rd) ((B.o 24 rfl).rd) ((B.o 25 rfl).rd) (by first | exact lenle (by assumption) | exact lenle6 (by assumption) | exact le256 (by assumption) | exact le2566 (by assumption) | omega) (by first | exact lenle (by assumption) | exact lenle6 (by assumption) | exact le256 (by assumption) | exact le2566 (by assumption) | omega) (by first | exact lenle (by assumption) | exact lenle6 (by assumption) | exact le256 (by assumption) | exact le2566 (by assumption) | omega) (by first | exact lenle (by assumption) | exact lenle6 (by assumption) | exact le256 (by assumption) | exact le2566 (by assumption) | omega) (by first | exact lenle (by assumption) | exact lenle6 (by assumption) | exact le256 (by assumption) | exact le2566 (by assumption) | omega)) rfl ?_)
    rintro v164 w162 hx163
    obtain ⟨a165, c166, a167, c168, a169, c170, rfl, hN171⟩ := (hx163.resolve_right (fun hz => by rw [hp52] at hz; cases hz.1)).2
    clear hx163
    replace B := B.new3 hN171
    clear hN171
    refine s_y (v := .tuple #[.agg #[.slice a165 ((v8 * v9).toNat) c166, .slice a167 ((v8 * v9).toNat) c168, .slice a169 ((v8 * v9).toNat) c170], .bool true]) rfl (y_move rfl) ?_
    refine s_y (v := .agg #[.slice a165 ((v8 * v9).toNat) c166, .slice a167 ((v8 * v9).toNat) c168, .slice a169 ((v8 * v9).toNat) c170]) rfl (y_extract rfl rfl) ?_
    refine s_y (v := .bool true) rfl (y_extract rfl rfl) ?_
    refine s_k rfl (k_allocN (z := (.agg #[.slice none 0 0, .slice none 0 0, .slice none 0 0])) (cs := [.slice none 0 0, .slice none 0 0, .slice none 0 0]) T9.zero_30 rfl (fun b172 w173 hN174 => ?_))
    replace B := B.new1 hN174
    clear hN174
    refine s_k0 rfl (k_stB (v := .agg #[.slice a165 ((v8 * v9).toNat) c166, .slice a167 ((v8 * v9).toNat) c168, .slice a169 ((v8 * v9).toNat) c170]) (n := 3) (cs' := [.slice a165 ((v8 * v9).toNat) c166, .slice a167 ((v8 * v9).toNat) c168, .slice a169 ((v8 * v9).toNat) c170]) T9.sz_30_3 rfl rfl rfl (B.b 0 rfl) (by simp [Value.cells, Value.oneCell']) (Nat.le_of_ble_eq_true rfl) rfl (fun w175 hU176 => ?_))
    replace B : Bu w no w175 [.blk b172 [.slice a165 ((v8 * v9).toNat) c166, .slice a167 ((v8 * v9).toNat) c168, .slice a169 ((v8 * v9).toNat) c170] 30, .ow kF a165 ((v8 * v9).toNat) c166 34 (swpS v8 v9 Z43), .ow kF a167 ((v8 * v9).toNat) c168 34 (negL (v8 * v9) (swpS v8 v9 Z51)), .ow kF a169 ((v8 * v9).toNat) c170 34 (negL (v8 * v9) (swpS v8 v9 Z47)), .blk b157 [.int .i64 v9, .int .i64 v8, .bool vb10, .slice a152 ((v8 * v9).toNat) c153, .slice a154 ((v8 * v9).toNat) c155] 26, .ow kF a152 ((v8 * v9).toNat) c153 34 (swpS v8 v9 Z14), .ow kF a154 ((v8 * v9).toNat) c155 34 (swpS v8 v9 Z18), .blk b144 [.slice a137 ((v8 * v9).toNat) c138, .slice a139 ((v8 * v9).toNat) c140, .slice a141 ((v8 * v9).toNat) c142] 30, .ow kF a137 ((v8 * v9).toNat) c138 34 (mirS v8 v9 ((rnT v8 v9 vb10 Z14 Z18 (Z43, Z47, Z51) (Int.toNat u70)).1)), .ow kF a139 ((v8 * v9).toNat) c140 34 (mirS v8 v9 ((rnT v8 v9 vb10 Z14 Z18 (Z43, Z47, Z51) (Int.toNat u70)).2.1)), .ow kF a141 ((v8 * v9).toNat) c142 34 (mirY v8 v9 ((rnT v8 v9 vb10 Z14 Z18 (Z43, Z47, Z51) (Int.toNat u70)).2.2)), .blk b128 [.slice a121 ((v8 * v9).toNat) c122, .slice a123 ((v8 * v9).toNat) c124, .slice a125 ((v8 * v9).toNat) c126] 30, .ow kF a121 ((v8 * v9).toNat) c122 34 ((rnT v8 v9 vb10 (mirS v8 v9 Z14) (mirS v8 v9 Z18) ((mirS v8 v9 Z43), (mirS v8 v9 Z47), (mirY v8 v9 Z51)) (Int.toNat u70)).1), .ow kF a123 ((v8 * v9).toNat) c124 34 ((rnT v8 v9 vb10 (mirS v8 v9 Z14) (mirS v8 v9 Z18) ((mirS v8 v9 Z43), (mirS v8 v9 Z47), (mirY v8 v9 Z51)) (Int.toNat u70)).2.1), .ow kF a125 ((v8 * v9).toNat) c126 34 ((rnT v8 v9 vb10 (mirS v8 v9 Z14) (mirS v8 v9 Z18) ((mirS v8 v9 Z43), (mirS v8 v9 Z47), (mirY v8 v9 Z51)) (Int.toNat u70)).2.2), .blk b112 [.slice a105 ((v8 * v9).toNat) c106, .slice a107 ((v8 * v9).toNat) c108, .slice a109 ((v8 * v9).toNat) c110] 30, .ow kF a105 ((v8 * v9).toNat) c106 34 (mirS v8 v9 Z43), .ow kF a107 ((v8 * v9).toNat) c108 34 (mirS v8 v9 Z47), .ow kF a109 ((v8 * v9).toNat) c110 34 (mirY v8 v9 Z51), .blk b97 [.int .i64 v8, .int .i64 v9, .bool vb10, .slice a92 ((v8 * v9).toNat) c93, .slice a94 ((v8 * v9).toNat) c95] 26, .ow kF a92 ((v8 * v9).toNat) c93 34 (mirS v8 v9 Z14), .ow kF a94 ((v8 * v9).toNat) c95 34 (mirS v8 v9 Z18), .blk b84 [.slice a77 c41 c78, .slice a79 c45 c80, .slice a81 c49 c82] 30, .ow kF a77 c41 c78 34 ((rnT v8 v9 vb10 Z14 Z18 (Z43, Z47, Z51) (Int.toNat u70)).1), .ow kF a79 c45 c80 34 ((rnT v8 v9 vb10 Z14 Z18 (Z43, Z47, Z51) (Int.toNat u70)).2.1), .ow kF a81 c49 c82 34 ((rnT v8 v9 vb10 Z14 Z18 (Z43, Z47, Z51) (Int.toNat u70)).2.2), .blk b63 [.slice a40 c41 c42, .slice a44 c45 c46, .slice a48 c49 c50] 30, .ow kF a40 c41 c42 34 Z43, .ow kF a44 c45 c46 34 Z47, .ow kF a48 c49 c50 34 Z51, .blk b33 [.int .i64 v8, .int .i64 v9, .bool vb10, .slice a11 c12 c13, .slice a15 c16 c17] 26, .ow kF a11 c12 c13 34 Z14, .ow kF a15 c16 c17 34 Z18, .rd kY a0 n0 X0, .rd kY a1 n1 X1] := B.upd [0] rfl hU176
    clear hU176
    refine s_y (v := .bool true) rfl (y_assign rfl) ?_
    refine s_nil ?_
    refine W_seq ?_
    refine W_region (by kernel_rfl) ?_
    refine s_y (v := .agg #[.int .i64 v9, .int .i64 v8, .bool vb10, .slice a152 ((v8 * v9).toNat) c153, .slice a154 ((v8 * v9).toNat) c155]) rfl (y_loadn (b := b157) (o := 0) (vs := [.int .i64 v9, .int .i64 v8, .bool vb10, .slice a152 ((v8 * v9).toNat) c153, .slice a154 ((v8 * v9).toNat) c155]) T9.agg_26_5 rfl rfl ((B.b 4 rfl).cells (o := 0) rfl)) ?_
    refine s_y (v := .agg #[.slice a165 ((v8 * v9).toNat) c166, .slice a167 ((v8 * v9).toNat) c168, .slice a169 ((v8 * v9).toNat) c170]) rfl (y_loadn (b := b172) (o := 0) (vs := [.slice a165 ((v8 * v9).toNat) c166, .slice a167 ((v8 * v9).toNat) c168, .slice a169 ((v8 * v9).toNat) c170]) T9.agg_30_3 rfl rfl ((B.b 0 rfl).cells (o := 0) rfl)) ?_
    refine s_y (v := .int .i64 u70) rfl (y_move rfl) ?_
    refine s_k rfl (k_call T9.fn_17 (c_i_RunField ((B.o 5 rfl).rd) ((B.o 6 rfl).rd) ((B.o 1 rfl).rd) ((B.o 2 rfl).rd) ((B.o 3 rfl).rd) (by first | exact lenle (by assumption) | exact lenle6 (by assumption) | exact le256 (by assumption) | exact le2566 (by assumption) | omega) (by first | exact lenle (by assumption) | exact lenle6 (by assumption) | exact le256 (by assumption) | exact le2566 (by assumption) | omega) (by first | exact lenle (by assumption) | exact lenle6 (by assumption) | exact le256 (by assumption) | exact le2566 (by assumption) | omega) (by first | exact lenle (by assumption) | exact lenle6 (by assumption) | exact le256 (by assumption) | exact le2566 (by assumption) | omega) (by first | exact lenle (by assumption) | exact lenle6 (by assumption) | exact le256 (by assumption) | exact le2566 (by assumption) | omega)) rfl ?_)
    rintro v179 w177 hx178
    have hk180 : runB v9 v8 vb10 (swpS v8 v9 Z14) (swpS v8 v9 Z18) (swpS v8 v9 Z43) (negL (v8 * v9) (swpS v8 v9 Z51)) (negL (v8 * v9) (swpS v8 v9 Z47)) u70 = true := (runB_yes (fieldB_swp hp52) (by omega))
    obtain ⟨a181, c182, a183, c184, a185, c186, rfl, hN187⟩ := (hx178.resolve_right (fun hz => by rw [hk180] at hz; cases hz.1)).2
    clear hx178
    replace B := B.new3 hN187
    clear hN187
    refine s_y (v := .tuple #[.agg #[.slice a181 ((v8 * v9).toNat) c182, .slice a183 ((v8 * v9).toNat) c184, .slice a185 ((v8 * v9).toNat) c186], .bool true]) rfl (y_move rfl) ?_
    refine s_y (v := .agg #[.slice a181 ((v8 * v9).toNat) c182, .slice a183 ((v8 * v9).toNat) c184, .slice a185 ((v8 * v9).toNat) c186]) rfl (y_extract rfl rfl) ?_
    refine s_y (v := .bool true) rfl (y_extract rfl rfl) ?_
    refine s_k rfl (k_allocN (z := (.agg #[.slice none 0 0, .slice none 0 0, .slice none 0 0])) (cs := [.slice none 0 0, .slice none 0 0, .slice none 0 0]) T9.zero_30 rfl (fun b188 w189 hN190 => ?_))
    replace B := B.new1 hN190
    clear hN190
    refine s_k0 rfl (k_stB (v := .agg #[.slice a181 ((v8 * v9).toNat) c182, .slice a183 ((v8 * v9).toNat) c184, .slice a185 ((v8 * v9).toNat) c186]) (n := 3) (cs' := [.slice a181 ((v8 * v9).toNat) c182, .slice a183 ((v8 * v9).toNat) c184, .slice a185 ((v8 * v9).toNat) c186]) T9.sz_30_3 rfl rfl rfl (B.b 0 rfl) (by simp [Value.cells, Value.oneCell']) (Nat.le_of_ble_eq_true rfl) rfl (fun w191 hU192 => ?_))
    replace B : Bu w no w191 [.blk b188 [.slice a181 ((v8 * v9).toNat) c182, .slice a183 ((v8 * v9).toNat) c184, .slice a185 ((v8 * v9).toNat) c186] 30, .ow kF a181 ((v8 * v9).toNat) c182 34 ((rnT v9 v8 vb10 (swpS v8 v9 Z14) (swpS v8 v9 Z18) ((swpS v8 v9 Z43), (negL (v8 * v9) (swpS v8 v9 Z51)), (negL (v8 * v9) (swpS v8 v9 Z47))) (Int.toNat u70)).1), .ow kF a183 ((v8 * v9).toNat) c184 34 ((rnT v9 v8 vb10 (swpS v8 v9 Z14) (swpS v8 v9 Z18) ((swpS v8 v9 Z43), (negL (v8 * v9) (swpS v8 v9 Z51)), (negL (v8 * v9) (swpS v8 v9 Z47))) (Int.toNat u70)).2.1), .ow kF a185 ((v8 * v9).toNat) c186 34 ((rnT v9 v8 vb10 (swpS v8 v9 Z14) (swpS v8 v9 Z18) ((swpS v8 v9 Z43), (negL (v8 * v9) (swpS v8 v9 Z51)), (negL (v8 * v9) (swpS v8 v9 Z47))) (Int.toNat u70)).2.2), .blk b172 [.slice a165 ((v8 * v9).toNat) c166, .slice a167 ((v8 * v9).toNat) c168, .slice a169 ((v8 * v9).toNat) c170] 30, .ow kF a165 ((v8 * v9).toNat) c166 34 (swpS v8 v9 Z43), .ow kF a167 ((v8 * v9).toNat) c168 34 (negL (v8 * v9) (swpS v8 v9 Z51)), .ow kF a169 ((v8 * v9).toNat) c170 34 (negL (v8 * v9) (swpS v8 v9 Z47)), .blk b157 [.int .i64 v9, .int .i64 v8, .bool vb10, .slice a152 ((v8 * v9).toNat) c153, .slice a154 ((v8 * v9).toNat) c155] 26, .ow kF a152 ((v8 * v9).toNat) c153 34 (swpS v8 v9 Z14), .ow kF a154 ((v8 * v9).toNat) c155 34 (swpS v8 v9 Z18), .blk b144 [.slice a137 ((v8 * v9).toNat) c138, .slice a139 ((v8 * v9).toNat) c140, .slice a141 ((v8 * v9).toNat) c142] 30, .ow kF a137 ((v8 * v9).toNat) c138 34 (mirS v8 v9 ((rnT v8 v9 vb10 Z14 Z18 (Z43, Z47, Z51) (Int.toNat u70)).1)), .ow kF a139 ((v8 * v9).toNat) c140 34 (mirS v8 v9 ((rnT v8 v9 vb10 Z14 Z18 (Z43, Z47, Z51) (Int.toNat u70)).2.1)), .ow kF a141 ((v8 * v9).toNat) c142 34 (mirY v8 v9 ((rnT v8 v9 vb10 Z14 Z18 (Z43, Z47, Z51) (Int.toNat u70)).2.2)), .blk b128 [.slice a121 ((v8 * v9).toNat) c122, .slice a123 ((v8 * v9).toNat) c124, .slice a125 ((v8 * v9).toNat) c126] 30, .ow kF a121 ((v8 * v9).toNat) c122 34 ((rnT v8 v9 vb10 (mirS v8 v9 Z14) (mirS v8 v9 Z18) ((mirS v8 v9 Z43), (mirS v8 v9 Z47), (mirY v8 v9 Z51)) (Int.toNat u70)).1), .ow kF a123 ((v8 * v9).toNat) c124 34 ((rnT v8 v9 vb10 (mirS v8 v9 Z14) (mirS v8 v9 Z18) ((mirS v8 v9 Z43), (mirS v8 v9 Z47), (mirY v8 v9 Z51)) (Int.toNat u70)).2.1), .ow kF a125 ((v8 * v9).toNat) c126 34 ((rnT v8 v9 vb10 (mirS v8 v9 Z14) (mirS v8 v9 Z18) ((mirS v8 v9 Z43), (mirS v8 v9 Z47), (mirY v8 v9 Z51)) (Int.toNat u70)).2.2), .blk b112 [.slice a105 ((v8 * v9).toNat) c106, .slice a107 ((v8 * v9).toNat) c108, .slice a109 ((v8 * v9).toNat) c110] 30, .ow kF a105 ((v8 * v9).toNat) c106 34 (mirS v8 v9 Z43), .ow kF a107 ((v8 * v9).toNat) c108 34 (mirS v8 v9 Z47), .ow kF a109 ((v8 * v9).toNat) c110 34 (mirY v8 v9 Z51), .blk b97 [.int .i64 v8, .int .i64 v9, .bool vb10, .slice a92 ((v8 * v9).toNat) c93, .slice a94 ((v8 * v9).toNat) c95] 26, .ow kF a92 ((v8 * v9).toNat) c93 34 (mirS v8 v9 Z14), .ow kF a94 ((v8 * v9).toNat) c95 34 (mirS v8 v9 Z18), .blk b84 [.slice a77 c41 c78, .slice a79 c45 c80, .slice a81 c49 c82] 30, .ow kF a77 c41 c78 34 ((rnT v8 v9 vb10 Z14 Z18 (Z43, Z47, Z51) (Int.toNat u70)).1), .ow kF a79 c45 c80 34 ((rnT v8 v9 vb10 Z14 Z18 (Z43, Z47, Z51) (Int.toNat u70)).2.1), .ow kF a81 c49 c82 34 ((rnT v8 v9 vb10 Z14 Z18 (Z43, Z47, Z51) (Int.toNat u70)).2.2), .blk b63 [.slice a40 c41 c42, .slice a44 c45 c46, .slice a48 c49 c50] 30, .ow kF a40 c41 c42 34 Z43, .ow kF a44 c45 c46 34 Z47, .ow kF a48 c49 c50 34 Z51, .blk b33 [.int .i64 v8, .int .i64 v9, .bool vb10, .slice a11 c12 c13, .slice a15 c16 c17] 26, .ow kF a11 c12 c13 34 Z14, .ow kF a15 c16 c17 34 Z18, .rd kY a0 n0 X0, .rd kY a1 n1 X1] := B.upd [0] rfl hU192
    clear hU192
    refine s_y (v := .bool true) rfl (y_assign rfl) ?_
    refine s_nil ?_
    refine W_seq ?_
    refine W_region (by kernel_rfl) ?_
    refine s_y (v := .agg #[.int .i64 v8, .int .i64 v9, .bool vb10, .slice a11 c12 c13, .slice a15 c16 c17]) rfl (y_loadn (b := b33) (o := 0) (vs := [.int .i64 v8, .int .i64 v9, .bool vb10, .slice a11 c12 c13, .slice a15 c16 c17]) T9.agg_26_5 rfl rfl ((B.b 34 rfl).cells (o := 0) rfl)) ?_
    refine s_y (v := .agg #[.slice a77 c41 c78, .slice a79 c45 c80, .slice a81 c49 c82]) rfl (y_loadn (b := b84) (o := 0) (vs := [.slice a77 c41 c78, .slice a79 c45 c80, .slice a81 c49 c82]) T9.agg_30_3 rfl rfl ((B.b 26 rfl).cells (o := 0) rfl)) ?_
    refine s_k rfl (k_call T9.fn_54 (c_i_SwapField ((B.o 35 rfl).rd) ((B.o 36 rfl).rd) ((B.o 27 rfl).rd) ((B.o 28 rfl).rd) ((B.o 29 rfl).rd) (by first | exact lenle (by assumption) | exact lenle6 (by assumption) | exact le256 (by assumption) | exact le2566 (by assumption) | omega) (by first | exact lenle (by assumption) | exact lenle6 (by assumption) | exact le256 (by assumption) | exact le2566 (by assumption) | omega) (by first | exact lenle (by assumption) | exact lenle6 (by assumption) | exact le256 (by assumption) | exact le2566 (by assumption) | omega) (by first | exact lenle (by assumption) | exact lenle6 (by assumption) | exact le256 (by assumption) | exact le2566 (by assumption) | omega) (by first | exact lenle (by assumption) | exact lenle6 (by assumption) | exact le256 (by assumption) | exact le2566 (by assumption) | omega)) rfl ?_)
    rintro v195 w193 hx194
    obtain ⟨a196, c197, a198, c199, a200, c201, rfl, hN202⟩ := (hx194.resolve_right (fun hz => by rw [hk136] at hz; cases hz.1)).2
    clear hx194
    replace B := B.new3 hN202
    clear hN202
    refine s_y (v := .tuple #[.agg #[.slice a196 ((v8 * v9).toNat) c197, .slice a198 ((v8 * v9).toNat) c199, .slice a200 ((v8 * v9).toNat) c201], .bool true]) rfl (y_move rfl) ?_
    refine s_y (v := .agg #[.slice a196 ((v8 * v9).toNat) c197, .slice a198 ((v8 * v9).toNat) c199, .slice a200 ((v8 * v9).toNat) c201]) rfl (y_extract rfl rfl) ?_
    refine s_y (v := .bool true) rfl (y_extract rfl rfl) ?_
    refine s_k rfl (k_allocN (z := (.agg #[.slice none 0 0, .slice none 0 0, .slice none 0 0])) (cs := [.slice none 0 0, .slice none 0 0, .slice none 0 0]) T9.zero_30 rfl (fun b203 w204 hN205 => ?_))
    replace B := B.new1 hN205
    clear hN205
    refine s_k0 rfl (k_stB (v := .agg #[.slice a196 ((v8 * v9).toNat) c197, .slice a198 ((v8 * v9).toNat) c199, .slice a200 ((v8 * v9).toNat) c201]) (n := 3) (cs' := [.slice a196 ((v8 * v9).toNat) c197, .slice a198 ((v8 * v9).toNat) c199, .slice a200 ((v8 * v9).toNat) c201]) T9.sz_30_3 rfl rfl rfl (B.b 0 rfl) (by simp [Value.cells, Value.oneCell']) (Nat.le_of_ble_eq_true rfl) rfl (fun w206 hU207 => ?_))
    replace B : Bu w no w206 [.blk b203 [.slice a196 ((v8 * v9).toNat) c197, .slice a198 ((v8 * v9).toNat) c199, .slice a200 ((v8 * v9).toNat) c201] 30, .ow kF a196 ((v8 * v9).toNat) c197 34 (swpS v8 v9 ((rnT v8 v9 vb10 Z14 Z18 (Z43, Z47, Z51) (Int.toNat u70)).1)), .ow kF a198 ((v8 * v9).toNat) c199 34 (negL (v8 * v9) (swpS v8 v9 ((rnT v8 v9 vb10 Z14 Z18 (Z43, Z47, Z51) (Int.toNat u70)).2.2))), .ow kF a200 ((v8 * v9).toNat) c201 34 (negL (v8 * v9) (swpS v8 v9 ((rnT v8 v9 vb10 Z14 Z18 (Z43, Z47, Z51) (Int.toNat u70)).2.1))), .blk b188 [.slice a181 ((v8 * v9).toNat) c182, .slice a183 ((v8 * v9).toNat) c184, .slice a185 ((v8 * v9).toNat) c186] 30, .ow kF a181 ((v8 * v9).toNat) c182 34 ((rnT v9 v8 vb10 (swpS v8 v9 Z14) (swpS v8 v9 Z18) ((swpS v8 v9 Z43), (negL (v8 * v9) (swpS v8 v9 Z51)), (negL (v8 * v9) (swpS v8 v9 Z47))) (Int.toNat u70)).1), .ow kF a183 ((v8 * v9).toNat) c184 34 ((rnT v9 v8 vb10 (swpS v8 v9 Z14) (swpS v8 v9 Z18) ((swpS v8 v9 Z43), (negL (v8 * v9) (swpS v8 v9 Z51)), (negL (v8 * v9) (swpS v8 v9 Z47))) (Int.toNat u70)).2.1), .ow kF a185 ((v8 * v9).toNat) c186 34 ((rnT v9 v8 vb10 (swpS v8 v9 Z14) (swpS v8 v9 Z18) ((swpS v8 v9 Z43), (negL (v8 * v9) (swpS v8 v9 Z51)), (negL (v8 * v9) (swpS v8 v9 Z47))) (Int.toNat u70)).2.2), .blk b172 [.slice a165 ((v8 * v9).toNat) c166, .slice a167 ((v8 * v9).toNat) c168, .slice a169 ((v8 * v9).toNat) c170] 30, .ow kF a165 ((v8 * v9).toNat) c166 34 (swpS v8 v9 Z43), .ow kF a167 ((v8 * v9).toNat) c168 34 (negL (v8 * v9) (swpS v8 v9 Z51)), .ow kF a169 ((v8 * v9).toNat) c170 34 (negL (v8 * v9) (swpS v8 v9 Z47)), .blk b157 [.int .i64 v9, .int .i64 v8, .bool vb10, .slice a152 ((v8 * v9).toNat) c153, .slice a154 ((v8 * v9).toNat) c155] 26, .ow kF a152 ((v8 * v9).toNat) c153 34 (swpS v8 v9 Z14), .ow kF a154 ((v8 * v9).toNat) c155 34 (swpS v8 v9 Z18), .blk b144 [.slice a137 ((v8 * v9).toNat) c138, .slice a139 ((v8 * v9).toNat) c140, .slice a141 ((v8 * v9).toNat) c142] 30, .ow kF a137 ((v8 * v9).toNat) c138 34 (mirS v8 v9 ((rnT v8 v9 vb10 Z14 Z18 (Z43, Z47, Z51) (Int.toNat u70)).1)), .ow kF a139 ((v8 * v9).toNat) c140 34 (mirS v8 v9 ((rnT v8 v9 vb10 Z14 Z18 (Z43, Z47, Z51) (Int.toNat u70)).2.1)), .ow kF a141 ((v8 * v9).toNat) c142 34 (mirY v8 v9 ((rnT v8 v9 vb10 Z14 Z18 (Z43, Z47, Z51) (Int.toNat u70)).2.2)), .blk b128 [.slice a121 ((v8 * v9).toNat) c122, .slice a123 ((v8 * v9).toNat) c124, .slice a125 ((v8 * v9).toNat) c126] 30, .ow kF a121 ((v8 * v9).toNat) c122 34 ((rnT v8 v9 vb10 (mirS v8 v9 Z14) (mirS v8 v9 Z18) ((mirS v8 v9 Z43), (mirS v8 v9 Z47), (mirY v8 v9 Z51)) (Int.toNat u70)).1), .ow kF a123 ((v8 * v9).toNat) c124 34 ((rnT v8 v9 vb10 (mirS v8 v9 Z14) (mirS v8 v9 Z18) ((mirS v8 v9 Z43), (mirS v8 v9 Z47), (mirY v8 v9 Z51)) (Int.toNat u70)).2.1), .ow kF a125 ((v8 * v9).toNat) c126 34 ((rnT v8 v9 vb10 (mirS v8 v9 Z14) (mirS v8 v9 Z18) ((mirS v8 v9 Z43), (mirS v8 v9 Z47), (mirY v8 v9 Z51)) (Int.toNat u70)).2.2), .blk b112 [.slice a105 ((v8 * v9).toNat) c106, .slice a107 ((v8 * v9).toNat) c108, .slice a109 ((v8 * v9).toNat) c110] 30, .ow kF a105 ((v8 * v9).toNat) c106 34 (mirS v8 v9 Z43), .ow kF a107 ((v8 * v9).toNat) c108 34 (mirS v8 v9 Z47), .ow kF a109 ((v8 * v9).toNat) c110 34 (mirY v8 v9 Z51), .blk b97 [.int .i64 v8, .int .i64 v9, .bool vb10, .slice a92 ((v8 * v9).toNat) c93, .slice a94 ((v8 * v9).toNat) c95] 26, .ow kF a92 ((v8 * v9).toNat) c93 34 (mirS v8 v9 Z14), .ow kF a94 ((v8 * v9).toNat) c95 34 (mirS v8 v9 Z18), .blk b84 [.slice a77 c41 c78, .slice a79 c45 c80, .slice a81 c49 c82] 30, .ow kF a77 c41 c78 34 ((rnT v8 v9 vb10 Z14 Z18 (Z43, Z47, Z51) (Int.toNat u70)).1), .ow kF a79 c45 c80 34 ((rnT v8 v9 vb10 Z14 Z18 (Z43, Z47, Z51) (Int.toNat u70)).2.1), .ow kF a81 c49 c82 34 ((rnT v8 v9 vb10 Z14 Z18 (Z43, Z47, Z51) (Int.toNat u70)).2.2), .blk b63 [.slice a40 c41 c42, .slice a44 c45 c46, .slice a48 c49 c50] 30, .ow kF a40 c41 c42 34 Z43, .ow kF a44 c45 c46 34 Z47, .ow kF a48 c49 c50 34 Z51, .blk b33 [.int .i64 v8, .int .i64 v9, .bool vb10, .slice a11 c12 c13, .slice a15 c16 c17] 26, .ow kF a11 c12 c13 34 Z14, .ow kF a15 c16 c17 34 Z18, .rd kY a0 n0 X0, .rd kY a1 n1 X1] := B.upd [0] rfl hU207
    clear hU207
    refine s_y (v := .bool true) rfl (y_assign rfl) ?_
    refine s_nil ?_
    refine W_seq ?_
    refine W_seq ?_
    refine W_region (by kernel_rfl) ?_
    refine s_y (v := .bool true) rfl (y_move rfl) ?_
    refine s_y (v := .bool false) rfl (y_not rfl rfl) ?_
    refine s_y (v := .bool false) rfl (y_move rfl) ?_
    refine s_y (v := .bool true) rfl (y_move rfl) ?_
    refine s_y (v := .bool false) rfl (y_not rfl rfl) ?_
    refine s_y (v := .bool false) rfl (y_pick_f rfl rfl) ?_
    refine s_y (v := .bool false) rfl (y_move rfl) ?_
    refine s_y (v := .bool true) rfl (y_move rfl) ?_
    refine s_y (v := .bool false) rfl (y_not rfl rfl) ?_
    refine s_y (v := .bool false) rfl (y_pick_f rfl rfl) ?_
    refine s_y (v := .bool false) rfl (y_move rfl) ?_
    refine s_y (v := .bool true) rfl (y_move rfl) ?_
    refine s_y (v := .bool false) rfl (y_not rfl rfl) ?_
    refine s_y (v := .bool false) rfl (y_pick_f rfl rfl) ?_
    refine s_y (v := .bool false) rfl (y_move rfl) ?_
    refine s_y (v := .bool true) rfl (y_move rfl) ?_
    refine s_y (v := .bool false) rfl (y_not rfl rfl) ?_
    refine s_y (v := .bool false) rfl (y_pick_f rfl rfl) ?_
    refine s_y (v := .bool false) rfl (y_move rfl) ?_
    refine s_y (v := .bool true) rfl (y_move rfl) ?_
    refine s_y (v := .bool false) rfl (y_not rfl rfl) ?_
    refine s_y (v := .bool false) rfl (y_pick_f rfl rfl) ?_
    refine s_y (v := .bool false) rfl (y_move rfl) ?_
    refine s_y (v := .bool true) rfl (y_move rfl) ?_
    refine s_y (v := .bool false) rfl (y_not rfl rfl) ?_
    refine s_y (v := .bool false) rfl (y_pick_f rfl rfl) ?_
    refine s_y (v := .bool false) rfl (y_move rfl) ?_
    refine s_y (v := .bool true) rfl (y_move rfl) ?_
    refine s_y (v := .bool false) rfl (y_not rfl rfl) ?_
    refine s_y (v := .bool false) rfl (y_pick_f rfl rfl) ?_
    refine s_y (v := .bool false) rfl (y_move rfl) ?_
    refine s_y (v := .bool true) rfl (y_move rfl) ?_
    refine s_y (v := .bool false) rfl (y_not rfl rfl) ?_
    refine s_y (v := .bool false) rfl (y_pick_f rfl rfl) ?_
    refine s_y (v := .bool false) rfl (y_move rfl) ?_
    refine s_y (v := .agg #[.slice a121 ((v8 * v9).toNat) c122, .slice a123 ((v8 * v9).toNat) c124, .slice a125 ((v8 * v9).toNat) c126]) rfl (y_loadn (b := b128) (o := 0) (vs := [.slice a121 ((v8 * v9).toNat) c122, .slice a123 ((v8 * v9).toNat) c124, .slice a125 ((v8 * v9).toNat) c126]) T9.agg_30_3 rfl rfl ((B.b 19 rfl).cells (o := 0) rfl)) ?_
    refine s_y (v := .agg #[.slice a137 ((v8 * v9).toNat) c138, .slice a139 ((v8 * v9).toNat) c140, .slice a141 ((v8 * v9).toNat) c142]) rfl (y_loadn (b := b144) (o := 0) (vs := [.slice a137 ((v8 * v9).toNat) c138, .slice a139 ((v8 * v9).toNat) c140, .slice a141 ((v8 * v9).toNat) c142]) T9.agg_30_3 rfl rfl ((B.b 15 rfl).cells (o := 0) rfl)) ?_
    refine s_k rfl (k_call T9.fn_50 (c_l_r8Fields ((B.o 20 rfl).rd) ((B.o 21 rfl).rd) ((B.o 22 rfl).rd) ((B.o 16 rfl).rd) ((B.o 17 rfl).rd) ((B.o 18 rfl).rd) (by first | exact lenle (by assumption) | exact lenle6 (by assumption) | exact le256 (by assumption) | exact le2566 (by assumption) | omega) (by first | exact lenle (by assumption) | exact lenle6 (by assumption) | exact le256 (by assumption) | exact le2566 (by assumption) | omega) (by first | exact lenle (by assumption) | exact lenle6 (by assumption) | exact le256 (by assumption) | exact le2566 (by assumption) | omega) (by first | exact lenle (by assumption) | exact lenle6 (by assumption) | exact le256 (by assumption) | exact le2566 (by assumption) | omega) (by first | exact lenle (by assumption) | exact lenle6 (by assumption) | exact le256 (by assumption) | exact le2566 (by assumption) | omega) (by first | exact lenle (by assumption) | exact lenle6 (by assumption) | exact le256 (by assumption) | exact le2566 (by assumption) | omega)) rfl ?_)
    rintro v210 w208 ⟨hv211, e209⟩
    replace B := B.ext0 e209
    clear e209
    have hk212 : (eqL ((rnT v8 v9 vb10 (mirS v8 v9 Z14) (mirS v8 v9 Z18) ((mirS v8 v9 Z43), (mirS v8 v9 Z47), (mirY v8 v9 Z51)) (Int.toNat u70)).1) (mirS v8 v9 ((rnT v8 v9 vb10 Z14 Z18 (Z43, Z47, Z51) (Int.toNat u70)).1)) && eqL ((rnT v8 v9 vb10 (mirS v8 v9 Z14) (mirS v8 v9 Z18) ((mirS v8 v9 Z43), (mirS v8 v9 Z47), (mirY v8 v9 Z51)) (Int.toNat u70)).2.1) (mirS v8 v9 ((rnT v8 v9 vb10 Z14 Z18 (Z43, Z47, Z51) (Int.toNat u70)).2.1)) && eqL ((rnT v8 v9 vb10 (mirS v8 v9 Z14) (mirS v8 v9 Z18) ((mirS v8 v9 Z43), (mirS v8 v9 Z47), (mirY v8 v9 Z51)) (Int.toNat u70)).2.2) (mirY v8 v9 ((rnT v8 v9 vb10 Z14 Z18 (Z43, Z47, Z51) (Int.toNat u70)).2.2))) = true := (eq_mir hp22 hp52 hp53 (by omega))
    obtain rfl : v210 = .bool true := hv211.trans (congrArg Value.bool hk212)
    refine s_y (v := .bool false) rfl (y_not rfl rfl) ?_
    refine s_y (v := .bool false) rfl (y_pick_f rfl rfl) ?_
    refine s_y (v := .bool false) rfl (y_move rfl) ?_
    refine s_y (v := .agg #[.slice a181 ((v8 * v9).toNat) c182, .slice a183 ((v8 * v9).toNat) c184, .slice a185 ((v8 * v9).toNat) c186]) rfl (y_loadn (b := b188) (o := 0) (vs := [.slice a181 ((v8 * v9).toNat) c182, .slice a183 ((v8 * v9).toNat) c184, .slice a185 ((v8 * v9).toNat) c186]) T9.agg_30_3 rfl rfl ((B.b 4 rfl).cells (o := 0) rfl)) ?_
    refine s_y (v := .agg #[.slice a196 ((v8 * v9).toNat) c197, .slice a198 ((v8 * v9).toNat) c199, .slice a200 ((v8 * v9).toNat) c201]) rfl (y_loadn (b := b203) (o := 0) (vs := [.slice a196 ((v8 * v9).toNat) c197, .slice a198 ((v8 * v9).toNat) c199, .slice a200 ((v8 * v9).toNat) c201]) T9.agg_30_3 rfl rfl ((B.b 0 rfl).cells (o := 0) rfl)) ?_
    refine s_k rfl (k_call T9.fn_50 (c_l_r8Fields ((B.o 5 rfl).rd) ((B.o 6 rfl).rd) ((B.o 7 rfl).rd) ((B.o 1 rfl).rd) ((B.o 2 rfl).rd) ((B.o 3 rfl).rd) (by first | exact lenle (by assumption) | exact lenle6 (by assumption) | exact le256 (by assumption) | exact le2566 (by assumption) | omega) (by first | exact lenle (by assumption) | exact lenle6 (by assumption) | exact le256 (by assumption) | exact le2566 (by assumption) | omega) (by first | exact lenle (by assumption) | exact lenle6 (by assumption) | exact le256 (by assumption) | exact le2566 (by assumption) | omega) (by first | exact lenle (by assumption) | exact lenle6 (by assumption) | exact le256 (by assumption) | exact le2566 (by assumption) | omega) (by first | exact lenle (by assumption) | exact lenle6 (by assumption) | exact le256 (by assumption) | exact le2566 (by assumption) | omega) (by first | exact lenle (by assumption) | exact lenle6 (by assumption) | exact le256 (by assumption) | exact le2566 (by assumption) | omega)) rfl ?_)
    rintro v215 w213 ⟨hv216, e214⟩
    replace B := B.ext0 e214
    clear e214
    have hk217 : (eqL ((rnT v9 v8 vb10 (swpS v8 v9 Z14) (swpS v8 v9 Z18) ((swpS v8 v9 Z43), (negL (v8 * v9) (swpS v8 v9 Z51)), (negL (v8 * v9) (swpS v8 v9 Z47))) (Int.toNat u70)).1) (swpS v8 v9 ((rnT v8 v9 vb10 Z14 Z18 (Z43, Z47, Z51) (Int.toNat u70)).1)) && eqL ((rnT v9 v8 vb10 (swpS v8 v9 Z14) (swpS v8 v9 Z18) ((swpS v8 v9 Z43), (negL (v8 * v9) (swpS v8 v9 Z51)), (negL (v8 * v9) (swpS v8 v9 Z47))) (Int.toNat u70)).2.1) (negL (v8 * v9) (swpS v8 v9 ((rnT v8 v9 vb10 Z14 Z18 (Z43, Z47, Z51) (Int.toNat u70)).2.2))) && eqL ((rnT v9 v8 vb10 (swpS v8 v9 Z14) (swpS v8 v9 Z18) ((swpS v8 v9 Z43), (negL (v8 * v9) (swpS v8 v9 Z51)), (negL (v8 * v9) (swpS v8 v9 Z47))) (Int.toNat u70)).2.2) (negL (v8 * v9) (swpS v8 v9 ((rnT v8 v9 vb10 Z14 Z18 (Z43, Z47, Z51) (Int.toNat u70)).2.1)))) = true := (eq_swp hp22 hp52 hp53 (by omega))
    obtain rfl : v215 = .bool true := hv216.trans (congrArg Value.bool hk217)
    refine s_y (v := .bool false) rfl (y_not rfl rfl) ?_
    refine s_y (v := .bool false) rfl (y_pick_f rfl rfl) ?_
    refine s_nil ?_
    refine W_if_f (by decide) rfl ?_
    refine W_skip ?_
    refine W_seq ?_
    refine W_seq ?_
    refine W_region (by kernel_rfl) ?_
    refine s_y (v := .pointer (some ⟨b33, 2, none⟩)) rfl (y_fld (o := 0) T9.fld_26_2_2 rfl) ?_
    refine s_y (v := .bool vb10) rfl (y_load T9.one_4 rfl ((B.b 38 rfl).cell (j := 2) rfl)) ?_
    refine s_y (v := .bool (!vb10)) rfl (y_not rfl rfl) ?_
    refine s_nil ?_
    cases vb10
    · refine W_if_t (by decide) rfl ?_
      refine W_seq ?_
      refine W_region (by kernel_rfl) ?_
      refine s_y (v := .agg #[.int .i64 v8, .int .i64 v9, .bool false, .slice a11 c12 c13, .slice a15 c16 c17]) rfl (y_loadn (b := b33) (o := 0) (vs := [.int .i64 v8, .int .i64 v9, .bool false, .slice a11 c12 c13, .slice a15 c16 c17]) T9.agg_26_5 rfl rfl ((B.b 38 rfl).cells (o := 0) rfl)) ?_
      refine s_y (v := .agg #[.slice a77 c41 c78, .slice a79 c45 c80, .slice a81 c49 c82]) rfl (y_loadn (b := b84) (o := 0) (vs := [.slice a77 c41 c78, .slice a79 c45 c80, .slice a81 c49 c82]) T9.agg_30_3 rfl rfl ((B.b 30 rfl).cells (o := 0) rfl)) ?_
      refine s_k rfl (k_call T9.fn_41 (c_i_IsField ((B.o 39 rfl).rd) ((B.o 40 rfl).rd) ((B.o 31 rfl).rd) ((B.o 32 rfl).rd) ((B.o 33 rfl).rd) (by first | exact lenle (by assumption) | exact lenle6 (by assumption) | exact le256 (by assumption) | exact le2566 (by assumption) | omega) (by first | exact lenle (by assumption) | exact lenle6 (by assumption) | exact le256 (by assumption) | exact le2566 (by assumption) | omega) (by first | exact lenle (by assumption) | exact lenle6 (by assumption) | exact le256 (by assumption) | exact le2566 (by assumption) | omega) (by first | exact lenle (by assumption) | exact lenle6 (by assumption) | exact le256 (by assumption) | exact le2566 (by assumption) | omega) (by first | exact lenle (by assumption) | exact lenle6 (by assumption) | exact le256 (by assumption) | exact le2566 (by assumption) | omega)) rfl ?_)
      rintro v220 w218 ⟨hv221, e219⟩
      replace B := B.ext0 e219
      clear e219
      obtain rfl : v220 = .bool true := hv221.trans (congrArg Value.bool hk136)
      refine s_y (v := .bool true) rfl (y_assign rfl) ?_
      refine s_nil ?_
      refine W_ret ?_
      refine ret1 (v := .bool true) rfl rfl rfl ⟨_, rfl, ?_⟩
      exact ⟨rfl, B.ext⟩
    · refine W_if_f (by decide) rfl ?_
      refine W_skip ?_
      refine W_seq ?_
      refine W_region (by kernel_rfl) ?_
      refine s_y (v := .slice a1 n1 c1) rfl (y_move rfl) ?_
      refine s_k rfl (k_call T9.fn_24 (c_l_r8At (B.r 42 rfl) (by omega) (by omega) (by first | exact lenle (by assumption) | exact lenle6 (by assumption) | exact le256 (by assumption) | exact le2566 (by assumption) | omega)) rfl ?_)
      rintro _ w222 ⟨u224, rfl, hp225, e223⟩
      replace B := B.ext0 e223
      clear e223
      have hb226 := r8A_b X1 41 (show 1 ≤ 9 by omega)
      rw [← hp225] at hb226
      refine s_y (v := .int .i64 (u224 - 4)) rfl (y_sub rfl rfl rfl (by omega)) ?_
      refine s_y (v := .int .i64 (u224 - 4)) rfl (y_assign rfl) ?_
      refine s_nil ?_
      refine W_seq ?_
      refine W_region (by kernel_rfl) ?_
      refine s_y (v := .agg #[.int .i64 v8, .int .i64 v9, .bool true, .slice a11 c12 c13, .slice a15 c16 c17]) rfl (y_loadn (b := b33) (o := 0) (vs := [.int .i64 v8, .int .i64 v9, .bool true, .slice a11 c12 c13, .slice a15 c16 c17]) T9.agg_26_5 rfl rfl ((B.b 38 rfl).cells (o := 0) rfl)) ?_
      refine s_y (v := .int .i64 (u224 - 4)) rfl (y_move rfl) ?_
      refine s_k rfl (k_call T9.fn_55 (c_i_ShiftSheet ((B.o 39 rfl).rd) ((B.o 40 rfl).rd) (by first | exact lenle (by assumption) | exact lenle6 (by assumption) | exact le256 (by assumption) | exact le2566 (by assumption) | omega) (by first | exact lenle (by assumption) | exact lenle6 (by assumption) | exact le256 (by assumption) | exact le2566 (by assumption) | omega)) rfl ?_)
      rintro v229 w227 hx228
      have hk230 : shB v8 v9 true Z14 Z18 (u224 - 4) 2 = true := (shB_yes hp21 (by omega) (by omega))
      obtain ⟨a231, c232, a233, c234, rfl, hN235⟩ := (hx228.resolve_right (fun hz => by rw [hk230] at hz; cases hz.1)).2
      clear hx228
      replace B := B.new2 hN235
      clear hN235
      refine s_y (v := .tuple #[.agg #[.int .i64 v8, .int .i64 v9, .bool true, .slice a231 ((v8 * v9).toNat) c232, .slice a233 ((v8 * v9).toNat) c234], .bool true]) rfl (y_move rfl) ?_
      refine s_y (v := .agg #[.int .i64 v8, .int .i64 v9, .bool true, .slice a231 ((v8 * v9).toNat) c232, .slice a233 ((v8 * v9).toNat) c234]) rfl (y_extract rfl rfl) ?_
      refine s_y (v := .bool true) rfl (y_extract rfl rfl) ?_
      refine s_k rfl (k_allocN (z := (.agg #[.int .i64 0, .int .i64 0, .bool false, .slice none 0 0, .slice none 0 0])) (cs := [.int .i64 0, .int .i64 0, .bool false, .slice none 0 0, .slice none 0 0]) T9.zero_26 rfl (fun b236 w237 hN238 => ?_))
      replace B := B.new1 hN238
      clear hN238
      refine s_k0 rfl (k_stB (v := .agg #[.int .i64 v8, .int .i64 v9, .bool true, .slice a231 ((v8 * v9).toNat) c232, .slice a233 ((v8 * v9).toNat) c234]) (n := 5) (cs' := [.int .i64 v8, .int .i64 v9, .bool true, .slice a231 ((v8 * v9).toNat) c232, .slice a233 ((v8 * v9).toNat) c234]) T9.sz_26_5 rfl rfl rfl (B.b 0 rfl) (by simp [Value.cells, Value.oneCell']) (Nat.le_of_ble_eq_true rfl) rfl (fun w239 hU240 => ?_))
      replace B : Bu w no w239 [.blk b236 [.int .i64 v8, .int .i64 v9, .bool true, .slice a231 ((v8 * v9).toNat) c232, .slice a233 ((v8 * v9).toNat) c234] 26, .ow kF a231 ((v8 * v9).toNat) c232 34 (shfS v8 v9 (u224 - 4) 2 Z14), .ow kF a233 ((v8 * v9).toNat) c234 34 (shfS v8 v9 (u224 - 4) 2 Z18), .blk b203 [.slice a196 ((v8 * v9).toNat) c197, .slice a198 ((v8 * v9).toNat) c199, .slice a200 ((v8 * v9).toNat) c201] 30, .ow kF a196 ((v8 * v9).toNat) c197 34 (swpS v8 v9 ((rnT v8 v9 true Z14 Z18 (Z43, Z47, Z51) (Int.toNat u70)).1)), .ow kF a198 ((v8 * v9).toNat) c199 34 (negL (v8 * v9) (swpS v8 v9 ((rnT v8 v9 true Z14 Z18 (Z43, Z47, Z51) (Int.toNat u70)).2.2))), .ow kF a200 ((v8 * v9).toNat) c201 34 (negL (v8 * v9) (swpS v8 v9 ((rnT v8 v9 true Z14 Z18 (Z43, Z47, Z51) (Int.toNat u70)).2.1))), .blk b188 [.slice a181 ((v8 * v9).toNat) c182, .slice a183 ((v8 * v9).toNat) c184, .slice a185 ((v8 * v9).toNat) c186] 30, .ow kF a181 ((v8 * v9).toNat) c182 34 ((rnT v9 v8 true (swpS v8 v9 Z14) (swpS v8 v9 Z18) ((swpS v8 v9 Z43), (negL (v8 * v9) (swpS v8 v9 Z51)), (negL (v8 * v9) (swpS v8 v9 Z47))) (Int.toNat u70)).1), .ow kF a183 ((v8 * v9).toNat) c184 34 ((rnT v9 v8 true (swpS v8 v9 Z14) (swpS v8 v9 Z18) ((swpS v8 v9 Z43), (negL (v8 * v9) (swpS v8 v9 Z51)), (negL (v8 * v9) (swpS v8 v9 Z47))) (Int.toNat u70)).2.1), .ow kF a185 ((v8 * v9).toNat) c186 34 ((rnT v9 v8 true (swpS v8 v9 Z14) (swpS v8 v9 Z18) ((swpS v8 v9 Z43), (negL (v8 * v9) (swpS v8 v9 Z51)), (negL (v8 * v9) (swpS v8 v9 Z47))) (Int.toNat u70)).2.2), .blk b172 [.slice a165 ((v8 * v9).toNat) c166, .slice a167 ((v8 * v9).toNat) c168, .slice a169 ((v8 * v9).toNat) c170] 30, .ow kF a165 ((v8 * v9).toNat) c166 34 (swpS v8 v9 Z43), .ow kF a167 ((v8 * v9).toNat) c168 34 (negL (v8 * v9) (swpS v8 v9 Z51)), .ow kF a169 ((v8 * v9).toNat) c170 34 (negL (v8 * v9) (swpS v8 v9 Z47)), .blk b157 [.int .i64 v9, .int .i64 v8, .bool true, .slice a152 ((v8 * v9).toNat) c153, .slice a154 ((v8 * v9).toNat) c155] 26, .ow kF a152 ((v8 * v9).toNat) c153 34 (swpS v8 v9 Z14), .ow kF a154 ((v8 * v9).toNat) c155 34 (swpS v8 v9 Z18), .blk b144 [.slice a137 ((v8 * v9).toNat) c138, .slice a139 ((v8 * v9).toNat) c140, .slice a141 ((v8 * v9).toNat) c142] 30, .ow kF a137 ((v8 * v9).toNat) c138 34 (mirS v8 v9 ((rnT v8 v9 true Z14 Z18 (Z43, Z47, Z51) (Int.toNat u70)).1)), .ow kF a139 ((v8 * v9).toNat) c140 34 (mirS v8 v9 ((rnT v8 v9 true Z14 Z18 (Z43, Z47, Z51) (Int.toNat u70)).2.1)), .ow kF a141 ((v8 * v9).toNat) c142 34 (mirY v8 v9 ((rnT v8 v9 true Z14 Z18 (Z43, Z47, Z51) (Int.toNat u70)).2.2)), .blk b128 [.slice a121 ((v8 * v9).toNat) c122, .slice a123 ((v8 * v9).toNat) c124, .slice a125 ((v8 * v9).toNat) c126] 30, .ow kF a121 ((v8 * v9).toNat) c122 34 ((rnT v8 v9 true (mirS v8 v9 Z14) (mirS v8 v9 Z18) ((mirS v8 v9 Z43), (mirS v8 v9 Z47), (mirY v8 v9 Z51)) (Int.toNat u70)).1), .ow kF a123 ((v8 * v9).toNat) c124 34 ((rnT v8 v9 true (mirS v8 v9 Z14) (mirS v8 v9 Z18) ((mirS v8 v9 Z43), (mirS v8 v9 Z47), (mirY v8 v9 Z51)) (Int.toNat u70)).2.1), .ow kF a125 ((v8 * v9).toNat) c126 34 ((rnT v8 v9 true (mirS v8 v9 Z14) (mirS v8 v9 Z18) ((mirS v8 v9 Z43), (mirS v8 v9 Z47), (mirY v8 v9 Z51)) (Int.toNat u70)).2.2), .blk b112 [.slice a105 ((v8 * v9).toNat) c106, .slice a107 ((v8 * v9).toNat) c108, .slice a109 ((v8 * v9).toNat) c110] 30, .ow kF a105 ((v8 * v9).toNat) c106 34 (mirS v8 v9 Z43), .ow kF a107 ((v8 * v9).toNat) c108 34 (mirS v8 v9 Z47), .ow kF a109 ((v8 * v9).toNat) c110 34 (mirY v8 v9 Z51), .blk b97 [.int .i64 v8, .int .i64 v9, .bool true, .slice a92 ((v8 * v9).toNat) c93, .slice a94 ((v8 * v9).toNat) c95] 26, .ow kF a92 ((v8 * v9).toNat) c93 34 (mirS v8 v9 Z14), .ow kF a94 ((v8 * v9).toNat) c95 34 (mirS v8 v9 Z18), .blk b84 [.slice a77 c41 c78, .slice a79 c45 c80, .slice a81 c49 c82] 30, .ow kF a77 c41 c78 34 ((rnT v8 v9 true Z14 Z18 (Z43, Z47, Z51) (Int.toNat u70)).1), .ow kF a79 c45 c80 34 ((rnT v8 v9 true Z14 Z18 (Z43, Z47, Z51) (Int.toNat u70)).2.1), .ow kF a81 c49 c82 34 ((rnT v8 v9 true Z14 Z18 (Z43, Z47, Z51) (Int.toNat u70)).2.2), .blk b63 [.slice a40 c41 c42, .slice a44 c45 c46, .slice a48 c49 c50] 30, .ow kF a40 c41 c42 34 Z43, .ow kF a44 c45 c46 34 Z47, .ow kF a48 c49 c50 34 Z51, .blk b33 [.int .i64 v8, .int .i64 v9, .bool true, .slice a11 c12 c13, .slice a15 c16 c17] 26, .ow kF a11 c12 c13 34 Z14, .ow kF a15 c16 c17 34 Z18, .rd kY a0 n0 X0, .rd kY a1 n1 X1] := B.upd [0] rfl hU240
      clear hU240
      refine s_y (v := .bool true) rfl (y_assign rfl) ?_
      refine s_nil ?_
      refine W_seq ?_
      refine W_region (by kernel_rfl) ?_
      refine s_y (v := .agg #[.int .i64 v8, .int .i64 v9, .bool true, .slice a11 c12 c13, .slice a15 c16 c17]) rfl (y_loadn (b := b33) (o := 0) (vs := [.int .i64 v8, .int .i64 v9, .bool true, .slice a11 c12 c13, .slice a15 c16 c17]) T9.agg_26_5 rfl rfl ((B.b 41 rfl).cells (o := 0) rfl)) ?_
      refine s_y (v := .agg #[.slice a40 c41 c42, .slice a44 c45 c46, .slice a48 c49 c50]) rfl (y_loadn (b := b63) (o := 0) (vs := [.slice a40 c41 c42, .slice a44 c45 c46, .slice a48 c49 c50]) T9.agg_30_3 rfl rfl ((B.b 37 rfl).cells (o := 0) rfl)) ?_
      refine s_y (v := .int .i64 (u224 - 4)) rfl (y_move rfl) ?_
      refine s_k rfl (k_call T9.fn_56 (c_i_ShiftField ((B.o 42 rfl).rd) ((B.o 43 rfl).rd) ((B.o 38 rfl).rd) ((B.o 39 rfl).rd) ((B.o 40 rfl).rd) (by first | exact lenle (by assumption) | exact lenle6 (by assumption) | exact le256 (by assumption) | exact le2566 (by assumption) | omega) (by first | exact lenle (by assumption) | exact lenle6 (by assumption) | exact le256 (by assumption) | exact le2566 (by assumption) | omega) (by first | exact lenle (by assumption) | exact lenle6 (by assumption) | exact le256 (by assumption) | exact le2566 (by assumption) | omega) (by first | exact lenle (by assumption) | exact lenle6 (by assumption) | exact le256 (by assumption) | exact le2566 (by assumption) | omega) (by first | exact lenle (by assumption) | exact lenle6 (by assumption) | exact le256 (by assumption) | exact le2566 (by assumption) | omega)) rfl ?_)
      rintro v243 w241 hx242
      have hk244 : shfB v8 v9 true Z14 Z18 Z43 Z47 Z51 (u224 - 4) 2 = true := (shfB_yes hp52 (by omega) (by omega))
      obtain ⟨a245, c246, a247, c248, a249, c250, rfl, hN251⟩ := (hx242.resolve_right (fun hz => by rw [hk244] at hz; cases hz.1)).2
      clear hx242
      replace B := B.new3 hN251
      clear hN251
      refine s_y (v := .tuple #[.agg #[.slice a245 ((v8 * v9).toNat) c246, .slice a247 ((v8 * v9).toNat) c248, .slice a249 ((v8 * v9).toNat) c250], .bool true]) rfl (y_move rfl) ?_
      refine s_y (v := .agg #[.slice a245 ((v8 * v9).toNat) c246, .slice a247 ((v8 * v9).toNat) c248, .slice a249 ((v8 * v9).toNat) c250]) rfl (y_extract rfl rfl) ?_
      refine s_y (v := .bool true) rfl (y_extract rfl rfl) ?_
      refine s_k rfl (k_allocN (z := (.agg #[.slice none 0 0, .slice none 0 0, .slice none 0 0])) (cs := [.slice none 0 0, .slice none 0 0, .slice none 0 0]) T9.zero_30 rfl (fun b252 w253 hN254 => ?_))
      replace B := B.new1 hN254
      clear hN254
      refine s_k0 rfl (k_stB (v := .agg #[.slice a245 ((v8 * v9).toNat) c246, .slice a247 ((v8 * v9).toNat) c248, .slice a249 ((v8 * v9).toNat) c250]) (n := 3) (cs' := [.slice a245 ((v8 * v9).toNat) c246, .slice a247 ((v8 * v9).toNat) c248, .slice a249 ((v8 * v9).toNat) c250]) T9.sz_30_3 rfl rfl rfl (B.b 0 rfl) (by simp [Value.cells, Value.oneCell']) (Nat.le_of_ble_eq_true rfl) rfl (fun w255 hU256 => ?_))
      replace B : Bu w no w255 [.blk b252 [.slice a245 ((v8 * v9).toNat) c246, .slice a247 ((v8 * v9).toNat) c248, .slice a249 ((v8 * v9).toNat) c250] 30, .ow kF a245 ((v8 * v9).toNat) c246 34 (shfS v8 v9 (u224 - 4) 2 Z43), .ow kF a247 ((v8 * v9).toNat) c248 34 (shfS v8 v9 (u224 - 4) 2 Z47), .ow kF a249 ((v8 * v9).toNat) c250 34 (shfS v8 v9 (u224 - 4) 2 Z51), .blk b236 [.int .i64 v8, .int .i64 v9, .bool true, .slice a231 ((v8 * v9).toNat) c232, .slice a233 ((v8 * v9).toNat) c234] 26, .ow kF a231 ((v8 * v9).toNat) c232 34 (shfS v8 v9 (u224 - 4) 2 Z14), .ow kF a233 ((v8 * v9).toNat) c234 34 (shfS v8 v9 (u224 - 4) 2 Z18), .blk b203 [.slice a196 ((v8 * v9).toNat) c197, .slice a198 ((v8 * v9).toNat) c199, .slice a200 ((v8 * v9).toNat) c201] 30, .ow kF a196 ((v8 * v9).toNat) c197 34 (swpS v8 v9 ((rnT v8 v9 true Z14 Z18 (Z43, Z47, Z51) (Int.toNat u70)).1)), .ow kF a198 ((v8 * v9).toNat) c199 34 (negL (v8 * v9) (swpS v8 v9 ((rnT v8 v9 true Z14 Z18 (Z43, Z47, Z51) (Int.toNat u70)).2.2))), .ow kF a200 ((v8 * v9).toNat) c201 34 (negL (v8 * v9) (swpS v8 v9 ((rnT v8 v9 true Z14 Z18 (Z43, Z47, Z51) (Int.toNat u70)).2.1))), .blk b188 [.slice a181 ((v8 * v9).toNat) c182, .slice a183 ((v8 * v9).toNat) c184, .slice a185 ((v8 * v9).toNat) c186] 30, .ow kF a181 ((v8 * v9).toNat) c182 34 ((rnT v9 v8 true (swpS v8 v9 Z14) (swpS v8 v9 Z18) ((swpS v8 v9 Z43), (negL (v8 * v9) (swpS v8 v9 Z51)), (negL (v8 * v9) (swpS v8 v9 Z47))) (Int.toNat u70)).1), .ow kF a183 ((v8 * v9).toNat) c184 34 ((rnT v9 v8 true (swpS v8 v9 Z14) (swpS v8 v9 Z18) ((swpS v8 v9 Z43), (negL (v8 * v9) (swpS v8 v9 Z51)), (negL (v8 * v9) (swpS v8 v9 Z47))) (Int.toNat u70)).2.1), .ow kF a185 ((v8 * v9).toNat) c186 34 ((rnT v9 v8 true (swpS v8 v9 Z14) (swpS v8 v9 Z18) ((swpS v8 v9 Z43), (negL (v8 * v9) (swpS v8 v9 Z51)), (negL (v8 * v9) (swpS v8 v9 Z47))) (Int.toNat u70)).2.2), .blk b172 [.slice a165 ((v8 * v9).toNat) c166, .slice a167 ((v8 * v9).toNat) c168, .slice a169 ((v8 * v9).toNat) c170] 30, .ow kF a165 ((v8 * v9).toNat) c166 34 (swpS v8 v9 Z43), .ow kF a167 ((v8 * v9).toNat) c168 34 (negL (v8 * v9) (swpS v8 v9 Z51)), .ow kF a169 ((v8 * v9).toNat) c170 34 (negL (v8 * v9) (swpS v8 v9 Z47)), .blk b157 [.int .i64 v9, .int .i64 v8, .bool true, .slice a152 ((v8 * v9).toNat) c153, .slice a154 ((v8 * v9).toNat) c155] 26, .ow kF a152 ((v8 * v9).toNat) c153 34 (swpS v8 v9 Z14), .ow kF a154 ((v8 * v9).toNat) c155 34 (swpS v8 v9 Z18), .blk b144 [.slice a137 ((v8 * v9).toNat) c138, .slice a139 ((v8 * v9).toNat) c140, .slice a141 ((v8 * v9).toNat) c142] 30, .ow kF a137 ((v8 * v9).toNat) c138 34 (mirS v8 v9 ((rnT v8 v9 true Z14 Z18 (Z43, Z47, Z51) (Int.toNat u70)).1)), .ow kF a139 ((v8 * v9).toNat) c140 34 (mirS v8 v9 ((rnT v8 v9 true Z14 Z18 (Z43, Z47, Z51) (Int.toNat u70)).2.1)), .ow kF a141 ((v8 * v9).toNat) c142 34 (mirY v8 v9 ((rnT v8 v9 true Z14 Z18 (Z43, Z47, Z51) (Int.toNat u70)).2.2)), .blk b128 [.slice a121 ((v8 * v9).toNat) c122, .slice a123 ((v8 * v9).toNat) c124, .slice a125 ((v8 * v9).toNat) c126] 30, .ow kF a121 ((v8 * v9).toNat) c122 34 ((rnT v8 v9 true (mirS v8 v9 Z14) (mirS v8 v9 Z18) ((mirS v8 v9 Z43), (mirS v8 v9 Z47), (mirY v8 v9 Z51)) (Int.toNat u70)).1), .ow kF a123 ((v8 * v9).toNat) c124 34 ((rnT v8 v9 true (mirS v8 v9 Z14) (mirS v8 v9 Z18) ((mirS v8 v9 Z43), (mirS v8 v9 Z47), (mirY v8 v9 Z51)) (Int.toNat u70)).2.1), .ow kF a125 ((v8 * v9).toNat) c126 34 ((rnT v8 v9 true (mirS v8 v9 Z14) (mirS v8 v9 Z18) ((mirS v8 v9 Z43), (mirS v8 v9 Z47), (mirY v8 v9 Z51)) (Int.toNat u70)).2.2), .blk b112 [.slice a105 ((v8 * v9).toNat) c106, .slice a107 ((v8 * v9).toNat) c108, .slice a109 ((v8 * v9).toNat) c110] 30, .ow kF a105 ((v8 * v9).toNat) c106 34 (mirS v8 v9 Z43), .ow kF a107 ((v8 * v9).toNat) c108 34 (mirS v8 v9 Z47), .ow kF a109 ((v8 * v9).toNat) c110 34 (mirY v8 v9 Z51), .blk b97 [.int .i64 v8, .int .i64 v9, .bool true, .slice a92 ((v8 * v9).toNat) c93, .slice a94 ((v8 * v9).toNat) c95] 26, .ow kF a92 ((v8 * v9).toNat) c93 34 (mirS v8 v9 Z14), .ow kF a94 ((v8 * v9).toNat) c95 34 (mirS v8 v9 Z18), .blk b84 [.slice a77 c41 c78, .slice a79 c45 c80, .slice a81 c49 c82] 30, .ow kF a77 c41 c78 34 ((rnT v8 v9 true Z14 Z18 (Z43, Z47, Z51) (Int.toNat u70)).1), .ow kF a79 c45 c80 34 ((rnT v8 v9 true Z14 Z18 (Z43, Z47, Z51) (Int.toNat u70)).2.1), .ow kF a81 c49 c82 34 ((rnT v8 v9 true Z14 Z18 (Z43, Z47, Z51) (Int.toNat u70)).2.2), .blk b63 [.slice a40 c41 c42, .slice a44 c45 c46, .slice a48 c49 c50] 30, .ow kF a40 c41 c42 34 Z43, .ow kF a44 c45 c46 34 Z47, .ow kF a48 c49 c50 34 Z51, .blk b33 [.int .i64 v8, .int .i64 v9, .bool true, .slice a11 c12 c13, .slice a15 c16 c17] 26, .ow kF a11 c12 c13 34 Z14, .ow kF a15 c16 c17 34 Z18, .rd kY a0 n0 X0, .rd kY a1 n1 X1] := B.upd [0] rfl hU256
      clear hU256
      refine s_y (v := .bool true) rfl (y_assign rfl) ?_
      refine s_nil ?_
      refine W_seq ?_
      refine W_region (by kernel_rfl) ?_
      refine s_y (v := .agg #[.int .i64 v8, .int .i64 v9, .bool true, .slice a231 ((v8 * v9).toNat) c232, .slice a233 ((v8 * v9).toNat) c234]) rfl (y_loadn (b := b236) (o := 0) (vs := [.int .i64 v8, .int .i64 v9, .bool true, .slice a231 ((v8 * v9).toNat) c232, .slice a233 ((v8 * v9).toNat) c234]) T9.agg_26_5 rfl rfl ((B.b 4 rfl).cells (o := 0) rfl)) ?_
      refine s_y (v := .agg #[.slice a245 ((v8 * v9).toNat) c246, .slice a247 ((v8 * v9).toNat) c248, .slice a249 ((v8 * v9).toNat) c250]) rfl (y_loadn (b := b252) (o := 0) (vs := [.slice a245 ((v8 * v9).toNat) c246, .slice a247 ((v8 * v9).toNat) c248, .slice a249 ((v8 * v9).toNat) c250]) T9.agg_30_3 rfl rfl ((B.b 0 rfl).cells (o := 0) rfl)) ?_
      refine s_y (v := .int .i64 u70) rfl (y_move rfl) ?_
      refine s_k rfl (k_call T9.fn_17 (c_i_RunField ((B.o 5 rfl).rd) ((B.o 6 rfl).rd) ((B.o 1 rfl).rd) ((B.o 2 rfl).rd) ((B.o 3 rfl).rd) (by first | exact lenle (by assumption) | exact lenle6 (by assumption) | exact le256 (by assumption) | exact le2566 (by assumption) | omega) (by first | exact lenle (by assumption) | exact lenle6 (by assumption) | exact le256 (by assumption) | exact le2566 (by assumption) | omega) (by first | exact lenle (by assumption) | exact lenle6 (by assumption) | exact le256 (by assumption) | exact le2566 (by assumption) | omega) (by first | exact lenle (by assumption) | exact lenle6 (by assumption) | exact le256 (by assumption) | exact le2566 (by assumption) | omega) (by first | exact lenle (by assumption) | exact lenle6 (by assumption) | exact le256 (by assumption) | exact le2566 (by assumption) | omega)) rfl ?_)
      rintro v259 w257 hx258
      have hk260 : runB v8 v9 true (shfS v8 v9 (u224 - 4) 2 Z14) (shfS v8 v9 (u224 - 4) 2 Z18) (shfS v8 v9 (u224 - 4) 2 Z43) (shfS v8 v9 (u224 - 4) 2 Z47) (shfS v8 v9 (u224 - 4) 2 Z51) u70 = true := (runB_yes (fieldB_shf hp52) (by omega))
      obtain ⟨a261, c262, a263, c264, a265, c266, rfl, hN267⟩ := (hx258.resolve_right (fun hz => by rw [hk260] at hz; cases hz.1)).2
      clear hx258
      replace B := B.new3 hN267
      clear hN267
      refine s_y (v := .tuple #[.agg #[.slice a261 ((v8 * v9).toNat) c262, .slice a263 ((v8 * v9).toNat) c264, .slice a265 ((v8 * v9).toNat) c266], .bool true]) rfl (y_move rfl) ?_
      refine s_y (v := .agg #[.slice a261 ((v8 * v9).toNat) c262, .slice a263 ((v8 * v9).toNat) c264, .slice a265 ((v8 * v9).toNat) c266]) rfl (y_extract rfl rfl) ?_
      refine s_y (v := .bool true) rfl (y_extract rfl rfl) ?_
      refine s_k rfl (k_allocN (z := (.agg #[.slice none 0 0, .slice none 0 0, .slice none 0 0])) (cs := [.slice none 0 0, .slice none 0 0, .slice none 0 0]) T9.zero_30 rfl (fun b268 w269 hN270 => ?_))
      replace B := B.new1 hN270
      clear hN270
      refine s_k0 rfl (k_stB (v := .agg #[.slice a261 ((v8 * v9).toNat) c262, .slice a263 ((v8 * v9).toNat) c264, .slice a265 ((v8 * v9).toNat) c266]) (n := 3) (cs' := [.slice a261 ((v8 * v9).toNat) c262, .slice a263 ((v8 * v9).toNat) c264, .slice a265 ((v8 * v9).toNat) c266]) T9.sz_30_3 rfl rfl rfl (B.b 0 rfl) (by simp [Value.cells, Value.oneCell']) (Nat.le_of_ble_eq_true rfl) rfl (fun w271 hU272 => ?_))
      replace B : Bu w no w271 [.blk b268 [.slice a261 ((v8 * v9).toNat) c262, .slice a263 ((v8 * v9).toNat) c264, .slice a265 ((v8 * v9).toNat) c266] 30, .ow kF a261 ((v8 * v9).toNat) c262 34 ((rnT v8 v9 true (shfS v8 v9 (u224 - 4) 2 Z14) (shfS v8 v9 (u224 - 4) 2 Z18) ((shfS v8 v9 (u224 - 4) 2 Z43), (shfS v8 v9 (u224 - 4) 2 Z47), (shfS v8 v9 (u224 - 4) 2 Z51)) (Int.toNat u70)).1), .ow kF a263 ((v8 * v9).toNat) c264 34 ((rnT v8 v9 true (shfS v8 v9 (u224 - 4) 2 Z14) (shfS v8 v9 (u224 - 4) 2 Z18) ((shfS v8 v9 (u224 - 4) 2 Z43), (shfS v8 v9 (u224 - 4) 2 Z47), (shfS v8 v9 (u224 - 4) 2 Z51)) (Int.toNat u70)).2.1), .ow kF a265 ((v8 * v9).toNat) c266 34 ((rnT v8 v9 true (shfS v8 v9 (u224 - 4) 2 Z14) (shfS v8 v9 (u224 - 4) 2 Z18) ((shfS v8 v9 (u224 - 4) 2 Z43), (shfS v8 v9 (u224 - 4) 2 Z47), (shfS v8 v9 (u224 - 4) 2 Z51)) (Int.toNat u70)).2.2), .blk b252 [.slice a245 ((v8 * v9).toNat) c246, .slice a247 ((v8 * v9).toNat) c248, .slice a249 ((v8 * v9).toNat) c250] 30, .ow kF a245 ((v8 * v9).toNat) c246 34 (shfS v8 v9 (u224 - 4) 2 Z43), .ow kF a247 ((v8 * v9).toNat) c248 34 (shfS v8 v9 (u224 - 4) 2 Z47), .ow kF a249 ((v8 * v9).toNat) c250 34 (shfS v8 v9 (u224 - 4) 2 Z51), .blk b236 [.int .i64 v8, .int .i64 v9, .bool true, .slice a231 ((v8 * v9).toNat) c232, .slice a233 ((v8 * v9).toNat) c234] 26, .ow kF a231 ((v8 * v9).toNat) c232 34 (shfS v8 v9 (u224 - 4) 2 Z14), .ow kF a233 ((v8 * v9).toNat) c234 34 (shfS v8 v9 (u224 - 4) 2 Z18), .blk b203 [.slice a196 ((v8 * v9).toNat) c197, .slice a198 ((v8 * v9).toNat) c199, .slice a200 ((v8 * v9).toNat) c201] 30, .ow kF a196 ((v8 * v9).toNat) c197 34 (swpS v8 v9 ((rnT v8 v9 true Z14 Z18 (Z43, Z47, Z51) (Int.toNat u70)).1)), .ow kF a198 ((v8 * v9).toNat) c199 34 (negL (v8 * v9) (swpS v8 v9 ((rnT v8 v9 true Z14 Z18 (Z43, Z47, Z51) (Int.toNat u70)).2.2))), .ow kF a200 ((v8 * v9).toNat) c201 34 (negL (v8 * v9) (swpS v8 v9 ((rnT v8 v9 true Z14 Z18 (Z43, Z47, Z51) (Int.toNat u70)).2.1))), .blk b188 [.slice a181 ((v8 * v9).toNat) c182, .slice a183 ((v8 * v9).toNat) c184, .slice a185 ((v8 * v9).toNat) c186] 30, .ow kF a181 ((v8 * v9).toNat) c182 34 ((rnT v9 v8 true (swpS v8 v9 Z14) (swpS v8 v9 Z18) ((swpS v8 v9 Z43), (negL (v8 * v9) (swpS v8 v9 Z51)), (negL (v8 * v9) (swpS v8 v9 Z47))) (Int.toNat u70)).1), .ow kF a183 ((v8 * v9).toNat) c184 34 ((rnT v9 v8 true (swpS v8 v9 Z14) (swpS v8 v9 Z18) ((swpS v8 v9 Z43), (negL (v8 * v9) (swpS v8 v9 Z51)), (negL (v8 * v9) (swpS v8 v9 Z47))) (Int.toNat u70)).2.1), .ow kF a185 ((v8 * v9).toNat) c186 34 ((rnT v9 v8 true (swpS v8 v9 Z14) (swpS v8 v9 Z18) ((swpS v8 v9 Z43), (negL (v8 * v9) (swpS v8 v9 Z51)), (negL (v8 * v9) (swpS v8 v9 Z47))) (Int.toNat u70)).2.2), .blk b172 [.slice a165 ((v8 * v9).toNat) c166, .slice a167 ((v8 * v9).toNat) c168, .slice a169 ((v8 * v9).toNat) c170] 30, .ow kF a165 ((v8 * v9).toNat) c166 34 (swpS v8 v9 Z43), .ow kF a167 ((v8 * v9).toNat) c168 34 (negL (v8 * v9) (swpS v8 v9 Z51)), .ow kF a169 ((v8 * v9).toNat) c170 34 (negL (v8 * v9) (swpS v8 v9 Z47)), .blk b157 [.int .i64 v9, .int .i64 v8, .bool true, .slice a152 ((v8 * v9).toNat) c153, .slice a154 ((v8 * v9).toNat) c155] 26, .ow kF a152 ((v8 * v9).toNat) c153 34 (swpS v8 v9 Z14), .ow kF a154 ((v8 * v9).toNat) c155 34 (swpS v8 v9 Z18), .blk b144 [.slice a137 ((v8 * v9).toNat) c138, .slice a139 ((v8 * v9).toNat) c140, .slice a141 ((v8 * v9).toNat) c142] 30, .ow kF a137 ((v8 * v9).toNat) c138 34 (mirS v8 v9 ((rnT v8 v9 true Z14 Z18 (Z43, Z47, Z51) (Int.toNat u70)).1)), .ow kF a139 ((v8 * v9).toNat) c140 34 (mirS v8 v9 ((rnT v8 v9 true Z14 Z18 (Z43, Z47, Z51) (Int.toNat u70)).2.1)), .ow kF a141 ((v8 * v9).toNat) c142 34 (mirY v8 v9 ((rnT v8 v9 true Z14 Z18 (Z43, Z47, Z51) (Int.toNat u70)).2.2)), .blk b128 [.slice a121 ((v8 * v9).toNat) c122, .slice a123 ((v8 * v9).toNat) c124, .slice a125 ((v8 * v9).toNat) c126] 30, .ow kF a121 ((v8 * v9).toNat) c122 34 ((rnT v8 v9 true (mirS v8 v9 Z14) (mirS v8 v9 Z18) ((mirS v8 v9 Z43), (mirS v8 v9 Z47), (mirY v8 v9 Z51)) (Int.toNat u70)).1), .ow kF a123 ((v8 * v9).toNat) c124 34 ((rnT v8 v9 true (mirS v8 v9 Z14) (mirS v8 v9 Z18) ((mirS v8 v9 Z43), (mirS v8 v9 Z47), (mirY v8 v9 Z51)) (Int.toNat u70)).2.1), .ow kF a125 ((v8 * v9).toNat) c126 34 ((rnT v8 v9 true (mirS v8 v9 Z14) (mirS v8 v9 Z18) ((mirS v8 v9 Z43), (mirS v8 v9 Z47), (mirY v8 v9 Z51)) (Int.toNat u70)).2.2), .blk b112 [.slice a105 ((v8 * v9).toNat) c106, .slice a107 ((v8 * v9).toNat) c108, .slice a109 ((v8 * v9).toNat) c110] 30, .ow kF a105 ((v8 * v9).toNat) c106 34 (mirS v8 v9 Z43), .ow kF a107 ((v8 * v9).toNat) c108 34 (mirS v8 v9 Z47), .ow kF a109 ((v8 * v9).toNat) c110 34 (mirY v8 v9 Z51), .blk b97 [.int .i64 v8, .int .i64 v9, .bool true, .slice a92 ((v8 * v9).toNat) c93, .slice a94 ((v8 * v9).toNat) c95] 26, .ow kF a92 ((v8 * v9).toNat) c93 34 (mirS v8 v9 Z14), .ow kF a94 ((v8 * v9).toNat) c95 34 (mirS v8 v9 Z18), .blk b84 [.slice a77 c41 c78, .slice a79 c45 c80, .slice a81 c49 c82] 30, .ow kF a77 c41 c78 34 ((rnT v8 v9 true Z14 Z18 (Z43, Z47, Z51) (Int.toNat u70)).1), .ow kF a79 c45 c80 34 ((rnT v8 v9 true Z14 Z18 (Z43, Z47, Z51) (Int.toNat u70)).2.1), .ow kF a81 c49 c82 34 ((rnT v8 v9 true Z14 Z18 (Z43, Z47, Z51) (Int.toNat u70)).2.2), .blk b63 [.slice a40 c41 c42, .slice a44 c45 c46, .slice a48 c49 c50] 30, .ow kF a40 c41 c42 34 Z43, .ow kF a44 c45 c46 34 Z47, .ow kF a48 c49 c50 34 Z51, .blk b33 [.int .i64 v8, .int .i64 v9, .bool true, .slice a11 c12 c13, .slice a15 c16 c17] 26, .ow kF a11 c12 c13 34 Z14, .ow kF a15 c16 c17 34 Z18, .rd kY a0 n0 X0, .rd kY a1 n1 X1] := B.upd [0] rfl hU272
      clear hU272
      refine s_y (v := .bool true) rfl (y_assign rfl) ?_
      refine s_nil ?_
      refine W_seq ?_
      refine W_region (by kernel_rfl) ?_
      refine s_y (v := .agg #[.int .i64 v8, .int .i64 v9, .bool true, .slice a11 c12 c13, .slice a15 c16 c17]) rfl (y_loadn (b := b33) (o := 0) (vs := [.int .i64 v8, .int .i64 v9, .bool true, .slice a11 c12 c13, .slice a15 c16 c17]) T9.agg_26_5 rfl rfl ((B.b 49 rfl).cells (o := 0) rfl)) ?_
      refine s_y (v := .agg #[.slice a77 c41 c78, .slice a79 c45 c80, .slice a81 c49 c82]) rfl (y_loadn (b := b84) (o := 0) (vs := [.slice a77 c41 c78, .slice a79 c45 c80, .slice a81 c49 c82]) T9.agg_30_3 rfl rfl ((B.b 41 rfl).cells (o := 0) rfl)) ?_
      refine s_y (v := .int .i64 (u224 - 4)) rfl (y_move rfl) ?_
      refine s_k rfl (k_call T9.fn_56 (c_i_ShiftField ((B.o 50 rfl).rd) ((B.o 51 rfl).rd) ((B.o 42 rfl).rd) ((B.o 43 rfl).rd) ((B.o 44 rfl).rd) (by first | exact lenle (by assumption) | exact lenle6 (by assumption) | exact le256 (by assumption) | exact le2566 (by assumption) | omega) (by first | exact lenle (by assumption) | exact lenle6 (by assumption) | exact le256 (by assumption) | exact le2566 (by assumption) | omega) (by first | exact lenle (by assumption) | exact lenle6 (by assumption) | exact le256 (by assumption) | exact le2566 (by assumption) | omega) (by first | exact lenle (by assumption) | exact lenle6 (by assumption) | exact le256 (by assumption) | exact le2566 (by assumption) | omega) (by first | exact lenle (by assumption) | exact lenle6 (by assumption) | exact le256 (by assumption) | exact le2566 (by assumption) | omega)) rfl ?_)
      rintro v275 w273 hx274
      have hk276 : shfB v8 v9 true Z14 Z18 ((rnT v8 v9 true Z14 Z18 (Z43, Z47, Z51) (Int.toNat u70)).1) ((rnT v8 v9 true Z14 Z18 (Z43, Z47, Z51) (Int.toNat u70)).2.1) ((rnT v8 v9 true Z14 Z18 (Z43, Z47, Z51) (Int.toNat u70)).2.2) (u224 - 4) 2 = true := (shfB_yes (run_field hk76) (by omega) (by omega))
      obtain ⟨a277, c278, a279, c280, a281, c282, rfl, hN283⟩ := (hx274.resolve_right (fun hz => by rw [hk276] at hz; cases hz.1)).2
      clear hx274
      replace B := B.new3 hN283
      clear hN283
      refine s_y (v := .tuple #[.agg #[.slice a277 ((v8 * v9).toNat) c278, .slice a279 ((v8 * v9).toNat) c280, .slice a281 ((v8 * v9).toNat) c282], .bool true]) rfl (y_move rfl) ?_
      refine s_y (v := .agg #[.slice a277 ((v8 * v9).toNat) c278, .slice a279 ((v8 * v9).toNat) c280, .slice a281 ((v8 * v9).toNat) c282]) rfl (y_extract rfl rfl) ?_
      refine s_y (v := .bool true) rfl (y_extract rfl rfl) ?_
      refine s_k rfl (k_allocN (z := (.agg #[.slice none 0 0, .slice none 0 0, .slice none 0 0])) (cs := [.slice none 0 0, .slice none 0 0, .slice none 0 0]) T9.zero_30 rfl (fun b284 w285 hN286 => ?_))
      replace B := B.new1 hN286
      clear hN286
      refine s_k0 rfl (k_stB (v := .agg #[.slice a277 ((v8 * v9).toNat) c278, .slice a279 ((v8 * v9).toNat) c280, .slice a281 ((v8 * v9).toNat) c282]) (n := 3) (cs' := [.slice a277 ((v8 * v9).toNat) c278, .slice a279 ((v8 * v9).toNat) c280, .slice a281 ((v8 * v9).toNat) c282]) T9.sz_30_3 rfl rfl rfl (B.b 0 rfl) (by simp [Value.cells, Value.oneCell']) (Nat.le_of_ble_eq_true rfl) rfl (fun w287 hU288 => ?_))
      replace B : Bu w no w287 [.blk b284 [.slice a277 ((v8 * v9).toNat) c278, .slice a279 ((v8 * v9).toNat) c280, .slice a281 ((v8 * v9).toNat) c282] 30, .ow kF a277 ((v8 * v9).toNat) c278 34 (shfS v8 v9 (u224 - 4) 2 ((rnT v8 v9 true Z14 Z18 (Z43, Z47, Z51) (Int.toNat u70)).1)), .ow kF a279 ((v8 * v9).toNat) c280 34 (shfS v8 v9 (u224 - 4) 2 ((rnT v8 v9 true Z14 Z18 (Z43, Z47, Z51) (Int.toNat u70)).2.1)), .ow kF a281 ((v8 * v9).toNat) c282 34 (shfS v8 v9 (u224 - 4) 2 ((rnT v8 v9 true Z14 Z18 (Z43, Z47, Z51) (Int.toNat u70)).2.2)), .blk b268 [.slice a261 ((v8 * v9).toNat) c262, .slice a263 ((v8 * v9).toNat) c264, .slice a265 ((v8 * v9).toNat) c266] 30, .ow kF a261 ((v8 * v9).toNat) c262 34 ((rnT v8 v9 true (shfS v8 v9 (u224 - 4) 2 Z14) (shfS v8 v9 (u224 - 4) 2 Z18) ((shfS v8 v9 (u224 - 4) 2 Z43), (shfS v8 v9 (u224 - 4) 2 Z47), (shfS v8 v9 (u224 - 4) 2 Z51)) (Int.toNat u70)).1), .ow kF a263 ((v8 * v9).toNat) c264 34 ((rnT v8 v9 true (shfS v8 v9 (u224 - 4) 2 Z14) (shfS v8 v9 (u224 - 4) 2 Z18) ((shfS v8 v9 (u224 - 4) 2 Z43), (shfS v8 v9 (u224 - 4) 2 Z47), (shfS v8 v9 (u224 - 4) 2 Z51)) (Int.toNat u70)).2.1), .ow kF a265 ((v8 * v9).toNat) c266 34 ((rnT v8 v9 true (shfS v8 v9 (u224 - 4) 2 Z14) (shfS v8 v9 (u224 - 4) 2 Z18) ((shfS v8 v9 (u224 - 4) 2 Z43), (shfS v8 v9 (u224 - 4) 2 Z47), (shfS v8 v9 (u224 - 4) 2 Z51)) (Int.toNat u70)).2.2), .blk b252 [.slice a245 ((v8 * v9).toNat) c246, .slice a247 ((v8 * v9).toNat) c248, .slice a249 ((v8 * v9).toNat) c250] 30, .ow kF a245 ((v8 * v9).toNat) c246 34 (shfS v8 v9 (u224 - 4) 2 Z43), .ow kF a247 ((v8 * v9).toNat) c248 34 (shfS v8 v9 (u224 - 4) 2 Z47), .ow kF a249 ((v8 * v9).toNat) c250 34 (shfS v8 v9 (u224 - 4) 2 Z51), .blk b236 [.int .i64 v8, .int .i64 v9, .bool true, .slice a231 ((v8 * v9).toNat) c232, .slice a233 ((v8 * v9).toNat) c234] 26, .ow kF a231 ((v8 * v9).toNat) c232 34 (shfS v8 v9 (u224 - 4) 2 Z14), .ow kF a233 ((v8 * v9).toNat) c234 34 (shfS v8 v9 (u224 - 4) 2 Z18), .blk b203 [.slice a196 ((v8 * v9).toNat) c197, .slice a198 ((v8 * v9).toNat) c199, .slice a200 ((v8 * v9).toNat) c201] 30, .ow kF a196 ((v8 * v9).toNat) c197 34 (swpS v8 v9 ((rnT v8 v9 true Z14 Z18 (Z43, Z47, Z51) (Int.toNat u70)).1)), .ow kF a198 ((v8 * v9).toNat) c199 34 (negL (v8 * v9) (swpS v8 v9 ((rnT v8 v9 true Z14 Z18 (Z43, Z47, Z51) (Int.toNat u70)).2.2))), .ow kF a200 ((v8 * v9).toNat) c201 34 (negL (v8 * v9) (swpS v8 v9 ((rnT v8 v9 true Z14 Z18 (Z43, Z47, Z51) (Int.toNat u70)).2.1))), .blk b188 [.slice a181 ((v8 * v9).toNat) c182, .slice a183 ((v8 * v9).toNat) c184, .slice a185 ((v8 * v9).toNat) c186] 30, .ow kF a181 ((v8 * v9).toNat) c182 34 ((rnT v9 v8 true (swpS v8 v9 Z14) (swpS v8 v9 Z18) ((swpS v8 v9 Z43), (negL (v8 * v9) (swpS v8 v9 Z51)), (negL (v8 * v9) (swpS v8 v9 Z47))) (Int.toNat u70)).1), .ow kF a183 ((v8 * v9).toNat) c184 34 ((rnT v9 v8 true (swpS v8 v9 Z14) (swpS v8 v9 Z18) ((swpS v8 v9 Z43), (negL (v8 * v9) (swpS v8 v9 Z51)), (negL (v8 * v9) (swpS v8 v9 Z47))) (Int.toNat u70)).2.1), .ow kF a185 ((v8 * v9).toNat) c186 34 ((rnT v9 v8 true (swpS v8 v9 Z14) (swpS v8 v9 Z18) ((swpS v8 v9 Z43), (negL (v8 * v9) (swpS v8 v9 Z51)), (negL (v8 * v9) (swpS v8 v9 Z47))) (Int.toNat u70)).2.2), .blk b172 [.slice a165 ((v8 * v9).toNat) c166, .slice a167 ((v8 * v9).toNat) c168, .slice a169 ((v8 * v9).toNat) c170] 30, .ow kF a165 ((v8 * v9).toNat) c166 34 (swpS v8 v9 Z43), .ow kF a167 ((v8 * v9).toNat) c168 34 (negL (v8 * v9) (swpS v8 v9 Z51)), .ow kF a169 ((v8 * v9).toNat) c170 34 (negL (v8 * v9) (swpS v8 v9 Z47)), .blk b157 [.int .i64 v9, .int .i64 v8, .bool true, .slice a152 ((v8 * v9).toNat) c153, .slice a154 ((v8 * v9).toNat) c155] 26, .ow kF a152 ((v8 * v9).toNat) c153 34 (swpS v8 v9 Z14), .ow kF a154 ((v8 * v9).toNat) c155 34 (swpS v8 v9 Z18), .blk b144 [.slice a137 ((v8 * v9).toNat) c138, .slice a139 ((v8 * v9).toNat) c140, .slice a141 ((v8 * v9).toNat) c142] 30, .ow kF a137 ((v8 * v9).toNat) c138 34 (mirS v8 v9 ((rnT v8 v9 true Z14 Z18 (Z43, Z47, Z51) (Int.toNat u70)).1)), .ow kF a139 ((v8 * v9).toNat) c140 34 (mirS v8 v9 ((rnT v8 v9 true Z14 Z18 (Z43, Z47, Z51) (Int.toNat u70)).2.1)), .ow kF a141 ((v8 * v9).toNat) c142 34 (mirY v8 v9 ((rnT v8 v9 true Z14 Z18 (Z43, Z47, Z51) (Int.toNat u70)).2.2)), .blk b128 [.slice a121 ((v8 * v9).toNat) c122, .slice a123 ((v8 * v9).toNat) c124, .slice a125 ((v8 * v9).toNat) c126] 30, .ow kF a121 ((v8 * v9).toNat) c122 34 ((rnT v8 v9 true (mirS v8 v9 Z14) (mirS v8 v9 Z18) ((mirS v8 v9 Z43), (mirS v8 v9 Z47), (mirY v8 v9 Z51)) (Int.toNat u70)).1), .ow kF a123 ((v8 * v9).toNat) c124 34 ((rnT v8 v9 true (mirS v8 v9 Z14) (mirS v8 v9 Z18) ((mirS v8 v9 Z43), (mirS v8 v9 Z47), (mirY v8 v9 Z51)) (Int.toNat u70)).2.1), .ow kF a125 ((v8 * v9).toNat) c126 34 ((rnT v8 v9 true (mirS v8 v9 Z14) (mirS v8 v9 Z18) ((mirS v8 v9 Z43), (mirS v8 v9 Z47), (mirY v8 v9 Z51)) (Int.toNat u70)).2.2), .blk b112 [.slice a105 ((v8 * v9).toNat) c106, .slice a107 ((v8 * v9).toNat) c108, .slice a109 ((v8 * v9).toNat) c110] 30, .ow kF a105 ((v8 * v9).toNat) c106 34 (mirS v8 v9 Z43), .ow kF a107 ((v8 * v9).toNat) c108 34 (mirS v8 v9 Z47), .ow kF a109 ((v8 * v9).toNat) c110 34 (mirY v8 v9 Z51), .blk b97 [.int .i64 v8, .int .i64 v9, .bool true, .slice a92 ((v8 * v9).toNat) c93, .slice a94 ((v8 * v9).toNat) c95] 26, .ow kF a92 ((v8 * v9).toNat) c93 34 (mirS v8 v9 Z14), .ow kF a94 ((v8 * v9).toNat) c95 34 (mirS v8 v9 Z18), .blk b84 [.slice a77 c41 c78, .slice a79 c45 c80, .slice a81 c49 c82] 30, .ow kF a77 c41 c78 34 ((rnT v8 v9 true Z14 Z18 (Z43, Z47, Z51) (Int.toNat u70)).1), .ow kF a79 c45 c80 34 ((rnT v8 v9 true Z14 Z18 (Z43, Z47, Z51) (Int.toNat u70)).2.1), .ow kF a81 c49 c82 34 ((rnT v8 v9 true Z14 Z18 (Z43, Z47, Z51) (Int.toNat u70)).2.2), .blk b63 [.slice a40 c41 c42, .slice a44 c45 c46, .slice a48 c49 c50] 30, .ow kF a40 c41 c42 34 Z43, .ow kF a44 c45 c46 34 Z47, .ow kF a48 c49 c50 34 Z51, .blk b33 [.int .i64 v8, .int .i64 v9, .bool true, .slice a11 c12 c13, .slice a15 c16 c17] 26, .ow kF a11 c12 c13 34 Z14, .ow kF a15 c16 c17 34 Z18, .rd kY a0 n0 X0, .rd kY a1 n1 X1] := B.upd [0] rfl hU288
      clear hU288
      refine s_y (v := .bool true) rfl (y_assign rfl) ?_
      refine s_nil ?_
      refine W_seq ?_
      refine W_region (by kernel_rfl) ?_
      refine s_y (v := .bool true) rfl (y_move rfl) ?_
      refine s_y (v := .bool true) rfl (y_move rfl) ?_
      refine s_y (v := .bool true) rfl (y_move rfl) ?_
      refine s_y (v := .bool true) rfl (y_pick_t rfl rfl) ?_
      refine s_y (v := .bool true) rfl (y_move rfl) ?_
      refine s_y (v := .bool true) rfl (y_move rfl) ?_
      refine s_y (v := .bool true) rfl (y_pick_t rfl rfl) ?_
      refine s_y (v := .bool true) rfl (y_move rfl) ?_
      refine s_y (v := .bool true) rfl (y_move rfl) ?_
      refine s_y (v := .bool true) rfl (y_pick_t rfl rfl) ?_
      refine s_y (v := .bool true) rfl (y_move rfl) ?_
      refine s_y (v := .agg #[.slice a261 ((v8 * v9).toNat) c262, .slice a263 ((v8 * v9).toNat) c264, .slice a265 ((v8 * v9).toNat) c266]) rfl (y_loadn (b := b268) (o := 0) (vs := [.slice a261 ((v8 * v9).toNat) c262, .slice a263 ((v8 * v9).toNat) c264, .slice a265 ((v8 * v9).toNat) c266]) T9.agg_30_3 rfl rfl ((B.b 4 rfl).cells (o := 0) rfl)) ?_
      refine s_y (v := .agg #[.slice a277 ((v8 * v9).toNat) c278, .slice a279 ((v8 * v9).toNat) c280, .slice a281 ((v8 * v9).toNat) c282]) rfl (y_loadn (b := b284) (o := 0) (vs := [.slice a277 ((v8 * v9).toNat) c278, .slice a279 ((v8 * v9).toNat) c280, .slice a281 ((v8 * v9).toNat) c282]) T9.agg_30_3 rfl rfl ((B.b 0 rfl).cells (o := 0) rfl)) ?_
      refine s_k rfl (k_call T9.fn_50 (c_l_r8Fields ((B.o 5 rfl).rd) ((B.o 6 rfl).rd) ((B.o 7 rfl).rd) ((B.o 1 rfl).rd) ((B.o 2 rfl).rd) ((B.o 3 rfl).rd) (by first | exact lenle (by assumption) | exact lenle6 (by assumption) | exact le256 (by assumption) | exact le2566 (by assumption) | omega) (by first | exact lenle (by assumption) | exact lenle6 (by assumption) | exact le256 (by assumption) | exact le2566 (by assumption) | omega) (by first | exact lenle (by assumption) | exact lenle6 (by assumption) | exact le256 (by assumption) | exact le2566 (by assumption) | omega) (by first | exact lenle (by assumption) | exact lenle6 (by assumption) | exact le256 (by assumption) | exact le2566 (by assumption) | omega) (by first | exact lenle (by assumption) | exact lenle6 (by assumption) | exact le256 (by assumption) | exact le2566 (by assumption) | omega) (by first | exact lenle (by assumption) | exact lenle6 (by assumption) | exact le256 (by assumption) | exact le2566 (by assumption) | omega)) rfl ?_)
      rintro v291 w289 ⟨hv292, e290⟩
      replace B := B.ext0 e290
      clear e290
      have hk293 : (eqL ((rnT v8 v9 true (shfS v8 v9 (u224 - 4) 2 Z14) (shfS v8 v9 (u224 - 4) 2 Z18) ((shfS v8 v9 (u224 - 4) 2 Z43), (shfS v8 v9 (u224 - 4) 2 Z47), (shfS v8 v9 (u224 - 4) 2 Z51)) (Int.toNat u70)).1) (shfS v8 v9 (u224 - 4) 2 ((rnT v8 v9 true Z14 Z18 (Z43, Z47, Z51) (Int.toNat u70)).1)) && eqL ((rnT v8 v9 true (shfS v8 v9 (u224 - 4) 2 Z14) (shfS v8 v9 (u224 - 4) 2 Z18) ((shfS v8 v9 (u224 - 4) 2 Z43), (shfS v8 v9 (u224 - 4) 2 Z47), (shfS v8 v9 (u224 - 4) 2 Z51)) (Int.toNat u70)).2.1) (shfS v8 v9 (u224 - 4) 2 ((rnT v8 v9 true Z14 Z18 (Z43, Z47, Z51) (Int.toNat u70)).2.1)) && eqL ((rnT v8 v9 true (shfS v8 v9 (u224 - 4) 2 Z14) (shfS v8 v9 (u224 - 4) 2 Z18) ((shfS v8 v9 (u224 - 4) 2 Z43), (shfS v8 v9 (u224 - 4) 2 Z47), (shfS v8 v9 (u224 - 4) 2 Z51)) (Int.toNat u70)).2.2) (shfS v8 v9 (u224 - 4) 2 ((rnT v8 v9 true Z14 Z18 (Z43, Z47, Z51) (Int.toNat u70)).2.2))) = true := (eq_shf hp22 hp52 hp53 (by omega))
      obtain rfl : v291 = .bool true := hv292.trans (congrArg Value.bool hk293)
      refine s_y (v := .bool true) rfl (y_pick_t rfl rfl) ?_
      refine s_y (v := .bool true) rfl (y_assign rfl) ?_
      refine s_nil ?_
      refine W_ret ?_
      refine ret1 (v := .bool true) rfl rfl rfl ⟨_, rfl, ?_⟩
      exact ⟨rfl, B.ext⟩
end Go.Proofs.Ytgohmocjjmkepaa
