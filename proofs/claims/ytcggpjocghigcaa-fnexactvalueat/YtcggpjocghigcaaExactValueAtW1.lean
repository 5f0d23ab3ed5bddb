/- Walks: what the functions under FnExactValueAt do (part 2). Printed by a program of this claim's author. -/
import Derived.Test.YtcggpjocghigcaaExactValueAtW0
set_option linter.unusedSimpArgs false
set_option linter.unusedVariables false
open Go.Wv
namespace Go.Proofs.Ytcggpjocghigcaa
open Go.Proofs
namespace T19
theorem mx : Try.prog.follows .mixedOrders = true := by kernel_rfl
theorem fld_26_0_0 : fldB Try.prog 26 0 0 = true := by kernel_rfl
theorem fld_26_1_1 : fldB Try.prog 26 1 1 = true := by kernel_rfl
theorem fld_26_3_3 : fldB Try.prog 26 3 3 = true := by kernel_rfl
theorem fld_26_4_4 : fldB Try.prog 26 4 4 = true := by kernel_rfl
theorem fn_65 : fnB Try.prog 65 = true := by kernel_rfl
theorem fn_66 : fnB Try.prog 66 = true := by kernel_rfl
theorem one_2 : oneB Try.prog 2 = true := by kernel_rfl
theorem one_24 : oneB Try.prog 24 = true := by kernel_rfl
theorem sl_24_62_1 : slB Try.prog 24 62 1 = true := by kernel_rfl
end T19
set_option maxRecDepth 100000 in
set_option maxHeartbeats 4000000 in
theorem c_i_ValidSheet {wd hi : Int} {wr : Bool} {asp : Option Addr} {nsp csp : Nat} {xsp Xsp : List Nat} {als : Option Addr} {nls cls : Nat} {xls Xls : List Nat} (w : World) (qssp : Sl w asp (flts xsp)) (qlsp : xsp.length = nsp) (qksp : cn xsp = Xsp) (qsls : Sl w als (flts xls)) (qlls : xls.length = nls) (qkls : cn xls = Xls) (hb1 : nsp ≤ 9223372036854775806) (hb2 : nls ≤ 9223372036854775806) :
    Calls Try.prog 19 #[.agg #[.int .i64 wd, .int .i64 hi, .bool wr, .slice asp nsp csp, .slice als nls cls]] w (Rt fun v w' => v = .bool (validS wd hi Xsp Xls) ∧ Ext0 w w') := by
  have E0 : Ext no w w := Ext.refl _ _
  have hlP : Xsp.length = nsp := (cn_lenX qksp).trans qlsp
  have hlL : Xls.length = nls := (cn_lenX qkls).trans qlls
  have lo_asp := Sl.low qssp
  have lo_als := Sl.low qsls
  refine calls_W (n := 45) Try.func19 rfl rfl (Nat.le_of_ble_eq_true rfl) ?_
  refine W_seq ?_
  refine W_region (by kernel_rfl) ?_
  refine s_k rfl (k_box (v := .agg #[.int .i64 wd, .int .i64 hi, .bool wr, .slice asp nsp csp, .slice als nls cls]) (cs := [.int .i64 wd, .int .i64 hi, .bool wr, .slice asp nsp csp, .slice als nls cls]) rfl rfl (fun b1 w2 q4 e3 hB5 => ?_))
  have hS6 := qssp.ext0 e3
  have hS7 := qsls.ext0 e3
  have E8 := E0.fresh e3 (fun _ h _ => h.elim)
  have fr9 : NotLt b1 w.heap.size := fun h => Nat.not_lt.2 (Nat.le_trans E0.size (Nat.le_of_eq q4.symm)) h
  clear q4
  refine s_y (v := .bool false) rfl (y_assign rfl) ?_
  refine s_nil ?_
  refine W_seq ?_
  refine W_region (by kernel_rfl) ?_
  refine s_y (v := .pointer (some ⟨b1, 0, none⟩)) rfl (y_fld (o := 0) T19.fld_26_0_0 rfl) ?_
  refine s_y (v := .int .i64 wd) rfl (y_load T19.one_2 rfl (hB5.cell (j := 0) rfl)) ?_
  refine s_y (v := .pointer (some ⟨b1, 1, none⟩)) rfl (y_fld (o := 0) T19.fld_26_1_1 rfl) ?_
  refine s_y (v := .int .i64 hi) rfl (y_load T19.one_2 rfl (hB5.cell (j := 1) rfl)) ?_
  by_cases hr10 : -9223372036854775808 ≤ wd * hi ∧ wd * hi ≤ 9223372036854775807
  · refine s_y (v := .int .i64 (wd * hi)) rfl (y_mul rfl rfl rfl hr10) ?_
    refine s_y (v := .int .i64 (wd * hi)) rfl (y_assign rfl) ?_
    refine s_nil ?_
    refine W_seq ?_
    refine W_seq ?_
    refine W_region (by kernel_rfl) ?_
    refine s_y (v := .pointer (some ⟨b1, 0, none⟩)) rfl (y_fld (o := 0) T19.fld_26_0_0 rfl) ?_
    refine s_y (v := .int .i64 wd) rfl (y_load T19.one_2 rfl (hB5.cell (j := 0) rfl)) ?_
    refine s_k rfl (k_call T19.fn_65 (c_i_within _ _ _ _) rfl ?_)
    rintro v13 w11 ⟨hv14, e12⟩
    have hB15 := hB5.ext0 e12
    have hS16 := hS6.ext0 e12
    have hS17 := hS7.ext0 e12
    have E18 := E8.fresh e12 (fun _ h _ => h.elim)
    by_cases c19 : within wd 3 16 = true
    · have hb20 := within_b c19
      obtain rfl : v13 = .bool true := hv14.trans (congrArg Value.bool c19)
      refine s_y (v := .bool false) rfl (y_not rfl rfl) ?_
      refine s_y (v := .bool false) rfl (y_move rfl) ?_
      refine s_y (v := .pointer (some ⟨b1, 1, none⟩)) rfl (y_fld (o := 0) T19.fld_26_1_1 rfl) ?_
      refine s_y (v := .int .i64 hi) rfl (y_load T19.one_2 rfl (hB15.cell (j := 1) rfl)) ?_
      refine s_k rfl (k_call T19.fn_65 (c_i_within _ _ _ _) rfl ?_)
      rintro v23 w21 ⟨hv24, e22⟩
      have hB25 := hB15.ext0 e22
      have hS26 := hS16.ext0 e22
      have hS27 := hS17.ext0 e22
      have E28 := E18.fresh e22 (fun _ h _ => h.elim)
      by_cases c29 : within hi 3 16 = true
      · have hb30 := within_b c29
        obtain rfl : v23 = .bool true := hv24.trans (congrArg Value.bool c29)
        refine s_y (v := .bool false) rfl (y_not rfl rfl) ?_
        refine s_y (v := .bool false) rfl (y_pick_f rfl rfl) ?_
        refine s_y (v := .bool false) rfl (y_move rfl) ?_
        refine s_y (v := .int .i64 (wd * hi)) rfl (y_move rfl) ?_
        have hk31 : ¬ (256 < (wd * hi)) := (by have hz := mul16 (And.intro (within_b c19) (within_b c29)); omega)
        refine s_y (v := .bool false) rfl (y_gtr rfl rfl (decide_eq_false hk31)) ?_
        refine s_y (v := .bool false) rfl (y_pick_f rfl rfl) ?_
        refine s_nil ?_
        refine W_if_f (by decide) rfl ?_
        refine W_skip ?_
        refine W_seq ?_
        refine W_region (by kernel_rfl) ?_
        refine s_y (v := .pointer (some ⟨b1, 3, none⟩)) rfl (y_fld (o := 0) T19.fld_26_3_3 rfl) ?_
        refine s_y (v := .slice asp nsp csp) rfl (y_load T19.one_24 rfl (hB25.cell (j := 3) rfl)) ?_
        refine s_y (v := .int .i64 ((nsp : Nat) : Int)) rfl (y_len T19.sl_24_62_1 rfl rfl) ?_
        refine s_y (v := .int .i64 (wd * hi)) rfl (y_move rfl) ?_
        by_cases c32 : ((nsp : Nat) : Int) = (wd * hi)
        · refine s_y (v := .bool true) rfl (y_eql rfl rfl (decide_eq_true c32)) ?_
          refine s_y (v := .bool true) rfl (y_move rfl) ?_
          refine s_y (v := .pointer (some ⟨b1, 4, none⟩)) rfl (y_fld (o := 0) T19.fld_26_4_4 rfl) ?_
          refine s_y (v := .slice als nls cls) rfl (y_load T19.one_24 rfl (hB25.cell (j := 4) rfl)) ?_
          refine s_y (v := .int .i64 ((nls : Nat) : Int)) rfl (y_len T19.sl_24_62_1 rfl rfl) ?_
          refine s_y (v := .int .i64 (wd * hi)) rfl (y_move rfl) ?_
          by_cases c33 : ((nls : Nat) : Int) = (wd * hi)
          · refine s_y (v := .bool true) rfl (y_eql rfl rfl (decide_eq_true c33)) ?_
            refine s_y (v := .bool true) rfl (y_pick_t rfl rfl) ?_
            refine s_y (v := .bool true) rfl (y_move rfl) ?_
            refine s_y (v := .pointer (some ⟨b1, 3, none⟩)) rfl (y_fld (o := 0) T19.fld_26_3_3 rfl) ?_
            refine s_y (v := .slice asp nsp csp) rfl (y_load T19.one_24 rfl (hB25.cell (j := 3) rfl)) ?_
            refine s_k rfl (k_call T19.fn_66 (c_i_areBetween _ hS26 qlsp qksp (show can .f32 1056964608 = 1056964608 by kernel_rfl) (by omega)) rfl ?_)
            rintro v36 w34 ⟨hv37, e35⟩
            have hB38 := hB25.ext0 e35
            have hS39 := hS26.ext0 e35
            have hS40 := hS27.ext0 e35
            have E41 := E28.fresh e35 (fun _ h _ => h.elim)
            by_cases c42 : allI (nsp : Nat) (betw 1056964608 Xsp) = true
            · obtain rfl : v36 = .bool true := hv37.trans (congrArg Value.bool c42)
              refine s_y (v := .bool true) rfl (y_pick_t rfl rfl) ?_
              refine s_y (v := .bool true) rfl (y_move rfl) ?_
              refine s_y (v := .pointer (some ⟨b1, 4, none⟩)) rfl (y_fld (o := 0) T19.fld_26_4_4 rfl) ?_
              refine s_y (v := .slice als nls cls) rfl (y_load T19.one_24 rfl (hB38.cell (j := 4) rfl)) ?_
              refine s_k rfl (k_call T19.fn_66 (c_i_areBetween _ hS40 qlls qkls (show can .f32 1065353216 = 1065353216 by kernel_rfl) (by omega)) rfl ?_)
              rintro v45 w43 ⟨hv46, e44⟩
              have hB47 := hB38.ext0 e44
              have hS48 := hS39.ext0 e44
              have hS49 := hS40.ext0 e44
              have E50 := E41.fresh e44 (fun _ h _ => h.elim)
              by_cases c51 : allI (nls : Nat) (betw 1065353216 Xls) = true
              · obtain rfl : v45 = .bool true := hv46.trans (congrArg Value.bool c51)
                refine s_y (v := .bool true) rfl (y_pick_t rfl rfl) ?_
                refine s_y (v := .bool true) rfl (y_assign rfl) ?_
                refine s_nil ?_
                refine W_ret ?_
                refine ret1 rfl rfl rfl ⟨_, rfl, ?_⟩
                exact ⟨congrArg Value.bool (by simp only [validS_eq hlP hlL, c19, c29, (decide_eq_false hk31), (decide_eq_true c32), (decide_eq_true c33), c42, c51, Bool.and_true, Bool.true_and, Bool.and_false, Bool.false_and, Bool.not_true, Bool.not_false, Bool.or_true, Bool.true_or, Bool.or_false, Bool.false_or]), E50⟩
              · obtain rfl : v45 = .bool false := hv46.trans (congrArg Value.bool (Bool.eq_false_iff.2 c51))
                refine s_y (v := .bool false) rfl (y_pick_t rfl rfl) ?_
                refine s_y (v := .bool false) rfl (y_assign rfl) ?_
                refine s_nil ?_
                refine W_ret ?_
                refine ret1 rfl rfl rfl ⟨_, rfl, ?_⟩
                exact ⟨congrArg Value.bool (by simp only [validS_eq hlP hlL, c19, c29, (decide_eq_false hk31), (decide_eq_true c32), (decide_eq_true c33), c42, (Bool.eq_false_iff.2 c51), Bool.and_true, Bool.true_and, Bool.and_false, Bool.false_and, Bool.not_true, Bool.not_false, Bool.or_true, Bool.true_or, Bool.or_false, Bool.false_or]), E50⟩
            · obtain rfl : v36 = .bool false := hv37.trans (congrArg Value.bool (Bool.eq_false_iff.2 c42))
              refine s_y (v := .bool false) rfl (y_pick_t rfl rfl) ?_
              refine s_y (v := .bool false) rfl (y_move rfl) ?_
              refine s_skip rfl ?_
              refine s_skip rfl ?_
              refine s_skip rfl ?_
              refine s_y (v := .bool false) rfl (y_pick_f rfl rfl) ?_
              refine s_y (v := .bool false) rfl (y_assign rfl) ?_
              refine s_nil ?_
              refine W_ret ?_
              refine ret1 rfl rfl rfl ⟨_, rfl, ?_⟩
              exact ⟨congrArg Value.bool (by simp only [validS_eq hlP hlL, c19, c29, (decide_eq_false hk31), (decide_eq_true c32), (decide_eq_true c33), (Bool.eq_false_iff.2 c42), Bool.and_true, Bool.true_and, Bool.and_false, Bool.false_and, Bool.not_true, Bool.not_false, Bool.or_true, Bool.true_or, Bool.or_false, Bool.false_or]), E41⟩
          · refine s_y (v := .bool false) rfl (y_eql rfl rfl (decide_eq_false c33)) ?_
            refine s_y (v := .bool false) rfl (y_pick_t rfl rfl) ?_
            refine s_y (v := .bool false) rfl (y_move rfl) ?_
            refine s_skip rfl ?_
            refine s_skip rfl ?_
            refine s_skip rfl ?_
            refine s_y (v := .bool false) rfl (y_pick_f rfl rfl) ?_
            refine s_y (v := .bool false) rfl (y_move rfl) ?_
            refine s_skip rfl ?_
            refine s_skip rfl ?_
            refine s_skip rfl ?_
            refine s_y (v := .bool false) rfl (y_pick_f rfl rfl) ?_
            refine s_y (v := .bool false) rfl (y_assign rfl) ?_
            refine s_nil ?_
            refine W_ret ?_
            refine ret1 rfl rfl rfl ⟨_, rfl, ?_⟩
            exact ⟨congrArg Value.bool (by simp only [validS_eq hlP hlL, c19, c29, (decide_eq_false hk31), (decide_eq_true c32), (decide_eq_false c33), Bool.and_true, Bool.true_and, Bool.and_false, Bool.false_and, Bool.not_true, Bool.not_false, Bool.or_true, Bool.true_or, Bool.or_false, Bool.false_or]), E28⟩
        · refine s_y (v := .bool false) rfl (y_eql rfl rfl (decide_eq_false c32)) ?_
          refine s_y (v := .bool false) rfl (y_move rfl) ?_
          refine s_skip rfl ?_
          refine s_skip rfl ?_
          refine s_skip rfl ?_
          refine s_skip rfl ?_
          refine s_skip rfl ?_
          refine s_y (v := .bool false) rfl (y_pick_f rfl rfl) ?_
          refine s_y (v := .bool false) rfl (y_move rfl) ?_
          refine s_skip rfl ?_
          refine s_skip rfl ?_
          refine s_skip rfl ?_
          refine s_y (v := .bool false) rfl (y_pick_f rfl rfl) ?_
          refine s_y (v := .bool false) rfl (y_move rfl) ?_
          refine s_skip rfl ?_
          refine s_skip rfl ?_
          refine s_skip rfl ?_
          refine s_y (v := .bool false) rfl (y_pick_f rfl rfl) ?_
          refine s_y (v := .bool false) rfl (y_assign rfl) ?_
          refine s_nil ?_
          refine W_ret ?_
          refine ret1 rfl rfl rfl ⟨_, rfl, ?_⟩
          exact ⟨congrArg Value.bool (by simp only [validS_eq hlP hlL, c19, c29, (decide_eq_false hk31), (decide_eq_false c32), Bool.and_true, Bool.true_and, Bool.and_false, Bool.false_and, Bool.not_true, Bool.not_false, Bool.or_true, Bool.true_or, Bool.or_false, Bool.false_or]), E28⟩
      · obtain rfl : v23 = .bool false := hv24.trans (congrArg Value.bool (Bool.eq_false_iff.2 c29))
        refine s_y (v := .bool true) rfl (y_not rfl rfl) ?_
        refine s_y (v := .bool true) rfl (y_pick_f rfl rfl) ?_
        refine s_y (v := .bool true) rfl (y_move rfl) ?_
        refine s_skip rfl ?_
        refine s_skip rfl ?_
        refine s_y (v := .bool true) rfl (y_pick_t rfl rfl) ?_
        refine s_nil ?_
        refine W_if_t (by decide) rfl ?_
        refine W_seq ?_
        refine W_region (by kernel_rfl) ?_
        refine s_y (v := .bool false) rfl (y_assign rfl) ?_
        refine s_nil ?_
        refine W_ret ?_
        refine ret1 rfl rfl rfl ⟨_, rfl, ?_⟩
        exact ⟨congrArg Value.bool (by simp only [validS_eq hlP hlL, c19, (Bool.eq_false_iff.2 c29), Bool.and_true, Bool.true_and, Bool.and_false, Bool.false_and, Bool.not_true, Bool.not_false, Bool.or_true, Bool.true_or, Bool.or_false, Bool.false_or]), E28⟩
    · obtain rfl : v13 = .bool false := hv14.trans (congrArg Value.bool (Bool.eq_false_iff.2 c19))
      refine s_y (v := .bool true) rfl (y_not rfl rfl) ?_
      refine s_y (v := .bool true) rfl (y_move rfl) ?_
      refine s_skip rfl ?_
      refine s_skip rfl ?_
      refine s_skip rfl ?_
      refine s_skip rfl ?_
      refine s_y (v := .bool true) rfl (y_pick_t rfl rfl) ?_
      refine s_y (v := .bool true) rfl (y_move rfl) ?_
      refine s_skip rfl ?_
      refine s_skip rfl ?_
      refine s_y (v := .bool true) rfl (y_pick_t rfl rfl) ?_
      refine s_nil ?_
      refine W_if_t (by decide) rfl ?_
      refine W_seq ?_
      refine W_region (by kernel_rfl) ?_
      refine s_y (v := .bool false) rfl (y_assign rfl) ?_
      refine s_nil ?_
      refine W_ret ?_
      refine ret1 rfl rfl rfl ⟨_, rfl, ?_⟩
      exact ⟨congrArg Value.bool (by simp only [validS_eq hlP hlL, (Bool.eq_false_iff.2 c19), Bool.and_true, Bool.true_and, Bool.and_false, Bool.false_and, Bool.not_true, Bool.not_false, Bool.or_true, Bool.true_or, Bool.or_false, Bool.false_or]), E18⟩
  · have hw52 := wrap64_b (wd * hi)
    refine s_y (v := .int .i64 (IntKind.i64.wrap (wd * hi))) rfl (y_mulw rfl rfl) ?_
    refine s_y (v := .int .i64 (IntKind.i64.wrap (wd * hi))) rfl (y_assign rfl) ?_
    refine s_nil ?_
    refine W_seq ?_
    refine W_seq ?_
    refine W_region (by kernel_rfl) ?_
    refine s_y (v := .pointer (some ⟨b1, 0, none⟩)) rfl (y_fld (o := 0) T19.fld_26_0_0 rfl) ?_
    refine s_y (v := .int .i64 wd) rfl (y_load T19.one_2 rfl (hB5.cell (j := 0) rfl)) ?_
    refine s_k rfl (k_call T19.fn_65 (c_i_within _ _ _ _) rfl ?_)
    rintro v55 w53 ⟨hv56, e54⟩
    have hB57 := hB5.ext0 e54
    have hS58 := hS6.ext0 e54
    have hS59 := hS7.ext0 e54
    have E60 := E8.fresh e54 (fun _ h _ => h.elim)
    by_cases c61 : within wd 3 16 = true
    · have hb62 := within_b c61
      obtain rfl : v55 = .bool true := hv56.trans (congrArg Value.bool c61)
      refine s_y (v := .bool false) rfl (y_not rfl rfl) ?_
      refine s_y (v := .bool false) rfl (y_move rfl) ?_
      refine s_y (v := .pointer (some ⟨b1, 1, none⟩)) rfl (y_fld (o := 0) T19.fld_26_1_1 rfl) ?_
      refine s_y (v := .int .i64 hi) rfl (y_load T19.one_2 rfl (hB57.cell (j := 1) rfl)) ?_
      refine s_k rfl (k_call T19.fn_65 (c_i_within _ _ _ _) rfl ?_)
      rintro v65 w63 ⟨hv66, e64⟩
      have hB67 := hB57.ext0 e64
      have hS68 := hS58.ext0 e64
      have hS69 := hS59.ext0 e64
      have E70 := E60.fresh e64 (fun _ h _ => h.elim)
      have hk71 : ¬ (within hi 3 16 = true) := (fun hq => by have hz := mul16 (And.intro (within_b c61) (within_b hq)); omega)
      obtain rfl : v65 = .bool false := hv66.trans (congrArg Value.bool (Bool.eq_false_iff.2 hk71))
      refine s_y (v := .bool true) rfl (y_not rfl rfl) ?_
      refine s_y (v := .bool true) rfl (y_pick_f rfl rfl) ?_
      refine s_y (v := .bool true) rfl (y_move rfl) ?_
      refine s_skip rfl ?_
      refine s_skip rfl ?_
      refine s_y (v := .bool true) rfl (y_pick_t rfl rfl) ?_
      refine s_nil ?_
      refine W_if_t (by decide) rfl ?_
      refine W_seq ?_
      refine W_region (by kernel_rfl) ?_
      refine s_y (v := .bool false) rfl (y_assign rfl) ?_
      refine s_nil ?_
      refine W_ret ?_
      refine ret1 rfl rfl rfl ⟨_, rfl, ?_⟩
      exact ⟨congrArg Value.bool (by simp only [validS_eq hlP hlL, c61, (Bool.eq_false_iff.2 hk71), Bool.and_true, Bool.true_and, Bool.and_false, Bool.false_and, Bool.not_true, Bool.not_false, Bool.or_true, Bool.true_or, Bool.or_false, Bool.false_or]), E70⟩
    · obtain rfl : v55 = .bool false := hv56.trans (congrArg Value.bool (Bool.eq_false_iff.2 c61))
      refine s_y (v := .bool true) rfl (y_not rfl rfl) ?_
      refine s_y (v := .bool true) rfl (y_move rfl) ?_
      refine s_skip rfl ?_
      refine s_skip rfl ?_
      refine s_skip rfl ?_
      refine s_skip rfl ?_
      refine s_y (v := .bool true) rfl (y_pick_t rfl rfl) ?_
      refine s_y (v := .bool true) rfl (y_move rfl) ?_
      refine s_skip rfl ?_
      refine s_skip rfl ?_
      refine s_y (v := .bool true) rfl (y_pick_t rfl rfl) ?_
      refine s_nil ?_
      refine W_if_t (by decide) rfl ?_
      refine W_seq ?_
      refine W_region (by kernel_rfl) ?_
      refine s_y (v := .bool false) rfl (y_assign rfl) ?_
      refine s_nil ?_
      refine W_ret ?_
      refine ret1 rfl rfl rfl ⟨_, rfl, ?_⟩
      exact ⟨congrArg Value.bool (by simp only [validS_eq hlP hlL, (Bool.eq_false_iff.2 c61), Bool.and_true, Bool.true_and, Bool.and_false, Bool.false_and, Bool.not_true, Bool.not_false, Bool.or_true, Bool.true_or, Bool.or_false, Bool.false_or]), E60⟩
namespace T98
theorem mx : Try.prog.follows .mixedOrders = true := by kernel_rfl
theorem fld_26_0_0 : fldB Try.prog 26 0 0 = true := by kernel_rfl
theorem fld_26_1_1 : fldB Try.prog 26 1 1 = true := by kernel_rfl
theorem fld_26_2_2 : fldB Try.prog 26 2 2 = true := by kernel_rfl
theorem one_2 : oneB Try.prog 2 = true := by kernel_rfl
theorem one_4 : oneB Try.prog 4 = true := by kernel_rfl
end T98
set_option maxRecDepth 100000 in
set_option maxHeartbeats 4000000 in
theorem c_i_isBorder {wd hi : Int} {wr : Bool} {asp als : Option Addr} {nsp nls csp cls : Nat} {x : Int} {y : Int} (w : World) (h1 : 3 ≤ wd) (h2 : wd ≤ 16) (h3 : 3 ≤ hi) (h4 : hi ≤ 16) :
    Calls Try.prog 98 #[.agg #[.int .i64 wd, .int .i64 hi, .bool wr, .slice asp nsp csp, .slice als nls cls], .int .i64 x, .int .i64 y] w (Rt fun v w' => v = .bool (bordB wd hi wr x y) ∧ Ext0 w w') := by
  have E0 : Ext no w w := Ext.refl _ _
  refine calls_W (n := 32) Try.func98 rfl rfl (Nat.le_of_ble_eq_true rfl) ?_
  refine W_seq ?_
  refine W_region (by kernel_rfl) ?_
  refine s_k rfl (k_box (v := .agg #[.int .i64 wd, .int .i64 hi, .bool wr, .slice asp nsp csp, .slice als nls cls]) (cs := [.int .i64 wd, .int .i64 hi, .bool wr, .slice asp nsp csp, .slice als nls cls]) rfl rfl (fun b1 w2 q4 e3 hB5 => ?_))
  have E6 := E0.fresh e3 (fun _ h _ => h.elim)
  have fr7 : NotLt b1 w.heap.size := fun h => Nat.not_lt.2 (Nat.le_trans E0.size (Nat.le_of_eq q4.symm)) h
  clear q4
  refine s_y (v := .bool false) rfl (y_assign rfl) ?_
  refine s_nil ?_
  refine W_seq ?_
  refine W_region (by kernel_rfl) ?_
  refine s_y (v := .pointer (some ⟨b1, 2, none⟩)) rfl (y_fld (o := 0) T98.fld_26_2_2 rfl) ?_
  refine s_y (v := .bool wr) rfl (y_load T98.one_4 rfl (hB5.cell (j := 2) rfl)) ?_
  refine s_y (v := .bool (!wr)) rfl (y_not rfl rfl) ?_
  refine s_y (v := .bool (!wr)) rfl (y_move rfl) ?_
  cases wr
  · refine s_y (v := .int .i64 x) rfl (y_move rfl) ?_
    by_cases c8 : x = 0
    · refine s_y (v := .bool true) rfl (y_eql rfl rfl (decide_eq_true c8)) ?_
      refine s_y (v := .bool true) rfl (y_move rfl) ?_
      refine s_skip rfl ?_
      refine s_skip rfl ?_
      refine s_skip rfl ?_
      refine s_skip rfl ?_
      refine s_skip rfl ?_
      refine s_y (v := .bool true) rfl (y_pick_t rfl rfl) ?_
      refine s_y (v := .bool true) rfl (y_move rfl) ?_
      refine s_skip rfl ?_
      refine s_skip rfl ?_
      refine s_y (v := .bool true) rfl (y_pick_t rfl rfl) ?_
      refine s_y (v := .bool true) rfl (y_move rfl) ?_
      refine s_skip rfl ?_
      refine s_skip rfl ?_
      refine s_skip rfl ?_
      refine s_skip rfl ?_
      refine s_skip rfl ?_
      refine s_y (v := .bool true) rfl (y_pick_t rfl rfl) ?_
      refine s_y (v := .bool true) rfl (y_pick_t rfl rfl) ?_
      refine s_y (v := .bool true) rfl (y_assign rfl) ?_
      refine s_nil ?_
      refine W_ret ?_
      refine ret1 rfl rfl rfl ⟨_, rfl, ?_⟩
      exact ⟨congrArg Value.bool (by simp only [bordB, (decide_eq_true c8), Bool.and_true, Bool.true_and, Bool.and_false, Bool.false_and, Bool.not_true, Bool.not_false, Bool.or_true, Bool.true_or, Bool.or_false, Bool.false_or]), E6⟩
    · refine s_y (v := .bool false) rfl (y_eql rfl rfl (decide_eq_false c8)) ?_
      refine s_y (v := .bool false) rfl (y_move rfl) ?_
      refine s_y (v := .int .i64 x) rfl (y_move rfl) ?_
      refine s_y (v := .pointer (some ⟨b1, 0, none⟩)) rfl (y_fld (o := 0) T98.fld_26_0_0 rfl) ?_
      refine s_y (v := .int .i64 wd) rfl (y_load T98.one_2 rfl (hB5.cell (j := 0) rfl)) ?_
      refine s_y (v := .int .i64 (wd - 1)) rfl (y_sub rfl rfl rfl (by omega)) ?_
      by_cases c9 : x = (wd - 1)
      · refine s_y (v := .bool true) rfl (y_eql rfl rfl (decide_eq_true c9)) ?_
        refine s_y (v := .bool true) rfl (y_pick_f rfl rfl) ?_
        refine s_y (v := .bool true) rfl (y_move rfl) ?_
        refine s_skip rfl ?_
        refine s_skip rfl ?_
        refine s_y (v := .bool true) rfl (y_pick_t rfl rfl) ?_
        refine s_y (v := .bool true) rfl (y_move rfl) ?_
        refine s_skip rfl ?_
        refine s_skip rfl ?_
        refine s_skip rfl ?_
        refine s_skip rfl ?_
        refine s_skip rfl ?_
        refine s_y (v := .bool true) rfl (y_pick_t rfl rfl) ?_
        refine s_y (v := .bool true) rfl (y_pick_t rfl rfl) ?_
        refine s_y (v := .bool true) rfl (y_assign rfl) ?_
        refine s_nil ?_
        refine W_ret ?_
        refine ret1 rfl rfl rfl ⟨_, rfl, ?_⟩
        exact ⟨congrArg Value.bool (by simp only [bordB, (decide_eq_false c8), (decide_eq_true c9), Bool.and_true, Bool.true_and, Bool.and_false, Bool.false_and, Bool.not_true, Bool.not_false, Bool.or_true, Bool.true_or, Bool.or_false, Bool.false_or]), E6⟩
      · refine s_y (v := .bool false) rfl (y_eql rfl rfl (decide_eq_false c9)) ?_
        refine s_y (v := .bool false) rfl (y_pick_f rfl rfl) ?_
        refine s_y (v := .bool false) rfl (y_move rfl) ?_
        refine s_y (v := .int .i64 y) rfl (y_move rfl) ?_
        by_cases c10 : y = 0
        · refine s_y (v := .bool true) rfl (y_eql rfl rfl (decide_eq_true c10)) ?_
          refine s_y (v := .bool true) rfl (y_pick_f rfl rfl) ?_
          refine s_y (v := .bool true) rfl (y_move rfl) ?_
          refine s_skip rfl ?_
          refine s_skip rfl ?_
          refine s_skip rfl ?_
          refine s_skip rfl ?_
          refine s_skip rfl ?_
          refine s_y (v := .bool true) rfl (y_pick_t rfl rfl) ?_
          refine s_y (v := .bool true) rfl (y_pick_t rfl rfl) ?_
          refine s_y (v := .bool true) rfl (y_assign rfl) ?_
          refine s_nil ?_
          refine W_ret ?_
          refine ret1 rfl rfl rfl ⟨_, rfl, ?_⟩
          exact ⟨congrArg Value.bool (by simp only [bordB, (decide_eq_false c8), (decide_eq_false c9), (decide_eq_true c10), Bool.and_true, Bool.true_and, Bool.and_false, Bool.false_and, Bool.not_true, Bool.not_false, Bool.or_true, Bool.true_or, Bool.or_false, Bool.false_or]), E6⟩
        · refine s_y (v := .bool false) rfl (y_eql rfl rfl (decide_eq_false c10)) ?_
          refine s_y (v := .bool false) rfl (y_pick_f rfl rfl) ?_
          refine s_y (v := .bool false) rfl (y_move rfl) ?_
          refine s_y (v := .int .i64 y) rfl (y_move rfl) ?_
          refine s_y (v := .pointer (some ⟨b1, 1, none⟩)) rfl (y_fld (o := 0) T98.fld_26_1_1 rfl) ?_
          refine s_y (v := .int .i64 hi) rfl (y_load T98.one_2 rfl (hB5.cell (j := 1) rfl)) ?_
          refine s_y (v := .int .i64 (hi - 1)) rfl (y_sub rfl rfl rfl (by omega)) ?_
          by_cases c11 : y = (hi - 1)
          · refine s_y (v := .bool true) rfl (y_eql rfl rfl (decide_eq_true c11)) ?_
            refine s_y (v := .bool true) rfl (y_pick_f rfl rfl) ?_
            refine s_y (v := .bool true) rfl (y_pick_t rfl rfl) ?_
            refine s_y (v := .bool true) rfl (y_assign rfl) ?_
            refine s_nil ?_
            refine W_ret ?_
            refine ret1 rfl rfl rfl ⟨_, rfl, ?_⟩
            exact ⟨congrArg Value.bool (by simp only [bordB, (decide_eq_false c8), (decide_eq_false c9), (decide_eq_false c10), (decide_eq_true c11), Bool.and_true, Bool.true_and, Bool.and_false, Bool.false_and, Bool.not_true, Bool.not_false, Bool.or_true, Bool.true_or, Bool.or_false, Bool.false_or]), E6⟩
          · refine s_y (v := .bool false) rfl (y_eql rfl rfl (decide_eq_false c11)) ?_
            refine s_y (v := .bool false) rfl (y_pick_f rfl rfl) ?_
            refine s_y (v := .bool false) rfl (y_pick_t rfl rfl) ?_
            refine s_y (v := .bool false) rfl (y_assign rfl) ?_
            refine s_nil ?_
            refine W_ret ?_
            refine ret1 rfl rfl rfl ⟨_, rfl, ?_⟩
            exact ⟨congrArg Value.bool (by simp only [bordB, (decide_eq_false c8), (decide_eq_false c9), (decide_eq_false c10), (decide_eq_false c11), Bool.and_true, Bool.true_and, Bool.and_false, Bool.false_and, Bool.not_true, Bool.not_false, Bool.or_true, Bool.true_or, Bool.or_false, Bool.false_or]), E6⟩
  · refine s_skip rfl ?_
    refine s_skip rfl ?_
    refine s_skip rfl ?_
    refine s_skip rfl ?_
    refine s_skip rfl ?_
    refine s_skip rfl ?_
    refine s_skip rfl ?_
    refine s_skip rfl ?_
    refine s_skip rfl ?_
    refine s_skip rfl ?_
    refine s_skip rfl ?_
    refine s_skip rfl ?_
    refine s_skip rfl ?_
    refine s_skip rfl ?_
    refine s_skip rfl ?_
    refine s_skip rfl ?_
    refine s_skip rfl ?_
    refine s_skip rfl ?_
    refine s_skip rfl ?_
    refine s_skip rfl ?_
    refine s_y (v := .bool false) rfl (y_pick_f rfl rfl) ?_
    refine s_y (v := .bool false) rfl (y_assign rfl) ?_
    refine s_nil ?_
    refine W_ret ?_
    refine ret1 rfl rfl rfl ⟨_, rfl, ?_⟩
    exact ⟨congrArg Value.bool (by simp only [bordB, Bool.and_true, Bool.true_and, Bool.and_false, Bool.false_and, Bool.not_true, Bool.not_false, Bool.or_true, Bool.true_or, Bool.or_false, Bool.false_or]), E6⟩
namespace T86
theorem mx : Try.prog.follows .mixedOrders = true := by kernel_rfl
theorem agg_26_5 : aggB Try.prog 26 5 = true := by kernel_rfl
theorem fld_26_0_0 : fldB Try.prog 26 0 0 = true := by kernel_rfl
theorem fld_26_1_1 : fldB Try.prog 26 1 1 = true := by kernel_rfl
theorem fld_26_2_2 : fldB Try.prog 26 2 2 = true := by kernel_rfl
theorem fld_65_0_0 : fldB Try.prog 65 0 0 = true := by kernel_rfl
theorem fld_65_1_1 : fldB Try.prog 65 1 1 = true := by kernel_rfl
theorem fld_65_2_2 : fldB Try.prog 65 2 2 = true := by kernel_rfl
theorem fn_19 : fnB Try.prog 19 = true := by kernel_rfl
theorem fn_98 : fnB Try.prog 98 = true := by kernel_rfl
theorem one_2 : oneB Try.prog 2 = true := by kernel_rfl
theorem one_24 : oneB Try.prog 24 = true := by kernel_rfl
theorem one_4 : oneB Try.prog 4 = true := by kernel_rfl
theorem one_62 : oneB Try.prog 62 = true := by kernel_rfl
theorem sl_24_62_1 : slB Try.prog 24 62 1 = true := by kernel_rfl
end T86
set_option maxRecDepth 100000 in
set_option maxHeartbeats 4000000 in
theorem c_i_IsField {wd hi : Int} {wr : Bool} {asp : Option Addr} {nsp csp : Nat} {xsp Xsp : List Nat} {als : Option Addr} {nls cls : Nat} {xls Xls : List Nat} {afe : Option Addr} {nfe cfe : Nat} {xfe Xfe : List Nat} {afx : Option Addr} {nfx cfx : Nat} {xfx Xfx : List Nat} {afy : Option Addr} {nfy cfy : Nat} {xfy Xfy : List Nat} (w : World) (qssp : Sl w asp (flts xsp)) (qlsp : xsp.length = nsp) (qksp : cn xsp = Xsp) (qsls : Sl w als (flts xls)) (qlls : xls.length = nls) (qkls : cn xls = Xls) (hb1 : nsp ≤ 9223372036854775806) (hb2 : nls ≤ 9223372036854775806) (qsfe : Sl w afe (flts xfe)) (qlfe : xfe.length = nfe) (qkfe : cn xfe = Xfe) (qsfx : Sl w afx (flts xfx)) (qlfx : xfx.length = nfx) (qkfx : cn xfx = Xfx) (qsfy : Sl w afy (flts xfy)) (qlfy : xfy.length = nfy) (qkfy : cn xfy = Xfy) (hc1 : nfe ≤ 9223372036854775806) (hc2 : nfx ≤ 9223372036854775806) (hc3 : nfy ≤ 9223372036854775806) :
    Calls Try.prog 86 #[.agg #[.int .i64 wd, .int .i64 hi, .bool wr, .slice asp nsp csp, .slice als nls cls], .agg #[.slice afe nfe cfe, .slice afx nfx cfx, .slice afy nfy cfy]] w (Rt fun v w' => v = .bool (fieldB wd hi wr Xsp Xls Xfe Xfx Xfy) ∧ Ext0 w w') := by
  have E0 : Ext no w w := Ext.refl _ _
  have hlP : Xsp.length = nsp := (cn_lenX qksp).trans qlsp
  have hlL : Xls.length = nls := (cn_lenX qkls).trans qlls
  have hlfe : Xfe.length = nfe := (cn_lenX qkfe).trans qlfe
  have hlfx : Xfx.length = nfx := (cn_lenX qkfx).trans qlfx
  have hlfy : Xfy.length = nfy := (cn_lenX qkfy).trans qlfy
  have lo_asp := Sl.low qssp
  have lo_als := Sl.low qsls
  have lo_afe := Sl.low qsfe
  have lo_afx := Sl.low qsfx
  have lo_afy := Sl.low qsfy
  refine calls_W (n := 95) Try.func86 rfl rfl (Nat.le_of_ble_eq_true rfl) ?_
  refine W_seq ?_
  refine W_region (by kernel_rfl) ?_
  refine s_k rfl (k_box (v := .agg #[.int .i64 wd, .int .i64 hi, .bool wr, .slice asp nsp csp, .slice als nls cls]) (cs := [.int .i64 wd, .int .i64 hi, .bool wr, .slice asp nsp csp, .slice als nls cls]) rfl rfl (fun b1 w2 q4 e3 hB5 => ?_))
  have hS6 := qssp.ext0 e3
  have hS7 := qsls.ext0 e3
  have hS8 := qsfe.ext0 e3
  have hS9 := qsfx.ext0 e3
  have hS10 := qsfy.ext0 e3
  have E11 := E0.fresh e3 (fun _ h _ => h.elim)
  have fr12 : NotLt b1 w.heap.size := fun h => Nat.not_lt.2 (Nat.le_trans E0.size (Nat.le_of_eq q4.symm)) h
  clear q4
  refine s_k rfl (k_box (v := .agg #[.slice afe nfe cfe, .slice afx nfx cfx, .slice afy nfy cfy]) (cs := [.slice afe nfe cfe, .slice afx nfx cfx, .slice afy nfy cfy]) rfl rfl (fun b13 w14 q16 e15 hB17 => ?_))
  have hB18 := hB5.ext0 e15
  have hS19 := hS6.ext0 e15
  have hS20 := hS7.ext0 e15
  have hS21 := hS8.ext0 e15
  have hS22 := hS9.ext0 e15
  have hS23 := hS10.ext0 e15
  have E24 := E11.fresh e15 (fun _ h _ => h.elim)
  have dj25 : NeB b1 b13 := fun h => Nat.ne_of_lt hB5.lt (h.trans q16)
  have fr26 : NotLt b13 w.heap.size := fun h => Nat.not_lt.2 (Nat.le_trans E11.size (Nat.le_of_eq q16.symm)) h
  clear q16
  refine s_y (v := .bool false) rfl (y_assign rfl) ?_
  refine s_nil ?_
  refine W_seq ?_
  refine W_region (by kernel_rfl) ?_
  refine s_y (v := .pointer (some ⟨b1, 0, none⟩)) rfl (y_fld (o := 0) T86.fld_26_0_0 rfl) ?_
  refine s_y (v := .int .i64 wd) rfl (y_load T86.one_2 rfl (hB18.cell (j := 0) rfl)) ?_
  refine s_y (v := .pointer (some ⟨b1, 1, none⟩)) rfl (y_fld (o := 0) T86.fld_26_1_1 rfl) ?_
  refine s_y (v := .int .i64 hi) rfl (y_load T86.one_2 rfl (hB18.cell (j := 1) rfl)) ?_
  by_cases hr27 : -9223372036854775808 ≤ wd * hi ∧ wd * hi ≤ 9223372036854775807
  · refine s_y (v := .int .i64 (wd * hi)) rfl (y_mul rfl rfl rfl hr27) ?_
    refine s_y (v := .int .i64 (wd * hi)) rfl (y_assign rfl) ?_
    refine s_nil ?_
    refine W_seq ?_
    refine W_seq ?_
    refine W_region (by kernel_rfl) ?_
    refine s_y (v := .agg #[.int .i64 wd, .int .i64 hi, .bool wr, .slice asp nsp csp, .slice als nls cls]) rfl (y_loadn (b := b1) (o := 0) (vs := [.int .i64 wd, .int .i64 hi, .bool wr, .slice asp nsp csp, .slice als nls cls]) T86.agg_26_5 rfl rfl (hB18.cells (o := 0) rfl)) ?_
    refine s_k rfl (k_call T86.fn_19 (c_i_ValidSheet _ hS19 qlsp qksp hS20 qlls qkls (by omega) (by omega)) rfl ?_)
    rintro v30 w28 ⟨hv31, e29⟩
    have hB32 := hB18.ext0 e29
    have hB33 := hB17.ext0 e29
    have hS34 := hS19.ext0 e29
    have hS35 := hS20.ext0 e29
    have hS36 := hS21.ext0 e29
    have hS37 := hS22.ext0 e29
    have hS38 := hS23.ext0 e29
    have E39 := E24.fresh e29 (fun _ h _ => h.elim)
    by_cases c40 : validS wd hi Xsp Xls = true
    · have hb41 := validS_b c40
      obtain rfl : v30 = .bool true := hv31.trans (congrArg Value.bool c40)
      refine s_y (v := .bool false) rfl (y_not rfl rfl) ?_
      refine s_y (v := .bool false) rfl (y_move rfl) ?_
      refine s_y (v := .pointer (some ⟨b13, 0, none⟩)) rfl (y_fld (o := 0) T86.fld_65_0_0 rfl) ?_
      refine s_y (v := .slice afe nfe cfe) rfl (y_load T86.one_24 rfl (hB33.cell (j := 0) rfl)) ?_
      refine s_y (v := .int .i64 ((nfe : Nat) : Int)) rfl (y_len T86.sl_24_62_1 rfl rfl) ?_
      refine s_y (v := .int .i64 (wd * hi)) rfl (y_move rfl) ?_
      by_cases c42 : ((nfe : Nat) : Int) ≠ (wd * hi)
      · refine s_y (v := .bool true) rfl (y_neq rfl rfl (decide_eq_true c42)) ?_
        refine s_y (v := .bool true) rfl (y_pick_f rfl rfl) ?_
        refine s_y (v := .bool true) rfl (y_move rfl) ?_
        refine s_skip rfl ?_
        refine s_skip rfl ?_
        refine s_skip rfl ?_
        refine s_skip rfl ?_
        refine s_skip rfl ?_
        refine s_y (v := .bool true) rfl (y_pick_t rfl rfl) ?_
        refine s_y (v := .bool true) rfl (y_move rfl) ?_
        refine s_skip rfl ?_
        refine s_skip rfl ?_
        refine s_skip rfl ?_
        refine s_skip rfl ?_
        refine s_skip rfl ?_
        refine s_y (v := .bool true) rfl (y_pick_t rfl rfl) ?_
        refine s_nil ?_
        refine W_if_t (by decide) rfl ?_
        refine W_seq ?_
        refine W_region (by kernel_rfl) ?_
        refine s_y (v := .bool false) rfl (y_assign rfl) ?_
        refine s_nil ?_
        refine W_ret ?_
        refine ret1 rfl rfl rfl ⟨_, rfl, ?_⟩
        exact ⟨congrArg Value.bool (by first | exact (field_n0 (by assumption)).symm | exact (field_n1 (by omega)).symm | exact (field_n2 (by omega)).symm | exact (field_n3 (by omega)).symm), E39⟩
      · refine s_y (v := .bool false) rfl (y_neq rfl rfl (decide_eq_false c42)) ?_
        refine s_y (v := .bool false) rfl (y_pick_f rfl rfl) ?_
        refine s_y (v := .bool false) rfl (y_move rfl) ?_
        refine s_y (v := .pointer (some ⟨b13, 1, none⟩)) rfl (y_fld (o := 0) T86.fld_65_1_1 rfl) ?_
        refine s_y (v := .slice afx nfx cfx) rfl (y_load T86.one_24 rfl (hB33.cell (j := 1) rfl)) ?_
        refine s_y (v := .int .i64 ((nfx : Nat) : Int)) rfl (y_len T86.sl_24_62_1 rfl rfl) ?_
        refine s_y (v := .int .i64 (wd * hi)) rfl (y_move rfl) ?_
        by_cases c43 : ((nfx : Nat) : Int) ≠ (wd * hi)
        · refine s_y (v := .bool true) rfl (y_neq rfl rfl (decide_eq_true c43)) ?_
          refine s_y (v := .bool true) rfl (y_pick_f rfl rfl) ?_
          refine s_y (v := .bool true) rfl (y_move rfl) ?_
          refine s_skip rfl ?_
          refine s_skip rfl ?_
          refine s_skip rfl ?_
          refine s_skip rfl ?_
          refine s_skip rfl ?_
          refine s_y (v := .bool true) rfl (y_pick_t rfl rfl) ?_
          refine s_nil ?_
          refine W_if_t (by decide) rfl ?_
          refine W_seq ?_
          refine W_region (by kernel_rfl) ?_
          refine s_y (v := .bool false) rfl (y_assign rfl) ?_
          refine s_nil ?_
          refine W_ret ?_
          refine ret1 rfl rfl rfl ⟨_, rfl, ?_⟩
          exact ⟨congrArg Value.bool (by first | exact (field_n0 (by assumption)).symm | exact (field_n1 (by omega)).symm | exact (field_n2 (by omega)).symm | exact (field_n3 (by omega)).symm), E39⟩
        · refine s_y (v := .bool false) rfl (y_neq rfl rfl (decide_eq_false c43)) ?_
          refine s_y (v := .bool false) rfl (y_pick_f rfl rfl) ?_
          refine s_y (v := .bool false) rfl (y_move rfl) ?_
          refine s_y (v := .pointer (some ⟨b13, 2, none⟩)) rfl (y_fld (o := 0) T86.fld_65_2_2 rfl) ?_
          refine s_y (v := .slice afy nfy cfy) rfl (y_load T86.one_24 rfl (hB33.cell (j := 2) rfl)) ?_
          refine s_y (v := .int .i64 ((nfy : Nat) : Int)) rfl (y_len T86.sl_24_62_1 rfl rfl) ?_
          refine s_y (v := .int .i64 (wd * hi)) rfl (y_move rfl) ?_
          by_cases c44 : ((nfy : Nat) : Int) ≠ (wd * hi)
          · refine s_y (v := .bool true) rfl (y_neq rfl rfl (decide_eq_true c44)) ?_
            refine s_y (v := .bool true) rfl (y_pick_f rfl rfl) ?_
            refine s_nil ?_
            refine W_if_t (by decide) rfl ?_
            refine W_seq ?_
            refine W_region (by kernel_rfl) ?_
            refine s_y (v := .bool false) rfl (y_assign rfl) ?_
            refine s_nil ?_
            refine W_ret ?_
            refine ret1 rfl rfl rfl ⟨_, rfl, ?_⟩
            exact ⟨congrArg Value.bool (by first | exact (field_n0 (by assumption)).symm | exact (field_n1 (by omega)).symm | exact (field_n2 (by omega)).symm | exact (field_n3 (by omega)).symm), E39⟩
          · refine s_y (v := .bool false) rfl (y_neq rfl rfl (decide_eq_false c44)) ?_
            refine s_y (v := .bool false) rfl (y_pick_f rfl rfl) ?_
            refine s_nil ?_
            refine W_if_f (by decide) rfl ?_
            refine W_skip ?_
            refine W_seq ?_
            refine W_seq ?_
            refine W_region (by kernel_rfl) ?_
            refine s_y (v := .pointer (some ⟨b1, 2, none⟩)) rfl (y_fld (o := 0) T86.fld_26_2_2 rfl) ?_
            refine s_y (v := .bool wr) rfl (y_load T86.one_4 rfl (hB32.cell (j := 2) rfl)) ?_
            refine s_nil ?_
            cases wr
            · refine W_if_f (by decide) rfl ?_
              refine W_skip ?_
              refine W_seq ?_
              refine W_seq ?_
              refine W_region (by kernel_rfl) ?_
              refine s_y (v := .int .i64 (wd * hi)) rfl (y_move rfl) ?_
              refine s_y (v := .int .i64 0) rfl (y_move rfl) ?_
              refine s_nil ?_
              refine W_block ?_
              refine W_loop (fun ρ' w' => ∃ (ρ1 : Env) (i : Int), ρ' = updL ρ1 [(2, .pointer (some ⟨b1, 0, none⟩)), (3, .pointer (some ⟨b13, 0, none⟩)), (40, .int .i64 (wd * hi)), (41, .int .i64 i)] ∧ Ext no w w' ∧ Blk w' b1 [.int .i64 wd, .int .i64 hi, .bool false, .slice asp nsp csp, .slice als nls cls] 26 ∧ Blk w' b13 [.slice afe nfe cfe, .slice afx nfx cfx, .slice afy nfy cfy] 65 ∧ Sl w' asp (flts xsp) ∧ Sl w' als (flts xls) ∧ Sl w' afe (flts xfe) ∧ Sl w' afx (flts xfx) ∧ Sl w' afy (flts xfy) ∧ (0 ≤ i) ∧ (i ≤ wd * hi) ∧ (∀ j, 0 ≤ j → j < i → edgeB wd hi Xfe Xfx Xfy (j % wd) (j / wd) j = false)) (fun ρ' _ => (wd * hi - iv (ρ' 41)).toNat) ?_ ?_
              · exact ⟨_, 0, Fits.eq ⟨rfl, rfl, rfl, rfl, trivial⟩, E39, hB32, hB33, hS34, hS35, hS36, hS37, hS38, (Int.le_refl _), (by omega), (by intro j h0 h1; omega)⟩
              · rintro _ w45 ⟨ρ54, i, rfl, E46, hB47, hB48, hS49, hS50, hS51, hS52, hS53, h0i, h1i, hq⟩
                refine W_seq ?_
                refine W_region (by kernel_rfl) ?_
                by_cases c55 : i < (wd * hi)
                · refine s_y (v := .bool true) rfl (y_lss rfl rfl (decide_eq_true c55)) ?_
                  refine s_nil ?_
                  refine W_seq ?_
                  refine W_if_t (by decide) rfl ?_
                  refine W_skip ?_
                  refine W_seq ?_
                  refine W_block ?_
                  refine W_seq ?_
                  refine W_region (by kernel_rfl) ?_
                  refine s_y (v := .int .i64 i) rfl (y_move rfl) ?_
                  refine s_y (v := .int .i64 i) rfl (y_assign rfl) ?_
                  refine s_nil ?_
                  refine W_seq ?_
                  refine W_draw (no) T86.mx (by kernel_rfl) (fun w56 e57 => ?_)
                  have hB58 := hB47.ext0 e57
                  have hB59 := hB48.ext0 e57
                  have hS60 := hS49.ext0 e57
                  have hS61 := hS50.ext0 e57
                  have hS62 := hS51.ext0 e57
                  have hS63 := hS52.ext0 e57
                  have hS64 := hS53.ext0 e57
                  have E65 := E46.fresh e57 (fun _ h _ => h.elim)
                  have R66 := (Ext.refl (no) w45).trans (Ext0.any e57)
                  refine m_y (v := .int .i64 i) 0 rfl (by kernel_rfl) rfl rfl (fun w' e' => y_move rfl) ?_
                  refine m_y (v := .pointer (some ⟨b1, 0, none⟩)) 1 rfl (by kernel_rfl) rfl rfl (fun w' e' => y_fld (o := 0) T86.fld_26_0_0 rfl) ?_
                  refine m_y (v := .int .i64 wd) 2 rfl (by kernel_rfl) rfl rfl (fun w' e' => y_load T86.one_2 rfl ((hB47.ext0 e').cell (j := 0) rfl)) ?_
                  have hm67 := rem_b (x := i) (m := wd) (by omega) (by omega)
                  refine m_y (v := .int .i64 (i % wd)) 3 rfl (by kernel_rfl) rfl rfl (fun w' e' => y_rem rfl rfl (by omega) (by omega) rfl) ?_
                  refine m_y (v := .int .i64 i) 4 rfl (by kernel_rfl) rfl rfl (fun w' e' => y_move rfl) ?_
                  refine m_y (v := .pointer (some ⟨b1, 0, none⟩)) 5 rfl (by kernel_rfl) rfl rfl (fun w' e' => y_fld (o := 0) T86.fld_26_0_0 rfl) ?_
                  refine m_y (v := .int .i64 wd) 6 rfl (by kernel_rfl) rfl rfl (fun w' e' => y_load T86.one_2 rfl ((hB47.ext0 e').cell (j := 0) rfl)) ?_
                  have hm68 := quo_b (x := i) (m := wd) (by omega) (by omega)
                  refine m_y (v := .int .i64 (i / wd)) 7 rfl (by kernel_rfl) rfl rfl (fun w' e' => y_quo rfl rfl (by omega) (by omega) (by omega) rfl) ?_
                  refine m_y (v := .int .i64 (i % wd)) 8 rfl (by kernel_rfl) rfl rfl (fun w' e' => y_assign rfl) ?_
                  refine m_y (v := .int .i64 (i / wd)) 9 rfl (by kernel_rfl) rfl rfl (fun w' e' => y_assign rfl) ?_
                  refine m_done (by kernel_rfl) (fun w69 e70 => ?_)
                  have hB71 := hB58.ext0 e70
                  have hB72 := hB59.ext0 e70
                  have hS73 := hS60.ext0 e70
                  have hS74 := hS61.ext0 e70
                  have hS75 := hS62.ext0 e70
                  have hS76 := hS63.ext0 e70
                  have hS77 := hS64.ext0 e70
                  have E78 := E65.fresh e70 (fun _ h _ => h.elim)
                  have R79 := R66.trans (Ext0.any e70)
                  refine W_seq ?_
                  refine W_region (by kernel_rfl) ?_
                  refine s_y (v := .agg #[.int .i64 wd, .int .i64 hi, .bool false, .slice asp nsp csp, .slice als nls cls]) rfl (y_loadn (b := b1) (o := 0) (vs := [.int .i64 wd, .int .i64 hi, .bool false, .slice asp nsp csp, .slice als nls cls]) T86.agg_26_5 rfl rfl (hB71.cells (o := 0) rfl)) ?_
                  refine s_y (v := .int .i64 (i % wd)) rfl (y_move rfl) ?_
                  refine s_y (v := .int .i64 (i / wd)) rfl (y_move rfl) ?_
                  refine s_k rfl (k_call T86.fn_98 (c_i_isBorder _ (by omega) (by omega) (by omega) (by omega)) rfl ?_)
                  rintro v82 w80 ⟨hv83, e81⟩
                  have hB84 := hB71.ext0 e81
                  have hB85 := hB72.ext0 e81
                  have hS86 := hS73.ext0 e81
                  have hS87 := hS74.ext0 e81
                  have hS88 := hS75.ext0 e81
                  have hS89 := hS76.ext0 e81
                  have hS90 := hS77.ext0 e81
                  have E91 := E78.fresh e81 (fun _ h _ => h.elim)
                  by_cases c92 : bordB wd hi false (i % wd) (i / wd) = true
                  · obtain rfl : v82 = .bool true := hv83.trans (congrArg Value.bool c92)
                    refine s_y (v := .bool true) rfl (y_move rfl) ?_
                    refine s_y (v := .pointer (some ⟨b13, 0, none⟩)) rfl (y_fld (o := 0) T86.fld_65_0_0 rfl) ?_
                    refine s_y (v := .slice afe nfe cfe) rfl (y_load T86.one_24 rfl (hB85.cell (j := 0) rfl)) ?_
                    refine s_y (v := .int .i64 i) rfl (y_move rfl) ?_
                    refine s_y (v := .pointer (some (sat afe ((i).toNat * 1)))) rfl (y_idx T86.sl_24_62_1 rfl rfl (hS88.addr (by rw [flts_length]; omega)) (by omega) (by omega)) ?_
                    refine s_y (v := .float .f32 (el xfe i)) rfl (y_load T86.one_62 rfl (hS88.cell (fl_at (by omega) (by omega)))) ?_
                    by_cases c93 : fne .f32 (el Xfe i) 0 = true
                    · refine s_y (v := .bool true) rfl (y_fneq rfl rfl (fneC (cn_el qkfe i) (show can .f32 0 = 0 by kernel_rfl) c93)) ?_
                      refine s_y (v := .bool true) rfl (y_pick_t rfl rfl) ?_
                      refine s_y (v := .bool true) rfl (y_move rfl) ?_
                      refine s_skip rfl ?_
                      refine s_skip rfl ?_
                      refine s_skip rfl ?_
                      refine s_skip rfl ?_
                      refine s_skip rfl ?_
                      refine s_skip rfl ?_
                      refine s_skip rfl ?_
                      refine s_skip rfl ?_
                      refine s_skip rfl ?_
                      refine s_skip rfl ?_
                      refine s_skip rfl ?_
                      refine s_skip rfl ?_
                      refine s_skip rfl ?_
                      refine s_y (v := .bool true) rfl (y_pick_t rfl rfl) ?_
                      refine s_y (v := .bool true) rfl (y_move rfl) ?_
                      refine s_skip rfl ?_
                      refine s_skip rfl ?_
                      refine s_skip rfl ?_
                      refine s_skip rfl ?_
                      refine s_skip rfl ?_
                      refine s_skip rfl ?_
                      refine s_skip rfl ?_
                      refine s_skip rfl ?_
                      refine s_skip rfl ?_
                      refine s_skip rfl ?_
                      refine s_skip rfl ?_
                      refine s_skip rfl ?_
                      refine s_skip rfl ?_
                      refine s_y (v := .bool true) rfl (y_pick_t rfl rfl) ?_
                      refine s_nil ?_
                      refine W_if_t (by decide) rfl ?_
                      refine W_seq ?_
                      refine W_region (by kernel_rfl) ?_
                      refine s_y (v := .bool false) rfl (y_assign rfl) ?_
                      refine s_nil ?_
                      refine W_ret ?_
                      refine ret1 rfl rfl rfl ⟨_, rfl, ?_⟩
                      exact ⟨congrArg Value.bool (field_no (i := i) (by omega) (by omega) (by simp only [edgeB, c40, (decide_eq_false c42), (decide_eq_false c43), (decide_eq_false c44), (decide_eq_true c55), c92, c93, Bool.and_true, Bool.true_and, Bool.and_false, Bool.false_and, Bool.not_true, Bool.not_false, Bool.or_true, Bool.true_or, Bool.or_false, Bool.false_or])).symm, E91⟩
                    · refine s_y (v := .bool false) rfl (y_fneq rfl rfl (fneC (cn_el qkfe i) (show can .f32 0 = 0 by kernel_rfl) (Bool.eq_false_iff.2 c93))) ?_
                      refine s_y (v := .bool false) rfl (y_pick_t rfl rfl) ?_
                      refine s_y (v := .bool false) rfl (y_move rfl) ?_
                      refine s_y (v := .int .i64 (i / wd)) rfl (y_move rfl) ?_
                      refine s_y (v := .pointer (some ⟨b1, 1, none⟩)) rfl (y_fld (o := 0) T86.fld_26_1_1 rfl) ?_
                      refine s_y (v := .int .i64 hi) rfl (y_load T86.one_2 rfl (hB84.cell (j := 1) rfl)) ?_
                      refine s_y (v := .int .i64 (hi - 1)) rfl (y_sub rfl rfl rfl (by omega)) ?_
                      by_cases c94 : (i / wd) = (hi - 1)
                      · refine s_y (v := .bool true) rfl (y_eql rfl rfl (decide_eq_true c94)) ?_
                        refine s_y (v := .bool true) rfl (y_move rfl) ?_
                        refine s_y (v := .pointer (some ⟨b13, 1, none⟩)) rfl (y_fld (o := 0) T86.fld_65_1_1 rfl) ?_
                        refine s_y (v := .slice afx nfx cfx) rfl (y_load T86.one_24 rfl (hB85.cell (j := 1) rfl)) ?_
                        refine s_y (v := .int .i64 i) rfl (y_move rfl) ?_
                        refine s_y (v := .pointer (some (sat afx ((i).toNat * 1)))) rfl (y_idx T86.sl_24_62_1 rfl rfl (hS89.addr (by rw [flts_length]; omega)) (by omega) (by omega)) ?_
                        refine s_y (v := .float .f32 (el xfx i)) rfl (y_load T86.one_62 rfl (hS89.cell (fl_at (by omega) (by omega)))) ?_
                        by_cases c95 : fne .f32 (el Xfx i) 0 = true
                        · refine s_y (v := .bool true) rfl (y_fneq rfl rfl (fneC (cn_el qkfx i) (show can .f32 0 = 0 by kernel_rfl) c95)) ?_
                          refine s_y (v := .bool true) rfl (y_pick_t rfl rfl) ?_
                          refine s_y (v := .bool true) rfl (y_pick_f rfl rfl) ?_
                          refine s_y (v := .bool true) rfl (y_move rfl) ?_
                          refine s_skip rfl ?_
                          refine s_skip rfl ?_
                          refine s_skip rfl ?_
                          refine s_skip rfl ?_
                          refine s_skip rfl ?_
                          refine s_skip rfl ?_
                          refine s_skip rfl ?_
                          refine s_skip rfl ?_
                          refine s_skip rfl ?_
                          refine s_skip rfl ?_
                          refine s_skip rfl ?_
                          refine s_skip rfl ?_
                          refine s_skip rfl ?_
                          refine s_y (v := .bool true) rfl (y_pick_t rfl rfl) ?_
                          refine s_nil ?_
                          refine W_if_t (by decide) rfl ?_
                          refine W_seq ?_
                          refine W_region (by kernel_rfl) ?_
                          refine s_y (v := .bool false) rfl (y_assign rfl) ?_
                          refine s_nil ?_
                          refine W_ret ?_
                          refine ret1 rfl rfl rfl ⟨_, rfl, ?_⟩
                          exact ⟨congrArg Value.bool (field_no (i := i) (by omega) (by omega) (by simp only [edgeB, c40, (decide_eq_false c42), (decide_eq_false c43), (decide_eq_false c44), (decide_eq_true c55), c92, (Bool.eq_false_iff.2 c93), (decide_eq_true c94), c95, Bool.and_true, Bool.true_and, Bool.and_false, Bool.false_and, Bool.not_true, Bool.not_false, Bool.or_true, Bool.true_or, Bool.or_false, Bool.false_or])).symm, E91⟩
                        · refine s_y (v := .bool false) rfl (y_fneq rfl rfl (fneC (cn_el qkfx i) (show can .f32 0 = 0 by kernel_rfl) (Bool.eq_false_iff.2 c95))) ?_
                          refine s_y (v := .bool false) rfl (y_pick_t rfl rfl) ?_
                          refine s_y (v := .bool false) rfl (y_pick_f rfl rfl) ?_
                          refine s_y (v := .bool false) rfl (y_move rfl) ?_
                          refine s_y (v := .int .i64 (i % wd)) rfl (y_move rfl) ?_
                          refine s_y (v := .pointer (some ⟨b1, 0, none⟩)) rfl (y_fld (o := 0) T86.fld_26_0_0 rfl) ?_
                          refine s_y (v := .int .i64 wd) rfl (y_load T86.one_2 rfl (hB84.cell (j := 0) rfl)) ?_
                          refine s_y (v := .int .i64 (wd - 1)) rfl (y_sub rfl rfl rfl (by omega)) ?_
                          by_cases c96 : (i % wd) = (wd - 1)
                          · refine s_y (v := .bool true) rfl (y_eql rfl rfl (decide_eq_true c96)) ?_
                            refine s_y (v := .bool true) rfl (y_move rfl) ?_
                            refine s_y (v := .pointer (some ⟨b13, 2, none⟩)) rfl (y_fld (o := 0) T86.fld_65_2_2 rfl) ?_
                            refine s_y (v := .slice afy nfy cfy) rfl (y_load T86.one_24 rfl (hB85.cell (j := 2) rfl)) ?_
                            refine s_y (v := .int .i64 i) rfl (y_move rfl) ?_
                            refine s_y (v := .pointer (some (sat afy ((i).toNat * 1)))) rfl (y_idx T86.sl_24_62_1 rfl rfl (hS90.addr (by rw [flts_length]; omega)) (by omega) (by omega)) ?_
                            refine s_y (v := .float .f32 (el xfy i)) rfl (y_load T86.one_62 rfl (hS90.cell (fl_at (by omega) (by omega)))) ?_
                            by_cases c97 : fne .f32 (el Xfy i) 0 = true
                            · refine s_y (v := .bool true) rfl (y_fneq rfl rfl (fneC (cn_el qkfy i) (show can .f32 0 = 0 by kernel_rfl) c97)) ?_
                              refine s_y (v := .bool true) rfl (y_pick_t rfl rfl) ?_
                              refine s_y (v := .bool true) rfl (y_pick_f rfl rfl) ?_
                              refine s_nil ?_
                              refine W_if_t (by decide) rfl ?_
                              refine W_seq ?_
                              refine W_region (by kernel_rfl) ?_
                              refine s_y (v := .bool false) rfl (y_assign rfl) ?_
                              refine s_nil ?_
                              refine W_ret ?_
                              refine ret1 rfl rfl rfl ⟨_, rfl, ?_⟩
                              exact ⟨congrArg Value.bool (field_no (i := i) (by omega) (by omega) (by simp only [edgeB, c40, (decide_eq_false c42), (decide_eq_false c43), (decide_eq_false c44), (decide_eq_true c55), c92, (Bool.eq_false_iff.2 c93), (decide_eq_true c94), (Bool.eq_false_iff.2 c95), (decide_eq_true c96), c97, Bool.and_true, Bool.true_and, Bool.and_false, Bool.false_and, Bool.not_true, Bool.not_false, Bool.or_true, Bool.true_or, Bool.or_false, Bool.false_or])).symm, E91⟩
                            · refine s_y (v := .bool false) rfl (y_fneq rfl rfl (fneC (cn_el qkfy i) (show can .f32 0 = 0 by kernel_rfl) (Bool.eq_false_iff.2 c97))) ?_
                              refine s_y (v := .bool false) rfl (y_pick_t rfl rfl) ?_
                              refine s_y (v := .bool false) rfl (y_pick_f rfl rfl) ?_
                              refine s_nil ?_
                              refine W_if_f (by decide) rfl ?_
                              refine W_skip ?_
                              refine W_region (by kernel_rfl) ?_
                              refine s_y (v := .int .i64 (i + 1)) rfl (y_add rfl rfl rfl (by omega)) ?_
                              refine s_y (v := .int .i64 (i + 1)) rfl (y_move rfl) ?_
                              refine s_nil ?_
                              refine ⟨⟨_, i + 1, Fits.eq ⟨rfl, rfl, rfl, rfl, trivial⟩, E91, hB84, hB85, hS86, hS87, hS88, hS89, hS90, (by omega), (by omega), (edge_more hq (by simp only [edgeB, c40, (decide_eq_false c42), (decide_eq_false c43), (decide_eq_false c44), (decide_eq_true c55), c92, (Bool.eq_false_iff.2 c93), (decide_eq_true c94), (Bool.eq_false_iff.2 c95), (decide_eq_true c96), (Bool.eq_false_iff.2 c97), Bool.and_true, Bool.true_and, Bool.and_false, Bool.false_and, Bool.not_true, Bool.not_false, Bool.or_true, Bool.true_or, Bool.or_false, Bool.false_or]))⟩, ?_⟩
                              show (wd * hi - (i + 1)).toNat < (wd * hi - i).toNat
                              omega
                          · refine s_y (v := .bool false) rfl (y_eql rfl rfl (decide_eq_false c96)) ?_
                            refine s_y (v := .bool false) rfl (y_move rfl) ?_
                            refine s_skip rfl ?_
                            refine s_skip rfl ?_
                            refine s_skip rfl ?_
                            refine s_skip rfl ?_
                            refine s_skip rfl ?_
                            refine s_skip rfl ?_
                            refine s_y (v := .bool false) rfl (y_pick_f rfl rfl) ?_
                            refine s_y (v := .bool false) rfl (y_pick_f rfl rfl) ?_
                            refine s_nil ?_
                            refine W_if_f (by decide) rfl ?_
                            refine W_skip ?_
                            refine W_region (by kernel_rfl) ?_
                            refine s_y (v := .int .i64 (i + 1)) rfl (y_add rfl rfl rfl (by omega)) ?_
                            refine s_y (v := .int .i64 (i + 1)) rfl (y_move rfl) ?_
                            refine s_nil ?_
                            refine ⟨⟨_, i + 1, Fits.eq ⟨rfl, rfl, rfl, rfl, trivial⟩, E91, hB84, hB85, hS86, hS87, hS88, hS89, hS90, (by omega), (by omega), (edge_more hq (by simp only [edgeB, c40, (decide_eq_false c42), (decide_eq_false c43), (decide_eq_false c44), (decide_eq_true c55), c92, (Bool.eq_false_iff.2 c93), (decide_eq_true c94), (Bool.eq_false_iff.2 c95), (decide_eq_false c96), Bool.and_true, Bool.true_and, Bool.and_false, Bool.false_and, Bool.not_true, Bool.not_false, Bool.or_true, Bool.true_or, Bool.or_false, Bool.false_or]))⟩, ?_⟩
                            show (wd * hi - (i + 1)).toNat < (wd * hi - i).toNat
                            omega
                      · refine s_y (v := .bool false) rfl (y_eql rfl rfl (decide_eq_false c94)) ?_
                        refine s_y (v := .bool false) rfl (y_move rfl) ?_
                        refine s_skip rfl ?_
                        refine s_skip rfl ?_
                        refine s_skip rfl ?_
                        refine s_skip rfl ?_
                        refine s_skip rfl ?_
                        refine s_skip rfl ?_
                        refine s_y (v := .bool false) rfl (y_pick_f rfl rfl) ?_
                        refine s_y (v := .bool false) rfl (y_pick_f rfl rfl) ?_
                        refine s_y (v := .bool false) rfl (y_move rfl) ?_
                        refine s_y (v := .int .i64 (i % wd)) rfl (y_move rfl) ?_
                        refine s_y (v := .pointer (some ⟨b1, 0, none⟩)) rfl (y_fld (o := 0) T86.fld_26_0_0 rfl) ?_
                        refine s_y (v := .int .i64 wd) rfl (y_load T86.one_2 rfl (hB84.cell (j := 0) rfl)) ?_
                        refine s_y (v := .int .i64 (wd - 1)) rfl (y_sub rfl rfl rfl (by omega)) ?_
                        by_cases c98 : (i % wd) = (wd - 1)
                        · refine s_y (v := .bool true) rfl (y_eql rfl rfl (decide_eq_true c98)) ?_
                          refine s_y (v := .bool true) rfl (y_move rfl) ?_
                          refine s_y (v := .pointer (some ⟨b13, 2, none⟩)) rfl (y_fld (o := 0) T86.fld_65_2_2 rfl) ?_
                          refine s_y (v := .slice afy nfy cfy) rfl (y_load T86.one_24 rfl (hB85.cell (j := 2) rfl)) ?_
                          refine s_y (v := .int .i64 i) rfl (y_move rfl) ?_
                          refine s_y (v := .pointer (some (sat afy ((i).toNat * 1)))) rfl (y_idx T86.sl_24_62_1 rfl rfl (hS90.addr (by rw [flts_length]; omega)) (by omega) (by omega)) ?_
                          refine s_y (v := .float .f32 (el xfy i)) rfl (y_load T86.one_62 rfl (hS90.cell (fl_at (by omega) (by omega)))) ?_
                          by_cases c99 : fne .f32 (el Xfy i) 0 = true
                          · refine s_y (v := .bool true) rfl (y_fneq rfl rfl (fneC (cn_el qkfy i) (show can .f32 0 = 0 by kernel_rfl) c99)) ?_
                            refine s_y (v := .bool true) rfl (y_pick_t rfl rfl) ?_
                            refine s_y (v := .bool true) rfl (y_pick_f rfl rfl) ?_
                            refine s_nil ?_
                            refine W_if_t (by decide) rfl ?_
                            refine W_seq ?_
                            refine W_region (by kernel_rfl) ?_
                            refine s_y (v := .bool false) rfl (y_assign rfl) ?_
                            refine s_nil ?_
                            refine W_ret ?_
                            refine ret1 rfl rfl rfl ⟨_, rfl, ?_⟩
                            exact ⟨congrArg Value.bool (field_no (i := i) (by omega) (by omega) (by simp only [edgeB, c40, (decide_eq_false c42), (decide_eq_false c43), (decide_eq_false c44), (decide_eq_true c55), c92, (Bool.eq_false_iff.2 c93), (decide_eq_false c94), (decide_eq_true c98), c99, Bool.and_true, Bool.true_and, Bool.and_false, Bool.false_and, Bool.not_true, Bool.not_false, Bool.or_true, Bool.true_or, Bool.or_false, Bool.false_or])).symm, E91⟩
                          · refine s_y (v := .bool false) rfl (y_fneq rfl rfl (fneC (cn_el qkfy i) (show can .f32 0 = 0 by kernel_rfl) (Bool.eq_false_iff.2 c99))) ?_
                            refine s_y (v := .bool false) rfl (y_pick_t rfl rfl) ?_
                            refine s_y (v := .bool false) rfl (y_pick_f rfl rfl) ?_
                            refine s_nil ?_
                            refine W_if_f (by decide) rfl ?_
                            refine W_skip ?_
                            refine W_region (by kernel_rfl) ?_
                            refine s_y (v := .int .i64 (i + 1)) rfl (y_add rfl rfl rfl (by omega)) ?_
                            refine s_y (v := .int .i64 (i + 1)) rfl (y_move rfl) ?_
                            refine s_nil ?_
                            refine ⟨⟨_, i + 1, Fits.eq ⟨rfl, rfl, rfl, rfl, trivial⟩, E91, hB84, hB85, hS86, hS87, hS88, hS89, hS90, (by omega), (by omega), (edge_more hq (by simp only [edgeB, c40, (decide_eq_false c42), (decide_eq_false c43), (decide_eq_false c44), (decide_eq_true c55), c92, (Bool.eq_false_iff.2 c93), (decide_eq_false c94), (decide_eq_true c98), (Bool.eq_false_iff.2 c99), Bool.and_true, Bool.true_and, Bool.and_false, Bool.false_and, Bool.not_true, Bool.not_false, Bool.or_true, Bool.true_or, Bool.or_false, Bool.false_or]))⟩, ?_⟩
                            show (wd * hi - (i + 1)).toNat < (wd * hi - i).toNat
                            omega
                        · refine s_y (v := .bool false) rfl (y_eql rfl rfl (decide_eq_false c98)) ?_
                          refine s_y (v := .bool false) rfl (y_move rfl) ?_
                          refine s_skip rfl ?_
                          refine s_skip rfl ?_
                          refine s_skip rfl ?_
                          refine s_skip rfl ?_
                          refine s_skip rfl ?_
                          refine s_skip rfl ?_
                          refine s_y (v := .bool false) rfl (y_pick_f rfl rfl) ?_
                          refine s_y (v := .bool false) rfl (y_pick_f rfl rfl) ?_
                          refine s_nil ?_
                          refine W_if_f (by decide) rfl ?_
                          refine W_skip ?_
                          refine W_region (by kernel_rfl) ?_
                          refine s_y (v := .int .i64 (i + 1)) rfl (y_add rfl rfl rfl (by omega)) ?_
                          refine s_y (v := .int .i64 (i + 1)) rfl (y_move rfl) ?_
                          refine s_nil ?_
                          refine ⟨⟨_, i + 1, Fits.eq ⟨rfl, rfl, rfl, rfl, trivial⟩, E91, hB84, hB85, hS86, hS87, hS88, hS89, hS90, (by omega), (by omega), (edge_more hq (by simp only [edgeB, c40, (decide_eq_false c42), (decide_eq_false c43), (decide_eq_false c44), (decide_eq_true c55), c92, (Bool.eq_false_iff.2 c93), (decide_eq_false c94), (decide_eq_false c98), Bool.and_true, Bool.true_and, Bool.and_false, Bool.false_and, Bool.not_true, Bool.not_false, Bool.or_true, Bool.true_or, Bool.or_false, Bool.false_or]))⟩, ?_⟩
                          show (wd * hi - (i + 1)).toNat < (wd * hi - i).toNat
                          omega
                  · obtain rfl : v82 = .bool false := hv83.trans (congrArg Value.bool (Bool.eq_false_iff.2 c92))
                    refine s_y (v := .bool false) rfl (y_move rfl) ?_
                    refine s_skip rfl ?_
                    refine s_skip rfl ?_
                    refine s_skip rfl ?_
                    refine s_skip rfl ?_
                    refine s_skip rfl ?_
                    refine s_skip rfl ?_
                    refine s_y (v := .bool false) rfl (y_pick_f rfl rfl) ?_
                    refine s_y (v := .bool false) rfl (y_move rfl) ?_
                    refine s_y (v := .int .i64 (i / wd)) rfl (y_move rfl) ?_
                    refine s_y (v := .pointer (some ⟨b1, 1, none⟩)) rfl (y_fld (o := 0) T86.fld_26_1_1 rfl) ?_
                    refine s_y (v := .int .i64 hi) rfl (y_load T86.one_2 rfl (hB84.cell (j := 1) rfl)) ?_
                    refine s_y (v := .int .i64 (hi - 1)) rfl (y_sub rfl rfl rfl (by omega)) ?_
                    by_cases c100 : (i / wd) = (hi - 1)
                    · refine s_y (v := .bool true) rfl (y_eql rfl rfl (decide_eq_true c100)) ?_
                      refine s_y (v := .bool true) rfl (y_move rfl) ?_
                      refine s_y (v := .pointer (some ⟨b13, 1, none⟩)) rfl (y_fld (o := 0) T86.fld_65_1_1 rfl) ?_
                      refine s_y (v := .slice afx nfx cfx) rfl (y_load T86.one_24 rfl (hB85.cell (j := 1) rfl)) ?_
                      refine s_y (v := .int .i64 i) rfl (y_move rfl) ?_
                      refine s_y (v := .pointer (some (sat afx ((i).toNat * 1)))) rfl (y_idx T86.sl_24_62_1 rfl rfl (hS89.addr (by rw [flts_length]; omega)) (by omega) (by omega)) ?_
                      refine s_y (v := .float .f32 (el xfx i)) rfl (y_load T86.one_62 rfl (hS89.cell (fl_at (by omega) (by omega)))) ?_
                      by_cases c101 : fne .f32 (el Xfx i) 0 = true
                      · refine s_y (v := .bool true) rfl (y_fneq rfl rfl (fneC (cn_el qkfx i) (show can .f32 0 = 0 by kernel_rfl) c101)) ?_
                        refine s_y (v := .bool true) rfl (y_pick_t rfl rfl) ?_
                        refine s_y (v := .bool true) rfl (y_pick_f rfl rfl) ?_
                        refine s_y (v := .bool true) rfl (y_move rfl) ?_
                        refine s_skip rfl ?_
                        refine s_skip rfl ?_
                        refine s_skip rfl ?_
                        refine s_skip rfl ?_
                        refine s_skip rfl ?_
                        refine s_skip rfl ?_
                        refine s_skip rfl ?_
                        refine s_skip rfl ?_
                        refine s_skip rfl ?_
                        refine s_skip rfl ?_
                        refine s_skip rfl ?_
                        refine s_skip rfl ?_
                        refine s_skip rfl ?_
                        refine s_y (v := .bool true) rfl (y_pick_t rfl rfl) ?_
                        refine s_nil ?_
                        refine W_if_t (by decide) rfl ?_
                        refine W_seq ?_
                        refine W_region (by kernel_rfl) ?_
                        refine s_y (v := .bool false) rfl (y_assign rfl) ?_
                        refine s_nil ?_
                        refine W_ret ?_
                        refine ret1 rfl rfl rfl ⟨_, rfl, ?_⟩
                        exact ⟨congrArg Value.bool (field_no (i := i) (by omega) (by omega) (by simp only [edgeB, c40, (decide_eq_false c42), (decide_eq_false c43), (decide_eq_false c44), (decide_eq_true c55), (Bool.eq_false_iff.2 c92), (decide_eq_true c100), c101, Bool.and_true, Bool.true_and, Bool.and_false, Bool.false_and, Bool.not_true, Bool.not_false, Bool.or_true, Bool.true_or, Bool.or_false, Bool.false_or])).symm, E91⟩
                      · refine s_y (v := .bool false) rfl (y_fneq rfl rfl (fneC (cn_el qkfx i) (show can .f32 0 = 0 by kernel_rfl) (Bool.eq_false_iff.2 c101))) ?_
                        refine s_y (v := .bool false) rfl (y_pick_t rfl rfl) ?_
                        refine s_y (v := .bool false) rfl (y_pick_f rfl rfl) ?_
                        refine s_y (v := .bool false) rfl (y_move rfl) ?_
                        refine s_y (v := .int .i64 (i % wd)) rfl (y_move rfl) ?_
                        refine s_y (v := .pointer (some ⟨b1, 0, none⟩)) rfl (y_fld (o := 0) T86.fld_26_0_0 rfl) ?_
                        refine s_y (v := .int .i64 wd) rfl (y_load T86.one_2 rfl (hB84.cell (j := 0) rfl)) ?_
                        refine s_y (v := .int .i64 (wd - 1)) rfl (y_sub rfl rfl rfl (by omega)) ?_
                        by_cases c102 : (i % wd) = (wd - 1)
                        · refine s_y (v := .bool true) rfl (y_eql rfl rfl (decide_eq_true c102)) ?_
                          refine s_y (v := .bool true) rfl (y_move rfl) ?_
                          refine s_y (v := .pointer (some ⟨b13, 2, none⟩)) rfl (y_fld (o := 0) T86.fld_65_2_2 rfl) ?_
                          refine s_y (v := .slice afy nfy cfy) rfl (y_load T86.one_24 rfl (hB85.cell (j := 2) rfl)) ?_
                          refine s_y (v := .int .i64 i) rfl (y_move rfl) ?_
                          refine s_y (v := .pointer (some (sat afy ((i).toNat * 1)))) rfl (y_idx T86.sl_24_62_1 rfl rfl (hS90.addr (by rw [flts_length]; omega)) (by omega) (by omega)) ?_
                          refine s_y (v := .float .f32 (el xfy i)) rfl (y_load T86.one_62 rfl (hS90.cell (fl_at (by omega) (by omega)))) ?_
                          by_cases c103 : fne .f32 (el Xfy i) 0 = true
                          · refine s_y (v := .bool true) rfl (y_fneq rfl rfl (fneC (cn_el qkfy i) (show can .f32 0 = 0 by kernel_rfl) c103)) ?_
                            refine s_y (v := .bool true) rfl (y_pick_t rfl rfl) ?_
                            refine s_y (v := .bool true) rfl (y_pick_f rfl rfl) ?_
                            refine s_nil ?_
                            refine W_if_t (by decide) rfl ?_
                            refine W_seq ?_
                            refine W_region (by kernel_rfl) ?_
                            refine s_y (v := .bool false) rfl (y_assign rfl) ?_
                            refine s_nil ?_
                            refine W_ret ?_
                            refine ret1 rfl rfl rfl ⟨_, rfl, ?_⟩
                            exact ⟨congrArg Value.bool (field_no (i := i) (by omega) (by omega) (by simp only [edgeB, c40, (decide_eq_false c42), (decide_eq_false c43), (decide_eq_false c44), (decide_eq_true c55), (Bool.eq_false_iff.2 c92), (decide_eq_true c100), (Bool.eq_false_iff.2 c101), (decide_eq_true c102), c103, Bool.and_true, Bool.true_and, Bool.and_false, Bool.false_and, Bool.not_true, Bool.not_false, Bool.or_true, Bool.true_or, Bool.or_false, Bool.false_or])).symm, E91⟩
                          · refine s_y (v := .bool false) rfl (y_fneq rfl rfl (fneC (cn_el qkfy i) (show can .f32 0 = 0 by kernel_rfl) (Bool.eq_false_iff.2 c103))) ?_
                            refine s_y (v := .bool false) rfl (y_pick_t rfl rfl) ?_
                            refine s_y (v := .bool false) rfl (y_pick_f rfl rfl) ?_
                            refine s_nil ?_
                            refine W_if_f (by decide) rfl ?_
                            refine W_skip ?_
                            refine W_region (by kernel_rfl) ?_
                            refine s_y (v := .int .i64 (i + 1)) rfl (y_add rfl rfl rfl (by omega)) ?_
                            refine s_y (v := .int .i64 (i + 1)) rfl (y_move rfl) ?_
                            refine s_nil ?_
                            refine ⟨⟨_, i + 1, Fits.eq ⟨rfl, rfl, rfl, rfl, trivial⟩, E91, hB84, hB85, hS86, hS87, hS88, hS89, hS90, (by omega), (by omega), (edge_more hq (by simp only [edgeB, c40, (decide_eq_false c42), (decide_eq_false c43), (decide_eq_false c44), (decide_eq_true c55), (Bool.eq_false_iff.2 c92), (decide_eq_true c100), (Bool.eq_false_iff.2 c101), (decide_eq_true c102), (Bool.eq_false_iff.2 c103), Bool.and_true, Bool.true_and, Bool.and_false, Bool.false_and, Bool.not_true, Bool.not_false, Bool.or_true, Bool.true_or, Bool.or_false, Bool.false_or]))⟩, ?_⟩
                            show (wd * hi - (i + 1)).toNat < (wd * hi - i).toNat
                            omega
                        · refine s_y (v := .bool false) rfl (y_eql rfl rfl (decide_eq_false c102)) ?_
                          refine s_y (v := .bool false) rfl (y_move rfl) ?_
                          refine s_skip rfl ?_
                          refine s_skip rfl ?_
                          refine s_skip rfl ?_
                          refine s_skip rfl ?_
                          refine s_skip rfl ?_
                          refine s_skip rfl ?_
                          refine s_y (v := .bool false) rfl (y_pick_f rfl rfl) ?_
                          refine s_y (v := .bool false) rfl (y_pick_f rfl rfl) ?_
                          refine s_nil ?_
                          refine W_if_f (by decide) rfl ?_
                          refine W_skip ?_
                          refine W_region (by kernel_rfl) ?_
                          refine s_y (v := .int .i64 (i + 1)) rfl (y_add rfl rfl rfl (by omega)) ?_
                          refine s_y (v := .int .i64 (i + 1)) rfl (y_move rfl) ?_
                          refine s_nil ?_
                          refine ⟨⟨_, i + 1, Fits.eq ⟨rfl, rfl, rfl, rfl, trivial⟩, E91, hB84, hB85, hS86, hS87, hS88, hS89, hS90, (by omega), (by omega), (edge_more hq (by simp only [edgeB, c40, (decide_eq_false c42), (decide_eq_false c43), (decide_eq_false c44), (decide_eq_true c55), (Bool.eq_false_iff.2 c92), (decide_eq_true c100), (Bool.eq_false_iff.2 c101), (decide_eq_false c102), Bool.and_true, Bool.true_and, Bool.and_false, Bool.false_and, Bool.not_true, Bool.not_false, Bool.or_true, Bool.true_or, Bool.or_false, Bool.false_or]))⟩, ?_⟩
                          show (wd * hi - (i + 1)).toNat < (wd * hi - i).toNat
                          omega
                    · refine s_y (v := .bool false) rfl (y_eql rfl rfl (decide_eq_false c100)) ?_
                      refine s_y (v := .bool false) rfl (y_move rfl) ?_
                      refine s_skip rfl ?_
                      refine s_skip rfl ?_
                      refine s_skip rfl ?_
                      refine s_skip rfl ?_
                      refine s_skip rfl ?_
                      refine s_skip rfl ?_
                      refine s_y (v := .bool false) rfl (y_pick_f rfl rfl) ?_
                      refine s_y (v := .bool false) rfl (y_pick_f rfl rfl) ?_
                      refine s_y (v := .bool false) rfl (y_move rfl) ?_
                      refine s_y (v := .int .i64 (i % wd)) rfl (y_move rfl) ?_
                      refine s_y (v := .pointer (some ⟨b1, 0, none⟩)) rfl (y_fld (o := 0) T86.fld_26_0_0 rfl) ?_
                      refine s_y (v := .int .i64 wd) rfl (y_load T86.one_2 rfl (hB84.cell (j := 0) rfl)) ?_
                      refine s_y (v := .int .i64 (wd - 1)) rfl (y_sub rfl rfl rfl (by omega)) ?_
                      by_cases c104 : (i % wd) = (wd - 1)
                      · refine s_y (v := .bool true) rfl (y_eql rfl rfl (decide_eq_true c104)) ?_
                        refine s_y (v := .bool true) rfl (y_move rfl) ?_
                        refine s_y (v := .pointer (some ⟨b13, 2, none⟩)) rfl (y_fld (o := 0) T86.fld_65_2_2 rfl) ?_
                        refine s_y (v := .slice afy nfy cfy) rfl (y_load T86.one_24 rfl (hB85.cell (j := 2) rfl)) ?_
                        refine s_y (v := .int .i64 i) rfl (y_move rfl) ?_
                        refine s_y (v := .pointer (some (sat afy ((i).toNat * 1)))) rfl (y_idx T86.sl_24_62_1 rfl rfl (hS90.addr (by rw [flts_length]; omega)) (by omega) (by omega)) ?_
                        refine s_y (v := .float .f32 (el xfy i)) rfl (y_load T86.one_62 rfl (hS90.cell (fl_at (by omega) (by omega)))) ?_
                        by_cases c105 : fne .f32 (el Xfy i) 0 = true
                        · refine s_y (v := .bool true) rfl (y_fneq rfl rfl (fneC (cn_el qkfy i) (show can .f32 0 = 0 by kernel_rfl) c105)) ?_
                          refine s_y (v := .bool true) rfl (y_pick_t rfl rfl) ?_
                          refine s_y (v := .bool true) rfl (y_pick_f rfl rfl) ?_
                          refine s_nil ?_
                          refine W_if_t (by decide) rfl ?_
                          refine W_seq ?_
                          refine W_region (by kernel_rfl) ?_
                          refine s_y (v := .bool false) rfl (y_assign rfl) ?_
                          refine s_nil ?_
                          refine W_ret ?_
                          refine ret1 rfl rfl rfl ⟨_, rfl, ?_⟩
                          exact ⟨congrArg Value.bool (field_no (i := i) (by omega) (by omega) (by simp only [edgeB, c40, (decide_eq_false c42), (decide_eq_false c43), (decide_eq_false c44), (decide_eq_true c55), (Bool.eq_false_iff.2 c92), (decide_eq_false c100), (decide_eq_true c104), c105, Bool.and_true, Bool.true_and, Bool.and_false, Bool.false_and, Bool.not_true, Bool.not_false, Bool.or_true, Bool.true_or, Bool.or_false, Bool.false_or])).symm, E91⟩
                        · refine s_y (v := .bool false) rfl (y_fneq rfl rfl (fneC (cn_el qkfy i) (show can .f32 0 = 0 by kernel_rfl) (Bool.eq_false_iff.2 c105))) ?_
                          refine s_y (v := .bool false) rfl (y_pick_t rfl rfl) ?_
                          refine s_y (v := .bool false) rfl (y_pick_f rfl rfl) ?_
                          refine s_nil ?_
                          refine W_if_f (by decide) rfl ?_
                          refine W_skip ?_
                          refine W_region (by kernel_rfl) ?_
                          refine s_y (v := .int .i64 (i + 1)) rfl (y_add rfl rfl rfl (by omega)) ?_
                          refine s_y (v := .int .i64 (i + 1)) rfl (y_move rfl) ?_
                          refine s_nil ?_
                          refine ⟨⟨_, i + 1, Fits.eq ⟨rfl, rfl, rfl, rfl, trivial⟩, E91, hB84, hB85, hS86, hS87, hS88, hS89, hS90, (by omega), (by omega), (edge_more hq (by simp only [edgeB, c40, (decide_eq_false c42), (decide_eq_false c43), (decide_eq_false c44), (decide_eq_true c55), (Bool.eq_false_iff.2 c92), (decide_eq_false c100), (decide_eq_true c104), (Bool.eq_false_iff.2 c105), Bool.and_true, Bool.true_and, Bool.and_false, Bool.false_and, Bool.not_true, Bool.not_false, Bool.or_true, Bool.true_or, Bool.or_false, Bool.false_or]))⟩, ?_⟩
                          show (wd * hi - (i + 1)).toNat < (wd * hi - i).toNat
                          omega
                      · refine s_y (v := .bool false) rfl (y_eql rfl rfl (decide_eq_false c104)) ?_
                        refine s_y (v := .bool false) rfl (y_move rfl) ?_
                        refine s_skip rfl ?_
                        refine s_skip rfl ?_
                        refine s_skip rfl ?_
                        refine s_skip rfl ?_
                        refine s_skip rfl ?_
                        refine s_skip rfl ?_
                        refine s_y (v := .bool false) rfl (y_pick_f rfl rfl) ?_
                        refine s_y (v := .bool false) rfl (y_pick_f rfl rfl) ?_
                        refine s_nil ?_
                        refine W_if_f (by decide) rfl ?_
                        refine W_skip ?_
                        refine W_region (by kernel_rfl) ?_
                        refine s_y (v := .int .i64 (i + 1)) rfl (y_add rfl rfl rfl (by omega)) ?_
                        refine s_y (v := .int .i64 (i + 1)) rfl (y_move rfl) ?_
                        refine s_nil ?_
                        refine ⟨⟨_, i + 1, Fits.eq ⟨rfl, rfl, rfl, rfl, trivial⟩, E91, hB84, hB85, hS86, hS87, hS88, hS89, hS90, (by omega), (by omega), (edge_more hq (by simp only [edgeB, c40, (decide_eq_false c42), (decide_eq_false c43), (decide_eq_false c44), (decide_eq_true c55), (Bool.eq_false_iff.2 c92), (decide_eq_false c100), (decide_eq_false c104), Bool.and_true, Bool.true_and, Bool.and_false, Bool.false_and, Bool.not_true, Bool.not_false, Bool.or_true, Bool.true_or, Bool.or_false, Bool.false_or]))⟩, ?_⟩
                        show (wd * hi - (i + 1)).toNat < (wd * hi - i).toNat
                        omega
                · refine s_y (v := .bool false) rfl (y_lss rfl rfl (decide_eq_false c55)) ?_
                  refine s_nil ?_
                  refine W_seq ?_
                  refine W_if_f (by decide) rfl ?_
                  refine W_exit ?_
                  refine W_seq ?_
                  refine W_region (by kernel_rfl) ?_
                  refine s_y (v := .bool true) rfl (y_assign rfl) ?_
                  refine s_nil ?_
                  refine W_ret ?_
                  refine ret1 rfl rfl rfl ⟨_, rfl, ?_⟩
                  exact ⟨congrArg Value.bool (field_yes (by assumption) (by omega) (by omega) (by omega) (fun j h0 h1 => hq j h0 (by omega))).symm, E46⟩
            · refine W_if_t (by decide) rfl ?_
              refine W_seq ?_
              refine W_region (by kernel_rfl) ?_
              refine s_y (v := .bool true) rfl (y_assign rfl) ?_
              refine s_nil ?_
              refine W_ret ?_
              refine ret1 rfl rfl rfl ⟨_, rfl, ?_⟩
              exact ⟨congrArg Value.bool (field_wrap (by assumption) (by omega) (by omega) (by omega)).symm, E39⟩
    · obtain rfl : v30 = .bool false := hv31.trans (congrArg Value.bool (Bool.eq_false_iff.2 c40))
      refine s_y (v := .bool true) rfl (y_not rfl rfl) ?_
      refine s_y (v := .bool true) rfl (y_move rfl) ?_
      refine s_skip rfl ?_
      refine s_skip rfl ?_
      refine s_skip rfl ?_
      refine s_skip rfl ?_
      refine s_skip rfl ?_
      refine s_y (v := .bool true) rfl (y_pick_t rfl rfl) ?_
      refine s_y (v := .bool true) rfl (y_move rfl) ?_
      refine s_skip rfl ?_
      refine s_skip rfl ?_
      refine s_skip rfl ?_
      refine s_skip rfl ?_
      refine s_skip rfl ?_
      refine s_y (v := .bool true) rfl (y_pick_t rfl rfl) ?_
      refine s_y (v := .bool true) rfl (y_move rfl) ?_
      refine s_skip rfl ?_
      refine s_skip rfl ?_
      refine s_skip rfl ?_
      refine s_skip rfl ?_
      refine s_skip rfl ?_
      refine s_y (v := .bool true) rfl (y_pick_t rfl rfl) ?_
      refine s_nil ?_
      refine W_if_t (by decide) rfl ?_
      refine W_seq ?_
      refine W_region (by kernel_rfl) ?_
      refine s_y (v := .bool false) rfl (y_assign rfl) ?_
      refine s_nil ?_
      refine W_ret ?_
      refine ret1 rfl rfl rfl ⟨_, rfl, ?_⟩
      exact ⟨congrArg Value.bool (by first | exact (field_n0 (by assumption)).symm | exact (field_n1 (by omega)).symm | exact (field_n2 (by omega)).symm | exact (field_n3 (by omega)).symm), E39⟩
  · have hw106 := wrap64_b (wd * hi)
    refine s_y (v := .int .i64 (IntKind.i64.wrap (wd * hi))) rfl (y_mulw rfl rfl) ?_
    refine s_y (v := .int .i64 (IntKind.i64.wrap (wd * hi))) rfl (y_assign rfl) ?_
    refine s_nil ?_
    refine W_seq ?_
    refine W_seq ?_
    refine W_region (by kernel_rfl) ?_
    refine s_y (v := .agg #[.int .i64 wd, .int .i64 hi, .bool wr, .slice asp nsp csp, .slice als nls cls]) rfl (y_loadn (b := b1) (o := 0) (vs := [.int .i64 wd, .int .i64 hi, .bool wr, .slice asp nsp csp, .slice als nls cls]) T86.agg_26_5 rfl rfl (hB18.cells (o := 0) rfl)) ?_
    refine s_k rfl (k_call T86.fn_19 (c_i_ValidSheet _ hS19 qlsp qksp hS20 qlls qkls (by omega) (by omega)) rfl ?_)
    rintro v109 w107 ⟨hv110, e108⟩
    have hB111 := hB18.ext0 e108
    have hB112 := hB17.ext0 e108
    have hS113 := hS19.ext0 e108
    have hS114 := hS20.ext0 e108
    have hS115 := hS21.ext0 e108
    have hS116 := hS22.ext0 e108
    have hS117 := hS23.ext0 e108
    have E118 := E24.fresh e108 (fun _ h _ => h.elim)
    have hk119 : ¬ (validS wd hi Xsp Xls = true) := (fun hq => by have hz := (validS_b hq).1.2; omega)
    obtain rfl : v109 = .bool false := hv110.trans (congrArg Value.bool (Bool.eq_false_iff.2 hk119))
    refine s_y (v := .bool true) rfl (y_not rfl rfl) ?_
    refine s_y (v := .bool true) rfl (y_move rfl) ?_
    refine s_skip rfl ?_
    refine s_skip rfl ?_
    refine s_skip rfl ?_
    refine s_skip rfl ?_
    refine s_skip rfl ?_
    refine s_y (v := .bool true) rfl (y_pick_t rfl rfl) ?_
    refine s_y (v := .bool true) rfl (y_move rfl) ?_
    refine s_skip rfl ?_
    refine s_skip rfl ?_
    refine s_skip rfl ?_
    refine s_skip rfl ?_
    refine s_skip rfl ?_
    refine s_y (v := .bool true) rfl (y_pick_t rfl rfl) ?_
    refine s_y (v := .bool true) rfl (y_move rfl) ?_
    refine s_skip rfl ?_
    refine s_skip rfl ?_
    refine s_skip rfl ?_
    refine s_skip rfl ?_
    refine s_skip rfl ?_
    refine s_y (v := .bool true) rfl (y_pick_t rfl rfl) ?_
    refine s_nil ?_
    refine W_if_t (by decide) rfl ?_
    refine W_seq ?_
    refine W_region (by kernel_rfl) ?_
    refine s_y (v := .bool false) rfl (y_assign rfl) ?_
    refine s_nil ?_
    refine W_ret ?_
    refine ret1 rfl rfl rfl ⟨_, rfl, ?_⟩
    exact ⟨congrArg Value.bool (by first | exact (field_n0 (by assumption)).symm | exact (field_n1 (by omega)).symm | exact (field_n2 (by omega)).symm | exact (field_n3 (by omega)).symm), E118⟩
namespace T67
theorem mx : Try.prog.follows .mixedOrders = true := by kernel_rfl
theorem fld_26_0_0 : fldB Try.prog 26 0 0 = true := by kernel_rfl
theorem fld_26_1_1 : fldB Try.prog 26 1 1 = true := by kernel_rfl
theorem fn_65 : fnB Try.prog 65 = true := by kernel_rfl
theorem one_2 : oneB Try.prog 2 = true := by kernel_rfl
end T67
set_option maxRecDepth 100000 in
set_option maxHeartbeats 4000000 in
theorem c_i_isCell {wd hi : Int} {wr : Bool} {asp als : Option Addr} {nsp nls csp cls : Nat} {x : Int} {y : Int} (w : World) (h1 : 3 ≤ wd) (h2 : wd ≤ 16) (h3 : 3 ≤ hi) (h4 : hi ≤ 16) :
    Calls Try.prog 67 #[.agg #[.int .i64 wd, .int .i64 hi, .bool wr, .slice asp nsp csp, .slice als nls cls], .int .i64 x, .int .i64 y] w (Rt fun v w' => v = .bool (cellB wd hi x y) ∧ Ext0 w w') := by
  have E0 : Ext no w w := Ext.refl _ _
  refine calls_W (n := 19) Try.func67 rfl rfl (Nat.le_of_ble_eq_true rfl) ?_
  refine W_seq ?_
  refine W_region (by kernel_rfl) ?_
  refine s_k rfl (k_box (v := .agg #[.int .i64 wd, .int .i64 hi, .bool wr, .slice asp nsp csp, .slice als nls cls]) (cs := [.int .i64 wd, .int .i64 hi, .bool wr, .slice asp nsp csp, .slice als nls cls]) rfl rfl (fun b1 w2 q4 e3 hB5 => ?_))
  have E6 := E0.fresh e3 (fun _ h _ => h.elim)
  have fr7 : NotLt b1 w.heap.size := fun h => Nat.not_lt.2 (Nat.le_trans E0.size (Nat.le_of_eq q4.symm)) h
  clear q4
  refine s_y (v := .bool false) rfl (y_assign rfl) ?_
  refine s_nil ?_
  refine W_seq ?_
  refine W_region (by kernel_rfl) ?_
  refine s_y (v := .int .i64 x) rfl (y_move rfl) ?_
  refine s_y (v := .pointer (some ⟨b1, 0, none⟩)) rfl (y_fld (o := 0) T67.fld_26_0_0 rfl) ?_
  refine s_y (v := .int .i64 wd) rfl (y_load T67.one_2 rfl (hB5.cell (j := 0) rfl)) ?_
  refine s_y (v := .int .i64 (wd - 1)) rfl (y_sub rfl rfl rfl (by omega)) ?_
  refine s_k rfl (k_call T67.fn_65 (c_i_within _ _ _ _) rfl ?_)
  rintro v10 w8 ⟨hv11, e9⟩
  have hB12 := hB5.ext0 e9
  have E13 := E6.fresh e9 (fun _ h _ => h.elim)
  by_cases c14 : within x 0 (wd - 1) = true
  · have hb15 := within_b c14
    obtain rfl : v10 = .bool true := hv11.trans (congrArg Value.bool c14)
    refine s_y (v := .bool true) rfl (y_move rfl) ?_
    refine s_y (v := .int .i64 y) rfl (y_move rfl) ?_
    refine s_y (v := .pointer (some ⟨b1, 1, none⟩)) rfl (y_fld (o := 0) T67.fld_26_1_1 rfl) ?_
    refine s_y (v := .int .i64 hi) rfl (y_load T67.one_2 rfl (hB12.cell (j := 1) rfl)) ?_
    refine s_y (v := .int .i64 (hi - 1)) rfl (y_sub rfl rfl rfl (by omega)) ?_
    refine s_k rfl (k_call T67.fn_65 (c_i_within _ _ _ _) rfl ?_)
    rintro v18 w16 ⟨hv19, e17⟩
    have hB20 := hB12.ext0 e17
    have E21 := E13.fresh e17 (fun _ h _ => h.elim)
    by_cases c22 : within y 0 (hi - 1) = true
    · have hb23 := within_b c22
      obtain rfl : v18 = .bool true := hv19.trans (congrArg Value.bool c22)
      refine s_y (v := .bool true) rfl (y_pick_t rfl rfl) ?_
      refine s_y (v := .bool true) rfl (y_assign rfl) ?_
      refine s_nil ?_
      refine W_ret ?_
      refine ret1 rfl rfl rfl ⟨_, rfl, ?_⟩
      exact ⟨congrArg Value.bool (by simp only [cellB, c14, c22, Bool.and_true, Bool.true_and, Bool.and_false, Bool.false_and, Bool.not_true, Bool.not_false, Bool.or_true, Bool.true_or, Bool.or_false, Bool.false_or]), E21⟩
    · obtain rfl : v18 = .bool false := hv19.trans (congrArg Value.bool (Bool.eq_false_iff.2 c22))
      refine s_y (v := .bool false) rfl (y_pick_t rfl rfl) ?_
      refine s_y (v := .bool false) rfl (y_assign rfl) ?_
      refine s_nil ?_
      refine W_ret ?_
      refine ret1 rfl rfl rfl ⟨_, rfl, ?_⟩
      exact ⟨congrArg Value.bool (by simp only [cellB, c14, (Bool.eq_false_iff.2 c22), Bool.and_true, Bool.true_and, Bool.and_false, Bool.false_and, Bool.not_true, Bool.not_false, Bool.or_true, Bool.true_or, Bool.or_false, Bool.false_or]), E21⟩
  · obtain rfl : v10 = .bool false := hv11.trans (congrArg Value.bool (Bool.eq_false_iff.2 c14))
    refine s_y (v := .bool false) rfl (y_move rfl) ?_
    refine s_skip rfl ?_
    refine s_skip rfl ?_
    refine s_skip rfl ?_
    refine s_skip rfl ?_
    refine s_skip rfl ?_
    refine s_y (v := .bool false) rfl (y_pick_f rfl rfl) ?_
    refine s_y (v := .bool false) rfl (y_assign rfl) ?_
    refine s_nil ?_
    refine W_ret ?_
    refine ret1 rfl rfl rfl ⟨_, rfl, ?_⟩
    exact ⟨congrArg Value.bool (by simp only [cellB, (Bool.eq_false_iff.2 c14), Bool.and_true, Bool.true_and, Bool.and_false, Bool.false_and, Bool.not_true, Bool.not_false, Bool.or_true, Bool.true_or, Bool.or_false, Bool.false_or]), E13⟩
namespace T87
theorem mx : Try.prog.follows .mixedOrders = true := by kernel_rfl
theorem fld_26_0_0 : fldB Try.prog 26 0 0 = true := by kernel_rfl
theorem fld_26_1_1 : fldB Try.prog 26 1 1 = true := by kernel_rfl
theorem one_2 : oneB Try.prog 2 = true := by kernel_rfl
end T87
set_option maxRecDepth 100000 in
set_option maxHeartbeats 4000000 in
theorem c_i_at {wd hi x y : Int} {wr : Bool} {asp als : Option Addr} {nsp nls csp cls : Nat} (w : World) (h1 : 3 ≤ wd) (h2 : wd ≤ 16) (h3 : 3 ≤ hi) (h4 : hi ≤ 16) (h5 : -wd ≤ x) (h6 : x ≤ 1000000) (h7 : -hi ≤ y) (h8 : y ≤ 1000000) :
    Calls Try.prog 87 #[.agg #[.int .i64 wd, .int .i64 hi, .bool wr, .slice asp nsp csp, .slice als nls cls], .int .i64 x, .int .i64 y] w (Rt fun v w' => v = .int .i64 (atI wd hi x y) ∧ Ext0 w w') := by
  have E0 : Ext no w w := Ext.refl _ _
  refine calls_W (n := 25) Try.func87 rfl rfl (Nat.le_of_ble_eq_true rfl) ?_
  refine W_seq ?_
  refine W_region (by kernel_rfl) ?_
  refine s_k rfl (k_box (v := .agg #[.int .i64 wd, .int .i64 hi, .bool wr, .slice asp nsp csp, .slice als nls cls]) (cs := [.int .i64 wd, .int .i64 hi, .bool wr, .slice asp nsp csp, .slice als nls cls]) rfl rfl (fun b1 w2 q4 e3 hB5 => ?_))
  have E6 := E0.fresh e3 (fun _ h _ => h.elim)
  have fr7 : NotLt b1 w.heap.size := fun h => Nat.not_lt.2 (Nat.le_trans E0.size (Nat.le_of_eq q4.symm)) h
  clear q4
  refine s_y (v := .int .i64 0) rfl (y_assign rfl) ?_
  refine s_nil ?_
  refine W_seq ?_
  refine W_draw (no) T87.mx (by kernel_rfl) (fun w8 e9 => ?_)
  have hB10 := hB5.ext0 e9
  have E11 := E6.fresh e9 (fun _ h _ => h.elim)
  have R12 := (Ext.refl (no) w2).trans (Ext0.any e9)
  refine m_y (v := .int .i64 x) 0 rfl (by kernel_rfl) rfl rfl (fun w' e' => y_move rfl) ?_
  refine m_y (v := .pointer (some ⟨b1, 0, none⟩)) 1 rfl (by kernel_rfl) rfl rfl (fun w' e' => y_fld (o := 0) T87.fld_26_0_0 rfl) ?_
  refine m_y (v := .int .i64 wd) 2 rfl (by kernel_rfl) rfl rfl (fun w' e' => y_load T87.one_2 rfl ((hB5.ext0 e').cell (j := 0) rfl)) ?_
  refine m_y (v := .int .i64 (x + wd)) 3 rfl (by kernel_rfl) rfl rfl (fun w' e' => y_add rfl rfl rfl (by omega)) ?_
  refine m_y (v := .pointer (some ⟨b1, 0, none⟩)) 4 rfl (by kernel_rfl) rfl rfl (fun w' e' => y_fld (o := 0) T87.fld_26_0_0 rfl) ?_
  refine m_y (v := .int .i64 wd) 5 rfl (by kernel_rfl) rfl rfl (fun w' e' => y_load T87.one_2 rfl ((hB5.ext0 e').cell (j := 0) rfl)) ?_
  have hm13 := rem_b (x := x + wd) (m := wd) (by omega) (by omega)
  refine m_y (v := .int .i64 ((x + wd) % wd)) 6 rfl (by kernel_rfl) rfl rfl (fun w' e' => y_rem rfl rfl (by omega) (by omega) rfl) ?_
  refine m_y (v := .pointer (some ⟨b1, 0, none⟩)) 7 rfl (by kernel_rfl) rfl rfl (fun w' e' => y_fld (o := 0) T87.fld_26_0_0 rfl) ?_
  refine m_y (v := .int .i64 wd) 8 rfl (by kernel_rfl) rfl rfl (fun w' e' => y_load T87.one_2 rfl ((hB5.ext0 e').cell (j := 0) rfl)) ?_
  refine m_y (v := .int .i64 y) 9 rfl (by kernel_rfl) rfl rfl (fun w' e' => y_move rfl) ?_
  refine m_y (v := .pointer (some ⟨b1, 1, none⟩)) 10 rfl (by kernel_rfl) rfl rfl (fun w' e' => y_fld (o := 0) T87.fld_26_1_1 rfl) ?_
  refine m_y (v := .int .i64 hi) 11 rfl (by kernel_rfl) rfl rfl (fun w' e' => y_load T87.one_2 rfl ((hB5.ext0 e').cell (j := 1) rfl)) ?_
  refine m_y (v := .int .i64 (y + hi)) 12 rfl (by kernel_rfl) rfl rfl (fun w' e' => y_add rfl rfl rfl (by omega)) ?_
  refine m_y (v := .pointer (some ⟨b1, 1, none⟩)) 13 rfl (by kernel_rfl) rfl rfl (fun w' e' => y_fld (o := 0) T87.fld_26_1_1 rfl) ?_
  refine m_y (v := .int .i64 hi) 14 rfl (by kernel_rfl) rfl rfl (fun w' e' => y_load T87.one_2 rfl ((hB5.ext0 e').cell (j := 1) rfl)) ?_
  have hm14 := rem_b (x := y + hi) (m := hi) (by omega) (by omega)
  refine m_y (v := .int .i64 ((y + hi) % hi)) 15 rfl (by kernel_rfl) rfl rfl (fun w' e' => y_rem rfl rfl (by omega) (by omega) rfl) ?_
  have hm15 := mul_rem (a := wd) (x := y + hi) (m := hi) (by omega) (by omega) (by omega) (by omega)
  refine m_y (v := .int .i64 (wd * ((y + hi) % hi))) 16 rfl (by kernel_rfl) rfl rfl (fun w' e' => y_mul rfl rfl rfl (by omega)) ?_
  refine m_y (v := .int .i64 (((x + wd) % wd) + (wd * ((y + hi) % hi)))) 17 rfl (by kernel_rfl) rfl rfl (fun w' e' => y_add rfl rfl rfl (by omega)) ?_
  refine m_y (v := .int .i64 (((x + wd) % wd) + (wd * ((y + hi) % hi)))) 18 rfl (by kernel_rfl) rfl rfl (fun w' e' => y_assign rfl) ?_
  refine m_done (by kernel_rfl) (fun w16 e17 => ?_)
  have hB18 := hB10.ext0 e17
  have E19 := E11.fresh e17 (fun _ h _ => h.elim)
  have R20 := R12.trans (Ext0.any e17)
  refine W_ret ?_
  refine ret1 rfl rfl rfl ⟨_, rfl, ?_⟩
  exact ⟨rfl, E19⟩
namespace T44
theorem mx : Try.prog.follows .mixedOrders = true := by kernel_rfl
theorem agg_26_5 : aggB Try.prog 26 5 = true := by kernel_rfl
theorem agg_65_3 : aggB Try.prog 65 3 = true := by kernel_rfl
theorem fld_65_0_0 : fldB Try.prog 65 0 0 = true := by kernel_rfl
theorem fn_67 : fnB Try.prog 67 = true := by kernel_rfl
theorem fn_86 : fnB Try.prog 86 = true := by kernel_rfl
theorem fn_87 : fnB Try.prog 87 = true := by kernel_rfl
theorem one_24 : oneB Try.prog 24 = true := by kernel_rfl
theorem one_62 : oneB Try.prog 62 = true := by kernel_rfl
theorem sl_24_62_1 : slB Try.prog 24 62 1 = true := by kernel_rfl
end T44
set_option maxRecDepth 100000 in
set_option maxHeartbeats 4000000 in
theorem c_i_ValueAt {wd hi : Int} {wr : Bool} {asp : Option Addr} {nsp csp : Nat} {xsp Xsp : List Nat} {als : Option Addr} {nls cls : Nat} {xls Xls : List Nat} {afe : Option Addr} {nfe cfe : Nat} {xfe Xfe : List Nat} {afx : Option Addr} {nfx cfx : Nat} {xfx Xfx : List Nat} {afy : Option Addr} {nfy cfy : Nat} {xfy Xfy : List Nat} {x y : Int} (w : World) (qssp : Sl w asp (flts xsp)) (qlsp : xsp.length = nsp) (qksp : cn xsp = Xsp) (qsls : Sl w als (flts xls)) (qlls : xls.length = nls) (qkls : cn xls = Xls) (hb1 : nsp ≤ 9223372036854775806) (hb2 : nls ≤ 9223372036854775806) (qsfe : Sl w afe (flts xfe)) (qlfe : xfe.length = nfe) (qkfe : cn xfe = Xfe) (qsfx : Sl w afx (flts xfx)) (qlfx : xfx.length = nfx) (qkfx : cn xfx = Xfx) (qsfy : Sl w afy (flts xfy)) (qlfy : xfy.length = nfy) (qkfy : cn xfy = Xfy) (hc1 : nfe ≤ 9223372036854775806) (hc2 : nfx ≤ 9223372036854775806) (hc3 : nfy ≤ 9223372036854775806) :
    Calls Try.prog 44 #[.agg #[.int .i64 wd, .int .i64 hi, .bool wr, .slice asp nsp csp, .slice als nls cls], .agg #[.slice afe nfe cfe, .slice afx nfx cfx, .slice afy nfy cfy], .int .i64 x, .int .i64 y] w (Rt fun v w' => ((valB wd hi wr Xsp Xls Xfe Xfx Xfy x y = true ∧ ∃ r, v = .tuple #[.float .f32 r, .bool true] ∧ can .f32 r = el Xfe (x + wd * y)) ∨ (valB wd hi wr Xsp Xls Xfe Xfx Xfy x y = false ∧ v = .tuple #[.float .f32 0, .bool false])) ∧ Ext0 w w') := by
  have E0 : Ext no w w := Ext.refl _ _
  have hlP : Xsp.length = nsp := (cn_lenX qksp).trans qlsp
  have hlL : Xls.length = nls := (cn_lenX qkls).trans qlls
  have hlfe : Xfe.length = nfe := (cn_lenX qkfe).trans qlfe
  have hlfx : Xfx.length = nfx := (cn_lenX qkfx).trans qlfx
  have hlfy : Xfy.length = nfy := (cn_lenX qkfy).trans qlfy
  have lo_asp := Sl.low qssp
  have lo_als := Sl.low qsls
  have lo_afe := Sl.low qsfe
  have lo_afx := Sl.low qsfx
  have lo_afy := Sl.low qsfy
  refine calls_W (n := 29) Try.func44 rfl rfl (Nat.le_of_ble_eq_true rfl) ?_
  refine W_seq ?_
  refine W_region (by kernel_rfl) ?_
  refine s_k rfl (k_box (v := .agg #[.int .i64 wd, .int .i64 hi, .bool wr, .slice asp nsp csp, .slice als nls cls]) (cs := [.int .i64 wd, .int .i64 hi, .bool wr, .slice asp nsp csp, .slice als nls cls]) rfl rfl (fun b1 w2 q4 e3 hB5 => ?_))
  have hS6 := qssp.ext0 e3
  have hS7 := qsls.ext0 e3
  have hS8 := qsfe.ext0 e3
  have hS9 := qsfx.ext0 e3
  have hS10 := qsfy.ext0 e3
  have E11 := E0.fresh e3 (fun _ h _ => h.elim)
  have fr12 : NotLt b1 w.heap.size := fun h => Nat.not_lt.2 (Nat.le_trans E0.size (Nat.le_of_eq q4.symm)) h
  clear q4
  refine s_k rfl (k_box (v := .agg #[.slice afe nfe cfe, .slice afx nfx cfx, .slice afy nfy cfy]) (cs := [.slice afe nfe cfe, .slice afx nfx cfx, .slice afy nfy cfy]) rfl rfl (fun b13 w14 q16 e15 hB17 => ?_))
  have hB18 := hB5.ext0 e15
  have hS19 := hS6.ext0 e15
  have hS20 := hS7.ext0 e15
  have hS21 := hS8.ext0 e15
  have hS22 := hS9.ext0 e15
  have hS23 := hS10.ext0 e15
  have E24 := E11.fresh e15 (fun _ h _ => h.elim)
  have dj25 : NeB b1 b13 := fun h => Nat.ne_of_lt hB5.lt (h.trans q16)
  have fr26 : NotLt b13 w.heap.size := fun h => Nat.not_lt.2 (Nat.le_trans E11.size (Nat.le_of_eq q16.symm)) h
  clear q16
  refine s_y (v := .float .f32 0) rfl (y_assign rfl) ?_
  refine s_y (v := .bool false) rfl (y_assign rfl) ?_
  refine s_nil ?_
  refine W_seq ?_
  refine W_seq ?_
  refine W_region (by kernel_rfl) ?_
  refine s_y (v := .agg #[.int .i64 wd, .int .i64 hi, .bool wr, .slice asp nsp csp, .slice als nls cls]) rfl (y_loadn (b := b1) (o := 0) (vs := [.int .i64 wd, .int .i64 hi, .bool wr, .slice asp nsp csp, .slice als nls cls]) T44.agg_26_5 rfl rfl (hB18.cells (o := 0) rfl)) ?_
  refine s_y (v := .agg #[.slice afe nfe cfe, .slice afx nfx cfx, .slice afy nfy cfy]) rfl (y_loadn (b := b13) (o := 0) (vs := [.slice afe nfe cfe, .slice afx nfx cfx, .slice afy nfy cfy]) T44.agg_65_3 rfl rfl (hB17.cells (o := 0) rfl)) ?_
  refine s_k rfl (k_call T44.fn_86 (c_i_IsField _ hS19 qlsp qksp hS20 qlls qkls (by omega) (by omega) hS21 qlfe qkfe hS22 qlfx qkfx hS23 qlfy qkfy (by omega) (by omega) (by omega)) rfl ?_)
  rintro v29 w27 ⟨hv30, e28⟩
  have hB31 := hB18.ext0 e28
  have hB32 := hB17.ext0 e28
  have hS33 := hS19.ext0 e28
  have hS34 := hS20.ext0 e28
  have hS35 := hS21.ext0 e28
  have hS36 := hS22.ext0 e28
  have hS37 := hS23.ext0 e28
  have E38 := E24.fresh e28 (fun _ h _ => h.elim)
  by_cases c39 : fieldB wd hi wr Xsp Xls Xfe Xfx Xfy = true
  · have hb40 := fieldB_b c39
    obtain rfl : v29 = .bool true := hv30.trans (congrArg Value.bool c39)
    refine s_y (v := .bool false) rfl (y_not rfl rfl) ?_
    refine s_y (v := .bool false) rfl (y_move rfl) ?_
    refine s_y (v := .agg #[.int .i64 wd, .int .i64 hi, .bool wr, .slice asp nsp csp, .slice als nls cls]) rfl (y_loadn (b := b1) (o := 0) (vs := [.int .i64 wd, .int .i64 hi, .bool wr, .slice asp nsp csp, .slice als nls cls]) T44.agg_26_5 rfl rfl (hB31.cells (o := 0) rfl)) ?_
    refine s_y (v := .int .i64 x) rfl (y_move rfl) ?_
    refine s_y (v := .int .i64 y) rfl (y_move rfl) ?_
    refine s_k rfl (k_call T44.fn_67 (c_i_isCell _ (by omega) (by omega) (by omega) (by omega)) rfl ?_)
    rintro v43 w41 ⟨hv44, e42⟩
    have hB45 := hB31.ext0 e42
    have hB46 := hB32.ext0 e42
    have hS47 := hS33.ext0 e42
    have hS48 := hS34.ext0 e42
    have hS49 := hS35.ext0 e42
    have hS50 := hS36.ext0 e42
    have hS51 := hS37.ext0 e42
    have E52 := E38.fresh e42 (fun _ h _ => h.elim)
    by_cases c53 : cellB wd hi x y = true
    · have hb54 := cellB_b c53
      obtain rfl : v43 = .bool true := hv44.trans (congrArg Value.bool c53)
      refine s_y (v := .bool false) rfl (y_not rfl rfl) ?_
      refine s_y (v := .bool false) rfl (y_pick_f rfl rfl) ?_
      refine s_nil ?_
      refine W_if_f (by decide) rfl ?_
      refine W_skip ?_
      refine W_seq ?_
      refine W_draw (no) T44.mx (by kernel_rfl) (fun w55 e56 => ?_)
      have hB57 := hB45.ext0 e56
      have hB58 := hB46.ext0 e56
      have hS59 := hS47.ext0 e56
      have hS60 := hS48.ext0 e56
      have hS61 := hS49.ext0 e56
      have hS62 := hS50.ext0 e56
      have hS63 := hS51.ext0 e56
      have E64 := E52.fresh e56 (fun _ h _ => h.elim)
      have R65 := (Ext.refl (no) w41).trans (Ext0.any e56)
      refine m_y (v := .pointer (some ⟨b13, 0, none⟩)) 0 rfl (by kernel_rfl) rfl rfl (fun w' e' => y_fld (o := 0) T44.fld_65_0_0 rfl) ?_
      refine m_y (v := .slice afe nfe cfe) 1 rfl (by kernel_rfl) rfl rfl (fun w' e' => y_load T44.one_24 rfl ((hB46.ext0 e').cell (j := 0) rfl)) ?_
      refine m_y (v := .agg #[.int .i64 wd, .int .i64 hi, .bool wr, .slice asp nsp csp, .slice als nls cls]) 2 rfl (by kernel_rfl) rfl rfl (fun w' e' => y_loadn (b := b1) (o := 0) (vs := [.int .i64 wd, .int .i64 hi, .bool wr, .slice asp nsp csp, .slice als nls cls]) T44.agg_26_5 rfl rfl ((hB45.ext0 e').cells (o := 0) rfl)) ?_
      refine m_y (v := .int .i64 x) 3 rfl (by kernel_rfl) rfl rfl (fun w' e' => y_move rfl) ?_
      refine m_y (v := .int .i64 y) 4 rfl (by kernel_rfl) rfl rfl (fun w' e' => y_move rfl) ?_
      refine m_k 5 [6, 7, 8, 9] rfl (by kernel_rfl) rfl rfl (fun w66 e67 => ?_)
      have hB68 := hB57.ext0 e67
      have hB69 := hB58.ext0 e67
      have hS70 := hS59.ext0 e67
      have hS71 := hS60.ext0 e67
      have hS72 := hS61.ext0 e67
      have hS73 := hS62.ext0 e67
      have hS74 := hS63.ext0 e67
      have E75 := E64.fresh e67 (fun _ h _ => h.elim)
      have R76 := R65.trans (Ext0.any e67)
      refine k_call T44.fn_87 (c_i_at _ (by omega) (by omega) (by omega) (by omega) (by omega) (by omega) (by omega) (by omega)) rfl ?_
      rintro _ w77 ⟨rfl, e78⟩
      have hB79 := hB68.ext0 e78
      have hB80 := hB69.ext0 e78
      have hS81 := hS70.ext0 e78
      have hS82 := hS71.ext0 e78
      have hS83 := hS72.ext0 e78
      have hS84 := hS73.ext0 e78
      have hS85 := hS74.ext0 e78
      have E86 := E75.fresh e78 (fun _ h _ => h.elim)
      have R87 := R76.trans (Ext0.any e78)
      refine ⟨fun _ => R87, ?_⟩
      have hat88 := atI_b (wd := wd) (hi := hi) (x := x) (y := y) (by omega) (by omega)
      refine m_y (v := .pointer (some (sat afe ((atI wd hi x y).toNat * 1)))) 6 rfl (by kernel_rfl) rfl rfl (fun w' e' => y_idx T44.sl_24_62_1 rfl rfl (hS83.addr (by rw [flts_length]; omega)) (by omega) (by omega)) ?_
      refine m_y (v := .float .f32 (el xfe (atI wd hi x y))) 7 rfl (by kernel_rfl) rfl rfl (fun w' e' => y_load T44.one_62 rfl ((hS49.ext0 e').cell (fl_at (by omega) (by omega)))) ?_
      refine m_y (v := .float .f32 (el xfe (atI wd hi x y))) 8 rfl (by kernel_rfl) rfl rfl (fun w' e' => y_assign rfl) ?_
      refine m_y (v := .bool true) 9 rfl (by kernel_rfl) rfl rfl (fun w' e' => y_assign rfl) ?_
      refine m_done (by kernel_rfl) (fun w89 e90 => ?_)
      have hB91 := hB79.ext0 e90
      have hB92 := hB80.ext0 e90
      have hS93 := hS81.ext0 e90
      have hS94 := hS82.ext0 e90
      have hS95 := hS83.ext0 e90
      have hS96 := hS84.ext0 e90
      have hS97 := hS85.ext0 e90
      have E98 := E86.fresh e90 (fun _ h _ => h.elim)
      have R99 := R87.trans (Ext0.any e90)
      refine W_ret ?_
      refine ret2 rfl rfl rfl rfl rfl ⟨_, rfl, ?_⟩
      exact ⟨.inl ⟨by simp only [valB, c39, c53, Bool.and_true, Bool.true_and, Bool.and_false, Bool.false_and, Bool.not_true, Bool.not_false, Bool.or_true, Bool.true_or, Bool.or_false, Bool.false_or], _, rfl, (cn_el qkfe (atI wd hi x y)).trans (congrArg (el Xfe) (atI_in (by omega) (by omega) (by omega) (by omega)))⟩, E98⟩
    · obtain rfl : v43 = .bool false := hv44.trans (congrArg Value.bool (Bool.eq_false_iff.2 c53))
      refine s_y (v := .bool true) rfl (y_not rfl rfl) ?_
      refine s_y (v := .bool true) rfl (y_pick_f rfl rfl) ?_
      refine s_nil ?_
      refine W_if_t (by decide) rfl ?_
      refine W_seq ?_
      refine W_region (by kernel_rfl) ?_
      refine s_y (v := .float .f32 0) rfl (y_assign rfl) ?_
      refine s_y (v := .bool false) rfl (y_assign rfl) ?_
      refine s_nil ?_
      refine W_ret ?_
      refine ret2 rfl rfl rfl rfl rfl ⟨_, rfl, ?_⟩
      exact ⟨.inr ⟨by simp only [valB, c39, (Bool.eq_false_iff.2 c53), Bool.and_true, Bool.true_and, Bool.and_false, Bool.false_and, Bool.not_true, Bool.not_false, Bool.or_true, Bool.true_or, Bool.or_false, Bool.false_or], rfl⟩, E52⟩
  · obtain rfl : v29 = .bool false := hv30.trans (congrArg Value.bool (Bool.eq_false_iff.2 c39))
    refine s_y (v := .bool true) rfl (y_not rfl rfl) ?_
    refine s_y (v := .bool true) rfl (y_move rfl) ?_
    refine s_skip rfl ?_
    refine s_skip rfl ?_
    refine s_skip rfl ?_
    refine s_skip rfl ?_
    refine s_skip rfl ?_
    refine s_y (v := .bool true) rfl (y_pick_t rfl rfl) ?_
    refine s_nil ?_
    refine W_if_t (by decide) rfl ?_
    refine W_seq ?_
    refine W_region (by kernel_rfl) ?_
    refine s_y (v := .float .f32 0) rfl (y_assign rfl) ?_
    refine s_y (v := .bool false) rfl (y_assign rfl) ?_
    refine s_nil ?_
    refine W_ret ?_
    refine ret2 rfl rfl rfl rfl rfl ⟨_, rfl, ?_⟩
    exact ⟨.inr ⟨by simp only [valB, (Bool.eq_false_iff.2 c39), Bool.and_true, Bool.true_and, Bool.and_false, Bool.false_and, Bool.not_true, Bool.not_false, Bool.or_true, Bool.true_or, Bool.or_false, Bool.false_or], rfl⟩, E38⟩
namespace T45
theorem mx : Try.prog.follows .mixedOrders = true := by kernel_rfl
theorem bool_4 : Try.prog.underlying 4 = some .bool := by kernel_rfl
end T45
set_option maxRecDepth 100000 in
set_option maxHeartbeats 4000000 in
theorem c_l_sameFloat (a b A : Nat) (ha : can .f64 a = A) (hb : can .f64 b = A) (w : World) :
    Calls Try.prog 45 #[.float .f64 a, .float .f64 b] w (Rt fun v w' => v = .bool true ∧ Ext0 w w') := by
  have E0 : Ext no w w := Ext.refl _ _
  refine calls_W (n := 37) Try.func45 rfl rfl (Nat.le_of_ble_eq_true rfl) ?_
  refine W_seq ?_
  refine W_region (by kernel_rfl) ?_
  refine s_y (v := .bool false) rfl (y_assign rfl) ?_
  refine s_nil ?_
  refine W_seq ?_
  refine W_seq ?_
  refine W_region (by kernel_rfl) ?_
  refine s_y (v := .float .f64 a) rfl (y_move rfl) ?_
  refine s_y (v := .float .f64 a) rfl (y_move rfl) ?_
  by_cases c1 : fne .f64 A A = true
  · refine s_y (v := .bool true) rfl (y_fneq rfl rfl (fneC ha ha c1)) ?_
    refine s_y (v := .bool true) rfl (y_move rfl) ?_
    refine s_skip rfl ?_
    refine s_skip rfl ?_
    refine s_skip rfl ?_
    refine s_y (v := .bool true) rfl (y_pick_t rfl rfl) ?_
    refine s_nil ?_
    refine W_if_t (by decide) rfl ?_
    refine W_seq ?_
    refine W_region (by kernel_rfl) ?_
    refine s_y (v := .float .f64 a) rfl (y_move rfl) ?_
    refine s_y (v := .float .f64 a) rfl (y_move rfl) ?_
    refine s_y (v := .bool true) rfl (y_fneq rfl rfl (fneC ha ha c1)) ?_
    refine s_y (v := .bool true) rfl (y_move rfl) ?_
    refine s_y (v := .float .f64 b) rfl (y_move rfl) ?_
    refine s_y (v := .float .f64 b) rfl (y_move rfl) ?_
    refine s_y (v := .bool true) rfl (y_fneq rfl rfl (fneC hb hb c1)) ?_
    refine s_y (v := .bool true) rfl (y_pick_t rfl rfl) ?_
    refine s_y (v := .bool true) rfl (y_assign rfl) ?_
    refine s_nil ?_
    refine W_ret ?_
    refine ret1 rfl rfl rfl ⟨_, rfl, ?_⟩
    exact ⟨rfl, E0⟩
  · refine s_y (v := .bool false) rfl (y_fneq rfl rfl (fneC ha ha (Bool.eq_false_iff.2 c1))) ?_
    refine s_y (v := .bool false) rfl (y_move rfl) ?_
    refine s_y (v := .float .f64 b) rfl (y_move rfl) ?_
    refine s_y (v := .float .f64 b) rfl (y_move rfl) ?_
    refine s_y (v := .bool false) rfl (y_fneq rfl rfl (fneC hb hb (Bool.eq_false_iff.2 c1))) ?_
    refine s_y (v := .bool false) rfl (y_pick_f rfl rfl) ?_
    refine s_nil ?_
    refine W_if_f (by decide) rfl ?_
    refine W_skip ?_
    refine W_seq ?_
    refine W_seq ?_
    refine W_region (by kernel_rfl) ?_
    refine s_y (v := .float .f64 a) rfl (y_move rfl) ?_
    by_cases c2 : feq .f64 A 0 = true
    · refine s_y (v := .bool true) rfl (y_feql rfl rfl (feqC ha (show can .f64 0 = 0 by kernel_rfl) c2)) ?_
      refine s_y (v := .bool true) rfl (y_move rfl) ?_
      refine s_y (v := .float .f64 b) rfl (y_move rfl) ?_
      refine s_y (v := .bool true) rfl (y_feql rfl rfl (feqC hb (show can .f64 0 = 0 by kernel_rfl) c2)) ?_
      refine s_y (v := .bool true) rfl (y_pick_t rfl rfl) ?_
      refine s_nil ?_
      refine W_if_t (by decide) rfl ?_
      refine W_seq ?_
      refine W_region (by kernel_rfl) ?_
      refine s_y (v := .float .f64 a) rfl (y_move rfl) ?_
      refine s_n rfl (n_arith (by decide) rfl rfl) ?_
      rintro _ w6 e7 ⟨r4, rfl, hr5⟩
      have E8 := E0.fresh e7 (fun _ h _ => h.elim)
      have hc9 := fopC hr5 (show can .f64 4607182418800017408 = 4607182418800017408 by kernel_rfl) ha
      by_cases c10 : fgt .f64 (fop .quo .f64 4607182418800017408 A) 0 = true
      · refine s_y (v := .bool true) rfl (y_fgtr rfl rfl (fgtC hc9 (show can .f64 0 = 0 by kernel_rfl) c10)) ?_
        refine s_y (v := .float .f64 b) rfl (y_move rfl) ?_
        refine s_n rfl (n_arith (by decide) rfl rfl) ?_
        rintro _ w14 e15 ⟨r12, rfl, hr13⟩
        have E16 := E8.fresh e15 (fun _ h _ => h.elim)
        have hc17 := fopC hr13 (show can .f64 4607182418800017408 = 4607182418800017408 by kernel_rfl) hb
        refine s_y (v := .bool true) rfl (y_fgtr rfl rfl (fgtC hc17 (show can .f64 0 = 0 by kernel_rfl) c10)) ?_
        refine s_y (v := .bool true) rfl (y_beql T45.bool_4 rfl rfl rfl) ?_
        refine s_y (v := .bool true) rfl (y_assign rfl) ?_
        refine s_nil ?_
        refine W_ret ?_
        refine ret1 rfl rfl rfl ⟨_, rfl, ?_⟩
        exact ⟨rfl, E16⟩
      · refine s_y (v := .bool false) rfl (y_fgtr rfl rfl (fgtC hc9 (show can .f64 0 = 0 by kernel_rfl) (Bool.eq_false_iff.2 c10))) ?_
        refine s_y (v := .float .f64 b) rfl (y_move rfl) ?_
        refine s_n rfl (n_arith (by decide) rfl rfl) ?_
        rintro _ w21 e22 ⟨r19, rfl, hr20⟩
        have E23 := E8.fresh e22 (fun _ h _ => h.elim)
        have hc24 := fopC hr20 (show can .f64 4607182418800017408 = 4607182418800017408 by kernel_rfl) hb
        refine s_y (v := .bool false) rfl (y_fgtr rfl rfl (fgtC hc24 (show can .f64 0 = 0 by kernel_rfl) (Bool.eq_false_iff.2 c10))) ?_
        refine s_y (v := .bool true) rfl (y_beql T45.bool_4 rfl rfl rfl) ?_
        refine s_y (v := .bool true) rfl (y_assign rfl) ?_
        refine s_nil ?_
        refine W_ret ?_
        refine ret1 rfl rfl rfl ⟨_, rfl, ?_⟩
        exact ⟨rfl, E23⟩
    · refine s_y (v := .bool false) rfl (y_feql rfl rfl (feqC ha (show can .f64 0 = 0 by kernel_rfl) (Bool.eq_false_iff.2 c2))) ?_
      refine s_y (v := .bool false) rfl (y_move rfl) ?_
      refine s_skip rfl ?_
      refine s_skip rfl ?_
      refine s_y (v := .bool false) rfl (y_pick_f rfl rfl) ?_
      refine s_nil ?_
      refine W_if_f (by decide) rfl ?_
      refine W_skip ?_
      refine W_seq ?_
      refine W_region (by kernel_rfl) ?_
      refine s_y (v := .float .f64 a) rfl (y_move rfl) ?_
      refine s_y (v := .float .f64 b) rfl (y_move rfl) ?_
      by_cases c25 : feq .f64 A A = true
      · refine s_y (v := .bool true) rfl (y_feql rfl rfl (feqC ha hb c25)) ?_
        refine s_y (v := .bool true) rfl (y_assign rfl) ?_
        refine s_nil ?_
        refine W_ret ?_
        refine ret1 rfl rfl rfl ⟨_, rfl, ?_⟩
        exact ⟨rfl, E0⟩
      · refine s_y (v := .bool false) rfl (y_feql rfl rfl (feqC ha hb (Bool.eq_false_iff.2 c25))) ?_
        refine s_y (v := .bool false) rfl (y_assign rfl) ?_
        refine s_nil ?_
        refine W_ret ?_
        refine ret1 rfl rfl rfl ⟨_, rfl, ?_⟩
        exfalso; simp_all [fne, feq]
namespace T71
theorem mx : Try.prog.follows .mixedOrders = true := by kernel_rfl
theorem flt_68_f64 : Try.prog.underlying 68 = some (.float .f64) := by kernel_rfl
theorem fn_45 : fnB Try.prog 45 = true := by kernel_rfl
theorem one_62 : oneB Try.prog 62 = true := by kernel_rfl
theorem sl_24_62_1 : slB Try.prog 24 62 1 = true := by kernel_rfl
theorem und_62 : (Try.prog.underlying 62).isSome = true := by kernel_rfl
end T71
set_option maxRecDepth 100000 in
set_option maxHeartbeats 4000000 in
theorem c_l_eqFloat32S {a a2 : Option Addr} {n m cc c2 : Nat} {x y X : List Nat} (w : World) (h1 : Sl w a (flts x)) (l1 : x.length = n) (k1 : cn x = X) (h2 : Sl w a2 (flts y)) (l2 : y.length = m) (k2 : cn y = X) (hb : n ≤ 9223372036854775806) :
    Calls Try.prog 71 #[.slice a n cc, .slice a2 m c2] w (Rt fun v w' => v = .bool true ∧ Ext0 w w') := by
  have E0 : Ext no w w := Ext.refl _ _
  have lx := cn_lenX k1
  have ly := cn_lenX k2
  have lo_a := Sl.low h1
  have lo_a2 := Sl.low h2
  refine calls_W (n := 29) Try.func71 rfl rfl (Nat.le_of_ble_eq_true rfl) ?_
  refine W_seq ?_
  refine W_region (by kernel_rfl) ?_
  refine s_y (v := .bool false) rfl (y_assign rfl) ?_
  refine s_nil ?_
  refine W_seq ?_
  refine W_seq ?_
  refine W_region (by kernel_rfl) ?_
  refine s_y (v := .slice a n cc) rfl (y_move rfl) ?_
  refine s_y (v := .int .i64 ((n : Nat) : Int)) rfl (y_len T71.sl_24_62_1 rfl rfl) ?_
  refine s_y (v := .slice a2 m c2) rfl (y_move rfl) ?_
  refine s_y (v := .int .i64 ((m : Nat) : Int)) rfl (y_len T71.sl_24_62_1 rfl rfl) ?_
  by_cases c1 : ((n : Nat) : Int) ≠ ((m : Nat) : Int)
  · refine s_y (v := .bool true) rfl (y_neq rfl rfl (decide_eq_true c1)) ?_
    refine s_nil ?_
    refine W_if_t (by decide) rfl ?_
    refine W_seq ?_
    refine W_region (by kernel_rfl) ?_
    refine s_y (v := .bool false) rfl (y_assign rfl) ?_
    refine s_nil ?_
    refine W_ret ?_
    refine ret1 rfl rfl rfl ⟨_, rfl, ?_⟩
    omega
  · refine s_y (v := .bool false) rfl (y_neq rfl rfl (decide_eq_false c1)) ?_
    refine s_nil ?_
    refine W_if_f (by decide) rfl ?_
    refine W_skip ?_
    refine W_seq ?_
    refine W_seq ?_
    refine W_region (by kernel_rfl) ?_
    refine s_y (v := .int .i64 0) rfl (y_assign rfl) ?_
    refine s_nil ?_
    refine W_block ?_
-- loop drops slots [4]
    refine W_loop (fun ρ' w' => ∃ (ρ1 : Env) (k : Int), ρ' = updL ρ1 [(0, .slice a n cc), (1, .slice a2 m c2), (5, .int .i64 k)] ∧ Ext no w w' ∧ Sl w' a (flts x) ∧ Sl w' a2 (flts y) ∧ (0 ≤ k) ∧ (k ≤ (n : Int))) (fun ρ' _ => ((n : Int) - iv (ρ' 5)).toNat) ?_ ?_
    · exact ⟨_, 0, Fits.eq ⟨rfl, rfl, rfl, trivial⟩, E0, h1, h2, (Int.le_refl _), (by omega)⟩
    · rintro _ w2 ⟨ρ6, k, rfl, E3, hS4, hS5, h0k, h1k⟩
      refine W_seq ?_
      refine W_seq ?_
      refine W_region (by kernel_rfl) ?_
      refine s_y (v := .int .i64 k) rfl (y_move rfl) ?_
      refine s_y (v := .slice a n cc) rfl (y_move rfl) ?_
      refine s_y (v := .int .i64 ((n : Nat) : Int)) rfl (y_len T71.sl_24_62_1 rfl rfl) ?_
      by_cases c7 : k < ((n : Nat) : Int)
      · refine s_y (v := .bool true) rfl (y_lss rfl rfl (decide_eq_true c7)) ?_
        refine s_nil ?_
        refine W_if_t (by decide) rfl ?_
        refine W_skip ?_
        refine W_seq ?_
        refine W_block ?_
        refine W_seq ?_
        refine W_draw (no) T71.mx (by kernel_rfl) (fun w8 e9 => ?_)
        have hS10 := hS4.ext0 e9
        have hS11 := hS5.ext0 e9
        have E12 := E3.fresh e9 (fun _ h _ => h.elim)
        have R13 := (Ext.refl (no) w2).trans (Ext0.any e9)
        refine m_y (v := .slice a n cc) 0 rfl (by kernel_rfl) rfl rfl (fun w' e' => y_move rfl) ?_
        refine m_y (v := .int .i64 k) 1 rfl (by kernel_rfl) rfl rfl (fun w' e' => y_move rfl) ?_
        refine m_y (v := .pointer (some (sat a ((k).toNat * 1)))) 2 rfl (by kernel_rfl) rfl rfl (fun w' e' => y_idx T71.sl_24_62_1 rfl rfl (hS10.addr (by rw [flts_length]; omega)) (by omega) (by omega)) ?_
        refine m_y (v := .float .f32 (el x k)) 3 rfl (by kernel_rfl) rfl rfl (fun w' e' => y_load T71.one_62 rfl ((hS4.ext0 e').cell (fl_at (by omega) (by omega)))) ?_
        refine m_y (v := .slice a2 m c2) 5 rfl (by kernel_rfl) rfl rfl (fun w' e' => y_move rfl) ?_
        refine m_y (v := .int .i64 k) 6 rfl (by kernel_rfl) rfl rfl (fun w' e' => y_move rfl) ?_
        refine m_y (v := .pointer (some (sat a2 ((k).toNat * 1)))) 7 rfl (by kernel_rfl) rfl rfl (fun w' e' => y_idx T71.sl_24_62_1 rfl rfl (hS11.addr (by rw [flts_length]; omega)) (by omega) (by omega)) ?_
        refine m_y (v := .float .f32 (el y k)) 8 rfl (by kernel_rfl) rfl rfl (fun w' e' => y_load T71.one_62 rfl ((hS5.ext0 e').cell (fl_at (by omega) (by omega)))) ?_
        refine m_n 4 [10, 11] rfl (by kernel_rfl) rfl rfl (fun w' e' => n_wide T71.und_62 T71.flt_68_f64 rfl) ?_
        rintro _ ⟨r14, rfl, hr15⟩
        have hc18 := wideC hr15 (cn_el k1 k)
        refine m_n 9 [10, 11] rfl (by kernel_rfl) rfl rfl (fun w' e' => n_wide T71.und_62 T71.flt_68_f64 rfl) ?_
        rintro _ ⟨r19, rfl, hr20⟩
        have hc23 := wideC hr20 (cn_el k2 k)
        refine m_k 10 [11] rfl (by kernel_rfl) rfl rfl (fun w24 e25 => ?_)
        have hS26 := hS10.ext0 e25
        have hS27 := hS11.ext0 e25
        have E28 := E12.fresh e25 (fun _ h _ => h.elim)
        have R29 := R13.trans (Ext0.any e25)
        refine k_call T71.fn_45 (c_l_sameFloat _ _ _ hc18 hc23 _) rfl ?_
        rintro _ w30 ⟨rfl, e31⟩
        have hS32 := hS26.ext0 e31
        have hS33 := hS27.ext0 e31
        have E34 := E28.fresh e31 (fun _ h _ => h.elim)
        have R35 := R29.trans (Ext0.any e31)
        refine ⟨fun _ => R35, ?_⟩
        refine m_y (v := .bool false) 11 rfl (by kernel_rfl) rfl rfl (fun w' e' => y_not rfl rfl) ?_
        refine m_done (by kernel_rfl) (fun w36 e37 => ?_)
        have hS38 := hS32.ext0 e37
        have hS39 := hS33.ext0 e37
        have E40 := E34.fresh e37 (fun _ h _ => h.elim)
        have R41 := R35.trans (Ext0.any e37)
        refine W_if_f (by decide) rfl ?_
        refine W_skip ?_
        refine W_region (by kernel_rfl) ?_
        refine s_y (v := .int .i64 k) rfl (y_move rfl) ?_
        refine s_y (v := .int .i64 (k + 1)) rfl (y_add rfl rfl rfl (by omega)) ?_
        refine s_y (v := .int .i64 (k + 1)) rfl (y_assign rfl) ?_
        refine s_nil ?_
        refine ⟨⟨_, k + 1, Fits.eq ⟨rfl, rfl, rfl, trivial⟩, E40, hS38, hS39, (by omega), (by omega)⟩, ?_⟩
        show ((n : Int) - (k + 1)).toNat < ((n : Int) - k).toNat
        omega
      · refine s_y (v := .bool false) rfl (y_lss rfl rfl (decide_eq_false c7)) ?_
        refine s_nil ?_
        refine W_if_f (by decide) rfl ?_
        refine W_exit ?_
        refine W_seq ?_
        refine W_region (by kernel_rfl) ?_
        refine s_y (v := .bool true) rfl (y_assign rfl) ?_
        refine s_nil ?_
        refine W_ret ?_
        refine ret1 rfl rfl rfl ⟨_, rfl, ?_⟩
        exact ⟨rfl, E3⟩
namespace T25
theorem mx : Try.prog.follows .mixedOrders = true := by kernel_rfl
theorem bool_4 : Try.prog.underlying 4 = some .bool := by kernel_rfl
theorem fld_26_0_0 : fldB Try.prog 26 0 0 = true := by kernel_rfl
theorem fld_26_1_1 : fldB Try.prog 26 1 1 = true := by kernel_rfl
theorem fld_26_2_2 : fldB Try.prog 26 2 2 = true := by kernel_rfl
theorem fld_26_3_3 : fldB Try.prog 26 3 3 = true := by kernel_rfl
theorem fld_26_4_4 : fldB Try.prog 26 4 4 = true := by kernel_rfl
theorem fn_71 : fnB Try.prog 71 = true := by kernel_rfl
theorem one_2 : oneB Try.prog 2 = true := by kernel_rfl
theorem one_24 : oneB Try.prog 24 = true := by kernel_rfl
theorem one_4 : oneB Try.prog 4 = true := by kernel_rfl
end T25
set_option maxRecDepth 100000 in
set_option maxHeartbeats 4000000 in
theorem c_l_eqSheet {wd hi : Int} {wr : Bool} {asp bsp : Option Addr} {nsp csp msp esp : Nat} {xsp ysp Xsp : List Nat} {als bls : Option Addr} {nls cls mls els : Nat} {xls yls Xls : List Nat} (w : World) (qssp : Sl w asp (flts xsp)) (qlsp : xsp.length = nsp) (qksp : cn xsp = Xsp) (rssp : Sl w bsp (flts ysp)) (rlsp : ysp.length = msp) (rksp : cn ysp = Xsp) (hbsp : nsp ≤ 9223372036854775806) (qsls : Sl w als (flts xls)) (qlls : xls.length = nls) (qkls : cn xls = Xls) (rsls : Sl w bls (flts yls)) (rlls : yls.length = mls) (rkls : cn yls = Xls) (hbls : nls ≤ 9223372036854775806) :
    Calls Try.prog 25 #[.agg #[.int .i64 wd, .int .i64 hi, .bool wr, .slice asp nsp csp, .slice als nls cls], .agg #[.int .i64 wd, .int .i64 hi, .bool wr, .slice bsp msp esp, .slice bls mls els]] w (Rt fun v w' => v = .bool true ∧ Ext0 w w') := by
  have E0 : Ext no w w := Ext.refl _ _
  have lo_asp := Sl.low qssp
  have lo_bsp := Sl.low rssp
  have lo_als := Sl.low qsls
  have lo_bls := Sl.low rsls
  refine calls_W (n := 32) Try.func25 rfl rfl (Nat.le_of_ble_eq_true rfl) ?_
  refine W_seq ?_
  refine W_region (by kernel_rfl) ?_
  refine s_k rfl (k_box (v := .agg #[.int .i64 wd, .int .i64 hi, .bool wr, .slice asp nsp csp, .slice als nls cls]) (cs := [.int .i64 wd, .int .i64 hi, .bool wr, .slice asp nsp csp, .slice als nls cls]) rfl rfl (fun b1 w2 q4 e3 hB5 => ?_))
  have hS6 := qssp.ext0 e3
  have hS7 := rssp.ext0 e3
  have hS8 := qsls.ext0 e3
  have hS9 := rsls.ext0 e3
  have E10 := E0.fresh e3 (fun _ h _ => h.elim)
  have fr11 : NotLt b1 w.heap.size := fun h => Nat.not_lt.2 (Nat.le_trans E0.size (Nat.le_of_eq q4.symm)) h
  clear q4
  refine s_k rfl (k_box (v := .agg #[.int .i64 wd, .int .i64 hi, .bool wr, .slice bsp msp esp, .slice bls mls els]) (cs := [.int .i64 wd, .int .i64 hi, .bool wr, .slice bsp msp esp, .slice bls mls els]) rfl rfl (fun b12 w13 q15 e14 hB16 => ?_))
  have hB17 := hB5.ext0 e14
  have hS18 := hS6.ext0 e14
  have hS19 := hS7.ext0 e14
  have hS20 := hS8.ext0 e14
  have hS21 := hS9.ext0 e14
  have E22 := E10.fresh e14 (fun _ h _ => h.elim)
  have dj23 : NeB b1 b12 := fun h => Nat.ne_of_lt hB5.lt (h.trans q15)
  have fr24 : NotLt b12 w.heap.size := fun h => Nat.not_lt.2 (Nat.le_trans E10.size (Nat.le_of_eq q15.symm)) h
  clear q15
  refine s_y (v := .bool false) rfl (y_assign rfl) ?_
  refine s_nil ?_
  refine W_seq ?_
  refine W_seq ?_
  refine W_region (by kernel_rfl) ?_
  refine s_y (v := .pointer (some ⟨b1, 0, none⟩)) rfl (y_fld (o := 0) T25.fld_26_0_0 rfl) ?_
  refine s_y (v := .int .i64 wd) rfl (y_load T25.one_2 rfl (hB17.cell (j := 0) rfl)) ?_
  refine s_y (v := .pointer (some ⟨b12, 0, none⟩)) rfl (y_fld (o := 0) T25.fld_26_0_0 rfl) ?_
  refine s_y (v := .int .i64 wd) rfl (y_load T25.one_2 rfl (hB16.cell (j := 0) rfl)) ?_
  refine s_y (v := .bool false) rfl (y_neq rfl rfl (decide_eq_false (fun hq => hq rfl))) ?_
  refine s_nil ?_
  refine W_if_f (by decide) rfl ?_
  refine W_skip ?_
  refine W_seq ?_
  refine W_seq ?_
  refine W_region (by kernel_rfl) ?_
  refine s_y (v := .pointer (some ⟨b1, 1, none⟩)) rfl (y_fld (o := 0) T25.fld_26_1_1 rfl) ?_
  refine s_y (v := .int .i64 hi) rfl (y_load T25.one_2 rfl (hB17.cell (j := 1) rfl)) ?_
  refine s_y (v := .pointer (some ⟨b12, 1, none⟩)) rfl (y_fld (o := 0) T25.fld_26_1_1 rfl) ?_
  refine s_y (v := .int .i64 hi) rfl (y_load T25.one_2 rfl (hB16.cell (j := 1) rfl)) ?_
  refine s_y (v := .bool false) rfl (y_neq rfl rfl (decide_eq_false (fun hq => hq rfl))) ?_
  refine s_nil ?_
  refine W_if_f (by decide) rfl ?_
  refine W_skip ?_
  refine W_seq ?_
  refine W_seq ?_
  refine W_region (by kernel_rfl) ?_
  refine s_y (v := .pointer (some ⟨b1, 2, none⟩)) rfl (y_fld (o := 0) T25.fld_26_2_2 rfl) ?_
  refine s_y (v := .bool wr) rfl (y_load T25.one_4 rfl (hB17.cell (j := 2) rfl)) ?_
  refine s_y (v := .pointer (some ⟨b12, 2, none⟩)) rfl (y_fld (o := 0) T25.fld_26_2_2 rfl) ?_
  refine s_y (v := .bool wr) rfl (y_load T25.one_4 rfl (hB16.cell (j := 2) rfl)) ?_
  refine s_y (v := .bool false) rfl (y_bneq T25.bool_4 rfl rfl (by simp)) ?_
  refine s_nil ?_
  refine W_if_f (by decide) rfl ?_
  refine W_skip ?_
  refine W_seq ?_
  refine W_seq ?_
  refine W_region (by kernel_rfl) ?_
  refine s_y (v := .pointer (some ⟨b1, 3, none⟩)) rfl (y_fld (o := 0) T25.fld_26_3_3 rfl) ?_
  refine s_y (v := .slice asp nsp csp) rfl (y_load T25.one_24 rfl (hB17.cell (j := 3) rfl)) ?_
  refine s_y (v := .pointer (some ⟨b12, 3, none⟩)) rfl (y_fld (o := 0) T25.fld_26_3_3 rfl) ?_
  refine s_y (v := .slice bsp msp esp) rfl (y_load T25.one_24 rfl (hB16.cell (j := 3) rfl)) ?_
  refine s_k rfl (k_call T25.fn_71 (c_l_eqFloat32S _ hS18 qlsp qksp hS19 rlsp rksp (by omega)) rfl ?_)
  rintro _ w25 ⟨rfl, e26⟩
  have hB27 := hB17.ext0 e26
  have hB28 := hB16.ext0 e26
  have hS29 := hS18.ext0 e26
  have hS30 := hS19.ext0 e26
  have hS31 := hS20.ext0 e26
  have hS32 := hS21.ext0 e26
  have E33 := E22.fresh e26 (fun _ h _ => h.elim)
  refine s_y (v := .bool false) rfl (y_not rfl rfl) ?_
  refine s_nil ?_
  refine W_if_f (by decide) rfl ?_
  refine W_skip ?_
  refine W_seq ?_
  refine W_seq ?_
  refine W_region (by kernel_rfl) ?_
  refine s_y (v := .pointer (some ⟨b1, 4, none⟩)) rfl (y_fld (o := 0) T25.fld_26_4_4 rfl) ?_
  refine s_y (v := .slice als nls cls) rfl (y_load T25.one_24 rfl (hB27.cell (j := 4) rfl)) ?_
  refine s_y (v := .pointer (some ⟨b12, 4, none⟩)) rfl (y_fld (o := 0) T25.fld_26_4_4 rfl) ?_
  refine s_y (v := .slice bls mls els) rfl (y_load T25.one_24 rfl (hB28.cell (j := 4) rfl)) ?_
  refine s_k rfl (k_call T25.fn_71 (c_l_eqFloat32S _ hS31 qlls qkls hS32 rlls rkls (by omega)) rfl ?_)
  rintro _ w34 ⟨rfl, e35⟩
  have hB36 := hB27.ext0 e35
  have hB37 := hB28.ext0 e35
  have hS38 := hS29.ext0 e35
  have hS39 := hS30.ext0 e35
  have hS40 := hS31.ext0 e35
  have hS41 := hS32.ext0 e35
  have E42 := E33.fresh e35 (fun _ h _ => h.elim)
  refine s_y (v := .bool false) rfl (y_not rfl rfl) ?_
  refine s_nil ?_
  refine W_if_f (by decide) rfl ?_
  refine W_skip ?_
  refine W_seq ?_
  refine W_region (by kernel_rfl) ?_
  refine s_y (v := .bool true) rfl (y_assign rfl) ?_
  refine s_nil ?_
  refine W_ret ?_
  refine ret1 rfl rfl rfl ⟨_, rfl, ?_⟩
  exact ⟨rfl, E42⟩
namespace T46
theorem mx : Try.prog.follows .mixedOrders = true := by kernel_rfl
theorem fld_65_0_0 : fldB Try.prog 65 0 0 = true := by kernel_rfl
theorem fld_65_1_1 : fldB Try.prog 65 1 1 = true := by kernel_rfl
theorem fld_65_2_2 : fldB Try.prog 65 2 2 = true := by kernel_rfl
theorem fn_71 : fnB Try.prog 71 = true := by kernel_rfl
theorem one_24 : oneB Try.prog 24 = true := by kernel_rfl
end T46
set_option maxRecDepth 100000 in
set_option maxHeartbeats 4000000 in
theorem c_l_eqField  {afe bfe : Option Addr} {nfe cfe mfe efe : Nat} {xfe yfe Xfe : List Nat} {afx bfx : Option Addr} {nfx cfx mfx efx : Nat} {xfx yfx Xfx : List Nat} {afy bfy : Option Addr} {nfy cfy mfy efy : Nat} {xfy yfy Xfy : List Nat} (w : World) (qsfe : Sl w afe (flts xfe)) (qlfe : xfe.length = nfe) (qkfe : cn xfe = Xfe) (rsfe : Sl w bfe (flts yfe)) (rlfe : yfe.length = mfe) (rkfe : cn yfe = Xfe) (hbfe : nfe ≤ 9223372036854775806) (qsfx : Sl w afx (flts xfx)) (qlfx : xfx.length = nfx) (qkfx : cn xfx = Xfx) (rsfx : Sl w bfx (flts yfx)) (rlfx : yfx.length = mfx) (rkfx : cn yfx = Xfx) (hbfx : nfx ≤ 9223372036854775806) (qsfy : Sl w afy (flts xfy)) (qlfy : xfy.length = nfy) (qkfy : cn xfy = Xfy) (rsfy : Sl w bfy (flts yfy)) (rlfy : yfy.length = mfy) (rkfy : cn yfy = Xfy) (hbfy : nfy ≤ 9223372036854775806) :
    Calls Try.prog 46 #[.agg #[.slice afe nfe cfe, .slice afx nfx cfx, .slice afy nfy cfy], .agg #[.slice bfe mfe efe, .slice bfx mfx efx, .slice bfy mfy efy]] w (Rt fun v w' => v = .bool true ∧ Ext0 w w') := by
  have E0 : Ext no w w := Ext.refl _ _
  have lo_afe := Sl.low qsfe
  have lo_bfe := Sl.low rsfe
  have lo_afx := Sl.low qsfx
  have lo_bfx := Sl.low rsfx
  have lo_afy := Sl.low qsfy
  have lo_bfy := Sl.low rsfy
  refine calls_W (n := 23) Try.func46 rfl rfl (Nat.le_of_ble_eq_true rfl) ?_
  refine W_seq ?_
  refine W_region (by kernel_rfl) ?_
  refine s_k rfl (k_box (v := .agg #[.slice afe nfe cfe, .slice afx nfx cfx, .slice afy nfy cfy]) (cs := [.slice afe nfe cfe, .slice afx nfx cfx, .slice afy nfy cfy]) rfl rfl (fun b1 w2 q4 e3 hB5 => ?_))
  have hS6 := qsfe.ext0 e3
  have hS7 := rsfe.ext0 e3
  have hS8 := qsfx.ext0 e3
  have hS9 := rsfx.ext0 e3
  have hS10 := qsfy.ext0 e3
  have hS11 := rsfy.ext0 e3
  have E12 := E0.fresh e3 (fun _ h _ => h.elim)
  have fr13 : NotLt b1 w.heap.size := fun h => Nat.not_lt.2 (Nat.le_trans E0.size (Nat.le_of_eq q4.symm)) h
  clear q4
  refine s_k rfl (k_box (v := .agg #[.slice bfe mfe efe, .slice bfx mfx efx, .slice bfy mfy efy]) (cs := [.slice bfe mfe efe, .slice bfx mfx efx, .slice bfy mfy efy]) rfl rfl (fun b14 w15 q17 e16 hB18 => ?_))
  have hB19 := hB5.ext0 e16
  have hS20 := hS6.ext0 e16
  have hS21 := hS7.ext0 e16
  have hS22 := hS8.ext0 e16
  have hS23 := hS9.ext0 e16
  have hS24 := hS10.ext0 e16
  have hS25 := hS11.ext0 e16
  have E26 := E12.fresh e16 (fun _ h _ => h.elim)
  have dj27 : NeB b1 b14 := fun h => Nat.ne_of_lt hB5.lt (h.trans q17)
  have fr28 : NotLt b14 w.heap.size := fun h => Nat.not_lt.2 (Nat.le_trans E12.size (Nat.le_of_eq q17.symm)) h
  clear q17
  refine s_y (v := .bool false) rfl (y_assign rfl) ?_
  refine s_nil ?_
  refine W_seq ?_
  refine W_seq ?_
  refine W_region (by kernel_rfl) ?_
  refine s_y (v := .pointer (some ⟨b1, 0, none⟩)) rfl (y_fld (o := 0) T46.fld_65_0_0 rfl) ?_
  refine s_y (v := .slice afe nfe cfe) rfl (y_load T46.one_24 rfl (hB19.cell (j := 0) rfl)) ?_
  refine s_y (v := .pointer (some ⟨b14, 0, none⟩)) rfl (y_fld (o := 0) T46.fld_65_0_0 rfl) ?_
  refine s_y (v := .slice bfe mfe efe) rfl (y_load T46.one_24 rfl (hB18.cell (j := 0) rfl)) ?_
  refine s_k rfl (k_call T46.fn_71 (c_l_eqFloat32S _ hS20 qlfe qkfe hS21 rlfe rkfe (by omega)) rfl ?_)
  rintro _ w29 ⟨rfl, e30⟩
  have hB31 := hB19.ext0 e30
  have hB32 := hB18.ext0 e30
  have hS33 := hS20.ext0 e30
  have hS34 := hS21.ext0 e30
  have hS35 := hS22.ext0 e30
  have hS36 := hS23.ext0 e30
  have hS37 := hS24.ext0 e30
  have hS38 := hS25.ext0 e30
  have E39 := E26.fresh e30 (fun _ h _ => h.elim)
  refine s_y (v := .bool false) rfl (y_not rfl rfl) ?_
  refine s_nil ?_
  refine W_if_f (by decide) rfl ?_
  refine W_skip ?_
  refine W_seq ?_
  refine W_seq ?_
  refine W_region (by kernel_rfl) ?_
  refine s_y (v := .pointer (some ⟨b1, 1, none⟩)) rfl (y_fld (o := 0) T46.fld_65_1_1 rfl) ?_
  refine s_y (v := .slice afx nfx cfx) rfl (y_load T46.one_24 rfl (hB31.cell (j := 1) rfl)) ?_
  refine s_y (v := .pointer (some ⟨b14, 1, none⟩)) rfl (y_fld (o := 0) T46.fld_65_1_1 rfl) ?_
  refine s_y (v := .slice bfx mfx efx) rfl (y_load T46.one_24 rfl (hB32.cell (j := 1) rfl)) ?_
  refine s_k rfl (k_call T46.fn_71 (c_l_eqFloat32S _ hS35 qlfx qkfx hS36 rlfx rkfx (by omega)) rfl ?_)
  rintro _ w40 ⟨rfl, e41⟩
  have hB42 := hB31.ext0 e41
  have hB43 := hB32.ext0 e41
  have hS44 := hS33.ext0 e41
  have hS45 := hS34.ext0 e41
  have hS46 := hS35.ext0 e41
  have hS47 := hS36.ext0 e41
  have hS48 := hS37.ext0 e41
  have hS49 := hS38.ext0 e41
  have E50 := E39.fresh e41 (fun _ h _ => h.elim)
  refine s_y (v := .bool false) rfl (y_not rfl rfl) ?_
  refine s_nil ?_
  refine W_if_f (by decide) rfl ?_
  refine W_skip ?_
  refine W_seq ?_
  refine W_seq ?_
  refine W_region (by kernel_rfl) ?_
  refine s_y (v := .pointer (some ⟨b1, 2, none⟩)) rfl (y_fld (o := 0) T46.fld_65_2_2 rfl) ?_
  refine s_y (v := .slice afy nfy cfy) rfl (y_load T46.one_24 rfl (hB42.cell (j := 2) rfl)) ?_
  refine s_y (v := .pointer (some ⟨b14, 2, none⟩)) rfl (y_fld (o := 0) T46.fld_65_2_2 rfl) ?_
  refine s_y (v := .slice bfy mfy efy) rfl (y_load T46.one_24 rfl (hB43.cell (j := 2) rfl)) ?_
  refine s_k rfl (k_call T46.fn_71 (c_l_eqFloat32S _ hS48 qlfy qkfy hS49 rlfy rkfy (by omega)) rfl ?_)
  rintro _ w51 ⟨rfl, e52⟩
  have hB53 := hB42.ext0 e52
  have hB54 := hB43.ext0 e52
  have hS55 := hS44.ext0 e52
  have hS56 := hS45.ext0 e52
  have hS57 := hS46.ext0 e52
  have hS58 := hS47.ext0 e52
  have hS59 := hS48.ext0 e52
  have hS60 := hS49.ext0 e52
  have E61 := E50.fresh e52 (fun _ h _ => h.elim)
  refine s_y (v := .bool false) rfl (y_not rfl rfl) ?_
  refine s_nil ?_
  refine W_if_f (by decide) rfl ?_
  refine W_skip ?_
  refine W_seq ?_
  refine W_region (by kernel_rfl) ?_
  refine s_y (v := .bool true) rfl (y_assign rfl) ?_
  refine s_nil ?_
  refine W_ret ?_
  refine ret1 rfl rfl rfl ⟨_, rfl, ?_⟩
  exact ⟨rfl, E61⟩
end Go.Proofs.Ytcggpjocghigcaa
