/- Walks: what the functions do that many laws of this seat reach (part 1). Printed by a program of this claim's author. -/
import Derived.Test.YtgohmocjjmkepaaBaseA
import Derived.Test.YtgohmocjjmkepaaBaseB
import Derived.Test.YtgohmocjjmkepaaModA
import Derived.Test.YtgohmocjjmkepaaModB
import Derived.Test.YtgohmocjjmkepaaModC
import Derived.Test.YtgohmocjjmkepaaModD
import Derived.Test.YtgohmocjjmkepaaModE
import Derived.Test.YtgohmocjjmkepaaProg
set_option linter.unusedSimpArgs false
set_option linter.unusedVariables false
open Go.Wv
namespace Go.Proofs.Ytgohmocjjmkepaa
open Go.Proofs
namespace T74
theorem mx : Try.prog.follows .mixedOrders = true := by kernel_rfl
end T74
set_option maxRecDepth 100000 in
set_option maxHeartbeats 4000000 in
theorem c_i_within {n : Int} {lo : Int} {hi : Int} {w : World} :
    Calls Try.prog 74 #[.int .i64 n, .int .i64 lo, .int .i64 hi] w (Rt fun v w' => v = .bool (within n lo hi) ∧ Ext0 w w') := by
  have B : Bu w no w [] := Bu.ro All.nil rfl
  refine calls_W (n := 15) Try.func74 rfl rfl (Nat.le_of_ble_eq_true rfl) ?_
  refine W_seq ?_
  refine W_region (by kernel_rfl) ?_
  refine s_y (v := .bool false) rfl (y_assign rfl) ?_
  refine s_nil ?_
  refine W_seq ?_
  refine W_region (by kernel_rfl) ?_
  refine s_y (v := .int .i64 n) rfl (y_move rfl) ?_
  refine s_y (v := .int .i64 lo) rfl (y_move rfl) ?_
  by_cases c1 : lo ≤ n
  · refine s_y (v := .bool true) rfl (y_geq rfl rfl (decide_eq_true c1)) ?_
    refine s_y (v := .bool true) rfl (y_move rfl) ?_
    refine s_y (v := .int .i64 n) rfl (y_move rfl) ?_
    refine s_y (v := .int .i64 hi) rfl (y_move rfl) ?_
    by_cases c2 : n ≤ hi
    · refine s_y (v := .bool true) rfl (y_leq rfl rfl (decide_eq_true c2)) ?_
      refine s_y (v := .bool true) rfl (y_pick_t rfl rfl) ?_
      refine s_y (v := .bool true) rfl (y_assign rfl) ?_
      refine s_nil ?_
      refine W_ret ?_
      refine ret1 (v := .bool true) rfl rfl rfl ⟨_, rfl, ?_⟩
      exact ⟨congrArg Value.bool (by simp [within] <;> omega), B.ext⟩
    · refine s_y (v := .bool false) rfl (y_leq rfl rfl (decide_eq_false c2)) ?_
      refine s_y (v := .bool false) rfl (y_pick_t rfl rfl) ?_
      refine s_y (v := .bool false) rfl (y_assign rfl) ?_
      refine s_nil ?_
      refine W_ret ?_
      refine ret1 (v := .bool false) rfl rfl rfl ⟨_, rfl, ?_⟩
      exact ⟨congrArg Value.bool (by simp [within] <;> omega), B.ext⟩
  · refine s_y (v := .bool false) rfl (y_geq rfl rfl (decide_eq_false c1)) ?_
    refine s_y (v := .bool false) rfl (y_move rfl) ?_
    refine s_skip rfl ?_
    refine s_skip rfl ?_
    refine s_skip rfl ?_
    refine s_y (v := .bool false) rfl (y_pick_f rfl rfl) ?_
    refine s_y (v := .bool false) rfl (y_assign rfl) ?_
    refine s_nil ?_
    refine W_ret ?_
    refine ret1 (v := .bool false) rfl rfl rfl ⟨_, rfl, ?_⟩
    exact ⟨congrArg Value.bool (by simp [within] <;> omega), B.ext⟩
namespace T119
theorem mx : Try.prog.follows .mixedOrders = true := by kernel_rfl
theorem one_34 : oneB Try.prog 34 = true := by kernel_rfl
theorem sl_24_34_1 : slB Try.prog 24 34 1 = true := by kernel_rfl
end T119
set_option maxRecDepth 100000 in
set_option maxHeartbeats 4000000 in
theorem c_i_areBetween {a : Option Addr} {n : Nat} {c : Nat} {X : List Nat} {m : Nat} {M : Nat} {w : World} (q : Rd w kF a n X) (hm : Cn .f32 m M) (hb : n ≤ 9223372036854775806) :
    Calls Try.prog 119 #[.slice a n c, .float .f32 m] w (Rt fun v w' => v = .bool (allI (n : Nat) (betw M X)) ∧ Ext0 w w') := by
  have hl := q.len
  have B : Bu w no w [.rd kF a n X] := Bu.ro (All.cons q All.nil) rfl
  refine calls_W (n := 22) Try.func119 rfl rfl (Nat.le_of_ble_eq_true rfl) ?_
  refine W_seq ?_
  refine W_region (by kernel_rfl) ?_
  refine s_y (v := .bool false) rfl (y_assign rfl) ?_
  refine s_nil ?_
  refine W_seq ?_
  refine W_seq ?_
  refine W_region (by kernel_rfl) ?_
  refine s_y (v := .slice a n c) rfl (y_move rfl) ?_
  refine s_y (v := .int .i64 ((n : Nat) : Int)) rfl (y_len T119.sl_24_34_1 rfl rfl) ?_
  refine s_y (v := .int .i64 0) rfl (y_move rfl) ?_
  refine s_nil ?_
  refine W_block ?_
  refine W_loop (fun ρ' w' => ∃ (ρ1 : Env) (k : Int), ρ' = updL ρ1 [(1, .float .f32 m), (7, .slice a n c), (8, .int .i64 ((n : Nat) : Int)), (9, .int .i64 k)] ∧ Bu w no w' [.rd kF a n X] ∧ (0 ≤ k) ∧ (k ≤ (n : Int)) ∧ (∀ i, 0 ≤ i → i < k → betw M X i = true)) (fun ρ' _ => ((n : Int) - iv (ρ' 9)).toNat) ?_ ?_
  · exact ⟨_, 0, Fits.eq ⟨rfl, rfl, rfl, rfl, trivial⟩, B, (Int.le_refl _), (by omega), (by intro i h0 h1; omega)⟩
  · clear B; rintro _ w1 ⟨ρ2, k, rfl, B, h0k, h1k, hq⟩
    refine W_seq ?_
    refine W_region (by kernel_rfl) ?_
    by_cases c3 : k < ((n : Nat) : Int)
    · refine s_y (v := .bool true) rfl (y_lss rfl rfl (decide_eq_true c3)) ?_
      refine s_nil ?_
      refine W_seq ?_
      refine W_if_t (by decide) rfl ?_
      refine W_skip ?_
      refine W_seq ?_
      refine W_block ?_
      refine W_seq ?_
      refine W_region (by kernel_rfl) ?_
      refine s_y (v := .pointer (some (sat a ((k).toNat * 1)))) rfl (y_idx T119.sl_24_34_1 rfl rfl ((B.r 0 rfl).addr (by omega)) (by omega) (by omega)) ?_
      obtain ⟨r5, hr6, hR4⟩ := Rd.atF (B.r 0 rfl) k (by omega) (by omega)
      refine s_y (v := .float .f32 r5) rfl (y_load T119.one_34 rfl (hR4.cell (i := 0) rfl)) ?_
      refine s_y (v := .float .f32 r5) rfl (y_assign rfl) ?_
      refine s_nil ?_
      refine W_seq ?_
      refine W_region (by kernel_rfl) ?_
      refine s_y (v := .float .f32 r5) rfl (y_move rfl) ?_
      by_cases c7 : fge .f32 (el X k) 0 = true
      · refine s_y (v := .bool true) rfl (y_fgeq rfl rfl (fgeC hr6 (cnLit (k := .f32) (t := 0) (by kernel_rfl) (by kernel_rfl)) c7)) ?_
        refine s_y (v := .bool true) rfl (y_move rfl) ?_
        refine s_y (v := .float .f32 r5) rfl (y_move rfl) ?_
        refine s_y (v := .float .f32 m) rfl (y_move rfl) ?_
        by_cases c8 : fle .f32 (el X k) M = true
        · refine s_y (v := .bool true) rfl (y_fleq rfl rfl (fleC hr6 hm c8)) ?_
          refine s_y (v := .bool true) rfl (y_pick_t rfl rfl) ?_
          refine s_y (v := .bool false) rfl (y_not rfl rfl) ?_
          refine s_nil ?_
          refine W_if_f (by decide) rfl ?_
          refine W_skip ?_
          refine W_region (by kernel_rfl) ?_
          refine s_y (v := .int .i64 (k + 1)) rfl (y_add rfl rfl rfl (by omega)) ?_
          refine s_y (v := .int .i64 (k + 1)) rfl (y_move rfl) ?_
          refine s_nil ?_
          refine ⟨⟨_, k + 1, Fits.eq ⟨rfl, rfl, rfl, rfl, trivial⟩, B, (by omega), (by omega), (allI_more hq (betw_yes (by assumption) (by assumption)))⟩, ?_⟩
          show ((n : Int) - (k + 1)).toNat < ((n : Int) - k).toNat
          omega
        · refine s_y (v := .bool false) rfl (y_fleq rfl rfl (fleC hr6 hm (Bool.eq_false_iff.2 c8))) ?_
          refine s_y (v := .bool false) rfl (y_pick_t rfl rfl) ?_
          refine s_y (v := .bool true) rfl (y_not rfl rfl) ?_
          refine s_nil ?_
          refine W_if_t (by decide) rfl ?_
          refine W_seq ?_
          refine W_region (by kernel_rfl) ?_
          refine s_y (v := .bool false) rfl (y_assign rfl) ?_
          refine s_nil ?_
          refine W_ret ?_
          refine ret1 (v := .bool false) rfl rfl rfl ⟨_, rfl, ?_⟩
          exact ⟨congrArg Value.bool ((allI_false (by omega) (by omega) (by first | exact betw_no1 (by assumption) | exact betw_no2 (by assumption))).symm), B.ext⟩
      · refine s_y (v := .bool false) rfl (y_fgeq rfl rfl (fgeC hr6 (cnLit (k := .f32) (t := 0) (by kernel_rfl) (by kernel_rfl)) (Bool.eq_false_iff.2 c7))) ?_
        refine s_y (v := .bool false) rfl (y_move rfl) ?_
        refine s_skip rfl ?_
        refine s_skip rfl ?_
        refine s_skip rfl ?_
        refine s_y (v := .bool false) rfl (y_pick_f rfl rfl) ?_
        refine s_y (v := .bool true) rfl (y_not rfl rfl) ?_
        refine s_nil ?_
        refine W_if_t (by decide) rfl ?_
        refine W_seq ?_
        refine W_region (by kernel_rfl) ?_
        refine s_y (v := .bool false) rfl (y_assign rfl) ?_
        refine s_nil ?_
        refine W_ret ?_
        refine ret1 (v := .bool false) rfl rfl rfl ⟨_, rfl, ?_⟩
        exact ⟨congrArg Value.bool ((allI_false (by omega) (by omega) (by first | exact betw_no1 (by assumption) | exact betw_no2 (by assumption))).symm), B.ext⟩
    · refine s_y (v := .bool false) rfl (y_lss rfl rfl (decide_eq_false c3)) ?_
      refine s_nil ?_
      refine W_seq ?_
      refine W_if_f (by decide) rfl ?_
      refine W_exit ?_
      refine W_seq ?_
      refine W_region (by kernel_rfl) ?_
      refine s_y (v := .bool true) rfl (y_assign rfl) ?_
      refine s_nil ?_
      refine W_ret ?_
      refine ret1 (v := .bool true) rfl rfl rfl ⟨_, rfl, ?_⟩
      exact ⟨congrArg Value.bool ((allI_true (fun i h0 h1 => hq i h0 (by omega))).symm), B.ext⟩
namespace T65
theorem mx : Try.prog.follows .mixedOrders = true := by kernel_rfl
theorem fld_26_0_0 : fldB Try.prog 26 0 0 = true := by kernel_rfl
theorem fld_26_1_1 : fldB Try.prog 26 1 1 = true := by kernel_rfl
theorem fld_26_3_3 : fldB Try.prog 26 3 3 = true := by kernel_rfl
theorem fld_26_4_4 : fldB Try.prog 26 4 4 = true := by kernel_rfl
theorem fn_119 : fnB Try.prog 119 = true := by kernel_rfl
theorem fn_74 : fnB Try.prog 74 = true := by kernel_rfl
theorem one_2 : oneB Try.prog 2 = true := by kernel_rfl
theorem one_24 : oneB Try.prog 24 = true := by kernel_rfl
theorem sl_24_34_1 : slB Try.prog 24 34 1 = true := by kernel_rfl
end T65
set_option maxRecDepth 100000 in
set_option maxHeartbeats 4000000 in
theorem c_i_ValidSheet {wd : Int} {hi : Int} {wr : Bool} {asp : Option Addr} {nsp : Nat} {csp : Nat} {Xsp : List Nat} {als : Option Addr} {nls : Nat} {cls : Nat} {Xls : List Nat} {w : World} (qsp : Rd w kF asp nsp Xsp) (qls : Rd w kF als nls Xls) (hbsp : nsp ≤ 9223372036854775806) (hbls : nls ≤ 9223372036854775806) :
    Calls Try.prog 65 #[.agg #[.int .i64 wd, .int .i64 hi, .bool wr, .slice asp nsp csp, .slice als nls cls]] w (Rt fun v w' => v = .bool (validS wd hi Xsp Xls) ∧ Ext0 w w') := by
  have hlsp := qsp.len
  have hlls := qls.len
  have B : Bu w no w [.rd kF asp nsp Xsp, .rd kF als nls Xls] := Bu.ro (All.cons qsp (All.cons qls All.nil)) rfl
  refine calls_W (n := 45) Try.func65 rfl rfl (Nat.le_of_ble_eq_true rfl) ?_
  refine W_seq ?_
  refine W_region (by kernel_rfl) ?_
  refine s_k rfl (k_boxN (v := .agg #[.int .i64 wd, .int .i64 hi, .bool wr, .slice asp nsp csp, .slice als nls cls]) (cs := [.int .i64 wd, .int .i64 hi, .bool wr, .slice asp nsp csp, .slice als nls cls]) rfl rfl (fun b1 w2 hN3 => ?_))
  replace B := B.new1 hN3
  clear hN3
  refine s_y (v := .bool false) rfl (y_assign rfl) ?_
  refine s_nil ?_
  refine W_seq ?_
  refine W_region (by kernel_rfl) ?_
  refine s_y (v := .pointer (some ⟨b1, 0, none⟩)) rfl (y_fld (o := 0) T65.fld_26_0_0 rfl) ?_
  refine s_y (v := .int .i64 wd) rfl (y_load T65.one_2 rfl ((B.b 0 rfl).cell (j := 0) rfl)) ?_
  refine s_y (v := .pointer (some ⟨b1, 1, none⟩)) rfl (y_fld (o := 0) T65.fld_26_1_1 rfl) ?_
  refine s_y (v := .int .i64 hi) rfl (y_load T65.one_2 rfl ((B.b 0 rfl).cell (j := 1) rfl)) ?_
  by_cases hr4 : -9223372036854775808 ≤ wd * hi ∧ wd * hi ≤ 9223372036854775807
  · refine s_y (v := .int .i64 (wd * hi)) rfl (y_mul rfl rfl rfl hr4) ?_
    refine s_y (v := .int .i64 (wd * hi)) rfl (y_assign rfl) ?_
    refine s_nil ?_
    refine W_seq ?_
    refine W_seq ?_
    refine W_region (by kernel_rfl) ?_
    refine s_y (v := .pointer (some ⟨b1, 0, none⟩)) rfl (y_fld (o := 0) T65.fld_26_0_0 rfl) ?_
    refine s_y (v := .int .i64 wd) rfl (y_load T65.one_2 rfl ((B.b 0 rfl).cell (j := 0) rfl)) ?_
    refine s_k rfl (k_call T65.fn_74 (c_i_within) rfl ?_)
    rintro v7 w5 ⟨hv8, e6⟩
    replace B := B.ext0 e6
    clear e6
    by_cases c9 : within wd 3 16 = true
    · have hb10 := within_b c9
      obtain rfl : v7 = .bool true := hv8.trans (congrArg Value.bool c9)
      refine s_y (v := .bool false) rfl (y_not rfl rfl) ?_
      refine s_y (v := .bool false) rfl (y_move rfl) ?_
      refine s_y (v := .pointer (some ⟨b1, 1, none⟩)) rfl (y_fld (o := 0) T65.fld_26_1_1 rfl) ?_
      refine s_y (v := .int .i64 hi) rfl (y_load T65.one_2 rfl ((B.b 0 rfl).cell (j := 1) rfl)) ?_
      refine s_k rfl (k_call T65.fn_74 (c_i_within) rfl ?_)
      rintro v13 w11 ⟨hv14, e12⟩
      replace B := B.ext0 e12
      clear e12
      by_cases c15 : within hi 3 16 = true
      · have hb16 := within_b c15
        obtain rfl : v13 = .bool true := hv14.trans (congrArg Value.bool c15)
        refine s_y (v := .bool false) rfl (y_not rfl rfl) ?_
        refine s_y (v := .bool false) rfl (y_pick_f rfl rfl) ?_
        refine s_y (v := .bool false) rfl (y_move rfl) ?_
        refine s_y (v := .int .i64 (wd * hi)) rfl (y_move rfl) ?_
        have hk17 : ¬ (256 < (wd * hi)) := (by have hz := mul16 (And.intro (within_b c9) (within_b c15)); omega)
        refine s_y (v := .bool false) rfl (y_gtr rfl rfl (decide_eq_false hk17)) ?_
        refine s_y (v := .bool false) rfl (y_pick_f rfl rfl) ?_
        refine s_nil ?_
        refine W_if_f (by decide) rfl ?_
        refine W_skip ?_
        refine W_seq ?_
        refine W_region (by kernel_rfl) ?_
        refine s_y (v := .pointer (some ⟨b1, 3, none⟩)) rfl (y_fld (o := 0) T65.fld_26_3_3 rfl) ?_
        refine s_y (v := .slice asp nsp csp) rfl (y_load T65.one_24 rfl ((B.b 0 rfl).cell (j := 3) rfl)) ?_
        refine s_y (v := .int .i64 ((nsp : Nat) : Int)) rfl (y_len T65.sl_24_34_1 rfl rfl) ?_
        refine s_y (v := .int .i64 (wd * hi)) rfl (y_move rfl) ?_
        by_cases c18 : ((nsp : Nat) : Int) = (wd * hi)
        · refine s_y (v := .bool true) rfl (y_eql rfl rfl (decide_eq_true c18)) ?_
          refine s_y (v := .bool true) rfl (y_move rfl) ?_
          refine s_y (v := .pointer (some ⟨b1, 4, none⟩)) rfl (y_fld (o := 0) T65.fld_26_4_4 rfl) ?_
          refine s_y (v := .slice als nls cls) rfl (y_load T65.one_24 rfl ((B.b 0 rfl).cell (j := 4) rfl)) ?_
          refine s_y (v := .int .i64 ((nls : Nat) : Int)) rfl (y_len T65.sl_24_34_1 rfl rfl) ?_
          refine s_y (v := .int .i64 (wd * hi)) rfl (y_move rfl) ?_
          by_cases c19 : ((nls : Nat) : Int) = (wd * hi)
          · refine s_y (v := .bool true) rfl (y_eql rfl rfl (decide_eq_true c19)) ?_
            refine s_y (v := .bool true) rfl (y_pick_t rfl rfl) ?_
            refine s_y (v := .bool true) rfl (y_move rfl) ?_
            refine s_y (v := .pointer (some ⟨b1, 3, none⟩)) rfl (y_fld (o := 0) T65.fld_26_3_3 rfl) ?_
            refine s_y (v := .slice asp nsp csp) rfl (y_load T65.one_24 rfl ((B.b 0 rfl).cell (j := 3) rfl)) ?_
            refine s_k rfl (k_call T65.fn_119 (c_i_areBetween (B.r 1 rfl) (cnLit (k := .f32) (t := 1056964608) (by kernel_rfl) (by kernel_rfl)) (by omega)) rfl ?_)
            rintro v22 w20 ⟨hv23, e21⟩
            replace B := B.ext0 e21
            clear e21
            by_cases c24 : allI (nsp : Nat) (betw 1056964608 Xsp) = true
            · obtain rfl : v22 = .bool true := hv23.trans (congrArg Value.bool c24)
              refine s_y (v := .bool true) rfl (y_pick_t rfl rfl) ?_
              refine s_y (v := .bool true) rfl (y_move rfl) ?_
              refine s_y (v := .pointer (some ⟨b1, 4, none⟩)) rfl (y_fld (o := 0) T65.fld_26_4_4 rfl) ?_
              refine s_y (v := .slice als nls cls) rfl (y_load T65.one_24 rfl ((B.b 0 rfl).cell (j := 4) rfl)) ?_
              refine s_k rfl (k_call T65.fn_119 (c_i_areBetween (B.r 2 rfl) (cnLit (k := .f32) (t := 1065353216) (by kernel_rfl) (by kernel_rfl)) (by omega)) rfl ?_)
              rintro v27 w25 ⟨hv28, e26⟩
              replace B := B.ext0 e26
              clear e26
              by_cases c29 : allI (nls : Nat) (betw 1065353216 Xls) = true
              · obtain rfl : v27 = .bool true := hv28.trans (congrArg Value.bool c29)
                refine s_y (v := .bool true) rfl (y_pick_t rfl rfl) ?_
                refine s_y (v := .bool true) rfl (y_assign rfl) ?_
                refine s_nil ?_
                refine W_ret ?_
                refine ret1 (v := .bool true) rfl rfl rfl ⟨_, rfl, ?_⟩
                exact ⟨congrArg Value.bool (by simp only [validS_eq hlsp hlls, c9, c15, (decide_eq_false hk17), (decide_eq_true c18), (decide_eq_true c19), c24, c29, Bool.and_true, Bool.true_and, Bool.and_false, Bool.false_and, Bool.not_true, Bool.not_false, Bool.or_true, Bool.true_or, Bool.or_false, Bool.false_or]), B.ext⟩
              · obtain rfl : v27 = .bool false := hv28.trans (congrArg Value.bool (Bool.eq_false_iff.2 c29))
                refine s_y (v := .bool false) rfl (y_pick_t rfl rfl) ?_
                refine s_y (v := .bool false) rfl (y_assign rfl) ?_
                refine s_nil ?_
                refine W_ret ?_
                refine ret1 (v := .bool false) rfl rfl rfl ⟨_, rfl, ?_⟩
                exact ⟨congrArg Value.bool (by simp only [validS_eq hlsp hlls, c9, c15, (decide_eq_false hk17), (decide_eq_true c18), (decide_eq_true c19), c24, (Bool.eq_false_iff.2 c29), Bool.and_true, Bool.true_and, Bool.and_false, Bool.false_and, Bool.not_true, Bool.not_false, Bool.or_true, Bool.true_or, Bool.or_false, Bool.false_or]), B.ext⟩
            · obtain rfl : v22 = .bool false := hv23.trans (congrArg Value.bool (Bool.eq_false_iff.2 c24))
              refine s_y (v := .bool false) rfl (y_pick_t rfl rfl) ?_
              refine s_y (v := .bool false) rfl (y_move rfl) ?_
              refine s_skip rfl ?_
              refine s_skip rfl ?_
              refine s_skip rfl ?_
              refine s_y (v := .bool false) rfl (y_pick_f rfl rfl) ?_
              refine s_y (v := .bool false) rfl (y_assign rfl) ?_
              refine s_nil ?_
              refine W_ret ?_
              refine ret1 (v := .bool false) rfl rfl rfl ⟨_, rfl, ?_⟩
              exact ⟨congrArg Value.bool (by simp only [validS_eq hlsp hlls, c9, c15, (decide_eq_false hk17), (decide_eq_true c18), (decide_eq_true c19), (Bool.eq_false_iff.2 c24), Bool.and_true, Bool.true_and, Bool.and_false, Bool.false_and, Bool.not_true, Bool.not_false, Bool.or_true, Bool.true_or, Bool.or_false, Bool.false_or]), B.ext⟩
          · refine s_y (v := .bool false) rfl (y_eql rfl rfl (decide_eq_false c19)) ?_
            refine s_y (v := .bool false) rfl (y_pick_t rfl rfl) ?_
            refine s_y (v := .bool false) rfl (y_move rfl) ?_
            refine s_skip rfl ?_
            refine s_skip rfl ?_
            refine s_skip rfl ?_
            refine s_y (v := .bool false) rfl (y_pick_f rfl rfl) ?_
            refine s_y (v := .bool false) rfl (y_move rfl) ?_
            refine s_skip rfl ?_
            refine s_skip rfl ?_
            refine s_skip rfl ?_
            refine s_y (v := .bool false) rfl (y_pick_f rfl rfl) ?_
            refine s_y (v := .bool false) rfl (y_assign rfl) ?_
            refine s_nil ?_
            refine W_ret ?_
            refine ret1 (v := .bool false) rfl rfl rfl ⟨_, rfl, ?_⟩
            exact ⟨congrArg Value.bool (by simp only [validS_eq hlsp hlls, c9, c15, (decide_eq_false hk17), (decide_eq_true c18), (decide_eq_false c19), Bool.and_true, Bool.true_and, Bool.and_false, Bool.false_and, Bool.not_true, Bool.not_false, Bool.or_true, Bool.true_or, Bool.or_false, Bool.false_or]), B.ext⟩
        · refine s_y (v := .bool false) rfl (y_eql rfl rfl (decide_eq_false c18)) ?_
          refine s_y (v := .bool false) rfl (y_move rfl) ?_
          refine s_skip rfl ?_
          refine s_skip rfl ?_
          refine s_skip rfl ?_
          refine s_skip rfl ?_
          refine s_skip rfl ?_
          refine s_y (v := .bool false) rfl (y_pick_f rfl rfl) ?_
          refine s_y (v := .bool false) rfl (y_move rfl) ?_
          refine s_skip rfl ?_
          refine s_skip rfl ?_
          refine s_skip rfl ?_
          refine s_y (v := .bool false) rfl (y_pick_f rfl rfl) ?_
          refine s_y (v := .bool false) rfl (y_move rfl) ?_
          refine s_skip rfl ?_
          refine s_skip rfl ?_
          refine s_skip rfl ?_
          refine s_y (v := .bool false) rfl (y_pick_f rfl rfl) ?_
          refine s_y (v := .bool false) rfl (y_assign rfl) ?_
          refine s_nil ?_
          refine W_ret ?_
          refine ret1 (v := .bool false) rfl rfl rfl ⟨_, rfl, ?_⟩
          exact ⟨congrArg Value.bool (by simp only [validS_eq hlsp hlls, c9, c15, (decide_eq_false hk17), (decide_eq_false c18), Bool.and_true, Bool.true_and, Bool.and_false, Bool.false_and, Bool.not_true, Bool.not_false, Bool.or_true, Bool.true_or, Bool.or_false, Bool.false_or]), B.ext⟩
      · obtain rfl : v13 = .bool false := hv14.trans (congrArg Value.bool (Bool.eq_false_iff.2 c15))
        refine s_y (v := .bool true) rfl (y_not rfl rfl) ?_
        refine s_y (v := .bool true) rfl (y_pick_f rfl rfl) ?_
        refine s_y (v := .bool true) rfl (y_move rfl) ?_
        refine s_skip rfl ?_
        refine s_skip rfl ?_
        refine s_y (v := .bool true) rfl (y_pick_t rfl rfl) ?_
        refine s_nil ?_
        refine W_if_t (by decide) rfl ?_
        refine W_seq ?_
        refine W_region (by kernel_rfl) ?_
        refine s_y (v := .bool false) rfl (y_assign rfl) ?_
        refine s_nil ?_
        refine W_ret ?_
        refine ret1 (v := .bool false) rfl rfl rfl ⟨_, rfl, ?_⟩
        exact ⟨congrArg Value.bool (by simp only [validS_eq hlsp hlls, c9, (Bool.eq_false_iff.2 c15), Bool.and_true, Bool.true_and, Bool.and_false, Bool.false_and, Bool.not_true, Bool.not_false, Bool.or_true, Bool.true_or, Bool.or_false, Bool.false_or]), B.ext⟩
    · obtain rfl : v7 = .bool false := hv8.trans (congrArg Value.bool (Bool.eq_false_iff.2 c9))
      refine s_y (v := .bool true) rfl (y_not rfl rfl) ?_
      refine s_y (v := .bool true) rfl (y_move rfl) ?_
      refine s_skip rfl ?_
      refine s_skip rfl ?_
      refine s_skip rfl ?_
      refine s_skip rfl ?_
      refine s_y (v := .bool true) rfl (y_pick_t rfl rfl) ?_
      refine s_y (v := .bool true) rfl (y_move rfl) ?_
      refine s_skip rfl ?_
      refine s_skip rfl ?_
      refine s_y (v := .bool true) rfl (y_pick_t rfl rfl) ?_
      refine s_nil ?_
      refine W_if_t (by decide) rfl ?_
      refine W_seq ?_
      refine W_region (by kernel_rfl) ?_
      refine s_y (v := .bool false) rfl (y_assign rfl) ?_
      refine s_nil ?_
      refine W_ret ?_
      refine ret1 (v := .bool false) rfl rfl rfl ⟨_, rfl, ?_⟩
      exact ⟨congrArg Value.bool (by simp only [validS_eq hlsp hlls, (Bool.eq_false_iff.2 c9), Bool.and_true, Bool.true_and, Bool.and_false, Bool.false_and, Bool.not_true, Bool.not_false, Bool.or_true, Bool.true_or, Bool.or_false, Bool.false_or]), B.ext⟩
  · have hw30 := wrap64_b (wd * hi)
    refine s_y (v := .int .i64 (IntKind.i64.wrap (wd * hi))) rfl (y_mulw rfl rfl) ?_
    refine s_y (v := .int .i64 (IntKind.i64.wrap (wd * hi))) rfl (y_assign rfl) ?_
    refine s_nil ?_
    refine W_seq ?_
    refine W_seq ?_
    refine W_region (by kernel_rfl) ?_
    refine s_y (v := .pointer (some ⟨b1, 0, none⟩)) rfl (y_fld (o := 0) T65.fld_26_0_0 rfl) ?_
    refine s_y (v := .int .i64 wd) rfl (y_load T65.one_2 rfl ((B.b 0 rfl).cell (j := 0) rfl)) ?_
    refine s_k rfl (k_call T65.fn_74 (c_i_within) rfl ?_)
    rintro v33 w31 ⟨hv34, e32⟩
    replace B := B.ext0 e32
    clear e32
    by_cases c35 : within wd 3 16 = true
    · have hb36 := within_b c35
      obtain rfl : v33 = .bool true := hv34.trans (congrArg Value.bool c35)
      refine s_y (v := .bool false) rfl (y_not rfl rfl) ?_
      refine s_y (v := .bool false) rfl (y_move rfl) ?_
      refine s_y (v := .pointer (some ⟨b1, 1, none⟩)) rfl (y_fld (o := 0) T65.fld_26_1_1 rfl) ?_
      refine s_y (v := .int .i64 hi) rfl (y_load T65.one_2 rfl ((B.b 0 rfl).cell (j := 1) rfl)) ?_
      refine s_k rfl (k_call T65.fn_74 (c_i_within) rfl ?_)
      rintro v39 w37 ⟨hv40, e38⟩
      replace B := B.ext0 e38
      clear e38
      have hk41 : ¬ (within hi 3 16 = true) := (fun hq => by have hz := mul16 (And.intro (within_b c35) (within_b hq)); omega)
      obtain rfl : v39 = .bool false := hv40.trans (congrArg Value.bool (Bool.eq_false_iff.2 hk41))
      refine s_y (v := .bool true) rfl (y_not rfl rfl) ?_
      refine s_y (v := .bool true) rfl (y_pick_f rfl rfl) ?_
      refine s_y (v := .bool true) rfl (y_move rfl) ?_
      refine s_skip rfl ?_
      refine s_skip rfl ?_
      refine s_y (v := .bool true) rfl (y_pick_t rfl rfl) ?_
      refine s_nil ?_
      refine W_if_t (by decide) rfl ?_
      refine W_seq ?_
      refine W_region (by kernel_rfl) ?_
      refine s_y (v := .bool false) rfl (y_assign rfl) ?_
      refine s_nil ?_
      refine W_ret ?_
      refine ret1 (v := .bool false) rfl rfl rfl ⟨_, rfl, ?_⟩
      exact ⟨congrArg Value.bool (by simp only [validS_eq hlsp hlls, c35, (Bool.eq_false_iff.2 hk41), Bool.and_true, Bool.true_and, Bool.and_false, Bool.false_and, Bool.not_true, Bool.not_false, Bool.or_true, Bool.true_or, Bool.or_false, Bool.false_or]), B.ext⟩
    · obtain rfl : v33 = .bool false := hv34.trans (congrArg Value.bool (Bool.eq_false_iff.2 c35))
      refine s_y (v := .bool true) rfl (y_not rfl rfl) ?_
      refine s_y (v := .bool true) rfl (y_move rfl) ?_
      refine s_skip rfl ?_
      refine s_skip rfl ?_
      refine s_skip rfl ?_
      refine s_skip rfl ?_
      refine s_y (v := .bool true) rfl (y_pick_t rfl rfl) ?_
      refine s_y (v := .bool true) rfl (y_move rfl) ?_
      refine s_skip rfl ?_
      refine s_skip rfl ?_
      refine s_y (v := .bool true) rfl (y_pick_t rfl rfl) ?_
      refine s_nil ?_
      refine W_if_t (by decide) rfl ?_
      refine W_seq ?_
      refine W_region (by kernel_rfl) ?_
      refine s_y (v := .bool false) rfl (y_assign rfl) ?_
      refine s_nil ?_
      refine W_ret ?_
      refine ret1 (v := .bool false) rfl rfl rfl ⟨_, rfl, ?_⟩
      exact ⟨congrArg Value.bool (by simp only [validS_eq hlsp hlls, (Bool.eq_false_iff.2 c35), Bool.and_true, Bool.true_and, Bool.and_false, Bool.false_and, Bool.not_true, Bool.not_false, Bool.or_true, Bool.true_or, Bool.or_false, Bool.false_or]), B.ext⟩
namespace T113
theorem mx : Try.prog.follows .mixedOrders = true := by kernel_rfl
end T113
set_option maxRecDepth 100000 in
set_option maxHeartbeats 4000000 in
theorem c_s_l00In {n : Int} {lo : Int} {hi : Int} {w : World} :
    Calls Try.prog 113 #[.int .i64 n, .int .i64 lo, .int .i64 hi] w (Rt fun v w' => v = .bool (within n lo hi) ∧ Ext0 w w') := by
  have B : Bu w no w [] := Bu.ro All.nil rfl
  refine calls_W (n := 15) Try.func113 rfl rfl (Nat.le_of_ble_eq_true rfl) ?_
  refine W_seq ?_
  refine W_region (by kernel_rfl) ?_
  refine s_y (v := .bool false) rfl (y_assign rfl) ?_
  refine s_nil ?_
  refine W_seq ?_
  refine W_region (by kernel_rfl) ?_
  refine s_y (v := .int .i64 n) rfl (y_move rfl) ?_
  refine s_y (v := .int .i64 lo) rfl (y_move rfl) ?_
  by_cases c1 : lo ≤ n
  · refine s_y (v := .bool true) rfl (y_geq rfl rfl (decide_eq_true c1)) ?_
    refine s_y (v := .bool true) rfl (y_move rfl) ?_
    refine s_y (v := .int .i64 n) rfl (y_move rfl) ?_
    refine s_y (v := .int .i64 hi) rfl (y_move rfl) ?_
    by_cases c2 : n ≤ hi
    · refine s_y (v := .bool true) rfl (y_leq rfl rfl (decide_eq_true c2)) ?_
      refine s_y (v := .bool true) rfl (y_pick_t rfl rfl) ?_
      refine s_y (v := .bool true) rfl (y_assign rfl) ?_
      refine s_nil ?_
      refine W_ret ?_
      refine ret1 (v := .bool true) rfl rfl rfl ⟨_, rfl, ?_⟩
      exact ⟨congrArg Value.bool (by simp [within] <;> omega), B.ext⟩
    · refine s_y (v := .bool false) rfl (y_leq rfl rfl (decide_eq_false c2)) ?_
      refine s_y (v := .bool false) rfl (y_pick_t rfl rfl) ?_
      refine s_y (v := .bool false) rfl (y_assign rfl) ?_
      refine s_nil ?_
      refine W_ret ?_
      refine ret1 (v := .bool false) rfl rfl rfl ⟨_, rfl, ?_⟩
      exact ⟨congrArg Value.bool (by simp [within] <;> omega), B.ext⟩
  · refine s_y (v := .bool false) rfl (y_geq rfl rfl (decide_eq_false c1)) ?_
    refine s_y (v := .bool false) rfl (y_move rfl) ?_
    refine s_skip rfl ?_
    refine s_skip rfl ?_
    refine s_skip rfl ?_
    refine s_y (v := .bool false) rfl (y_pick_f rfl rfl) ?_
    refine s_y (v := .bool false) rfl (y_assign rfl) ?_
    refine s_nil ?_
    refine W_ret ?_
    refine ret1 (v := .bool false) rfl rfl rfl ⟨_, rfl, ?_⟩
    exact ⟨congrArg Value.bool (by simp [within] <;> omega), B.ext⟩
namespace T144
theorem mx : Try.prog.follows .mixedOrders = true := by kernel_rfl
theorem fn_113 : fnB Try.prog 113 = true := by kernel_rfl
end T144
set_option maxRecDepth 100000 in
set_option maxHeartbeats 4000000 in
theorem c_s_l02Sides {wd : Int} {hi : Int} {w : World} :
    Calls Try.prog 144 #[.int .i64 wd, .int .i64 hi] w (Rt fun v w' => v = .bool (sidesB wd hi) ∧ Ext0 w w') := by
  have B : Bu w no w [] := Bu.ro All.nil rfl
  refine calls_W (n := 17) Try.func144 rfl rfl (Nat.le_of_ble_eq_true rfl) ?_
  refine W_seq ?_
  refine W_region (by kernel_rfl) ?_
  refine s_y (v := .bool false) rfl (y_assign rfl) ?_
  refine s_nil ?_
  refine W_seq ?_
  refine W_region (by kernel_rfl) ?_
  refine s_y (v := .int .i64 wd) rfl (y_move rfl) ?_
  refine s_k rfl (k_call T144.fn_113 (c_s_l00In) rfl ?_)
  rintro v3 w1 ⟨hv4, e2⟩
  replace B := B.ext0 e2
  clear e2
  by_cases c5 : within wd 3 16 = true
  · have hb6 := within_b c5
    obtain rfl : v3 = .bool true := hv4.trans (congrArg Value.bool c5)
    refine s_y (v := .bool true) rfl (y_move rfl) ?_
    refine s_y (v := .int .i64 hi) rfl (y_move rfl) ?_
    refine s_k rfl (k_call T144.fn_113 (c_s_l00In) rfl ?_)
    rintro v9 w7 ⟨hv10, e8⟩
    replace B := B.ext0 e8
    clear e8
    by_cases c11 : within hi 3 16 = true
    · have hb12 := within_b c11
      obtain rfl : v9 = .bool true := hv10.trans (congrArg Value.bool c11)
      refine s_y (v := .bool true) rfl (y_pick_t rfl rfl) ?_
      refine s_y (v := .bool true) rfl (y_move rfl) ?_
      refine s_y (v := .int .i64 wd) rfl (y_move rfl) ?_
      refine s_y (v := .int .i64 hi) rfl (y_move rfl) ?_
      have hm13 := mulb (a := wd) (b := hi) (by omega) (by omega) (by omega) (by omega)
      refine s_y (v := .int .i64 (wd * hi)) rfl (y_mul rfl rfl rfl (by omega)) ?_
      have hk14 : (wd * hi) ≤ 256 := (mul16 (And.intro (within_b c5) (within_b c11))).2
      refine s_y (v := .bool true) rfl (y_leq rfl rfl (decide_eq_true hk14)) ?_
      refine s_y (v := .bool true) rfl (y_pick_t rfl rfl) ?_
      refine s_y (v := .bool true) rfl (y_assign rfl) ?_
      refine s_nil ?_
      refine W_ret ?_
      refine ret1 (v := .bool true) rfl rfl rfl ⟨_, rfl, ?_⟩
      exact ⟨congrArg Value.bool (by simp only [sidesB, c5, c11, (decide_eq_true hk14), Bool.and_true, Bool.true_and, Bool.and_false, Bool.false_and, Bool.not_true, Bool.not_false, Bool.or_true, Bool.true_or, Bool.or_false, Bool.false_or]), B.ext⟩
    · obtain rfl : v9 = .bool false := hv10.trans (congrArg Value.bool (Bool.eq_false_iff.2 c11))
      refine s_y (v := .bool false) rfl (y_pick_t rfl rfl) ?_
      refine s_y (v := .bool false) rfl (y_move rfl) ?_
      refine s_skip rfl ?_
      refine s_skip rfl ?_
      refine s_skip rfl ?_
      refine s_skip rfl ?_
      refine s_y (v := .bool false) rfl (y_pick_f rfl rfl) ?_
      refine s_y (v := .bool false) rfl (y_assign rfl) ?_
      refine s_nil ?_
      refine W_ret ?_
      refine ret1 (v := .bool false) rfl rfl rfl ⟨_, rfl, ?_⟩
      exact ⟨congrArg Value.bool (by simp only [sidesB, c5, (Bool.eq_false_iff.2 c11), Bool.and_true, Bool.true_and, Bool.and_false, Bool.false_and, Bool.not_true, Bool.not_false, Bool.or_true, Bool.true_or, Bool.or_false, Bool.false_or]), B.ext⟩
  · obtain rfl : v3 = .bool false := hv4.trans (congrArg Value.bool (Bool.eq_false_iff.2 c5))
    refine s_y (v := .bool false) rfl (y_move rfl) ?_
    refine s_skip rfl ?_
    refine s_skip rfl ?_
    refine s_y (v := .bool false) rfl (y_pick_f rfl rfl) ?_
    refine s_y (v := .bool false) rfl (y_move rfl) ?_
    refine s_skip rfl ?_
    refine s_skip rfl ?_
    refine s_skip rfl ?_
    refine s_skip rfl ?_
    refine s_y (v := .bool false) rfl (y_pick_f rfl rfl) ?_
    refine s_y (v := .bool false) rfl (y_assign rfl) ?_
    refine s_nil ?_
    refine W_ret ?_
    refine ret1 (v := .bool false) rfl rfl rfl ⟨_, rfl, ?_⟩
    exact ⟨congrArg Value.bool (by simp only [sidesB, (Bool.eq_false_iff.2 c5), Bool.and_true, Bool.true_and, Bool.and_false, Bool.false_and, Bool.not_true, Bool.not_false, Bool.or_true, Bool.true_or, Bool.or_false, Bool.false_or]), B.ext⟩
namespace T124
theorem mx : Try.prog.follows .mixedOrders = true := by kernel_rfl
theorem fld_26_0_0 : fldB Try.prog 26 0 0 = true := by kernel_rfl
theorem fld_26_1_1 : fldB Try.prog 26 1 1 = true := by kernel_rfl
theorem fld_26_3_3 : fldB Try.prog 26 3 3 = true := by kernel_rfl
theorem fld_26_4_4 : fldB Try.prog 26 4 4 = true := by kernel_rfl
theorem fn_144 : fnB Try.prog 144 = true := by kernel_rfl
theorem one_2 : oneB Try.prog 2 = true := by kernel_rfl
theorem one_24 : oneB Try.prog 24 = true := by kernel_rfl
theorem one_34 : oneB Try.prog 34 = true := by kernel_rfl
theorem sl_24_34_1 : slB Try.prog 24 34 1 = true := by kernel_rfl
end T124
set_option maxRecDepth 100000 in
set_option maxHeartbeats 4000000 in
theorem c_s_l02Is {b : Nat} {o : Nat} {wd : Int} {hi : Int} {wr : Bool} {asp : Option Addr} {nsp : Nat} {csp : Nat} {Xsp : List Nat} {als : Option Addr} {nls : Nat} {cls : Nat} {Xls : List Nat} {w : World} (qsp : Rd w kF asp nsp Xsp) (qls : Rd w kF als nls Xls) (Pb : Sl w (some ⟨b, o, none⟩) [.int .i64 wd, .int .i64 hi, .bool wr, .slice asp nsp csp, .slice als nls cls]) (hbsp : nsp ≤ 9223372036854775806) (hbls : nls ≤ 9223372036854775806) :
    Calls Try.prog 124 #[.pointer (some ⟨b, o, none⟩)] w (Rt fun v w' => v = .bool (validS wd hi Xsp Xls) ∧ Ext0 w w') := by
  have hlsp := qsp.len
  have hlls := qls.len
  have B : Bu w no w [.rd kF asp nsp Xsp, .rd kF als nls Xls, .sl (some ⟨b, o, none⟩) [.int .i64 wd, .int .i64 hi, .bool wr, .slice asp nsp csp, .slice als nls cls]] := Bu.ro (All.cons qsp (All.cons qls (All.cons Pb All.nil))) rfl
  refine calls_W (n := 97) Try.func124 rfl rfl (Nat.le_of_ble_eq_true rfl) ?_
  refine W_seq ?_
  refine W_region (by kernel_rfl) ?_
  refine s_y (v := .bool false) rfl (y_assign rfl) ?_
  refine s_nil ?_
  refine W_seq ?_
  refine W_seq ?_
  have B0_5 := B
  refine W_draw (no) T124.mx (by kernel_rfl) (fun w3 e4 => ?_)
  have R6 := Ext.refl (no) w
  replace R6 := R6.trans (Ext0.any e4)
  replace B := B.ext0 e4
  clear e4
  refine m_y (v := .pointer (some ⟨b, o, none⟩)) 0 rfl (by kernel_rfl) rfl rfl (fun w' e' => y_move rfl) ?_
  refine m_y (v := .pointer (some ⟨b, o, none⟩)) 1 rfl (by kernel_rfl) rfl rfl (fun w' e' => y_nil rfl) ?_
  refine m_y (v := .pointer (some ⟨b, o, none⟩)) 2 rfl (by kernel_rfl) rfl rfl (fun w' e' => y_fld (o := o + 0) T124.fld_26_0_0 rfl) ?_
  refine m_y (v := .int .i64 wd) 3 rfl (by kernel_rfl) rfl rfl (fun w' e' => y_load T124.one_2 rfl (((B0_5.s 2 rfl).ext0 e').cell (j := 0) rfl)) ?_
  refine m_y (v := .pointer (some ⟨b, o, none⟩)) 4 rfl (by kernel_rfl) rfl rfl (fun w' e' => y_move rfl) ?_
  refine m_y (v := .pointer (some ⟨b, o, none⟩)) 5 rfl (by kernel_rfl) rfl rfl (fun w' e' => y_nil rfl) ?_
  refine m_y (v := .pointer (some ⟨b, o + 1, none⟩)) 6 rfl (by kernel_rfl) rfl rfl (fun w' e' => y_fld (o := o + 0) T124.fld_26_1_1 rfl) ?_
  refine m_y (v := .int .i64 hi) 7 rfl (by kernel_rfl) rfl rfl (fun w' e' => y_load T124.one_2 rfl (((B0_5.s 2 rfl).ext0 e').cell (j := 1) rfl)) ?_
  refine m_k 8 [9, 10, 11, 12, 13, 14, 15, 16, 17, 18, 19, 20, 21, 22, 23, 24, 25, 26, 27, 28, 29, 30, 31, 32, 33, 34, 35, 36, 37, 38, 39, 40, 41, 42, 43] rfl (by kernel_rfl) rfl rfl (fun w7 e8 => ?_)
  replace R6 := R6.trans (Ext0.any e8)
  replace B := B.ext0 e8
  clear e8
  refine k_call T124.fn_144 (c_s_l02Sides) rfl ?_
  rintro v11 w9 ⟨hv12, e10⟩
  replace R6 := R6.trans (Ext0.any e10)
  replace B := B.ext0 e10
  clear e10
  refine ⟨fun _ => R6, ?_⟩
  by_cases c13 : sidesB wd hi = true
  · have hb14 := sides_b c13
    obtain rfl : v11 = .bool true := hv12.trans (congrArg Value.bool c13)
    refine m_y (v := .bool false) 9 rfl (by kernel_rfl) rfl rfl (fun w' e' => y_not rfl rfl) ?_
    refine m_y (v := .bool false) 10 rfl (by kernel_rfl) rfl rfl (fun w' e' => y_move rfl) ?_
    refine m_y (v := .pointer (some ⟨b, o, none⟩)) 11 rfl (by kernel_rfl) rfl rfl (fun w' e' => y_move rfl) ?_
    refine m_y (v := .pointer (some ⟨b, o, none⟩)) 12 rfl (by kernel_rfl) rfl rfl (fun w' e' => y_nil rfl) ?_
    refine m_y (v := .pointer (some ⟨b, o + 3, none⟩)) 13 rfl (by kernel_rfl) rfl rfl (fun w' e' => y_fld (o := o + 0) T124.fld_26_3_3 rfl) ?_
    refine m_y (v := .slice asp nsp csp) 14 rfl (by kernel_rfl) rfl rfl (fun w' e' => y_load T124.one_24 rfl (((B0_5.s 2 rfl).ext0 e').cell (j := 3) rfl)) ?_
    refine m_y (v := .int .i64 ((nsp : Nat) : Int)) 15 rfl (by kernel_rfl) rfl rfl (fun w' e' => y_len T124.sl_24_34_1 rfl rfl) ?_
    refine m_y (v := .pointer (some ⟨b, o, none⟩)) 16 rfl (by kernel_rfl) rfl rfl (fun w' e' => y_move rfl) ?_
    refine m_y (v := .pointer (some ⟨b, o, none⟩)) 17 rfl (by kernel_rfl) rfl rfl (fun w' e' => y_nil rfl) ?_
    refine m_y (v := .pointer (some ⟨b, o, none⟩)) 18 rfl (by kernel_rfl) rfl rfl (fun w' e' => y_fld (o := o + 0) T124.fld_26_0_0 rfl) ?_
    refine m_y (v := .int .i64 wd) 19 rfl (by kernel_rfl) rfl rfl (fun w' e' => y_load T124.one_2 rfl (((B0_5.s 2 rfl).ext0 e').cell (j := 0) rfl)) ?_
    refine m_y (v := .pointer (some ⟨b, o, none⟩)) 20 rfl (by kernel_rfl) rfl rfl (fun w' e' => y_move rfl) ?_
    refine m_y (v := .pointer (some ⟨b, o, none⟩)) 21 rfl (by kernel_rfl) rfl rfl (fun w' e' => y_nil rfl) ?_
    refine m_y (v := .pointer (some ⟨b, o + 1, none⟩)) 22 rfl (by kernel_rfl) rfl rfl (fun w' e' => y_fld (o := o + 0) T124.fld_26_1_1 rfl) ?_
    refine m_y (v := .int .i64 hi) 23 rfl (by kernel_rfl) rfl rfl (fun w' e' => y_load T124.one_2 rfl (((B0_5.s 2 rfl).ext0 e').cell (j := 1) rfl)) ?_
    refine m_y (v := .int .i64 (wd * hi)) 24 rfl (by kernel_rfl) rfl rfl (fun w' e' => y_mul rfl rfl rfl (by omega)) ?_
    by_cases c16 : ((nsp : Nat) : Int) ≠ (wd * hi)
    · refine m_y (v := .bool true) 25 rfl (by kernel_rfl) rfl rfl (fun w' e' => y_neq rfl rfl (decide_eq_true c16)) ?_
      refine m_y (v := .bool true) 26 rfl (by kernel_rfl) rfl rfl (fun w' e' => y_pick_f rfl rfl) ?_
      refine m_y (v := .bool true) 27 rfl (by kernel_rfl) rfl rfl (fun w' e' => y_move rfl) ?_
      refine m_skip 28 rfl (by kernel_rfl) rfl ?_
      refine m_skip 29 rfl (by kernel_rfl) rfl ?_
      refine m_skip 30 rfl (by kernel_rfl) rfl ?_
      refine m_skip 31 rfl (by kernel_rfl) rfl ?_
      refine m_skip 32 rfl (by kernel_rfl) rfl ?_
      refine m_skip 33 rfl (by kernel_rfl) rfl ?_
      refine m_skip 34 rfl (by kernel_rfl) rfl ?_
      refine m_skip 35 rfl (by kernel_rfl) rfl ?_
      refine m_skip 36 rfl (by kernel_rfl) rfl ?_
      refine m_skip 37 rfl (by kernel_rfl) rfl ?_
      refine m_skip 38 rfl (by kernel_rfl) rfl ?_
      refine m_skip 39 rfl (by kernel_rfl) rfl ?_
      refine m_skip 40 rfl (by kernel_rfl) rfl ?_
      refine m_skip 41 rfl (by kernel_rfl) rfl ?_
      refine m_skip 42 rfl (by kernel_rfl) rfl ?_
      refine m_y (v := .bool true) 43 rfl (by kernel_rfl) rfl rfl (fun w' e' => y_pick_t rfl rfl) ?_
      refine m_done (by kernel_rfl) (fun w17 e18 => ?_)
      replace B := B.ext0 e18
      clear e18
      clear B0_5 R6
      refine W_if_t (by decide) rfl ?_
      refine W_seq ?_
      refine W_region (by kernel_rfl) ?_
      refine s_y (v := .bool false) rfl (y_assign rfl) ?_
      refine s_nil ?_
      refine W_ret ?_
      refine ret1 (v := .bool false) rfl rfl rfl ⟨_, rfl, ?_⟩
      exact ⟨congrArg Value.bool (by simp [validS, hlsp, hlls, *]), B.ext⟩
    · refine m_y (v := .bool false) 25 rfl (by kernel_rfl) rfl rfl (fun w' e' => y_neq rfl rfl (decide_eq_false c16)) ?_
      refine m_y (v := .bool false) 26 rfl (by kernel_rfl) rfl rfl (fun w' e' => y_pick_f rfl rfl) ?_
      refine m_y (v := .bool false) 27 rfl (by kernel_rfl) rfl rfl (fun w' e' => y_move rfl) ?_
      refine m_y (v := .pointer (some ⟨b, o, none⟩)) 28 rfl (by kernel_rfl) rfl rfl (fun w' e' => y_move rfl) ?_
      refine m_y (v := .pointer (some ⟨b, o, none⟩)) 29 rfl (by kernel_rfl) rfl rfl (fun w' e' => y_nil rfl) ?_
      refine m_y (v := .pointer (some ⟨b, o + 4, none⟩)) 30 rfl (by kernel_rfl) rfl rfl (fun w' e' => y_fld (o := o + 0) T124.fld_26_4_4 rfl) ?_
      refine m_y (v := .slice als nls cls) 31 rfl (by kernel_rfl) rfl rfl (fun w' e' => y_load T124.one_24 rfl (((B0_5.s 2 rfl).ext0 e').cell (j := 4) rfl)) ?_
      refine m_y (v := .int .i64 ((nls : Nat) : Int)) 32 rfl (by kernel_rfl) rfl rfl (fun w' e' => y_len T124.sl_24_34_1 rfl rfl) ?_
      refine m_y (v := .pointer (some ⟨b, o, none⟩)) 33 rfl (by kernel_rfl) rfl rfl (fun w' e' => y_move rfl) ?_
      refine m_y (v := .pointer (some ⟨b, o, none⟩)) 34 rfl (by kernel_rfl) rfl rfl (fun w' e' => y_nil rfl) ?_
      refine m_y (v := .pointer (some ⟨b, o, none⟩)) 35 rfl (by kernel_rfl) rfl rfl (fun w' e' => y_fld (o := o + 0) T124.fld_26_0_0 rfl) ?_
      refine m_y (v := .int .i64 wd) 36 rfl (by kernel_rfl) rfl rfl (fun w' e' => y_load T124.one_2 rfl (((B0_5.s 2 rfl).ext0 e').cell (j := 0) rfl)) ?_
      refine m_y (v := .pointer (some ⟨b, o, none⟩)) 37 rfl (by kernel_rfl) rfl rfl (fun w' e' => y_move rfl) ?_
      refine m_y (v := .pointer (some ⟨b, o, none⟩)) 38 rfl (by kernel_rfl) rfl rfl (fun w' e' => y_nil rfl) ?_
      refine m_y (v := .pointer (some ⟨b, o + 1, none⟩)) 39 rfl (by kernel_rfl) rfl rfl (fun w' e' => y_fld (o := o + 0) T124.fld_26_1_1 rfl) ?_
      refine m_y (v := .int .i64 hi) 40 rfl (by kernel_rfl) rfl rfl (fun w' e' => y_load T124.one_2 rfl (((B0_5.s 2 rfl).ext0 e').cell (j := 1) rfl)) ?_
      refine m_y (v := .int .i64 (wd * hi)) 41 rfl (by kernel_rfl) rfl rfl (fun w' e' => y_mul rfl rfl rfl (by omega)) ?_
      by_cases c20 : ((nls : Nat) : Int) ≠ (wd * hi)
      · refine m_y (v := .bool true) 42 rfl (by kernel_rfl) rfl rfl (fun w' e' => y_neq rfl rfl (decide_eq_true c20)) ?_
        refine m_y (v := .bool true) 43 rfl (by kernel_rfl) rfl rfl (fun w' e' => y_pick_f rfl rfl) ?_
        refine m_done (by kernel_rfl) (fun w21 e22 => ?_)
        replace B := B.ext0 e22
        clear e22
        clear B0_5 R6
        refine W_if_t (by decide) rfl ?_
        refine W_seq ?_
        refine W_region (by kernel_rfl) ?_
        refine s_y (v := .bool false) rfl (y_assign rfl) ?_
        refine s_nil ?_
        refine W_ret ?_
        refine ret1 (v := .bool false) rfl rfl rfl ⟨_, rfl, ?_⟩
        exact ⟨congrArg Value.bool (by simp [validS, hlsp, hlls, *]), B.ext⟩
      · refine m_y (v := .bool false) 42 rfl (by kernel_rfl) rfl rfl (fun w' e' => y_neq rfl rfl (decide_eq_false c20)) ?_
        refine m_y (v := .bool false) 43 rfl (by kernel_rfl) rfl rfl (fun w' e' => y_pick_f rfl rfl) ?_
        refine m_done (by kernel_rfl) (fun w23 e24 => ?_)
        replace B := B.ext0 e24
        clear e24
        clear B0_5 R6
        refine W_if_f (by decide) rfl ?_
        refine W_skip ?_
        refine W_seq ?_
        refine W_seq ?_
        refine W_region (by kernel_rfl) ?_
        refine s_y (v := .int .i64 0) rfl (y_assign rfl) ?_
        refine s_nil ?_
        refine W_block ?_
        refine W_loop (fun ρ' w' => ∃ (ρ1 : Env) (k : Int), ρ' = updL ρ1 [(0, .pointer (some ⟨b, o, none⟩)), (3, .int .i64 k)] ∧ Bu w no w' [.rd kF asp nsp Xsp, .rd kF als nls Xls, .sl (some ⟨b, o, none⟩) [.int .i64 wd, .int .i64 hi, .bool wr, .slice asp nsp csp, .slice als nls cls]] ∧ (0 ≤ k) ∧ (k ≤ wd * hi) ∧ (∀ i, 0 ≤ i → i < k → (betw 1056964608 Xsp i && betw 1065353216 Xls i) = true)) (fun ρ' _ => (wd * hi - iv (ρ' 3)).toNat) ?_ ?_
        · exact ⟨_, 0, Fits.eq ⟨rfl, rfl, trivial⟩, B, (Int.le_refl _), (by omega), (by intro i h0 h1; omega)⟩
        · clear B; rintro _ w25 ⟨ρ26, k, rfl, B, h0k, h1k, hq⟩
          refine W_seq ?_
          refine W_seq ?_
          refine W_region (by kernel_rfl) ?_
          refine s_y (v := .int .i64 k) rfl (y_move rfl) ?_
          refine s_y (v := .pointer (some ⟨b, o, none⟩)) rfl (y_move rfl) ?_
          refine s_y (v := .pointer (some ⟨b, o, none⟩)) rfl (y_nil rfl) ?_
          refine s_y (v := .pointer (some ⟨b, o + 3, none⟩)) rfl (y_fld (o := o + 0) T124.fld_26_3_3 rfl) ?_
          refine s_y (v := .slice asp nsp csp) rfl (y_load T124.one_24 rfl ((B.s 2 rfl).cell (j := 3) rfl)) ?_
          refine s_y (v := .int .i64 ((nsp : Nat) : Int)) rfl (y_len T124.sl_24_34_1 rfl rfl) ?_
          by_cases c27 : k < ((nsp : Nat) : Int)
          · refine s_y (v := .bool true) rfl (y_lss rfl rfl (decide_eq_true c27)) ?_
            refine s_nil ?_
            refine W_if_t (by decide) rfl ?_
            refine W_skip ?_
            refine W_seq ?_
            refine W_block ?_
            refine W_seq ?_
            refine W_region (by kernel_rfl) ?_
            refine s_y (v := .pointer (some ⟨b, o, none⟩)) rfl (y_move rfl) ?_
            refine s_y (v := .pointer (some ⟨b, o, none⟩)) rfl (y_nil rfl) ?_
            refine s_y (v := .pointer (some ⟨b, o + 3, none⟩)) rfl (y_fld (o := o + 0) T124.fld_26_3_3 rfl) ?_
            refine s_y (v := .slice asp nsp csp) rfl (y_load T124.one_24 rfl ((B.s 2 rfl).cell (j := 3) rfl)) ?_
            refine s_y (v := .int .i64 k) rfl (y_move rfl) ?_
            refine s_y (v := .pointer (some (sat asp ((k).toNat * 1)))) rfl (y_idx T124.sl_24_34_1 rfl rfl ((B.r 0 rfl).addr (by omega)) (by omega) (by omega)) ?_
            obtain ⟨r29, hr30, hR28⟩ := Rd.atF (B.r 0 rfl) k (by omega) (by omega)
            refine s_y (v := .float .f32 r29) rfl (y_load T124.one_34 rfl (hR28.cell (i := 0) rfl)) ?_
            by_cases c31 : fge .f32 (el Xsp k) 0 = true
            · refine s_y (v := .bool true) rfl (y_fgeq rfl rfl (fgeC hr30 (cnLit (k := .f32) (t := 0) (by kernel_rfl) (by kernel_rfl)) c31)) ?_
              refine s_y (v := .bool false) rfl (y_not rfl rfl) ?_
              refine s_y (v := .bool false) rfl (y_move rfl) ?_
              refine s_y (v := .pointer (some ⟨b, o, none⟩)) rfl (y_move rfl) ?_
              refine s_y (v := .pointer (some ⟨b, o, none⟩)) rfl (y_nil rfl) ?_
              refine s_y (v := .pointer (some ⟨b, o + 3, none⟩)) rfl (y_fld (o := o + 0) T124.fld_26_3_3 rfl) ?_
              refine s_y (v := .slice asp nsp csp) rfl (y_load T124.one_24 rfl ((B.s 2 rfl).cell (j := 3) rfl)) ?_
              refine s_y (v := .int .i64 k) rfl (y_move rfl) ?_
              refine s_y (v := .pointer (some (sat asp ((k).toNat * 1)))) rfl (y_idx T124.sl_24_34_1 rfl rfl ((B.r 0 rfl).addr (by omega)) (by omega) (by omega)) ?_
              obtain ⟨r33, hr34, hR32⟩ := Rd.atF (B.r 0 rfl) k (by omega) (by omega)
              refine s_y (v := .float .f32 r33) rfl (y_load T124.one_34 rfl (hR32.cell (i := 0) rfl)) ?_
              by_cases c35 : fgt .f32 (el Xsp k) 1056964608 = true
              · refine s_y (v := .bool true) rfl (y_fgtr rfl rfl (fgtC hr34 (cnLit (k := .f32) (t := 1056964608) (by kernel_rfl) (by kernel_rfl)) c35)) ?_
                refine s_y (v := .bool true) rfl (y_pick_f rfl rfl) ?_
                refine s_y (v := .bool true) rfl (y_move rfl) ?_
                refine s_skip rfl ?_
                refine s_skip rfl ?_
                refine s_skip rfl ?_
                refine s_skip rfl ?_
                refine s_skip rfl ?_
                refine s_skip rfl ?_
                refine s_skip rfl ?_
                refine s_skip rfl ?_
                refine s_skip rfl ?_
                refine s_y (v := .bool true) rfl (y_pick_t rfl rfl) ?_
                refine s_y (v := .bool true) rfl (y_move rfl) ?_
                refine s_skip rfl ?_
                refine s_skip rfl ?_
                refine s_skip rfl ?_
                refine s_skip rfl ?_
                refine s_skip rfl ?_
                refine s_skip rfl ?_
                refine s_skip rfl ?_
                refine s_skip rfl ?_
                refine s_y (v := .bool true) rfl (y_pick_t rfl rfl) ?_
                refine s_nil ?_
                refine W_if_t (by decide) rfl ?_
                refine W_seq ?_
                refine W_region (by kernel_rfl) ?_
                refine s_y (v := .bool false) rfl (y_assign rfl) ?_
                refine s_nil ?_
                refine W_ret ?_
                refine ret1 (v := .bool false) rfl rfl rfl ⟨_, rfl, ?_⟩
                exact ⟨congrArg Value.bool ((validS_no (i := k) (by omega) (by omega) (by omega) (by first | exact .inl (betw_no1 (by assumption)) | exact .inl (betw_ng half_not (by assumption) (by assumption)) | exact .inr (betw_no1 (by assumption)) | exact .inr (betw_ng one_not (by assumption) (by assumption)))).symm), B.ext⟩
              · refine s_y (v := .bool false) rfl (y_fgtr rfl rfl (fgtC hr34 (cnLit (k := .f32) (t := 1056964608) (by kernel_rfl) (by kernel_rfl)) (Bool.eq_false_iff.2 c35))) ?_
                refine s_y (v := .bool false) rfl (y_pick_f rfl rfl) ?_
                refine s_y (v := .bool false) rfl (y_move rfl) ?_
                refine s_y (v := .pointer (some ⟨b, o, none⟩)) rfl (y_move rfl) ?_
                refine s_y (v := .pointer (some ⟨b, o, none⟩)) rfl (y_nil rfl) ?_
                refine s_y (v := .pointer (some ⟨b, o + 4, none⟩)) rfl (y_fld (o := o + 0) T124.fld_26_4_4 rfl) ?_
                refine s_y (v := .slice als nls cls) rfl (y_load T124.one_24 rfl ((B.s 2 rfl).cell (j := 4) rfl)) ?_
                refine s_y (v := .int .i64 k) rfl (y_move rfl) ?_
                refine s_y (v := .pointer (some (sat als ((k).toNat * 1)))) rfl (y_idx T124.sl_24_34_1 rfl rfl ((B.r 1 rfl).addr (by omega)) (by omega) (by omega)) ?_
                obtain ⟨r37, hr38, hR36⟩ := Rd.atF (B.r 1 rfl) k (by omega) (by omega)
                refine s_y (v := .float .f32 r37) rfl (y_load T124.one_34 rfl (hR36.cell (i := 0) rfl)) ?_
                by_cases c39 : fge .f32 (el Xls k) 0 = true
                · refine s_y (v := .bool true) rfl (y_fgeq rfl rfl (fgeC hr38 (cnLit (k := .f32) (t := 0) (by kernel_rfl) (by kernel_rfl)) c39)) ?_
                  refine s_y (v := .bool false) rfl (y_not rfl rfl) ?_
                  refine s_y (v := .bool false) rfl (y_pick_f rfl rfl) ?_
                  refine s_y (v := .bool false) rfl (y_move rfl) ?_
                  refine s_y (v := .pointer (some ⟨b, o, none⟩)) rfl (y_move rfl) ?_
                  refine s_y (v := .pointer (some ⟨b, o, none⟩)) rfl (y_nil rfl) ?_
                  refine s_y (v := .pointer (some ⟨b, o + 4, none⟩)) rfl (y_fld (o := o + 0) T124.fld_26_4_4 rfl) ?_
                  refine s_y (v := .slice als nls cls) rfl (y_load T124.one_24 rfl ((B.s 2 rfl).cell (j := 4) rfl)) ?_
                  refine s_y (v := .int .i64 k) rfl (y_move rfl) ?_
                  refine s_y (v := .pointer (some (sat als ((k).toNat * 1)))) rfl (y_idx T124.sl_24_34_1 rfl rfl ((B.r 1 rfl).addr (by omega)) (by omega) (by omega)) ?_
                  obtain ⟨r41, hr42, hR40⟩ := Rd.atF (B.r 1 rfl) k (by omega) (by omega)
                  refine s_y (v := .float .f32 r41) rfl (y_load T124.one_34 rfl (hR40.cell (i := 0) rfl)) ?_
                  by_cases c43 : fgt .f32 (el Xls k) 1065353216 = true
                  · refine s_y (v := .bool true) rfl (y_fgtr rfl rfl (fgtC hr42 (cnLit (k := .f32) (t := 1065353216) (by kernel_rfl) (by kernel_rfl)) c43)) ?_
                    refine s_y (v := .bool true) rfl (y_pick_f rfl rfl) ?_
                    refine s_nil ?_
                    refine W_if_t (by decide) rfl ?_
                    refine W_seq ?_
                    refine W_region (by kernel_rfl) ?_
                    refine s_y (v := .bool false) rfl (y_assign rfl) ?_
                    refine s_nil ?_
                    refine W_ret ?_
                    refine ret1 (v := .bool false) rfl rfl rfl ⟨_, rfl, ?_⟩
                    exact ⟨congrArg Value.bool ((validS_no (i := k) (by omega) (by omega) (by omega) (by first | exact .inl (betw_no1 (by assumption)) | exact .inl (betw_ng half_not (by assumption) (by assumption)) | exact .inr (betw_no1 (by assumption)) | exact .inr (betw_ng one_not (by assumption) (by assumption)))).symm), B.ext⟩
                  · refine s_y (v := .bool false) rfl (y_fgtr rfl rfl (fgtC hr42 (cnLit (k := .f32) (t := 1065353216) (by kernel_rfl) (by kernel_rfl)) (Bool.eq_false_iff.2 c43))) ?_
                    refine s_y (v := .bool false) rfl (y_pick_f rfl rfl) ?_
                    refine s_nil ?_
                    refine W_if_f (by decide) rfl ?_
                    refine W_skip ?_
                    refine W_region (by kernel_rfl) ?_
                    refine s_y (v := .int .i64 k) rfl (y_move rfl) ?_
                    refine s_y (v := .int .i64 (k + 1)) rfl (y_add rfl rfl rfl (by omega)) ?_
                    refine s_y (v := .int .i64 (k + 1)) rfl (y_assign rfl) ?_
                    refine s_nil ?_
                    refine ⟨⟨_, k + 1, Fits.eq ⟨rfl, rfl, trivial⟩, B, (by omega), (by omega), (allI_more hq (by simp only [Bool.and_eq_true]; exact ⟨betw_g half_not (by assumption) (by assumption), betw_g one_not (by assumption) (by assumption)⟩))⟩, ?_⟩
                    show (wd * hi - (k + 1)).toNat < (wd * hi - k).toNat
                    omega
                · refine s_y (v := .bool false) rfl (y_fgeq rfl rfl (fgeC hr38 (cnLit (k := .f32) (t := 0) (by kernel_rfl) (by kernel_rfl)) (Bool.eq_false_iff.2 c39))) ?_
                  refine s_y (v := .bool true) rfl (y_not rfl rfl) ?_
                  refine s_y (v := .bool true) rfl (y_pick_f rfl rfl) ?_
                  refine s_y (v := .bool true) rfl (y_move rfl) ?_
                  refine s_skip rfl ?_
                  refine s_skip rfl ?_
                  refine s_skip rfl ?_
                  refine s_skip rfl ?_
                  refine s_skip rfl ?_
                  refine s_skip rfl ?_
                  refine s_skip rfl ?_
                  refine s_skip rfl ?_
                  refine s_y (v := .bool true) rfl (y_pick_t rfl rfl) ?_
                  refine s_nil ?_
                  refine W_if_t (by decide) rfl ?_
                  refine W_seq ?_
                  refine W_region (by kernel_rfl) ?_
                  refine s_y (v := .bool false) rfl (y_assign rfl) ?_
                  refine s_nil ?_
                  refine W_ret ?_
                  refine ret1 (v := .bool false) rfl rfl rfl ⟨_, rfl, ?_⟩
                  exact ⟨congrArg Value.bool ((validS_no (i := k) (by omega) (by omega) (by omega) (by first | exact .inl (betw_no1 (by assumption)) | exact .inl (betw_ng half_not (by assumption) (by assumption)) | exact .inr (betw_no1 (by assumption)) | exact .inr (betw_ng one_not (by assumption) (by assumption)))).symm), B.ext⟩
            · refine s_y (v := .bool false) rfl (y_fgeq rfl rfl (fgeC hr30 (cnLit (k := .f32) (t := 0) (by kernel_rfl) (by kernel_rfl)) (Bool.eq_false_iff.2 c31))) ?_
              refine s_y (v := .bool true) rfl (y_not rfl rfl) ?_
              refine s_y (v := .bool true) rfl (y_move rfl) ?_
              refine s_skip rfl ?_
              refine s_skip rfl ?_
              refine s_skip rfl ?_
              refine s_skip rfl ?_
              refine s_skip rfl ?_
              refine s_skip rfl ?_
              refine s_skip rfl ?_
              refine s_skip rfl ?_
              refine s_y (v := .bool true) rfl (y_pick_t rfl rfl) ?_
              refine s_y (v := .bool true) rfl (y_move rfl) ?_
              refine s_skip rfl ?_
              refine s_skip rfl ?_
              refine s_skip rfl ?_
              refine s_skip rfl ?_
              refine s_skip rfl ?_
              refine s_skip rfl ?_
              refine s_skip rfl ?_
              refine s_skip rfl ?_
              refine s_skip rfl ?_
              refine s_y (v := .bool true) rfl (y_pick_t rfl rfl) ?_
              refine s_y (v := .bool true) rfl (y_move rfl) ?_
              refine s_skip rfl ?_
              refine s_skip rfl ?_
              refine s_skip rfl ?_
              refine s_skip rfl ?_
              refine s_skip rfl ?_
              refine s_skip rfl ?_
              refine s_skip rfl ?_
              refine s_skip rfl ?_
              refine s_y (v := .bool true) rfl (y_pick_t rfl rfl) ?_
              refine s_nil ?_
              refine W_if_t (by decide) rfl ?_
              refine W_seq ?_
              refine W_region (by kernel_rfl) ?_
              refine s_y (v := .bool false) rfl (y_assign rfl) ?_
              refine s_nil ?_
              refine W_ret ?_
              refine ret1 (v := .bool false) rfl rfl rfl ⟨_, rfl, ?_⟩
              exact ⟨congrArg Value.bool ((validS_no (i := k) (by omega) (by omega) (by omega) (by first | exact .inl (betw_no1 (by assumption)) | exact .inl (betw_ng half_not (by assumption) (by assumption)) | exact .inr (betw_no1 (by assumption)) | exact .inr (betw_ng one_not (by assumption) (by assumption)))).symm), B.ext⟩
          · refine s_y (v := .bool false) rfl (y_lss rfl rfl (decide_eq_false c27)) ?_
            refine s_nil ?_
            refine W_if_f (by decide) rfl ?_
            refine W_exit ?_
            refine W_seq ?_
            refine W_region (by kernel_rfl) ?_
            refine s_y (v := .bool true) rfl (y_assign rfl) ?_
            refine s_nil ?_
            refine W_ret ?_
            refine ret1 (v := .bool true) rfl rfl rfl ⟨_, rfl, ?_⟩
            exact ⟨congrArg Value.bool ((validS_yes (by assumption) (by omega) (by omega) (fun i h0 h1 => hq i h0 (by omega))).symm), B.ext⟩
  · obtain rfl : v11 = .bool false := hv12.trans (congrArg Value.bool (Bool.eq_false_iff.2 c13))
    refine m_y (v := .bool true) 9 rfl (by kernel_rfl) rfl rfl (fun w' e' => y_not rfl rfl) ?_
    refine m_y (v := .bool true) 10 rfl (by kernel_rfl) rfl rfl (fun w' e' => y_move rfl) ?_
    refine m_skip 11 rfl (by kernel_rfl) rfl ?_
    refine m_skip 12 rfl (by kernel_rfl) rfl ?_
    refine m_skip 13 rfl (by kernel_rfl) rfl ?_
    refine m_skip 14 rfl (by kernel_rfl) rfl ?_
    refine m_skip 15 rfl (by kernel_rfl) rfl ?_
    refine m_skip 16 rfl (by kernel_rfl) rfl ?_
    refine m_skip 17 rfl (by kernel_rfl) rfl ?_
    refine m_skip 18 rfl (by kernel_rfl) rfl ?_
    refine m_skip 19 rfl (by kernel_rfl) rfl ?_
    refine m_skip 20 rfl (by kernel_rfl) rfl ?_
    refine m_skip 21 rfl (by kernel_rfl) rfl ?_
    refine m_skip 22 rfl (by kernel_rfl) rfl ?_
    refine m_skip 23 rfl (by kernel_rfl) rfl ?_
    refine m_skip 24 rfl (by kernel_rfl) rfl ?_
    refine m_skip 25 rfl (by kernel_rfl) rfl ?_
    refine m_y (v := .bool true) 26 rfl (by kernel_rfl) rfl rfl (fun w' e' => y_pick_t rfl rfl) ?_
    refine m_y (v := .bool true) 27 rfl (by kernel_rfl) rfl rfl (fun w' e' => y_move rfl) ?_
    refine m_skip 28 rfl (by kernel_rfl) rfl ?_
    refine m_skip 29 rfl (by kernel_rfl) rfl ?_
    refine m_skip 30 rfl (by kernel_rfl) rfl ?_
    refine m_skip 31 rfl (by kernel_rfl) rfl ?_
    refine m_skip 32 rfl (by kernel_rfl) rfl ?_
    refine m_skip 33 rfl (by kernel_rfl) rfl ?_
    refine m_skip 34 rfl (by kernel_rfl) rfl ?_
    refine m_skip 35 rfl (by kernel_rfl) rfl ?_
    refine m_skip 36 rfl (by kernel_rfl) rfl ?_
    refine m_skip 37 rfl (by kernel_rfl) rfl ?_
    refine m_skip 38 rfl (by kernel_rfl) rfl ?_
    refine m_skip 39 rfl (by kernel_rfl) rfl ?_
    refine m_skip 40 rfl (by kernel_rfl) rfl ?_
    refine m_skip 41 rfl (by kernel_rfl) rfl ?_
    refine m_skip 42 rfl (by kernel_rfl) rfl ?_
    refine m_y (v := .bool true) 43 rfl (by kernel_rfl) rfl rfl (fun w' e' => y_pick_t rfl rfl) ?_
    refine m_done (by kernel_rfl) (fun w44 e45 => ?_)
    replace B := B.ext0 e45
    clear e45
    clear B0_5 R6
    refine W_if_t (by decide) rfl ?_
    refine W_seq ?_
    refine W_region (by kernel_rfl) ?_
    refine s_y (v := .bool false) rfl (y_assign rfl) ?_
    refine s_nil ?_
    refine W_ret ?_
    refine ret1 (v := .bool false) rfl rfl rfl ⟨_, rfl, ?_⟩
    exact ⟨congrArg Value.bool (by simp [validS, hlsp, hlls, *]), B.ext⟩
namespace T69
theorem mx : Try.prog.follows .mixedOrders = true := by kernel_rfl
theorem fld_26_0_0 : fldB Try.prog 26 0 0 = true := by kernel_rfl
theorem fld_26_1_1 : fldB Try.prog 26 1 1 = true := by kernel_rfl
theorem one_2 : oneB Try.prog 2 = true := by kernel_rfl
end T69
set_option maxRecDepth 100000 in
set_option maxHeartbeats 4000000 in
theorem c_i_at {wd : Int} {hi : Int} {wr : Bool} {asp : Option Addr} {nsp : Nat} {csp : Nat} {als : Option Addr} {nls : Nat} {cls : Nat} {x : Int} {y : Int} {w : World} (h1 : 3 ≤ wd) (h2 : wd ≤ 16) (h3 : 3 ≤ hi) (h4 : hi ≤ 16) (h5 : -wd ≤ x) (h6 : x ≤ 1000000) (h7 : -hi ≤ y) (h8 : y ≤ 1000000) :
    Calls Try.prog 69 #[.agg #[.int .i64 wd, .int .i64 hi, .bool wr, .slice asp nsp csp, .slice als nls cls], .int .i64 x, .int .i64 y] w (Rt fun v w' => v = .int .i64 (atI wd hi x y) ∧ Ext0 w w') := by
  have B : Bu w no w [] := Bu.ro All.nil rfl
  refine calls_W (n := 25) Try.func69 rfl rfl (Nat.le_of_ble_eq_true rfl) ?_
  refine W_seq ?_
  refine W_region (by kernel_rfl) ?_
  refine s_k rfl (k_boxN (v := .agg #[.int .i64 wd, .int .i64 hi, .bool wr, .slice asp nsp csp, .slice als nls cls]) (cs := [.int .i64 wd, .int .i64 hi, .bool wr, .slice asp nsp csp, .slice als nls cls]) rfl rfl (fun b1 w2 hN3 => ?_))
  replace B := B.new1 hN3
  clear hN3
  refine s_y (v := .int .i64 0) rfl (y_assign rfl) ?_
  refine s_nil ?_
  refine W_seq ?_
  have B0_8 := B
  refine W_draw (no) T69.mx (by kernel_rfl) (fun w6 e7 => ?_)
  have R9 := Ext.refl (no) w2
  replace R9 := R9.trans (Ext0.any e7)
  replace B := B.ext0 e7
  clear e7
  refine m_y (v := .int .i64 x) 0 rfl (by kernel_rfl) rfl rfl (fun w' e' => y_move rfl) ?_
  refine m_y (v := .pointer (some ⟨b1, 0, none⟩)) 1 rfl (by kernel_rfl) rfl rfl (fun w' e' => y_fld (o := 0) T69.fld_26_0_0 rfl) ?_
  refine m_y (v := .int .i64 wd) 2 rfl (by kernel_rfl) rfl rfl (fun w' e' => y_load T69.one_2 rfl (((B0_8.b 0 rfl).ext0 e').cell (j := 0) rfl)) ?_
  refine m_y (v := .int .i64 (x + wd)) 3 rfl (by kernel_rfl) rfl rfl (fun w' e' => y_add rfl rfl rfl (by omega)) ?_
  refine m_y (v := .pointer (some ⟨b1, 0, none⟩)) 4 rfl (by kernel_rfl) rfl rfl (fun w' e' => y_fld (o := 0) T69.fld_26_0_0 rfl) ?_
  refine m_y (v := .int .i64 wd) 5 rfl (by kernel_rfl) rfl rfl (fun w' e' => y_load T69.one_2 rfl (((B0_8.b 0 rfl).ext0 e').cell (j := 0) rfl)) ?_
  have hm10 := rem_b (x := x + wd) (m := wd) (by omega) (by omega)
  refine m_y (v := .int .i64 ((x + wd) % wd)) 6 rfl (by kernel_rfl) rfl rfl (fun w' e' => y_rem rfl rfl (by omega) (by omega) rfl) ?_
  refine m_y (v := .pointer (some ⟨b1, 0, none⟩)) 7 rfl (by kernel_rfl) rfl rfl (fun w' e' => y_fld (o := 0) T69.fld_26_0_0 rfl) ?_
  refine m_y (v := .int .i64 wd) 8 rfl (by kernel_rfl) rfl rfl (fun w' e' => y_load T69.one_2 rfl (((B0_8.b 0 rfl).ext0 e').cell (j := 0) rfl)) ?_
  refine m_y (v := .int .i64 y) 9 rfl (by kernel_rfl) rfl rfl (fun w' e' => y_move rfl) ?_
  refine m_y (v := .pointer (some ⟨b1, 1, none⟩)) 10 rfl (by kernel_rfl) rfl rfl (fun w' e' => y_fld (o := 0) T69.fld_26_1_1 rfl) ?_
  refine m_y (v := .int .i64 hi) 11 rfl (by kernel_rfl) rfl rfl (fun w' e' => y_load T69.one_2 rfl (((B0_8.b 0 rfl).ext0 e').cell (j := 1) rfl)) ?_
  refine m_y (v := .int .i64 (y + hi)) 12 rfl (by kernel_rfl) rfl rfl (fun w' e' => y_add rfl rfl rfl (by omega)) ?_
  refine m_y (v := .pointer (some ⟨b1, 1, none⟩)) 13 rfl (by kernel_rfl) rfl rfl (fun w' e' => y_fld (o := 0) T69.fld_26_1_1 rfl) ?_
  refine m_y (v := .int .i64 hi) 14 rfl (by kernel_rfl) rfl rfl (fun w' e' => y_load T69.one_2 rfl (((B0_8.b 0 rfl).ext0 e').cell (j := 1) rfl)) ?_
  have hm11 := rem_b (x := y + hi) (m := hi) (by omega) (by omega)
  refine m_y (v := .int .i64 ((y + hi) % hi)) 15 rfl (by kernel_rfl) rfl rfl (fun w' e' => y_rem rfl rfl (by omega) (by omega) rfl) ?_
  have hm12 := mul_rem (a := wd) (x := y + hi) (m := hi) (by omega) (by omega) (by omega) (by omega)
  refine m_y (v := .int .i64 (wd * ((y + hi) % hi))) 16 rfl (by kernel_rfl) rfl rfl (fun w' e' => y_mul rfl rfl rfl (by omega)) ?_
  refine m_y (v := .int .i64 (((x + wd) % wd) + (wd * ((y + hi) % hi)))) 17 rfl (by kernel_rfl) rfl rfl (fun w' e' => y_add rfl rfl rfl (by omega)) ?_
  refine m_y (v := .int .i64 (((x + wd) % wd) + (wd * ((y + hi) % hi)))) 18 rfl (by kernel_rfl) rfl rfl (fun w' e' => y_assign rfl) ?_
  refine m_done (by kernel_rfl) (fun w13 e14 => ?_)
  replace B := B.ext0 e14
  clear e14
  clear B0_8 R9
  refine W_ret ?_
  refine ret1 (v := .int .i64 (((x + wd) % wd) + (wd * ((y + hi) % hi)))) rfl rfl rfl ⟨_, rfl, ?_⟩
  exact ⟨rfl, B.ext⟩
namespace T67
theorem mx : Try.prog.follows .mixedOrders = true := by kernel_rfl
theorem fld_26_0_0 : fldB Try.prog 26 0 0 = true := by kernel_rfl
theorem fld_26_1_1 : fldB Try.prog 26 1 1 = true := by kernel_rfl
theorem fn_74 : fnB Try.prog 74 = true := by kernel_rfl
theorem one_2 : oneB Try.prog 2 = true := by kernel_rfl
end T67
set_option maxRecDepth 100000 in
set_option maxHeartbeats 4000000 in
theorem c_i_isCell {wd : Int} {hi : Int} {wr : Bool} {asp : Option Addr} {nsp : Nat} {csp : Nat} {als : Option Addr} {nls : Nat} {cls : Nat} {x : Int} {y : Int} {w : World} (h1 : 3 ≤ wd) (h2 : wd ≤ 16) (h3 : 3 ≤ hi) (h4 : hi ≤ 16) :
    Calls Try.prog 67 #[.agg #[.int .i64 wd, .int .i64 hi, .bool wr, .slice asp nsp csp, .slice als nls cls], .int .i64 x, .int .i64 y] w (Rt fun v w' => v = .bool (cellB wd hi x y) ∧ Ext0 w w') := by
  have B : Bu w no w [] := Bu.ro All.nil rfl
  refine calls_W (n := 19) Try.func67 rfl rfl (Nat.le_of_ble_eq_true rfl) ?_
  refine W_seq ?_
  refine W_region (by kernel_rfl) ?_
  refine s_k rfl (k_boxN (v := .agg #[.int .i64 wd, .int .i64 hi, .bool wr, .slice asp nsp csp, .slice als nls cls]) (cs := [.int .i64 wd, .int .i64 hi, .bool wr, .slice asp nsp csp, .slice als nls cls]) rfl rfl (fun b1 w2 hN3 => ?_))
  replace B := B.new1 hN3
  clear hN3
  refine s_y (v := .bool false) rfl (y_assign rfl) ?_
  refine s_nil ?_
  refine W_seq ?_
  refine W_region (by kernel_rfl) ?_
  refine s_y (v := .int .i64 x) rfl (y_move rfl) ?_
  refine s_y (v := .pointer (some ⟨b1, 0, none⟩)) rfl (y_fld (o := 0) T67.fld_26_0_0 rfl) ?_
  refine s_y (v := .int .i64 wd) rfl (y_load T67.one_2 rfl ((B.b 0 rfl).cell (j := 0) rfl)) ?_
  refine s_y (v := .int .i64 (wd - 1)) rfl (y_sub rfl rfl rfl (by omega)) ?_
  refine s_k rfl (k_call T67.fn_74 (c_i_within) rfl ?_)
  rintro v6 w4 ⟨hv7, e5⟩
  replace B := B.ext0 e5
  clear e5
  by_cases c8 : within x 0 (wd - 1) = true
  · have hb9 := within_b c8
    obtain rfl : v6 = .bool true := hv7.trans (congrArg Value.bool c8)
    refine s_y (v := .bool true) rfl (y_move rfl) ?_
    refine s_y (v := .int .i64 y) rfl (y_move rfl) ?_
    refine s_y (v := .pointer (some ⟨b1, 1, none⟩)) rfl (y_fld (o := 0) T67.fld_26_1_1 rfl) ?_
    refine s_y (v := .int .i64 hi) rfl (y_load T67.one_2 rfl ((B.b 0 rfl).cell (j := 1) rfl)) ?_
    refine s_y (v := .int .i64 (hi - 1)) rfl (y_sub rfl rfl rfl (by omega)) ?_
    refine s_k rfl (k_call T67.fn_74 (c_i_within) rfl ?_)
    rintro v12 w10 ⟨hv13, e11⟩
    replace B := B.ext0 e11
    clear e11
    by_cases c14 : within y 0 (hi - 1) = true
    · have hb15 := within_b c14
      obtain rfl : v12 = .bool true := hv13.trans (congrArg Value.bool c14)
      refine s_y (v := .bool true) rfl (y_pick_t rfl rfl) ?_
      refine s_y (v := .bool true) rfl (y_assign rfl) ?_
      refine s_nil ?_
      refine W_ret ?_
      refine ret1 (v := .bool true) rfl rfl rfl ⟨_, rfl, ?_⟩
      exact ⟨congrArg Value.bool (by simp only [cellB, c8, c14, Bool.and_true, Bool.true_and, Bool.and_false, Bool.false_and, Bool.not_true, Bool.not_false, Bool.or_true, Bool.true_or, Bool.or_false, Bool.false_or]), B.ext⟩
    · obtain rfl : v12 = .bool false := hv13.trans (congrArg Value.bool (Bool.eq_false_iff.2 c14))
      refine s_y (v := .bool false) rfl (y_pick_t rfl rfl) ?_
      refine s_y (v := .bool false) rfl (y_assign rfl) ?_
      refine s_nil ?_
      refine W_ret ?_
      refine ret1 (v := .bool false) rfl rfl rfl ⟨_, rfl, ?_⟩
      exact ⟨congrArg Value.bool (by simp only [cellB, c8, (Bool.eq_false_iff.2 c14), Bool.and_true, Bool.true_and, Bool.and_false, Bool.false_and, Bool.not_true, Bool.not_false, Bool.or_true, Bool.true_or, Bool.or_false, Bool.false_or]), B.ext⟩
  · obtain rfl : v6 = .bool false := hv7.trans (congrArg Value.bool (Bool.eq_false_iff.2 c8))
    refine s_y (v := .bool false) rfl (y_move rfl) ?_
    refine s_skip rfl ?_
    refine s_skip rfl ?_
    refine s_skip rfl ?_
    refine s_skip rfl ?_
    refine s_skip rfl ?_
    refine s_y (v := .bool false) rfl (y_pick_f rfl rfl) ?_
    refine s_y (v := .bool false) rfl (y_assign rfl) ?_
    refine s_nil ?_
    refine W_ret ?_
    refine ret1 (v := .bool false) rfl rfl rfl ⟨_, rfl, ?_⟩
    exact ⟨congrArg Value.bool (by simp only [cellB, (Bool.eq_false_iff.2 c8), Bool.and_true, Bool.true_and, Bool.and_false, Bool.false_and, Bool.not_true, Bool.not_false, Bool.or_true, Bool.true_or, Bool.or_false, Bool.false_or]), B.ext⟩
namespace T98
theorem mx : Try.prog.follows .mixedOrders = true := by kernel_rfl
theorem fld_26_0_0 : fldB Try.prog 26 0 0 = true := by kernel_rfl
theorem fld_26_1_1 : fldB Try.prog 26 1 1 = true := by kernel_rfl
theorem fld_26_2_2 : fldB Try.prog 26 2 2 = true := by kernel_rfl
theorem one_2 : oneB Try.prog 2 = true := by kernel_rfl
theorem one_4 : oneB Try.prog 4 = true := by kernel_rfl
end T98
set_option maxRecDepth 100000 in
set_option maxHeartbeats 4000000 in
theorem c_i_isBorder {wd : Int} {hi : Int} {wr : Bool} {asp : Option Addr} {nsp : Nat} {csp : Nat} {als : Option Addr} {nls : Nat} {cls : Nat} {x : Int} {y : Int} {w : World} (h1 : 3 ≤ wd) (h2 : wd ≤ 16) (h3 : 3 ≤ hi) (h4 : hi ≤ 16) :
    Calls Try.prog 98 #[.agg #[.int .i64 wd, .int .i64 hi, .bool wr, .slice asp nsp csp, .slice als nls cls], .int .i64 x, .int .i64 y] w (Rt fun v w' => v = .bool (bordB wd hi wr x y) ∧ Ext0 w w') := by
  have B : Bu w no w [] := Bu.ro All.nil rfl
  refine calls_W (n := 32) Try.func98 rfl rfl (Nat.le_of_ble_eq_true rfl) ?_
  refine W_seq ?_
  refine W_region (by kernel_rfl) ?_
  refine s_k rfl (k_boxN (v := .agg #[.int .i64 wd, .int .i64 hi, .bool wr, .slice asp nsp csp, .slice als nls cls]) (cs := [.int .i64 wd, .int .i64 hi, .bool wr, .slice asp nsp csp, .slice als nls cls]) rfl rfl (fun b1 w2 hN3 => ?_))
  replace B := B.new1 hN3
  clear hN3
  refine s_y (v := .bool false) rfl (y_assign rfl) ?_
  refine s_nil ?_
  refine W_seq ?_
  refine W_region (by kernel_rfl) ?_
  refine s_y (v := .pointer (some ⟨b1, 2, none⟩)) rfl (y_fld (o := 0) T98.fld_26_2_2 rfl) ?_
  refine s_y (v := .bool wr) rfl (y_load T98.one_4 rfl ((B.b 0 rfl).cell (j := 2) rfl)) ?_
  refine s_y (v := .bool (!wr)) rfl (y_not rfl rfl) ?_
  refine s_y (v := .bool (!wr)) rfl (y_move rfl) ?_
  cases wr
  · refine s_y (v := .int .i64 x) rfl (y_move rfl) ?_
    by_cases c4 : x = 0
    · refine s_y (v := .bool true) rfl (y_eql rfl rfl (decide_eq_true c4)) ?_
      refine s_y (v := .bool true) rfl (y_move rfl) ?_
      refine s_skip rfl ?_
      refine s_skip rfl ?_
      refine s_skip rfl ?_
      refine s_skip rfl ?_
      refine s_skip rfl ?_
      refine s_y (v := .bool true) rfl (y_pick_t rfl rfl) ?_
      refine s_y (v := .bool true) rfl (y_move rfl) ?_
      refine s_skip rfl ?_
      refine s_skip rfl ?_
      refine s_y (v := .bool true) rfl (y_pick_t rfl rfl) ?_
      refine s_y (v := .bool true) rfl (y_move rfl) ?_
      refine s_skip rfl ?_
      refine s_skip rfl ?_
      refine s_skip rfl ?_
      refine s_skip rfl ?_
      refine s_skip rfl ?_
      refine s_y (v := .bool true) rfl (y_pick_t rfl rfl) ?_
      refine s_y (v := .bool true) rfl (y_pick_t rfl rfl) ?_
      refine s_y (v := .bool true) rfl (y_assign rfl) ?_
      refine s_nil ?_
      refine W_ret ?_
      refine ret1 (v := .bool true) rfl rfl rfl ⟨_, rfl, ?_⟩
      exact ⟨congrArg Value.bool (by simp only [bordB, (decide_eq_true c4), Bool.and_true, Bool.true_and, Bool.and_false, Bool.false_and, Bool.not_true, Bool.not_false, Bool.or_true, Bool.true_or, Bool.or_false, Bool.false_or]), B.ext⟩
    · refine s_y (v := .bool false) rfl (y_eql rfl rfl (decide_eq_false c4)) ?_
      refine s_y (v := .bool false) rfl (y_move rfl) ?_
      refine s_y (v := .int .i64 x) rfl (y_move rfl) ?_
      refine s_y (v := .pointer (some ⟨b1, 0, none⟩)) rfl (y_fld (o := 0) T98.fld_26_0_0 rfl) ?_
      refine s_y (v := .int .i64 wd) rfl (y_load T98.one_2 rfl ((B.b 0 rfl).cell (j := 0) rfl)) ?_
      refine s_y (v := .int .i64 (wd - 1)) rfl (y_sub rfl rfl rfl (by omega)) ?_
      by_cases c5 : x = (wd - 1)
      · refine s_y (v := .bool true) rfl (y_eql rfl rfl (decide_eq_true c5)) ?_
        refine s_y (v := .bool true) rfl (y_pick_f rfl rfl) ?_
        refine s_y (v := .bool true) rfl (y_move rfl) ?_
        refine s_skip rfl ?_
        refine s_skip rfl ?_
        refine s_y (v := .bool true) rfl (y_pick_t rfl rfl) ?_
        refine s_y (v := .bool true) rfl (y_move rfl) ?_
        refine s_skip rfl ?_
        refine s_skip rfl ?_
        refine s_skip rfl ?_
        refine s_skip rfl ?_
        refine s_skip rfl ?_
        refine s_y (v := .bool true) rfl (y_pick_t rfl rfl) ?_
        refine s_y (v := .bool true) rfl (y_pick_t rfl rfl) ?_
        refine s_y (v := .bool true) rfl (y_assign rfl) ?_
        refine s_nil ?_
        refine W_ret ?_
        refine ret1 (v := .bool true) rfl rfl rfl ⟨_, rfl, ?_⟩
        exact ⟨congrArg Value.bool (by simp only [bordB, (decide_eq_false c4), (decide_eq_true c5), Bool.and_true, Bool.true_and, Bool.and_false, Bool.false_and, Bool.not_true, Bool.not_false, Bool.or_true, Bool.true_or, Bool.or_false, Bool.false_or]), B.ext⟩
      · refine s_y (v := .bool false) rfl (y_eql rfl rfl (decide_eq_false c5)) ?_
        refine s_y (v := .bool false) rfl (y_pick_f rfl rfl) ?_
        refine s_y (v := .bool false) rfl (y_move rfl) ?_
        refine s_y (v := .int .i64 y) rfl (y_move rfl) ?_
        by_cases c6 : y = 0
        · refine s_y (v := .bool true) rfl (y_eql rfl rfl (decide_eq_true c6)) ?_
          refine s_y (v := .bool true) rfl (y_pick_f rfl rfl) ?_
          refine s_y (v := .bool true) rfl (y_move rfl) ?_
          refine s_skip rfl ?_
          refine s_skip rfl ?_
          refine s_skip rfl ?_
          refine s_skip rfl ?_
          refine s_skip rfl ?_
          refine s_y (v := .bool true) rfl (y_pick_t rfl rfl) ?_
          refine s_y (v := .bool true) rfl (y_pick_t rfl rfl) ?_
          refine s_y (v := .bool true) rfl (y_assign rfl) ?_
          refine s_nil ?_
          refine W_ret ?_
          refine ret1 (v := .bool true) rfl rfl rfl ⟨_, rfl, ?_⟩
          exact ⟨congrArg Value.bool (by simp only [bordB, (decide_eq_false c4), (decide_eq_false c5), (decide_eq_true c6), Bool.and_true, Bool.true_and, Bool.and_false, Bool.false_and, Bool.not_true, Bool.not_false, Bool.or_true, Bool.true_or, Bool.or_false, Bool.false_or]), B.ext⟩
        · refine s_y (v := .bool false) rfl (y_eql rfl rfl (decide_eq_false c6)) ?_
          refine s_y (v := .bool false) rfl (y_pick_f rfl rfl) ?_
          refine s_y (v := .bool false) rfl (y_move rfl) ?_
          refine s_y (v := .int .i64 y) rfl (y_move rfl) ?_
          refine s_y (v := .pointer (some ⟨b1, 1, none⟩)) rfl (y_fld (o := 0) T98.fld_26_1_1 rfl) ?_
          refine s_y (v := .int .i64 hi) rfl (y_load T98.one_2 rfl ((B.b 0 rfl).cell (j := 1) rfl)) ?_
          refine s_y (v := .int .i64 (hi - 1)) rfl (y_sub rfl rfl rfl (by omega)) ?_
          by_cases c7 : y = (hi - 1)
          · refine s_y (v := .bool true) rfl (y_eql rfl rfl (decide_eq_true c7)) ?_
            refine s_y (v := .bool true) rfl (y_pick_f rfl rfl) ?_
            refine s_y (v := .bool true) rfl (y_pick_t rfl rfl) ?_
            refine s_y (v := .bool true) rfl (y_assign rfl) ?_
            refine s_nil ?_
            refine W_ret ?_
            refine ret1 (v := .bool true) rfl rfl rfl ⟨_, rfl, ?_⟩
            exact ⟨congrArg Value.bool (by simp only [bordB, (decide_eq_false c4), (decide_eq_false c5), (decide_eq_false c6), (decide_eq_true c7), Bool.and_true, Bool.true_and, Bool.and_false, Bool.false_and, Bool.not_true, Bool.not_false, Bool.or_true, Bool.true_or, Bool.or_false, Bool.false_or]), B.ext⟩
          · refine s_y (v := .bool false) rfl (y_eql rfl rfl (decide_eq_false c7)) ?_
            refine s_y (v := .bool false) rfl (y_pick_f rfl rfl) ?_
            refine s_y (v := .bool false) rfl (y_pick_t rfl rfl) ?_
            refine s_y (v := .bool false) rfl (y_assign rfl) ?_
            refine s_nil ?_
            refine W_ret ?_
            refine ret1 (v := .bool false) rfl rfl rfl ⟨_, rfl, ?_⟩
            exact ⟨congrArg Value.bool (by simp only [bordB, (decide_eq_false c4), (decide_eq_false c5), (decide_eq_false c6), (decide_eq_false c7), Bool.and_true, Bool.true_and, Bool.and_false, Bool.false_and, Bool.not_true, Bool.not_false, Bool.or_true, Bool.true_or, Bool.or_false, Bool.false_or]), B.ext⟩
  · refine s_skip rfl ?_
    refine s_skip rfl ?_
    refine s_skip rfl ?_
    refine s_skip rfl ?_
    refine s_skip rfl ?_
    refine s_skip rfl ?_
    refine s_skip rfl ?_
    refine s_skip rfl ?_
    refine s_skip rfl ?_
    refine s_skip rfl ?_
    refine s_skip rfl ?_
    refine s_skip rfl ?_
    refine s_skip rfl ?_
    refine s_skip rfl ?_
    refine s_skip rfl ?_
    refine s_skip rfl ?_
    refine s_skip rfl ?_
    refine s_skip rfl ?_
    refine s_skip rfl ?_
    refine s_skip rfl ?_
    refine s_y (v := .bool false) rfl (y_pick_f rfl rfl) ?_
    refine s_y (v := .bool false) rfl (y_assign rfl) ?_
    refine s_nil ?_
    refine W_ret ?_
    refine ret1 (v := .bool false) rfl rfl rfl ⟨_, rfl, ?_⟩
    exact ⟨congrArg Value.bool (by simp only [bordB, Bool.and_true, Bool.true_and, Bool.and_false, Bool.false_and, Bool.not_true, Bool.not_false, Bool.or_true, Bool.true_or, Bool.or_false, Bool.false_or]), B.ext⟩
namespace T93
theorem mx : Try.prog.follows .mixedOrders = true := by kernel_rfl
theorem fld_26_0_0 : fldB Try.prog 26 0 0 = true := by kernel_rfl
theorem fld_26_1_1 : fldB Try.prog 26 1 1 = true := by kernel_rfl
theorem fld_26_2_2 : fldB Try.prog 26 2 2 = true := by kernel_rfl
theorem one_2 : oneB Try.prog 2 = true := by kernel_rfl
theorem one_4 : oneB Try.prog 4 = true := by kernel_rfl
end T93
set_option maxRecDepth 100000 in
set_option maxHeartbeats 4000000 in
theorem c_s_l02Border {b : Nat} {o : Nat} {wd : Int} {hi : Int} {wr : Bool} {asp : Option Addr} {nsp : Nat} {csp : Nat} {als : Option Addr} {nls : Nat} {cls : Nat} {x : Int} {y : Int} {w : World} (Pb : Sl w (some ⟨b, o, none⟩) [.int .i64 wd, .int .i64 hi, .bool wr, .slice asp nsp csp, .slice als nls cls]) (h1 : 3 ≤ wd) (h2 : wd ≤ 16) (h3 : 3 ≤ hi) (h4 : hi ≤ 16) :
    Calls Try.prog 93 #[.pointer (some ⟨b, o, none⟩), .int .i64 x, .int .i64 y] w (Rt fun v w' => v = .bool (bordB wd hi wr x y) ∧ Ext0 w w') := by
  have B : Bu w no w [.sl (some ⟨b, o, none⟩) [.int .i64 wd, .int .i64 hi, .bool wr, .slice asp nsp csp, .slice als nls cls]] := Bu.ro (All.cons Pb All.nil) rfl
  refine calls_W (n := 38) Try.func93 rfl rfl (Nat.le_of_ble_eq_true rfl) ?_
  refine W_seq ?_
  refine W_region (by kernel_rfl) ?_
  refine s_y (v := .bool false) rfl (y_assign rfl) ?_
  refine s_nil ?_
  refine W_seq ?_
  refine W_region (by kernel_rfl) ?_
  refine s_y (v := .pointer (some ⟨b, o, none⟩)) rfl (y_move rfl) ?_
  refine s_y (v := .pointer (some ⟨b, o, none⟩)) rfl (y_nil rfl) ?_
  refine s_y (v := .pointer (some ⟨b, o + 2, none⟩)) rfl (y_fld (o := o + 0) T93.fld_26_2_2 rfl) ?_
  refine s_y (v := .bool wr) rfl (y_load T93.one_4 rfl ((B.s 0 rfl).cell (j := 2) rfl)) ?_
  refine s_y (v := .bool (!wr)) rfl (y_not rfl rfl) ?_
  refine s_y (v := .bool (!wr)) rfl (y_move rfl) ?_
  cases wr
  · refine s_y (v := .int .i64 x) rfl (y_move rfl) ?_
    by_cases c1 : x = 0
    · refine s_y (v := .bool true) rfl (y_eql rfl rfl (decide_eq_true c1)) ?_
      refine s_y (v := .bool true) rfl (y_move rfl) ?_
      refine s_skip rfl ?_
      refine s_skip rfl ?_
      refine s_skip rfl ?_
      refine s_skip rfl ?_
      refine s_skip rfl ?_
      refine s_skip rfl ?_
      refine s_skip rfl ?_
      refine s_y (v := .bool true) rfl (y_pick_t rfl rfl) ?_
      refine s_y (v := .bool true) rfl (y_move rfl) ?_
      refine s_skip rfl ?_
      refine s_skip rfl ?_
      refine s_y (v := .bool true) rfl (y_pick_t rfl rfl) ?_
      refine s_y (v := .bool true) rfl (y_move rfl) ?_
      refine s_skip rfl ?_
      refine s_skip rfl ?_
      refine s_skip rfl ?_
      refine s_skip rfl ?_
      refine s_skip rfl ?_
      refine s_skip rfl ?_
      refine s_skip rfl ?_
      refine s_y (v := .bool true) rfl (y_pick_t rfl rfl) ?_
      refine s_y (v := .bool true) rfl (y_pick_t rfl rfl) ?_
      refine s_y (v := .bool true) rfl (y_assign rfl) ?_
      refine s_nil ?_
      refine W_ret ?_
      refine ret1 (v := .bool true) rfl rfl rfl ⟨_, rfl, ?_⟩
      exact ⟨congrArg Value.bool (by simp only [bordB, (decide_eq_true c1), Bool.and_true, Bool.true_and, Bool.and_false, Bool.false_and, Bool.not_true, Bool.not_false, Bool.or_true, Bool.true_or, Bool.or_false, Bool.false_or]), B.ext⟩
    · refine s_y (v := .bool false) rfl (y_eql rfl rfl (decide_eq_false c1)) ?_
      refine s_y (v := .bool false) rfl (y_move rfl) ?_
      refine s_y (v := .int .i64 x) rfl (y_move rfl) ?_
      refine s_y (v := .pointer (some ⟨b, o, none⟩)) rfl (y_move rfl) ?_
      refine s_y (v := .pointer (some ⟨b, o, none⟩)) rfl (y_nil rfl) ?_
      refine s_y (v := .pointer (some ⟨b, o, none⟩)) rfl (y_fld (o := o + 0) T93.fld_26_0_0 rfl) ?_
      refine s_y (v := .int .i64 wd) rfl (y_load T93.one_2 rfl ((B.s 0 rfl).cell (j := 0) rfl)) ?_
      refine s_y (v := .int .i64 (wd - 1)) rfl (y_sub rfl rfl rfl (by omega)) ?_
      by_cases c2 : x = (wd - 1)
      · refine s_y (v := .bool true) rfl (y_eql rfl rfl (decide_eq_true c2)) ?_
        refine s_y (v := .bool true) rfl (y_pick_f rfl rfl) ?_
        refine s_y (v := .bool true) rfl (y_move rfl) ?_
        refine s_skip rfl ?_
        refine s_skip rfl ?_
        refine s_y (v := .bool true) rfl (y_pick_t rfl rfl) ?_
        refine s_y (v := .bool true) rfl (y_move rfl) ?_
        refine s_skip rfl ?_
        refine s_skip rfl ?_
        refine s_skip rfl ?_
        refine s_skip rfl ?_
        refine s_skip rfl ?_
        refine s_skip rfl ?_
        refine s_skip rfl ?_
        refine s_y (v := .bool true) rfl (y_pick_t rfl rfl) ?_
        refine s_y (v := .bool true) rfl (y_pick_t rfl rfl) ?_
        refine s_y (v := .bool true) rfl (y_assign rfl) ?_
        refine s_nil ?_
        refine W_ret ?_
        refine ret1 (v := .bool true) rfl rfl rfl ⟨_, rfl, ?_⟩
        exact ⟨congrArg Value.bool (by simp only [bordB, (decide_eq_false c1), (decide_eq_true c2), Bool.and_true, Bool.true_and, Bool.and_false, Bool.false_and, Bool.not_true, Bool.not_false, Bool.or_true, Bool.true_or, Bool.or_false, Bool.false_or]), B.ext⟩
      · refine s_y (v := .bool false) rfl (y_eql rfl rfl (decide_eq_false c2)) ?_
        refine s_y (v := .bool false) rfl (y_pick_f rfl rfl) ?_
        refine s_y (v := .bool false) rfl (y_move rfl) ?_
        refine s_y (v := .int .i64 y) rfl (y_move rfl) ?_
        by_cases c3 : y = 0
        · refine s_y (v := .bool true) rfl (y_eql rfl rfl (decide_eq_true c3)) ?_
          refine s_y (v := .bool true) rfl (y_pick_f rfl rfl) ?_
          refine s_y (v := .bool true) rfl (y_move rfl) ?_
          refine s_skip rfl ?_
          refine s_skip rfl ?_
          refine s_skip rfl ?_
          refine s_skip rfl ?_
          refine s_skip rfl ?_
          refine s_skip rfl ?_
          refine s_skip rfl ?_
          refine s_y (v := .bool true) rfl (y_pick_t rfl rfl) ?_
          refine s_y (v := .bool true) rfl (y_pick_t rfl rfl) ?_
          refine s_y (v := .bool true) rfl (y_assign rfl) ?_
          refine s_nil ?_
          refine W_ret ?_
          refine ret1 (v := .bool true) rfl rfl rfl ⟨_, rfl, ?_⟩
          exact ⟨congrArg Value.bool (by simp only [bordB, (decide_eq_false c1), (decide_eq_false c2), (decide_eq_true c3), Bool.and_true, Bool.true_and, Bool.and_false, Bool.false_and, Bool.not_true, Bool.not_false, Bool.or_true, Bool.true_or, Bool.or_false, Bool.false_or]), B.ext⟩
        · refine s_y (v := .bool false) rfl (y_eql rfl rfl (decide_eq_false c3)) ?_
          refine s_y (v := .bool false) rfl (y_pick_f rfl rfl) ?_
          refine s_y (v := .bool false) rfl (y_move rfl) ?_
          refine s_y (v := .int .i64 y) rfl (y_move rfl) ?_
          refine s_y (v := .pointer (some ⟨b, o, none⟩)) rfl (y_move rfl) ?_
          refine s_y (v := .pointer (some ⟨b, o, none⟩)) rfl (y_nil rfl) ?_
          refine s_y (v := .pointer (some ⟨b, o + 1, none⟩)) rfl (y_fld (o := o + 0) T93.fld_26_1_1 rfl) ?_
          refine s_y (v := .int .i64 hi) rfl (y_load T93.one_2 rfl ((B.s 0 rfl).cell (j := 1) rfl)) ?_
          refine s_y (v := .int .i64 (hi - 1)) rfl (y_sub rfl rfl rfl (by omega)) ?_
          by_cases c4 : y = (hi - 1)
          · refine s_y (v := .bool true) rfl (y_eql rfl rfl (decide_eq_true c4)) ?_
            refine s_y (v := .bool true) rfl (y_pick_f rfl rfl) ?_
            refine s_y (v := .bool true) rfl (y_pick_t rfl rfl) ?_
            refine s_y (v := .bool true) rfl (y_assign rfl) ?_
            refine s_nil ?_
            refine W_ret ?_
            refine ret1 (v := .bool true) rfl rfl rfl ⟨_, rfl, ?_⟩
            exact ⟨congrArg Value.bool (by simp only [bordB, (decide_eq_false c1), (decide_eq_false c2), (decide_eq_false c3), (decide_eq_true c4), Bool.and_true, Bool.true_and, Bool.and_false, Bool.false_and, Bool.not_true, Bool.not_false, Bool.or_true, Bool.true_or, Bool.or_false, Bool.false_or]), B.ext⟩
          · refine s_y (v := .bool false) rfl (y_eql rfl rfl (decide_eq_false c4)) ?_
            refine s_y (v := .bool false) rfl (y_pick_f rfl rfl) ?_
            refine s_y (v := .bool false) rfl (y_pick_t rfl rfl) ?_
            refine s_y (v := .bool false) rfl (y_assign rfl) ?_
            refine s_nil ?_
            refine W_ret ?_
            refine ret1 (v := .bool false) rfl rfl rfl ⟨_, rfl, ?_⟩
            exact ⟨congrArg Value.bool (by simp only [bordB, (decide_eq_false c1), (decide_eq_false c2), (decide_eq_false c3), (decide_eq_false c4), Bool.and_true, Bool.true_and, Bool.and_false, Bool.false_and, Bool.not_true, Bool.not_false, Bool.or_true, Bool.true_or, Bool.or_false, Bool.false_or]), B.ext⟩
  · refine s_skip rfl ?_
    refine s_skip rfl ?_
    refine s_skip rfl ?_
    refine s_skip rfl ?_
    refine s_skip rfl ?_
    refine s_skip rfl ?_
    refine s_skip rfl ?_
    refine s_skip rfl ?_
    refine s_skip rfl ?_
    refine s_skip rfl ?_
    refine s_skip rfl ?_
    refine s_skip rfl ?_
    refine s_skip rfl ?_
    refine s_skip rfl ?_
    refine s_skip rfl ?_
    refine s_skip rfl ?_
    refine s_skip rfl ?_
    refine s_skip rfl ?_
    refine s_skip rfl ?_
    refine s_skip rfl ?_
    refine s_skip rfl ?_
    refine s_skip rfl ?_
    refine s_skip rfl ?_
    refine s_skip rfl ?_
    refine s_y (v := .bool false) rfl (y_pick_f rfl rfl) ?_
    refine s_y (v := .bool false) rfl (y_assign rfl) ?_
    refine s_nil ?_
    refine W_ret ?_
    refine ret1 (v := .bool false) rfl rfl rfl ⟨_, rfl, ?_⟩
    exact ⟨congrArg Value.bool (by simp only [bordB, Bool.and_true, Bool.true_and, Bool.and_false, Bool.false_and, Bool.not_true, Bool.not_false, Bool.or_true, Bool.true_or, Bool.or_false, Bool.false_or]), B.ext⟩
namespace T41
theorem mx : Try.prog.follows .mixedOrders = true := by kernel_rfl
theorem agg_26_5 : aggB Try.prog 26 5 = true := by kernel_rfl
theorem fld_26_0_0 : fldB Try.prog 26 0 0 = true := by kernel_rfl
theorem fld_26_1_1 : fldB Try.prog 26 1 1 = true := by kernel_rfl
theorem fld_26_2_2 : fldB Try.prog 26 2 2 = true := by kernel_rfl
theorem fld_30_0_0 : fldB Try.prog 30 0 0 = true := by kernel_rfl
theorem fld_30_1_1 : fldB Try.prog 30 1 1 = true := by kernel_rfl
theorem fld_30_2_2 : fldB Try.prog 30 2 2 = true := by kernel_rfl
theorem fn_65 : fnB Try.prog 65 = true := by kernel_rfl
theorem fn_98 : fnB Try.prog 98 = true := by kernel_rfl
theorem one_2 : oneB Try.prog 2 = true := by kernel_rfl
theorem one_24 : oneB Try.prog 24 = true := by kernel_rfl
theorem one_34 : oneB Try.prog 34 = true := by kernel_rfl
theorem one_4 : oneB Try.prog 4 = true := by kernel_rfl
theorem sl_24_34_1 : slB Try.prog 24 34 1 = true := by kernel_rfl
end T41
set_option maxRecDepth 100000 in
set_option maxHeartbeats 4000000 in
theorem c_i_IsField {wd : Int} {hi : Int} {wr : Bool} {asp : Option Addr} {nsp : Nat} {csp : Nat} {Xsp : List Nat} {als : Option Addr} {nls : Nat} {cls : Nat} {Xls : List Nat} {afe : Option Addr} {nfe : Nat} {cfe : Nat} {Xfe : List Nat} {afx : Option Addr} {nfx : Nat} {cfx : Nat} {Xfx : List Nat} {afy : Option Addr} {nfy : Nat} {cfy : Nat} {Xfy : List Nat} {w : World} (qsp : Rd w kF asp nsp Xsp) (qls : Rd w kF als nls Xls) (qfe : Rd w kF afe nfe Xfe) (qfx : Rd w kF afx nfx Xfx) (qfy : Rd w kF afy nfy Xfy) (hbsp : nsp ≤ 9223372036854775806) (hbls : nls ≤ 9223372036854775806) (hbfe : nfe ≤ 9223372036854775806) (hbfx : nfx ≤ 9223372036854775806) (hbfy : nfy ≤ 9223372036854775806) :
    Calls Try.prog 41 #[.agg #[.int .i64 wd, .int .i64 hi, .bool wr, .slice asp nsp csp, .slice als nls cls], .agg #[.slice afe nfe cfe, .slice afx nfx cfx, .slice afy nfy cfy]] w (Rt fun v w' => v = .bool (fieldB wd hi wr Xsp Xls Xfe Xfx Xfy) ∧ Ext0 w w') := by
  have hlsp := qsp.len
  have hlls := qls.len
  have hlfe := qfe.len
  have hlfx := qfx.len
  have hlfy := qfy.len
  have B : Bu w no w [.rd kF asp nsp Xsp, .rd kF als nls Xls, .rd kF afe nfe Xfe, .rd kF afx nfx Xfx, .rd kF afy nfy Xfy] := Bu.ro (All.cons qsp (All.cons qls (All.cons qfe (All.cons qfx (All.cons qfy All.nil))))) rfl
  refine calls_W (n := 95) Try.func41 rfl rfl (Nat.le_of_ble_eq_true rfl) ?_
  refine W_seq ?_
  refine W_region (by kernel_rfl) ?_
  refine s_k rfl (k_boxN (v := .agg #[.int .i64 wd, .int .i64 hi, .bool wr, .slice asp nsp csp, .slice als nls cls]) (cs := [.int .i64 wd, .int .i64 hi, .bool wr, .slice asp nsp csp, .slice als nls cls]) rfl rfl (fun b1 w2 hN3 => ?_))
  replace B := B.new1 hN3
  clear hN3
  refine s_k rfl (k_boxN (v := .agg #[.slice afe nfe cfe, .slice afx nfx cfx, .slice afy nfy cfy]) (cs := [.slice afe nfe cfe, .slice afx nfx cfx, .slice afy nfy cfy]) rfl rfl (fun b4 w5 hN6 => ?_))
  replace B := B.new1 hN6
  clear hN6
  refine s_y (v := .bool false) rfl (y_assign rfl) ?_
  refine s_nil ?_
  refine W_seq ?_
  refine W_region (by kernel_rfl) ?_
  refine s_y (v := .pointer (some ⟨b1, 0, none⟩)) rfl (y_fld (o := 0) T41.fld_26_0_0 rfl) ?_
  refine s_y (v := .int .i64 wd) rfl (y_load T41.one_2 rfl ((B.b 1 rfl).cell (j := 0) rfl)) ?_
  refine s_y (v := .pointer (some ⟨b1, 1, none⟩)) rfl (y_fld (o := 0) T41.fld_26_1_1 rfl) ?_
  refine s_y (v := .int .i64 hi) rfl (y_load T41.one_2 rfl ((B.b 1 rfl).cell (j := 1) rfl)) ?_
  by_cases hr7 : -9223372036854775808 ≤ wd * hi ∧ wd * hi ≤ 9223372036854775807
  · refine s_y (v := .int .i64 (wd * hi)) rfl (y_mul rfl rfl rfl hr7) ?_
    refine s_y (v := .int .i64 (wd * hi)) rfl (y_assign rfl) ?_
    refine s_nil ?_
    refine W_seq ?_
    refine W_seq ?_
    refine W_region (by kernel_rfl) ?_
    refine s_y (v := .agg #[.int .i64 wd, .int .i64 hi, .bool wr, .slice asp nsp csp, .slice als nls cls]) rfl (y_loadn (b := b1) (o := 0) (vs := [.int .i64 wd, .int .i64 hi, .bool wr, .slice asp nsp csp, .slice als nls cls]) T41.agg_26_5 rfl rfl ((B.b 1 rfl).cells (o := 0) rfl)) ?_
    refine s_k rfl (k_call T41.fn_65 (c_i_ValidSheet (B.r 2 rfl) (B.r 3 rfl) (by omega) (by omega)) rfl ?_)
    rintro v10 w8 ⟨hv11, e9⟩
    replace B := B.ext0 e9
    clear e9
    by_cases c12 : validS wd hi Xsp Xls = true
    · have hb13 := validS_b c12
      obtain rfl : v10 = .bool true := hv11.trans (congrArg Value.bool c12)
      refine s_y (v := .bool false) rfl (y_not rfl rfl) ?_
      refine s_y (v := .bool false) rfl (y_move rfl) ?_
      refine s_y (v := .pointer (some ⟨b4, 0, none⟩)) rfl (y_fld (o := 0) T41.fld_30_0_0 rfl) ?_
      refine s_y (v := .slice afe nfe cfe) rfl (y_load T41.one_24 rfl ((B.b 0 rfl).cell (j := 0) rfl)) ?_
      refine s_y (v := .int .i64 ((nfe : Nat) : Int)) rfl (y_len T41.sl_24_34_1 rfl rfl) ?_
      refine s_y (v := .int .i64 (wd * hi)) rfl (y_move rfl) ?_
      by_cases c14 : ((nfe : Nat) : Int) ≠ (wd * hi)
      · refine s_y (v := .bool true) rfl (y_neq rfl rfl (decide_eq_true c14)) ?_
        refine s_y (v := .bool true) rfl (y_pick_f rfl rfl) ?_
        refine s_y (v := .bool true) rfl (y_move rfl) ?_
        refine s_skip rfl ?_
        refine s_skip rfl ?_
        refine s_skip rfl ?_
        refine s_skip rfl ?_
        refine s_skip rfl ?_
        refine s_y (v := .bool true) rfl (y_pick_t rfl rfl) ?_
        refine s_y (v := .bool true) rfl (y_move rfl) ?_
        refine s_skip rfl ?_
        refine s_skip rfl ?_
        refine s_skip rfl ?_
        refine s_skip rfl ?_
        refine s_skip rfl ?_
        refine s_y (v := .bool true) rfl (y_pick_t rfl rfl) ?_
        refine s_nil ?_
        refine W_if_t (by decide) rfl ?_
        refine W_seq ?_
        refine W_region (by kernel_rfl) ?_
        refine s_y (v := .bool false) rfl (y_assign rfl) ?_
        refine s_nil ?_
        refine W_ret ?_
        refine ret1 (v := .bool false) rfl rfl rfl ⟨_, rfl, ?_⟩
        exact ⟨congrArg Value.bool (by first | exact (field_n0 (by assumption)).symm | exact (field_n1 (by omega)).symm | exact (field_n2 (by omega)).symm | exact (field_n3 (by omega)).symm), B.ext⟩
      · refine s_y (v := .bool false) rfl (y_neq rfl rfl (decide_eq_false c14)) ?_
        refine s_y (v := .bool false) rfl (y_pick_f rfl rfl) ?_
        refine s_y (v := .bool false) rfl (y_move rfl) ?_
        refine s_y (v := .pointer (some ⟨b4, 1, none⟩)) rfl (y_fld (o := 0) T41.fld_30_1_1 rfl) ?_
        refine s_y (v := .slice afx nfx cfx) rfl (y_load T41.one_24 rfl ((B.b 0 rfl).cell (j := 1) rfl)) ?_
        refine s_y (v := .int .i64 ((nfx : Nat) : Int)) rfl (y_len T41.sl_24_34_1 rfl rfl) ?_
        refine s_y (v := .int .i64 (wd * hi)) rfl (y_move rfl) ?_
        by_cases c15 : ((nfx : Nat) : Int) ≠ (wd * hi)
        · refine s_y (v := .bool true) rfl (y_neq rfl rfl (decide_eq_true c15)) ?_
          refine s_y (v := .bool true) rfl (y_pick_f rfl rfl) ?_
          refine s_y (v := .bool true) rfl (y_move rfl) ?_
          refine s_skip rfl ?_
          refine s_skip rfl ?_
          refine s_skip rfl ?_
          refine s_skip rfl ?_
          refine s_skip rfl ?_
          refine s_y (v := .bool true) rfl (y_pick_t rfl rfl) ?_
          refine s_nil ?_
          refine W_if_t (by decide) rfl ?_
          refine W_seq ?_
          refine W_region (by kernel_rfl) ?_
          refine s_y (v := .bool false) rfl (y_assign rfl) ?_
          refine s_nil ?_
          refine W_ret ?_
          refine ret1 (v := .bool false) rfl rfl rfl ⟨_, rfl, ?_⟩
          exact ⟨congrArg Value.bool (by first | exact (field_n0 (by assumption)).symm | exact (field_n1 (by omega)).symm | exact (field_n2 (by omega)).symm | exact (field_n3 (by omega)).symm), B.ext⟩
        · refine s_y (v := .bool false) rfl (y_neq rfl rfl (decide_eq_false c15)) ?_
          refine s_y (v := .bool false) rfl (y_pick_f rfl rfl) ?_
          refine s_y (v := .bool false) rfl (y_move rfl) ?_
          refine s_y (v := .pointer (some ⟨b4, 2, none⟩)) rfl (y_fld (o := 0) T41.fld_30_2_2 rfl) ?_
          refine s_y (v := .slice afy nfy cfy) rfl (y_load T41.one_24 rfl ((B.b 0 rfl).cell (j := 2) rfl)) ?_
          refine s_y (v := .int .i64 ((nfy : Nat) : Int)) rfl (y_len T41.sl_24_34_1 rfl rfl) ?_
          refine s_y (v := .int .i64 (wd * hi)) rfl (y_move rfl) ?_
          by_cases c16 : ((nfy : Nat) : Int) ≠ (wd * hi)
          · refine s_y (v := .bool true) rfl (y_neq rfl rfl (decide_eq_true c16)) ?_
            refine s_y (v := .bool true) rfl (y_pick_f rfl rfl) ?_
            refine s_nil ?_
            refine W_if_t (by decide) rfl ?_
            refine W_seq ?_
            refine W_region (by kernel_rfl) ?_
            refine s_y (v := .bool false) rfl (y_assign rfl) ?_
            refine s_nil ?_
            refine W_ret ?_
            refine ret1 (v := .bool false) rfl rfl rfl ⟨_, rfl, ?_⟩
            exact ⟨congrArg Value.bool (by first | exact (field_n0 (by assumption)).symm | exact (field_n1 (by omega)).symm | exact (field_n2 (by omega)).symm | exact (field_n3 (by omega)).symm), B.ext⟩
          · refine s_y (v := .bool false) rfl (y_neq rfl rfl (decide_eq_false c16)) ?_
            refine s_y (v := .bool false) rfl (y_pick_f rfl rfl) ?_
            refine s_nil ?_
            refine W_if_f (by decide) rfl ?_
            refine W_skip ?_
            refine W_seq ?_
            refine W_seq ?_
            refine W_region (by kernel_rfl) ?_
            refine s_y (v := .pointer (some ⟨b1, 2, none⟩)) rfl (y_fld (o := 0) T41.fld_26_2_2 rfl) ?_
            refine s_y (v := .bool wr) rfl (y_load T41.one_4 rfl ((B.b 1 rfl).cell (j := 2) rfl)) ?_
            refine s_nil ?_
            cases wr
            · refine W_if_f (by decide) rfl ?_
              refine W_skip ?_
              refine W_seq ?_
              refine W_seq ?_
              refine W_region (by kernel_rfl) ?_
              refine s_y (v := .int .i64 (wd * hi)) rfl (y_move rfl) ?_
              refine s_y (v := .int .i64 0) rfl (y_move rfl) ?_
              refine s_nil ?_
              refine W_block ?_
              refine W_loop (fun ρ' w' => ∃ (ρ1 : Env) (i : Int), ρ' = updL ρ1 [(2, .pointer (some ⟨b1, 0, none⟩)), (3, .pointer (some ⟨b4, 0, none⟩)), (40, .int .i64 (wd * hi)), (41, .int .i64 i)] ∧ Bu w no w' [.blk b4 [.slice afe nfe cfe, .slice afx nfx cfx, .slice afy nfy cfy] 30, .blk b1 [.int .i64 wd, .int .i64 hi, .bool false, .slice asp nsp csp, .slice als nls cls] 26, .rd kF asp nsp Xsp, .rd kF als nls Xls, .rd kF afe nfe Xfe, .rd kF afx nfx Xfx, .rd kF afy nfy Xfy] ∧ (0 ≤ i) ∧ (i ≤ wd * hi) ∧ (∀ j, 0 ≤ j → j < i → edgeB wd hi Xfe Xfx Xfy (j % wd) (j / wd) j = false)) (fun ρ' _ => (wd * hi - iv (ρ' 41)).toNat) ?_ ?_
              · exact ⟨_, 0, Fits.eq ⟨rfl, rfl, rfl, rfl, trivial⟩, B, (Int.le_refl _), (by omega), (by intro j h0 h1; omega)⟩
              · clear B; rintro _ w17 ⟨ρ18, i, rfl, B, h0i, h1i, hq⟩
                refine W_seq ?_
                refine W_region (by kernel_rfl) ?_
                by_cases c19 : i < (wd * hi)
                · refine s_y (v := .bool true) rfl (y_lss rfl rfl (decide_eq_true c19)) ?_
                  refine s_nil ?_
                  refine W_seq ?_
                  refine W_if_t (by decide) rfl ?_
                  refine W_skip ?_
                  refine W_seq ?_
                  refine W_block ?_
                  refine W_seq ?_
                  refine W_region (by kernel_rfl) ?_
                  refine s_y (v := .int .i64 i) rfl (y_move rfl) ?_
                  refine s_y (v := .int .i64 i) rfl (y_assign rfl) ?_
                  refine s_nil ?_
                  refine W_seq ?_
                  have B0_24 := B
                  refine W_draw (no) T41.mx (by kernel_rfl) (fun w22 e23 => ?_)
                  have R25 := Ext.refl (no) w17
                  replace R25 := R25.trans (Ext0.any e23)
                  replace B := B.ext0 e23
                  clear e23
                  refine m_y (v := .int .i64 i) 0 rfl (by kernel_rfl) rfl rfl (fun w' e' => y_move rfl) ?_
                  refine m_y (v := .pointer (some ⟨b1, 0, none⟩)) 1 rfl (by kernel_rfl) rfl rfl (fun w' e' => y_fld (o := 0) T41.fld_26_0_0 rfl) ?_
                  refine m_y (v := .int .i64 wd) 2 rfl (by kernel_rfl) rfl rfl (fun w' e' => y_load T41.one_2 rfl (((B0_24.b 1 rfl).ext0 e').cell (j := 0) rfl)) ?_
                  have hm26 := rem_b (x := i) (m := wd) (by omega) (by omega)
                  refine m_y (v := .int .i64 (i % wd)) 3 rfl (by kernel_rfl) rfl rfl (fun w' e' => y_rem rfl rfl (by omega) (by omega) rfl) ?_
                  refine m_y (v := .int .i64 i) 4 rfl (by kernel_rfl) rfl rfl (fun w' e' => y_move rfl) ?_
                  refine m_y (v := .pointer (some ⟨b1, 0, none⟩)) 5 rfl (by kernel_rfl) rfl rfl (fun w' e' => y_fld (o := 0) T41.fld_26_0_0 rfl) ?_
                  refine m_y (v := .int .i64 wd) 6 rfl (by kernel_rfl) rfl rfl (fun w' e' => y_load T41.one_2 rfl (((B0_24.b 1 rfl).ext0 e').cell (j := 0) rfl)) ?_
                  have hm27 := quo_b (x := i) (m := wd) (by omega) (by omega)
                  refine m_y (v := .int .i64 (i / wd)) 7 rfl (by kernel_rfl) rfl rfl (fun w' e' => y_quo rfl rfl (by omega) (by omega) (by omega) rfl) ?_
                  refine m_y (v := .int .i64 (i % wd)) 8 rfl (by kernel_rfl) rfl rfl (fun w' e' => y_assign rfl) ?_
                  refine m_y (v := .int .i64 (i / wd)) 9 rfl (by kernel_rfl) rfl rfl (fun w' e' => y_assign rfl) ?_
                  refine m_done (by kernel_rfl) (fun w28 e29 => ?_)
                  replace B := B.ext0 e29
                  clear e29
                  clear B0_24 R25
                  refine W_seq ?_
                  refine W_region (by kernel_rfl) ?_
                  refine s_y (v := .agg #[.int .i64 wd, .int .i64 hi, .bool false, .slice asp nsp csp, .slice als nls cls]) rfl (y_loadn (b := b1) (o := 0) (vs := [.int .i64 wd, .int .i64 hi, .bool false, .slice asp nsp csp, .slice als nls cls]) T41.agg_26_5 rfl rfl ((B.b 1 rfl).cells (o := 0) rfl)) ?_
                  refine s_y (v := .int .i64 (i % wd)) rfl (y_move rfl) ?_
                  refine s_y (v := .int .i64 (i / wd)) rfl (y_move rfl) ?_
                  refine s_k rfl (k_call T41.fn_98 (c_i_isBorder (by omega) (by omega) (by omega) (by omega)) rfl ?_)
                  rintro v32 w30 ⟨hv33, e31⟩
                  replace B := B.ext0 e31
                  clear e31
                  by_cases c34 : bordB wd hi false (i % wd) (i / wd) = true
                  · obtain rfl : v32 = .bool true := hv33.trans (congrArg Value.bool c34)
                    refine s_y (v := .bool true) rfl (y_move rfl) ?_
                    refine s_y (v := .pointer (some ⟨b4, 0, none⟩)) rfl (y_fld (o := 0) T41.fld_30_0_0 rfl) ?_
                    refine s_y (v := .slice afe nfe cfe) rfl (y_load T41.one_24 rfl ((B.b 0 rfl).cell (j := 0) rfl)) ?_
                    refine s_y (v := .int .i64 i) rfl (y_move rfl) ?_
                    refine s_y (v := .pointer (some (sat afe ((i).toNat * 1)))) rfl (y_idx T41.sl_24_34_1 rfl rfl ((B.r 4 rfl).addr (by omega)) (by omega) (by omega)) ?_
                    obtain ⟨r36, hr37, hR35⟩ := Rd.atF (B.r 4 rfl) i (by omega) (by omega)
                    refine s_y (v := .float .f32 r36) rfl (y_load T41.one_34 rfl (hR35.cell (i := 0) rfl)) ?_
                    by_cases c38 : fne .f32 (el Xfe i) 0 = true
                    · refine s_y (v := .bool true) rfl (y_fneq rfl rfl (fneC hr37 (cnLit (k := .f32) (t := 0) (by kernel_rfl) (by kernel_rfl)) c38)) ?_
                      refine s_y (v := .bool true) rfl (y_pick_t rfl rfl) ?_
                      refine s_y (v := .bool true) rfl (y_move rfl) ?_
                      refine s_skip rfl ?_
                      refine s_skip rfl ?_
                      refine s_skip rfl ?_
                      refine s_skip rfl ?_
                      refine s_skip rfl ?_
                      refine s_skip rfl ?_
                      refine s_skip rfl ?_
                      refine s_skip rfl ?_
                      refine s_skip rfl ?_
                      refine s_skip rfl ?_
                      refine s_skip rfl ?_
                      refine s_skip rfl ?_
                      refine s_skip rfl ?_
                      refine s_y (v := .bool true) rfl (y_pick_t rfl rfl) ?_
                      refine s_y (v := .bool true) rfl (y_move rfl) ?_
                      refine s_skip rfl ?_
                      refine s_skip rfl ?_
                      refine s_skip rfl ?_
                      refine s_skip rfl ?_
                      refine s_skip rfl ?_
                      refine s_skip rfl ?_
                      refine s_skip rfl ?_
                      refine s_skip rfl ?_
                      refine s_skip rfl ?_
                      refine s_skip rfl ?_
                      refine s_skip rfl ?_
                      refine s_skip rfl ?_
                      refine s_skip rfl ?_
                      refine s_y (v := .bool true) rfl (y_pick_t rfl rfl) ?_
                      refine s_nil ?_
                      refine W_if_t (by decide) rfl ?_
                      refine W_seq ?_
                      refine W_region (by kernel_rfl) ?_
                      refine s_y (v := .bool false) rfl (y_assign rfl) ?_
                      refine s_nil ?_
                      refine W_ret ?_
                      refine ret1 (v := .bool false) rfl rfl rfl ⟨_, rfl, ?_⟩
                      exact ⟨congrArg Value.bool ((field_no (i := i) (by omega) (by omega) (by simp only [edgeB, c12, (decide_eq_false c14), (decide_eq_false c15), (decide_eq_false c16), (decide_eq_true c19), c34, c38, Bool.and_true, Bool.true_and, Bool.and_false, Bool.false_and, Bool.not_true, Bool.not_false, Bool.or_true, Bool.true_or, Bool.or_false, Bool.false_or])).symm), B.ext⟩
                    · refine s_y (v := .bool false) rfl (y_fneq rfl rfl (fneC hr37 (cnLit (k := .f32) (t := 0) (by kernel_rfl) (by kernel_rfl)) (Bool.eq_false_iff.2 c38))) ?_
                      refine s_y (v := .bool false) rfl (y_pick_t rfl rfl) ?_
                      refine s_y (v := .bool false) rfl (y_move rfl) ?_
                      refine s_y (v := .int .i64 (i / wd)) rfl (y_move rfl) ?_
                      refine s_y (v := .pointer (some ⟨b1, 1, none⟩)) rfl (y_fld (o := 0) T41.fld_26_1_1 rfl) ?_
                      refine s_y (v := .int .i64 hi) rfl (y_load T41.one_2 rfl ((B.b 1 rfl).cell (j := 1) rfl)) ?_
                      refine s_y (v := .int .i64 (hi - 1)) rfl (y_sub rfl rfl rfl (by omega)) ?_
                      by_cases c39 : (i / wd) = (hi - 1)
                      · refine s_y (v := .bool true) rfl (y_eql rfl rfl (decide_eq_true c39)) ?_
                        refine s_y (v := .bool true) rfl (y_move rfl) ?_
                        refine s_y (v := .pointer (some ⟨b4, 1, none⟩)) rfl (y_fld (o := 0) T41.fld_30_1_1 rfl) ?_
                        refine s_y (v := .slice afx nfx cfx) rfl (y_load T41.one_24 rfl ((B.b 0 rfl).cell (j := 1) rfl)) ?_
                        refine s_y (v := .int .i64 i) rfl (y_move rfl) ?_
                        refine s_y (v := .pointer (some (sat afx ((i).toNat * 1)))) rfl (y_idx T41.sl_24_34_1 rfl rfl ((B.r 5 rfl).addr (by omega)) (by omega) (by omega)) ?_
                        obtain ⟨r41, hr42, hR40⟩ := Rd.atF (B.r 5 rfl) i (by omega) (by omega)
                        refine s_y (v := .float .f32 r41) rfl (y_load T41.one_34 rfl (hR40.cell (i := 0) rfl)) ?_
                        by_cases c43 : fne .f32 (el Xfx i) 0 = true
                        · refine s_y (v := .bool true) rfl (y_fneq rfl rfl (fneC hr42 (cnLit (k := .f32) (t := 0) (by kernel_rfl) (by kernel_rfl)) c43)) ?_
                          refine s_y (v := .bool true) rfl (y_pick_t rfl rfl) ?_
                          refine s_y (v := .bool true) rfl (y_pick_f rfl rfl) ?_
                          refine s_y (v := .bool true) rfl (y_move rfl) ?_
                          refine s_skip rfl ?_
                          refine s_skip rfl ?_
                          refine s_skip rfl ?_
                          refine s_skip rfl ?_
                          refine s_skip rfl ?_
                          refine s_skip rfl ?_
                          refine s_skip rfl ?_
                          refine s_skip rfl ?_
                          refine s_skip rfl ?_
                          refine s_skip rfl ?_
                          refine s_skip rfl ?_
                          refine s_skip rfl ?_
                          refine s_skip rfl ?_
                          refine s_y (v := .bool true) rfl (y_pick_t rfl rfl) ?_
                          refine s_nil ?_
                          refine W_if_t (by decide) rfl ?_
                          refine W_seq ?_
                          refine W_region (by kernel_rfl) ?_
                          refine s_y (v := .bool false) rfl (y_assign rfl) ?_
                          refine s_nil ?_
                          refine W_ret ?_
                          refine ret1 (v := .bool false) rfl rfl rfl ⟨_, rfl, ?_⟩
                          exact ⟨congrArg Value.bool ((field_no (i := i) (by omega) (by omega) (by simp only [edgeB, c12, (decide_eq_false c14), (decide_eq_false c15), (decide_eq_false c16), (decide_eq_true c19), c34, (Bool.eq_false_iff.2 c38), (decide_eq_true c39), c43, Bool.and_true, Bool.true_and, Bool.and_false, Bool.false_and, Bool.not_true, Bool.not_false, Bool.or_true, Bool.true_or, Bool.or_false, Bool.false_or])).symm), B.ext⟩
                        · refine s_y (v := .bool false) rfl (y_fneq rfl rfl (fneC hr42 (cnLit (k := .f32) (t := 0) (by kernel_rfl) (by kernel_rfl)) (Bool.eq_false_iff.2 c43))) ?_
                          refine s_y (v := .bool false) rfl (y_pick_t rfl rfl) ?_
                          refine s_y (v := .bool false) rfl (y_pick_f rfl rfl) ?_
                          refine s_y (v := .bool false) rfl (y_move rfl) ?_
                          refine s_y (v := .int .i64 (i % wd)) rfl (y_move rfl) ?_
                          refine s_y (v := .pointer (some ⟨b1, 0, none⟩)) rfl (y_fld (o := 0) T41.fld_26_0_0 rfl) ?_
                          refine s_y (v := .int .i64 wd) rfl (y_load T41.one_2 rfl ((B.b 1 rfl).cell (j := 0) rfl)) ?_
                          refine s_y (v := .int .i64 (wd - 1)) rfl (y_sub rfl rfl rfl (by omega)) ?_
                          by_cases c44 : (i % wd) = (wd - 1)
                          · refine s_y (v := .bool true) rfl (y_eql rfl rfl (decide_eq_true c44)) ?_
                            refine s_y (v := .bool true) rfl (y_move rfl) ?_
                            refine s_y (v := .pointer (some ⟨b4, 2, none⟩)) rfl (y_fld (o := 0) T41.fld_30_2_2 rfl) ?_
                            refine s_y (v := .slice afy nfy cfy) rfl (y_load T41.one_24 rfl ((B.b 0 rfl).cell (j := 2) rfl)) ?_
                            refine s_y (v := .int .i64 i) rfl (y_move rfl) ?_
                            refine s_y (v := .pointer (some (sat afy ((i).toNat * 1)))) rfl (y_idx T41.sl_24_34_1 rfl rfl ((B.r 6 rfl).addr (by omega)) (by omega) (by omega)) ?_
                            obtain ⟨r46, hr47, hR45⟩ := Rd.atF (B.r 6 rfl) i (by omega) (by omega)
                            refine s_y (v := .float .f32 r46) rfl (y_load T41.one_34 rfl (hR45.cell (i := 0) rfl)) ?_
                            by_cases c48 : fne .f32 (el Xfy i) 0 = true
                            · refine s_y (v := .bool true) rfl (y_fneq rfl rfl (fneC hr47 (cnLit (k := .f32) (t := 0) (by kernel_rfl) (by kernel_rfl)) c48)) ?_
                              refine s_y (v := .bool true) rfl (y_pick_t rfl rfl) ?_
                              refine s_y (v := .bool true) rfl (y_pick_f rfl rfl) ?_
                              refine s_nil ?_
                              refine W_if_t (by decide) rfl ?_
                              refine W_seq ?_
                              refine W_region (by kernel_rfl) ?_
                              refine s_y (v := .bool false) rfl (y_assign rfl) ?_
                              refine s_nil ?_
                              refine W_ret ?_
                              refine ret1 (v := .bool false) rfl rfl rfl ⟨_, rfl, ?_⟩
                              exact ⟨congrArg Value.bool ((field_no (i := i) (by omega) (by omega) (by simp only [edgeB, c12, (decide_eq_false c14), (decide_eq_false c15), (decide_eq_false c16), (decide_eq_true c19), c34, (Bool.eq_false_iff.2 c38), (decide_eq_true c39), (Bool.eq_false_iff.2 c43), (decide_eq_true c44), c48, Bool.and_true, Bool.true_and, Bool.and_false, Bool.false_and, Bool.not_true, Bool.not_false, Bool.or_true, Bool.true_or, Bool.or_false, Bool.false_or])).symm), B.ext⟩
                            · refine s_y (v := .bool false) rfl (y_fneq rfl rfl (fneC hr47 (cnLit (k := .f32) (t := 0) (by kernel_rfl) (by kernel_rfl)) (Bool.eq_false_iff.2 c48))) ?_
                              refine s_y (v := .bool false) rfl (y_pick_t rfl rfl) ?_
                              refine s_y (v := .bool false) rfl (y_pick_f rfl rfl) ?_
                              refine s_nil ?_
                              refine W_if_f (by decide) rfl ?_
                              refine W_skip ?_
                              refine W_region (by kernel_rfl) ?_
                              refine s_y (v := .int .i64 (i + 1)) rfl (y_add rfl rfl rfl (by omega)) ?_
                              refine s_y (v := .int .i64 (i + 1)) rfl (y_move rfl) ?_
                              refine s_nil ?_
                              refine ⟨⟨_, i + 1, Fits.eq ⟨rfl, rfl, rfl, rfl, trivial⟩, B, (by omega), (by omega), (edge_more hq (by simp only [edgeB, c12, (decide_eq_false c14), (decide_eq_false c15), (decide_eq_false c16), (decide_eq_true c19), c34, (Bool.eq_false_iff.2 c38), (decide_eq_true c39), (Bool.eq_false_iff.2 c43), (decide_eq_true c44), (Bool.eq_false_iff.2 c48), Bool.and_true, Bool.true_and, Bool.and_false, Bool.false_and, Bool.not_true, Bool.not_false, Bool.or_true, Bool.true_or, Bool.or_false, Bool.false_or]))⟩, ?_⟩
                              show (wd * hi - (i + 1)).toNat < (wd * hi - i).toNat
                              omega
                          · refine s_y (v := .bool false) rfl (y_eql rfl rfl (decide_eq_false c44)) ?_
                            refine s_y (v := .bool false) rfl (y_move rfl) ?_
                            refine s_skip rfl ?_
                            refine s_skip rfl ?_
                            refine s_skip rfl ?_
                            refine s_skip rfl ?_
                            refine s_skip rfl ?_
                            refine s_skip rfl ?_
                            refine s_y (v := .bool false) rfl (y_pick_f rfl rfl) ?_
                            refine s_y (v := .bool false) rfl (y_pick_f rfl rfl) ?_
                            refine s_nil ?_
                            refine W_if_f (by decide) rfl ?_
                            refine W_skip ?_
                            refine W_region (by kernel_rfl) ?_
                            refine s_y (v := .int .i64 (i + 1)) rfl (y_add rfl rfl rfl (by omega)) ?_
                            refine s_y (v := .int .i64 (i + 1)) rfl (y_move rfl) ?_
                            refine s_nil ?_
                            refine ⟨⟨_, i + 1, Fits.eq ⟨rfl, rfl, rfl, rfl, trivial⟩, B, (by omega), (by omega), (edge_more hq (by simp only [edgeB, c12, (decide_eq_false c14), (decide_eq_false c15), (decide_eq_false c16), (decide_eq_true c19), c34, (Bool.eq_false_iff.2 c38), (decide_eq_true c39), (Bool.eq_false_iff.2 c43), (decide_eq_false c44), Bool.and_true, Bool.true_and, Bool.and_false, Bool.false_and, Bool.not_true, Bool.not_false, Bool.or_true, Bool.true_or, Bool.or_false, Bool.false_or]))⟩, ?_⟩
                            show (wd * hi - (i + 1)).toNat < (wd * hi - i).toNat
                            omega
                      · refine s_y (v := .bool false) rfl (y_eql rfl rfl (decide_eq_false c39)) ?_
                        refine s_y (v := .bool false) rfl (y_move rfl) ?_
                        refine s_skip rfl ?_
                        refine s_skip rfl ?_
                        refine s_skip rfl ?_
                        refine s_skip rfl ?_
                        refine s_skip rfl ?_
                        refine s_skip rfl ?_
                        refine s_y (v := .bool false) rfl (y_pick_f rfl rfl) ?_
                        refine s_y (v := .bool false) rfl (y_pick_f rfl rfl) ?_
                        refine s_y (v := .bool false) rfl (y_move rfl) ?_
                        refine s_y (v := .int .i64 (i % wd)) rfl (y_move rfl) ?_
                        refine s_y (v := .pointer (some ⟨b1, 0, none⟩)) rfl (y_fld (o := 0) T41.fld_26_0_0 rfl) ?_
                        refine s_y (v := .int .i64 wd) rfl (y_load T41.one_2 rfl ((B.b 1 rfl).cell (j := 0) rfl)) ?_
                        refine s_y (v := .int .i64 (wd - 1)) rfl (y_sub rfl rfl rfl (by omega)) ?_
                        by_cases c49 : (i % wd) = (wd - 1)
                        · refine s_y (v := .bool true) rfl (y_eql rfl rfl (decide_eq_true c49)) ?_
                          refine s_y (v := .bool true) rfl (y_move rfl) ?_
                          refine s_y (v := .pointer (some ⟨b4, 2, none⟩)) rfl (y_fld (o := 0) T41.fld_30_2_2 rfl) ?_
                          refine s_y (v := .slice afy nfy cfy) rfl (y_load T41.one_24 rfl ((B.b 0 rfl).cell (j := 2) rfl)) ?_
                          refine s_y (v := .int .i64 i) rfl (y_move rfl) ?_
                          refine s_y (v := .pointer (some (sat afy ((i).toNat * 1)))) rfl (y_idx T41.sl_24_34_1 rfl rfl ((B.r 6 rfl).addr (by omega)) (by omega) (by omega)) ?_
                          obtain ⟨r51, hr52, hR50⟩ := Rd.atF (B.r 6 rfl) i (by omega) (by omega)
                          refine s_y (v := .float .f32 r51) rfl (y_load T41.one_34 rfl (hR50.cell (i := 0) rfl)) ?_
                          by_cases c53 : fne .f32 (el Xfy i) 0 = true
                          · refine s_y (v := .bool true) rfl (y_fneq rfl rfl (fneC hr52 (cnLit (k := .f32) (t := 0) (by kernel_rfl) (by kernel_rfl)) c53)) ?_
                            refine s_y (v := .bool true) rfl (y_pick_t rfl rfl) ?_
                            refine s_y (v := .bool true) rfl (y_pick_f rfl rfl) ?_
                            refine s_nil ?_
                            refine W_if_t (by decide) rfl ?_
                            refine W_seq ?_
                            refine W_region (by kernel_rfl) ?_
                            refine s_y (v := .bool false) rfl (y_assign rfl) ?_
                            refine s_nil ?_
                            refine W_ret ?_
                            refine ret1 (v := .bool false) rfl rfl rfl ⟨_, rfl, ?_⟩
                            exact ⟨congrArg Value.bool ((field_no (i := i) (by omega) (by omega) (by simp only [edgeB, c12, (decide_eq_false c14), (decide_eq_false c15), (decide_eq_false c16), (decide_eq_true c19), c34, (Bool.eq_false_iff.2 c38), (decide_eq_false c39), (decide_eq_true c49), c53, Bool.and_true, Bool.true_and, Bool.and_false, Bool.false_and, Bool.not_true, Bool.not_false, Bool.or_true, Bool.true_or, Bool.or_false, Bool.false_or])).symm), B.ext⟩
                          · refine s_y (v := .bool false) rfl (y_fneq rfl rfl (fneC hr52 (cnLit (k := .f32) (t := 0) (by kernel_rfl) (by kernel_rfl)) (Bool.eq_false_iff.2 c53))) ?_
                            refine s_y (v := .bool false) rfl (y_pick_t rfl rfl) ?_
                            refine s_y (v := .bool false) rfl (y_pick_f rfl rfl) ?_
                            refine s_nil ?_
                            refine W_if_f (by decide) rfl ?_
                            refine W_skip ?_
                            refine W_region (by kernel_rfl) ?_
                            refine s_y (v := .int .i64 (i + 1)) rfl (y_add rfl rfl rfl (by omega)) ?_
                            refine s_y (v := .int .i64 (i + 1)) rfl (y_move rfl) ?_
                            refine s_nil ?_
                            refine ⟨⟨_, i + 1, Fits.eq ⟨rfl, rfl, rfl, rfl, trivial⟩, B, (by omega), (by omega), (edge_more hq (by simp only [edgeB, c12, (decide_eq_false c14), (decide_eq_false c15), (decide_eq_false c16), (decide_eq_true c19), c34, (Bool.eq_false_iff.2 c38), (decide_eq_false c39), (decide_eq_true c49), (Bool.eq_false_iff.2 c53), Bool.and_true, Bool.true_and, Bool.and_false, Bool.false_and, Bool.not_true, Bool.not_false, Bool.or_true, Bool.true_or, Bool.or_false, Bool.false_or]))⟩, ?_⟩
                            show (wd * hi - (i + 1)).toNat < (wd * hi - i).toNat
                            omega
                        · refine s_y (v := .bool false) rfl (y_eql rfl rfl (decide_eq_false c49)) ?_
                          refine s_y (v := .bool false) rfl (y_move rfl) ?_
                          refine s_skip rfl ?_
                          refine s_skip rfl ?_
                          refine s_skip rfl ?_
                          refine s_skip rfl ?_
                          refine s_skip rfl ?_
                          refine s_skip rfl ?_
                          refine s_y (v := .bool false) rfl (y_pick_f rfl rfl) ?_
                          refine s_y (v := .bool false) rfl (y_pick_f rfl rfl) ?_
                          refine s_nil ?_
                          refine W_if_f (by decide) rfl ?_
                          refine W_skip ?_
                          refine W_region (by kernel_rfl) ?_
                          refine s_y (v := .int .i64 (i + 1)) rfl (y_add rfl rfl rfl (by omega)) ?_
                          refine s_y (v := .int .i64 (i + 1)) rfl (y_move rfl) ?_
                          refine s_nil ?_
                          refine ⟨⟨_, i + 1, Fits.eq ⟨rfl, rfl, rfl, rfl, trivial⟩, B, (by omega), (by omega), (edge_more hq (by simp only [edgeB, c12, (decide_eq_false c14), (decide_eq_false c15), (decide_eq_false c16), (decide_eq_true c19), c34, (Bool.eq_false_iff.2 c38), (decide_eq_false c39), (decide_eq_false c49), Bool.and_true, Bool.true_and, Bool.and_false, Bool.false_and, Bool.not_true, Bool.not_false, Bool.or_true, Bool.true_or, Bool.or_false, Bool.false_or]))⟩, ?_⟩
                          show (wd * hi - (i + 1)).toNat < (wd * hi - i).toNat
                          omega
                  · obtain rfl : v32 = .bool false := hv33.trans (congrArg Value.bool (Bool.eq_false_iff.2 c34))
                    refine s_y (v := .bool false) rfl (y_move rfl) ?_
                    refine s_skip rfl ?_
                    refine s_skip rfl ?_
                    refine s_skip rfl ?_
                    refine s_skip rfl ?_
                    refine s_skip rfl ?_
                    refine s_skip rfl ?_
                    refine s_y (v := .bool false) rfl (y_pick_f rfl rfl) ?_
                    refine s_y (v := .bool false) rfl (y_move rfl) ?_
                    refine s_y (v := .int .i64 (i / wd)) rfl (y_move rfl) ?_
                    refine s_y (v := .pointer (some ⟨b1, 1, none⟩)) rfl (y_fld (o := 0) T41.fld_26_1_1 rfl) ?_
                    refine s_y (v := .int .i64 hi) rfl (y_load T41.one_2 rfl ((B.b 1 rfl).cell (j := 1) rfl)) ?_
                    refine s_y (v := .int .i64 (hi - 1)) rfl (y_sub rfl rfl rfl (by omega)) ?_
                    by_cases c54 : (i / wd) = (hi - 1)
                    · refine s_y (v := .bool true) rfl (y_eql rfl rfl (decide_eq_true c54)) ?_
                      refine s_y (v := .bool true) rfl (y_move rfl) ?_
                      refine s_y (v := .pointer (some ⟨b4, 1, none⟩)) rfl (y_fld (o := 0) T41.fld_30_1_1 rfl) ?_
                      refine s_y (v := .slice afx nfx cfx) rfl (y_load T41.one_24 rfl ((B.b 0 rfl).cell (j := 1) rfl)) ?_
                      refine s_y (v := .int .i64 i) rfl (y_move rfl) ?_
                      refine s_y (v := .pointer (some (sat afx ((i).toNat * 1)))) rfl (y_idx T41.sl_24_34_1 rfl rfl ((B.r 5 rfl).addr (by omega)) (by omega) (by omega)) ?_
                      obtain ⟨r56, hr57, hR55⟩ := Rd.atF (B.r 5 rfl) i (by omega) (by omega)
                      refine s_y (v := .float .f32 r56) rfl (y_load T41.one_34 rfl (hR55.cell (i := 0) rfl)) ?_
                      by_cases c58 : fne .f32 (el Xfx i) 0 = true
                      · refine s_y (v := .bool true) rfl (y_fneq rfl rfl (fneC hr57 (cnLit (k := .f32) (t := 0) (by kernel_rfl) (by kernel_rfl)) c58)) ?_
                        refine s_y (v := .bool true) rfl (y_pick_t rfl rfl) ?_
                        refine s_y (v := .bool true) rfl (y_pick_f rfl rfl) ?_
                        refine s_y (v := .bool true) rfl (y_move rfl) ?_
                        refine s_skip rfl ?_
                        refine s_skip rfl ?_
                        refine s_skip rfl ?_
                        refine s_skip rfl ?_
                        refine s_skip rfl ?_
                        refine s_skip rfl ?_
                        refine s_skip rfl ?_
                        refine s_skip rfl ?_
                        refine s_skip rfl ?_
                        refine s_skip rfl ?_
                        refine s_skip rfl ?_
                        refine s_skip rfl ?_
                        refine s_skip rfl ?_
                        refine s_y (v := .bool true) rfl (y_pick_t rfl rfl) ?_
                        refine s_nil ?_
                        refine W_if_t (by decide) rfl ?_
                        refine W_seq ?_
                        refine W_region (by kernel_rfl) ?_
                        refine s_y (v := .bool false) rfl (y_assign rfl) ?_
                        refine s_nil ?_
                        refine W_ret ?_
                        refine ret1 (v := .bool false) rfl rfl rfl ⟨_, rfl, ?_⟩
                        exact ⟨congrArg Value.bool ((field_no (i := i) (by omega) (by omega) (by simp only [edgeB, c12, (decide_eq_false c14), (decide_eq_false c15), (decide_eq_false c16), (decide_eq_true c19), (Bool.eq_false_iff.2 c34), (decide_eq_true c54), c58, Bool.and_true, Bool.true_and, Bool.and_false, Bool.false_and, Bool.not_true, Bool.not_false, Bool.or_true, Bool.true_or, Bool.or_false, Bool.false_or])).symm), B.ext⟩
                      · refine s_y (v := .bool false) rfl (y_fneq rfl rfl (fneC hr57 (cnLit (k := .f32) (t := 0) (by kernel_rfl) (by kernel_rfl)) (Bool.eq_false_iff.2 c58))) ?_
                        refine s_y (v := .bool false) rfl (y_pick_t rfl rfl) ?_
                        refine s_y (v := .bool false) rfl (y_pick_f rfl rfl) ?_
                        refine s_y (v := .bool false) rfl (y_move rfl) ?_
                        refine s_y (v := .int .i64 (i % wd)) rfl (y_move rfl) ?_
                        refine s_y (v := .pointer (some ⟨b1, 0, none⟩)) rfl (y_fld (o := 0) T41.fld_26_0_0 rfl) ?_
                        refine s_y (v := .int .i64 wd) rfl (y_load T41.one_2 rfl ((B.b 1 rfl).cell (j := 0) rfl)) ?_
                        refine s_y (v := .int .i64 (wd - 1)) rfl (y_sub rfl rfl rfl (by omega)) ?_
                        by_cases c59 : (i % wd) = (wd - 1)
                        · refine s_y (v := .bool true) rfl (y_eql rfl rfl (decide_eq_true c59)) ?_
                          refine s_y (v := .bool true) rfl (y_move rfl) ?_
                          refine s_y (v := .pointer (some ⟨b4, 2, none⟩)) rfl (y_fld (o := 0) T41.fld_30_2_2 rfl) ?_
                          refine s_y (v := .slice afy nfy cfy) rfl (y_load T41.one_24 rfl ((B.b 0 rfl).cell (j := 2) rfl)) ?_
                          refine s_y (v := .int .i64 i) rfl (y_move rfl) ?_
                          refine s_y (v := .pointer (some (sat afy ((i).toNat * 1)))) rfl (y_idx T41.sl_24_34_1 rfl rfl ((B.r 6 rfl).addr (by omega)) (by omega) (by omega)) ?_
                          obtain ⟨r61, hr62, hR60⟩ := Rd.atF (B.r 6 rfl) i (by omega) (by omega)
                          refine s_y (v := .float .f32 r61) rfl (y_load T41.one_34 rfl (hR60.cell (i := 0) rfl)) ?_
                          by_cases c63 : fne .f32 (el Xfy i) 0 = true
                          · refine s_y (v := .bool true) rfl (y_fneq rfl rfl (fneC hr62 (cnLit (k := .f32) (t := 0) (by kernel_rfl) (by kernel_rfl)) c63)) ?_
                            refine s_y (v := .bool true) rfl (y_pick_t rfl rfl) ?_
                            refine s_y (v := .bool true) rfl (y_pick_f rfl rfl) ?_
                            refine s_nil ?_
                            refine W_if_t (by decide) rfl ?_
                            refine W_seq ?_
                            refine W_region (by kernel_rfl) ?_
                            refine s_y (v := .bool false) rfl (y_assign rfl) ?_
                            refine s_nil ?_
                            refine W_ret ?_
                            refine ret1 (v := .bool false) rfl rfl rfl ⟨_, rfl, ?_⟩
                            exact ⟨congrArg Value.bool ((field_no (i := i) (by omega) (by omega) (by simp only [edgeB, c12, (decide_eq_false c14), (decide_eq_false c15), (decide_eq_false c16), (decide_eq_true c19), (Bool.eq_false_iff.2 c34), (decide_eq_true c54), (Bool.eq_false_iff.2 c58), (decide_eq_true c59), c63, Bool.and_true, Bool.true_and, Bool.and_false, Bool.false_and, Bool.not_true, Bool.not_false, Bool.or_true, Bool.true_or, Bool.or_false, Bool.false_or])).symm), B.ext⟩
                          · refine s_y (v := .bool false) rfl (y_fneq rfl rfl (fneC hr62 (cnLit (k := .f32) (t := 0) (by kernel_rfl) (by kernel_rfl)) (Bool.eq_false_iff.2 c63))) ?_
                            refine s_y (v := .bool false) rfl (y_pick_t rfl rfl) ?_
                            refine s_y (v := .bool false) rfl (y_pick_f rfl rfl) ?_
                            refine s_nil ?_
                            refine W_if_f (by decide) rfl ?_
                            refine W_skip ?_
                            refine W_region (by kernel_rfl) ?_
                            refine s_y (v := .int .i64 (i + 1)) rfl (y_add rfl rfl rfl (by omega)) ?_
                            refine s_y (v := .int .i64 (i + 1)) rfl (y_move rfl) ?_
                            refine s_nil ?_
                            refine ⟨⟨_, i + 1, Fits.eq ⟨rfl, rfl, rfl, rfl, trivial⟩, B, (by omega), (by omega), (edge_more hq (by simp only [edgeB, c12, (decide_eq_false c14), (decide_eq_false c15), (decide_eq_false c16), (decide_eq_true c19), (Bool.eq_false_iff.2 c34), (decide_eq_true c54), (Bool.eq_false_iff.2 c58), (decide_eq_true c59), (Bool.eq_false_iff.2 c63), Bool.and_true, Bool.true_and, Bool.and_false, Bool.false_and, Bool.not_true, Bool.not_false, Bool.or_true, Bool.true_or, Bool.or_false, Bool.false_or]))⟩, ?_⟩
                            show (wd * hi - (i + 1)).toNat < (wd * hi - i).toNat
                            omega
                        · refine s_y (v := .bool false) rfl (y_eql rfl rfl (decide_eq_false c59)) ?_
                          refine s_y (v := .bool false) rfl (y_move rfl) ?_
                          refine s_skip rfl ?_
                          refine s_skip rfl ?_
                          refine s_skip rfl ?_
                          refine s_skip rfl ?_
                          refine s_skip rfl ?_
                          refine s_skip rfl ?_
                          refine s_y (v := .bool false) rfl (y_pick_f rfl rfl) ?_
                          refine s_y (v := .bool false) rfl (y_pick_f rfl rfl) ?_
                          refine s_nil ?_
                          refine W_if_f (by decide) rfl ?_
                          refine W_skip ?_
                          refine W_region (by kernel_rfl) ?_
                          refine s_y (v := .int .i64 (i + 1)) rfl (y_add rfl rfl rfl (by omega)) ?_
                          refine s_y (v := .int .i64 (i + 1)) rfl (y_move rfl) ?_
                          refine s_nil ?_
                          refine ⟨⟨_, i + 1, Fits.eq ⟨rfl, rfl, rfl, rfl, trivial⟩, B, (by omega), (by omega), (edge_more hq (by simp only [edgeB, c12, (decide_eq_false c14), (decide_eq_false c15), (decide_eq_false c16), (decide_eq_true c19), (Bool.eq_false_iff.2 c34), (decide_eq_true c54), (Bool.eq_false_iff.2 c58), (decide_eq_false c59), Bool.and_true, Bool.true_and, Bool.and_false, Bool.false_and, Bool.not_true, Bool.not_false, Bool.or_true, Bool.true_or, Bool.or_false, Bool.false_or]))⟩, ?_⟩
                          show (wd * hi - (i + 1)).toNat < (wd * hi - i).toNat
                          omega
                    · refine s_y (v := .bool false) rfl (y_eql rfl rfl (decide_eq_false c54)) ?_
                      refine s_y (v := .bool false) rfl (y_move rfl) ?_
                      refine s_skip rfl ?_
                      refine s_skip rfl ?_
                      refine s_skip rfl ?_
                      refine s_skip rfl ?_
                      refine s_skip rfl ?_
                      refine s_skip rfl ?_
                      refine s_y (v := .bool false) rfl (y_pick_f rfl rfl) ?_
                      refine s_y (v := .bool false) rfl (y_pick_f rfl rfl) ?_
                      refine s_y (v := .bool false) rfl (y_move rfl) ?_
                      refine s_y (v := .int .i64 (i % wd)) rfl (y_move rfl) ?_
                      refine s_y (v := .pointer (some ⟨b1, 0, none⟩)) rfl (y_fld (o := 0) T41.fld_26_0_0 rfl) ?_
                      refine s_y (v := .int .i64 wd) rfl (y_load T41.one_2 rfl ((B.b 1 rfl).cell (j := 0) rfl)) ?_
                      refine s_y (v := .int .i64 (wd - 1)) rfl (y_sub rfl rfl rfl (by omega)) ?_
                      by_cases c64 : (i % wd) = (wd - 1)
                      · refine s_y (v := .bool true) rfl (y_eql rfl rfl (decide_eq_true c64)) ?_
                        refine s_y (v := .bool true) rfl (y_move rfl) ?_
                        refine s_y (v := .pointer (some ⟨b4, 2, none⟩)) rfl (y_fld (o := 0) T41.fld_30_2_2 rfl) ?_
                        refine s_y (v := .slice afy nfy cfy) rfl (y_load T41.one_24 rfl ((B.b 0 rfl).cell (j := 2) rfl)) ?_
                        refine s_y (v := .int .i64 i) rfl (y_move rfl) ?_
                        refine s_y (v := .pointer (some (sat afy ((i).toNat * 1)))) rfl (y_idx T41.sl_24_34_1 rfl rfl ((B.r 6 rfl).addr (by omega)) (by omega) (by omega)) ?_
                        obtain ⟨r66, hr67, hR65⟩ := Rd.atF (B.r 6 rfl) i (by omega) (by omega)
                        refine s_y (v := .float .f32 r66) rfl (y_load T41.one_34 rfl (hR65.cell (i := 0) rfl)) ?_
                        by_cases c68 : fne .f32 (el Xfy i) 0 = true
                        · refine s_y (v := .bool true) rfl (y_fneq rfl rfl (fneC hr67 (cnLit (k := .f32) (t := 0) (by kernel_rfl) (by kernel_rfl)) c68)) ?_
                          refine s_y (v := .bool true) rfl (y_pick_t rfl rfl) ?_
                          refine s_y (v := .bool true) rfl (y_pick_f rfl rfl) ?_
                          refine s_nil ?_
                          refine W_if_t (by decide) rfl ?_
                          refine W_seq ?_
                          refine W_region (by kernel_rfl) ?_
                          refine s_y (v := .bool false) rfl (y_assign rfl) ?_
                          refine s_nil ?_
                          refine W_ret ?_
                          refine ret1 (v := .bool false) rfl rfl rfl ⟨_, rfl, ?_⟩
                          exact ⟨congrArg Value.bool ((field_no (i := i) (by omega) (by omega) (by simp only [edgeB, c12, (decide_eq_false c14), (decide_eq_false c15), (decide_eq_false c16), (decide_eq_true c19), (Bool.eq_false_iff.2 c34), (decide_eq_false c54), (decide_eq_true c64), c68, Bool.and_true, Bool.true_and, Bool.and_false, Bool.false_and, Bool.not_true, Bool.not_false, Bool.or_true, Bool.true_or, Bool.or_false, Bool.false_or])).symm), B.ext⟩
                        · refine s_y (v := .bool false) rfl (y_fneq rfl rfl (fneC hr67 (cnLit (k := .f32) (t := 0) (by kernel_rfl) (by kernel_rfl)) (Bool.eq_false_iff.2 c68))) ?_
                          refine s_y (v := .bool false) rfl (y_pick_t rfl rfl) ?_
                          refine s_y (v := .bool false) rfl (y_pick_f rfl rfl) ?_
                          refine s_nil ?_
                          refine W_if_f (by decide) rfl ?_
                          refine W_skip ?_
                          refine W_region (by kernel_rfl) ?_
                          refine s_y (v := .int .i64 (i + 1)) rfl (y_add rfl rfl rfl (by omega)) ?_
                          refine s_y (v := .int .i64 (i + 1)) rfl (y_move rfl) ?_
                          refine s_nil ?_
                          refine ⟨⟨_, i + 1, Fits.eq ⟨rfl, rfl, rfl, rfl, trivial⟩, B, (by omega), (by omega), (edge_more hq (by simp only [edgeB, c12, (decide_eq_false c14), (decide_eq_false c15), (decide_eq_false c16), (decide_eq_true c19), (Bool.eq_false_iff.2 c34), (decide_eq_false c54), (decide_eq_true c64), (Bool.eq_false_iff.2 c68), Bool.and_true, Bool.true_and, Bool.and_false, Bool.false_and, Bool.not_true, Bool.not_false, Bool.or_true, Bool.true_or, Bool.or_false, Bool.false_or]))⟩, ?_⟩
                          show (wd * hi - (i + 1)).toNat < (wd * hi - i).toNat
                          omega
                      · refine s_y (v := .bool false) rfl (y_eql rfl rfl (decide_eq_false c64)) ?_
                        refine s_y (v := .bool false) rfl (y_move rfl) ?_
                        refine s_skip rfl ?_
                        refine s_skip rfl ?_
                        refine s_skip rfl ?_
                        refine s_skip rfl ?_
                        refine s_skip rfl ?_
                        refine s_skip rfl ?_
                        refine s_y (v := .bool false) rfl (y_pick_f rfl rfl) ?_
                        refine s_y (v := .bool false) rfl (y_pick_f rfl rfl) ?_
                        refine s_nil ?_
                        refine W_if_f (by decide) rfl ?_
                        refine W_skip ?_
                        refine W_region (by kernel_rfl) ?_
                        refine s_y (v := .int .i64 (i + 1)) rfl (y_add rfl rfl rfl (by omega)) ?_
                        refine s_y (v := .int .i64 (i + 1)) rfl (y_move rfl) ?_
                        refine s_nil ?_
                        refine ⟨⟨_, i + 1, Fits.eq ⟨rfl, rfl, rfl, rfl, trivial⟩, B, (by omega), (by omega), (edge_more hq (by simp only [edgeB, c12, (decide_eq_false c14), (decide_eq_false c15), (decide_eq_false c16), (decide_eq_true c19), (Bool.eq_false_iff.2 c34), (decide_eq_false c54), (decide_eq_false c64), Bool.and_true, Bool.true_and, Bool.and_false, Bool.false_and, Bool.not_true, Bool.not_false, Bool.or_true, Bool.true_or, Bool.or_false, Bool.false_or]))⟩, ?_⟩
                        show (wd * hi - (i + 1)).toNat < (wd * hi - i).toNat
                        omega
                · refine s_y (v := .bool false) rfl (y_lss rfl rfl (decide_eq_false c19)) ?_
                  refine s_nil ?_
                  refine W_seq ?_
                  refine W_if_f (by decide) rfl ?_
                  refine W_exit ?_
                  refine W_seq ?_
                  refine W_region (by kernel_rfl) ?_
                  refine s_y (v := .bool true) rfl (y_assign rfl) ?_
                  refine s_nil ?_
                  refine W_ret ?_
                  refine ret1 (v := .bool true) rfl rfl rfl ⟨_, rfl, ?_⟩
                  exact ⟨congrArg Value.bool ((field_yes (by assumption) (by omega) (by omega) (by omega) (fun j h0 h1 => hq j h0 (by omega))).symm), B.ext⟩
            · refine W_if_t (by decide) rfl ?_
              refine W_seq ?_
              refine W_region (by kernel_rfl) ?_
              refine s_y (v := .bool true) rfl (y_assign rfl) ?_
              refine s_nil ?_
              refine W_ret ?_
              refine ret1 (v := .bool true) rfl rfl rfl ⟨_, rfl, ?_⟩
              exact ⟨congrArg Value.bool ((field_wrap (by assumption) (by omega) (by omega) (by omega)).symm), B.ext⟩
    · obtain rfl : v10 = .bool false := hv11.trans (congrArg Value.bool (Bool.eq_false_iff.2 c12))
      refine s_y (v := .bool true) rfl (y_not rfl rfl) ?_
      refine s_y (v := .bool true) rfl (y_move rfl) ?_
      refine s_skip rfl ?_
      refine s_skip rfl ?_
      refine s_skip rfl ?_
      refine s_skip rfl ?_
      refine s_skip rfl ?_
      refine s_y (v := .bool true) rfl (y_pick_t rfl rfl) ?_
      refine s_y (v := .bool true) rfl (y_move rfl) ?_
      refine s_skip rfl ?_
      refine s_skip rfl ?_
      refine s_skip rfl ?_
      refine s_skip rfl ?_
      refine s_skip rfl ?_
      refine s_y (v := .bool true) rfl (y_pick_t rfl rfl) ?_
      refine s_y (v := .bool true) rfl (y_move rfl) ?_
      refine s_skip rfl ?_
      refine s_skip rfl ?_
      refine s_skip rfl ?_
      refine s_skip rfl ?_
      refine s_skip rfl ?_
      refine s_y (v := .bool true) rfl (y_pick_t rfl rfl) ?_
      refine s_nil ?_
      refine W_if_t (by decide) rfl ?_
      refine W_seq ?_
      refine W_region (by kernel_rfl) ?_
      refine s_y (v := .bool false) rfl (y_assign rfl) ?_
      refine s_nil ?_
      refine W_ret ?_
      refine ret1 (v := .bool false) rfl rfl rfl ⟨_, rfl, ?_⟩
      exact ⟨congrArg Value.bool (by first | exact (field_n0 (by assumption)).symm | exact (field_n1 (by omega)).symm | exact (field_n2 (by omega)).symm | exact (field_n3 (by omega)).symm), B.ext⟩
  · have hw69 := wrap64_b (wd * hi)
    refine s_y (v := .int .i64 (IntKind.i64.wrap (wd * hi))) rfl (y_mulw rfl rfl) ?_
    refine s_y (v := .int .i64 (IntKind.i64.wrap (wd * hi))) rfl (y_assign rfl) ?_
    refine s_nil ?_
    refine W_seq ?_
    refine W_seq ?_
    refine W_region (by kernel_rfl) ?_
    refine s_y (v := .agg #[.int .i64 wd, .int .i64 hi, .bool wr, .slice asp nsp csp, .slice als nls cls]) rfl (y_loadn (b := b1) (o := 0) (vs := [.int .i64 wd, .int .i64 hi, .bool wr, .slice asp nsp csp, .slice als nls cls]) T41.agg_26_5 rfl rfl ((B.b 1 rfl).cells (o := 0) rfl)) ?_
    refine s_k rfl (k_call T41.fn_65 (c_i_ValidSheet (B.r 2 rfl) (B.r 3 rfl) (by omega) (by omega)) rfl ?_)
    rintro v72 w70 ⟨hv73, e71⟩
    replace B := B.ext0 e71
    clear e71
    have hk74 : ¬ (validS wd hi Xsp Xls = true) := (fun hq => by have hz := (validS_b hq).1.2; omega)
    obtain rfl : v72 = .bool false := hv73.trans (congrArg Value.bool (Bool.eq_false_iff.2 hk74))
    refine s_y (v := .bool true) rfl (y_not rfl rfl) ?_
    refine s_y (v := .bool true) rfl (y_move rfl) ?_
    refine s_skip rfl ?_
    refine s_skip rfl ?_
    refine s_skip rfl ?_
    refine s_skip rfl ?_
    refine s_skip rfl ?_
    refine s_y (v := .bool true) rfl (y_pick_t rfl rfl) ?_
    refine s_y (v := .bool true) rfl (y_move rfl) ?_
    refine s_skip rfl ?_
    refine s_skip rfl ?_
    refine s_skip rfl ?_
    refine s_skip rfl ?_
    refine s_skip rfl ?_
    refine s_y (v := .bool true) rfl (y_pick_t rfl rfl) ?_
    refine s_y (v := .bool true) rfl (y_move rfl) ?_
    refine s_skip rfl ?_
    refine s_skip rfl ?_
    refine s_skip rfl ?_
    refine s_skip rfl ?_
    refine s_skip rfl ?_
    refine s_y (v := .bool true) rfl (y_pick_t rfl rfl) ?_
    refine s_nil ?_
    refine W_if_t (by decide) rfl ?_
    refine W_seq ?_
    refine W_region (by kernel_rfl) ?_
    refine s_y (v := .bool false) rfl (y_assign rfl) ?_
    refine s_nil ?_
    refine W_ret ?_
    refine ret1 (v := .bool false) rfl rfl rfl ⟨_, rfl, ?_⟩
    exact ⟨congrArg Value.bool (by first | exact (field_n0 (by assumption)).symm | exact (field_n1 (by omega)).symm | exact (field_n2 (by omega)).symm | exact (field_n3 (by omega)).symm), B.ext⟩
end Go.Proofs.Ytgohmocjjmkepaa
